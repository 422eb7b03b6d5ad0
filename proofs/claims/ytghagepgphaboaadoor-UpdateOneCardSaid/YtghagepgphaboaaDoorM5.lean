/- Lemmas for the proof of a given statement; no conditions. -/
import Derived.Test.YtghagepgphaboaaDoorM4
import Derived.Test.YtghagepgphaboaaDoorRows
set_option maxHeartbeats 1000000

-- ALIAS Tryd G 1
-- Printed by gen.py (wip/tools): the abstract code of each function, and that it fits the program.
namespace Go.AS.C
open Go Go.Proofs
set_option maxRecDepth 100000
abbrev chantrylaw15_UpdatePuts : FuncId := 3
abbrev chantrylaw15_UpdateGets : FuncId := 4
abbrev chantrylaw15_UpdateOne : FuncId := 5
abbrev chantrylaw15_large : FuncId := 6
abbrev chantrylaw15_awake : FuncId := 7
abbrev update_Put : FuncId := 8
abbrev chantryref15_Put : FuncId := 9
abbrev update_Get : FuncId := 10
abbrev update_Of : FuncId := 11
abbrev chantryref15_Of : FuncId := 12
abbrev update_Check : FuncId := 13
abbrev chantryref15_Same : FuncId := 14
abbrev update_Same : FuncId := 15
abbrev chantryref15_Get : FuncId := 16
abbrev update_Item : FuncId := 17
abbrev chantryref03_ID : FuncId := 18
abbrev chantryref15_Check : FuncId := 19
abbrev op_Put : FuncId := 20
abbrev slices_Concat_byte_byte : FuncId := 21
abbrev strings_Join : FuncId := 22
abbrev chantryref14_Put : FuncId := 23
abbrev num_From : FuncId := 24
abbrev num_Cursor_Byte : FuncId := 25
abbrev update_list_string : FuncId := 26
abbrev update_Get_1 : FuncId := 27
abbrev num_Cursor_Take : FuncId := 28
abbrev num_Cursor_Left : FuncId := 29
abbrev num_Cursor_Bad : FuncId := 30
abbrev op_Get : FuncId := 31
abbrev chantryref15_Item : FuncId := 32
abbrev ids_Rising : FuncId := 33
abbrev op_Check : FuncId := 34
abbrev chantryref01_Texts : FuncId := 35
abbrev slices_Equal_string_string : FuncId := 36
abbrev chantryref01_Byte : FuncId := 37
abbrev chantryref01_From : FuncId := 38
abbrev chantryref01_Take : FuncId := 39
abbrev chantryref14_Get : FuncId := 40
abbrev chantryref01_Left : FuncId := 41
abbrev sha_ID : FuncId := 42
abbrev slices_Clone_byte_byte : FuncId := 43
abbrev chantryref03_rounds : FuncId := 44
abbrev chantryref03_block : FuncId := 45
abbrev chantryref04_Rising : FuncId := 46
abbrev chantryref14_Check : FuncId := 47
abbrev op_has : FuncId := 48
abbrev op_Put_1 : FuncId := 49
abbrev num_Text : FuncId := 50
abbrev num_Fix : FuncId := 51
abbrev op_truth : FuncId := 52
abbrev slices_Grow_byte_byte : FuncId := 53
abbrev strings_Builder_Grow : FuncId := 54
abbrev strings_Builder_WriteString : FuncId := 55
abbrev strings_Builder_String : FuncId := 56
abbrev chantryref14_Has : FuncId := 57
abbrev chantryref01_Text : FuncId := 58
abbrev chantryref01_Fix : FuncId := 59
abbrev num_Cursor_fail : FuncId := 60
abbrev num_Cursor_Text : FuncId := 61
abbrev op_number : FuncId := 62
abbrev op_place : FuncId := 63
abbrev ids_Right : FuncId := 64
abbrev op_Name : FuncId := 65
abbrev op_bare : FuncId := 66
abbrev chantryref01_spoilt : FuncId := 67
abbrev chantryref01_TakeText : FuncId := 68
abbrev chantryref01_Unfix : FuncId := 69
abbrev sha_Begin : FuncId := 70
abbrev sha_Hash_Add : FuncId := 71
abbrev sha_Hash_Sum : FuncId := 72
abbrev chantryref03_schedule : FuncId := 73
abbrev chantryref03_turn : FuncId := 74
abbrev chantryref04_Right : FuncId := 75
abbrev chantryref14_Name : FuncId := 76
abbrev num_Put : FuncId := 77
abbrev num_is : FuncId := 78
abbrev strings_Builder_copyCheck : FuncId := 79
abbrev strings_Builder_grow : FuncId := 80
abbrev chantryref01_Put : FuncId := 81
abbrev num_Cursor_Num : FuncId := 82
abbrev num_Unfix : FuncId := 83
abbrev strings_IndexFunc : FuncId := 84
abbrev op_Name_1 : FuncId := 85
abbrev chantryref01_Num : FuncId := 86
abbrev sha_Hash_mix : FuncId := 87
abbrev sha_Hash_end : FuncId := 88
abbrev chantryref03_word : FuncId := 89
abbrev num_Get : FuncId := 92
abbrev strings_indexFunc : FuncId := 93
abbrev chantryref01_Get : FuncId := 94
abbrev sha_schedule : FuncId := 95
abbrev sha_right : FuncId := 96
abbrev gosem_cut_vars : FuncId := 118

/-- chantry/chantrylaw15.UpdatePuts -/
noncomputable def ic_chantrylaw15_UpdatePuts : IC :=
  (.seq (.ops [
    ⟨(some 2), none, false, .box (.tmp 0)⟩,
    ⟨(some 3), none, false, .box (.tmp 1)⟩,
    ⟨(some 4), none, false, .mov (.const (.bool false))⟩]) (.seq (.seq (.ops [
    ⟨(some 15), none, false, .loadn (.tmp 2) 7⟩,
    ⟨(some 16), none, false, .call chantrylaw15_large [(.tmp 15)]⟩,
    ⟨(some 17), none, false, .mov (.tmp 16)⟩,
    ⟨(some 18), (some (17, false)), false, .loadn (.tmp 3) 7⟩,
    ⟨(some 19), (some (17, false)), false, .call chantrylaw15_large [(.tmp 18)]⟩,
    ⟨(some 20), none, false, .pick (.tmp 17) (.const (.bool true)) (.tmp 19)⟩]) (.cond (.tmp 20) (.seq (.ops [
    ⟨(some 21), none, false, .call chantrylaw15_awake []⟩,
    ⟨(some 4), none, false, .mov (.tmp 21)⟩]) .ret) .skip)) (.seq (.ops [
    ⟨(some 23), none, false, .loadn (.tmp 2) 7⟩,
    ⟨(some 24), none, false, .call update_Put [(.tmp 23)]⟩,
    ⟨(some 22), none, false, .mov (.tmp 24)⟩,
    ⟨(some 25), none, false, .ext (.tmp 22) 0⟩,
    ⟨(some 26), none, false, .ext (.tmp 22) 1⟩,
    ⟨(some 5), none, false, .mov (.tmp 25)⟩,
    ⟨(some 6), none, false, .mov (.tmp 26)⟩]) (.seq (.ops [
    ⟨(some 28), none, false, .loadn (.tmp 2) 7⟩,
    ⟨(some 29), none, false, .call chantryref15_Put [(.tmp 28)]⟩,
    ⟨(some 27), none, false, .mov (.tmp 29)⟩,
    ⟨(some 30), none, false, .ext (.tmp 27) 0⟩,
    ⟨(some 31), none, false, .ext (.tmp 27) 1⟩,
    ⟨(some 7), none, false, .mov (.tmp 30)⟩,
    ⟨(some 8), none, false, .mov (.tmp 31)⟩]) (.seq (.ops [
    ⟨(some 33), none, false, .mov (.tmp 5)⟩,
    ⟨(some 34), none, false, .call update_Get [(.tmp 33)]⟩,
    ⟨(some 32), none, false, .mov (.tmp 34)⟩,
    ⟨(some 35), none, false, .ext (.tmp 32) 0⟩,
    ⟨(some 36), none, false, .ext (.tmp 32) 1⟩,
    ⟨(some 9), none, false, .new [.int .i64 0, .slice none 0 0, .int .i64 0, .string ⟨#[]⟩, .string ⟨#[]⟩, .int .i64 0, .string ⟨#[]⟩]⟩,
    ⟨none, none, false, .store (.tmp 9) (.tmp 35) 7⟩,
    ⟨(some 10), none, false, .mov (.tmp 36)⟩]) (.seq (.ops [
    ⟨(some 38), none, false, .loadn (.tmp 2) 7⟩,
    ⟨(some 39), none, false, .call update_Of [(.tmp 38)]⟩,
    ⟨(some 37), none, false, .mov (.tmp 39)⟩,
    ⟨(some 40), none, false, .ext (.tmp 37) 0⟩,
    ⟨(some 41), none, false, .ext (.tmp 37) 1⟩,
    ⟨(some 11), none, false, .new [.string ⟨#[]⟩, .slice none 0 0]⟩,
    ⟨none, none, false, .store (.tmp 11) (.tmp 40) 2⟩,
    ⟨(some 12), none, false, .mov (.tmp 41)⟩]) (.seq (.ops [
    ⟨(some 43), none, false, .loadn (.tmp 2) 7⟩,
    ⟨(some 44), none, false, .call chantryref15_Of [(.tmp 43)]⟩,
    ⟨(some 42), none, false, .mov (.tmp 44)⟩,
    ⟨(some 45), none, false, .ext (.tmp 42) 0⟩,
    ⟨(some 46), none, false, .ext (.tmp 42) 1⟩,
    ⟨(some 13), none, false, .new [.string ⟨#[]⟩, .slice none 0 0]⟩,
    ⟨none, none, false, .store (.tmp 13) (.tmp 45) 2⟩,
    ⟨(some 14), none, false, .mov (.tmp 46)⟩]) (.seq (.draw [
    ⟨(some 47), none, false, .mov (.tmp 5)⟩,
    ⟨(some 48), none, false, .b2s (.tmp 47)⟩,
    ⟨(some 49), none, false, .mov (.tmp 7)⟩,
    ⟨(some 50), none, false, .b2s (.tmp 49)⟩,
    ⟨(some 51), none, false, .bin .eql (.tmp 48) (.tmp 50)⟩,
    ⟨(some 52), none, false, .mov (.tmp 51)⟩,
    ⟨(some 53), (some (52, true)), false, .mov (.tmp 6)⟩,
    ⟨(some 54), (some (52, true)), false, .mov (.tmp 8)⟩,
    ⟨(some 55), (some (52, true)), false, .bin .eql (.tmp 53) (.tmp 54)⟩,
    ⟨(some 56), none, false, .pick (.tmp 52) (.tmp 55) (.const (.bool false))⟩,
    ⟨(some 57), none, false, .mov (.tmp 56)⟩,
    ⟨(some 58), (some (57, true)), false, .loadn (.tmp 2) 7⟩,
    ⟨(some 60), (some (57, true)), false, .mov (.tmp 6)⟩,
    ⟨(some 59), (some (57, true)), false, .call update_Check [(.tmp 58)]⟩,
    ⟨(some 61), (some (57, true)), false, .bin .eql (.tmp 59) (.tmp 60)⟩,
    ⟨(some 62), none, false, .pick (.tmp 57) (.tmp 61) (.const (.bool false))⟩,
    ⟨(some 63), none, false, .mov (.tmp 62)⟩,
    ⟨(some 64), (some (63, true)), false, .mov (.tmp 5)⟩,
    ⟨(some 65), (some (63, true)), false, .lens false (.tmp 64)⟩,
    ⟨(some 66), (some (63, true)), false, .bin .leq (.tmp 65) (.const (.int .i64 384))⟩,
    ⟨(some 67), none, false, .pick (.tmp 63) (.tmp 66) (.const (.bool false))⟩,
    ⟨(some 68), none, false, .mov (.tmp 67)⟩,
    ⟨(some 69), (some (68, true)), false, .mov (.tmp 6)⟩,
    ⟨(some 70), (some (68, true)), false, .bin .neq (.tmp 69) (.const (.int .i64 0))⟩,
    ⟨(some 71), (some (68, true)), false, .mov (.tmp 70)⟩,
    ⟨(some 72), (some (71, false)), false, .mov (.tmp 10)⟩,
    ⟨(some 73), (some (71, false)), false, .bin .eql (.tmp 72) (.const (.int .i64 0))⟩,
    ⟨(some 74), (some (71, false)), false, .mov (.tmp 73)⟩,
    ⟨(some 75), (some (74, true)), false, .loadn (.tmp 2) 7⟩,
    ⟨(some 76), (some (74, true)), false, .loadn (.tmp 9) 7⟩,
    ⟨(some 77), (some (74, true)), false, .call chantryref15_Same [(.tmp 75), (.tmp 76)]⟩,
    ⟨(some 78), (some (71, false)), false, .pick (.tmp 74) (.tmp 77) (.const (.bool false))⟩,
    ⟨(some 79), (some (68, true)), false, .pick (.tmp 71) (.const (.bool true)) (.tmp 78)⟩,
    ⟨(some 80), none, false, .pick (.tmp 68) (.tmp 79) (.const (.bool false))⟩,
    ⟨(some 81), none, false, .mov (.tmp 80)⟩,
    ⟨(some 82), (some (81, true)), false, .mov (.tmp 12)⟩,
    ⟨(some 83), (some (81, true)), false, .mov (.tmp 6)⟩,
    ⟨(some 84), (some (81, true)), false, .bin .eql (.tmp 82) (.tmp 83)⟩,
    ⟨(some 85), none, false, .pick (.tmp 81) (.tmp 84) (.const (.bool false))⟩,
    ⟨(some 86), none, false, .mov (.tmp 85)⟩,
    ⟨(some 87), (some (86, true)), false, .faddr (.tmp 11) 0⟩,
    ⟨(some 88), (some (86, true)), false, .load1 (.tmp 87)⟩,
    ⟨(some 89), (some (86, true)), false, .faddr (.tmp 13) 0⟩,
    ⟨(some 90), (some (86, true)), false, .load1 (.tmp 89)⟩,
    ⟨(some 91), (some (86, true)), false, .bin .eql (.tmp 88) (.tmp 90)⟩,
    ⟨(some 92), none, false, .pick (.tmp 86) (.tmp 91) (.const (.bool false))⟩,
    ⟨(some 93), none, false, .mov (.tmp 92)⟩,
    ⟨(some 94), (some (93, true)), false, .faddr (.tmp 11) 1⟩,
    ⟨(some 95), (some (93, true)), false, .load1 (.tmp 94)⟩,
    ⟨(some 96), (some (93, true)), false, .b2s (.tmp 95)⟩,
    ⟨(some 97), (some (93, true)), false, .faddr (.tmp 13) 1⟩,
    ⟨(some 98), (some (93, true)), false, .load1 (.tmp 97)⟩,
    ⟨(some 99), (some (93, true)), false, .b2s (.tmp 98)⟩,
    ⟨(some 100), (some (93, true)), false, .bin .eql (.tmp 96) (.tmp 99)⟩,
    ⟨(some 101), none, false, .pick (.tmp 93) (.tmp 100) (.const (.bool false))⟩,
    ⟨(some 102), none, false, .mov (.tmp 101)⟩,
    ⟨(some 103), (some (102, true)), false, .loadn (.tmp 2) 7⟩,
    ⟨(some 104), (some (102, true)), false, .loadn (.tmp 3) 7⟩,
    ⟨(some 106), (some (102, true)), true, .loadn (.tmp 2) 7⟩,
    ⟨(some 107), (some (102, true)), true, .loadn (.tmp 3) 7⟩,
    ⟨(some 105), (some (102, true)), true, .call update_Same [(.tmp 103), (.tmp 104)]⟩,
    ⟨(some 108), (some (102, true)), false, .call chantryref15_Same [(.tmp 106), (.tmp 107)]⟩,
    ⟨(some 109), (some (102, true)), false, .beq false (.tmp 105) (.tmp 108)⟩,
    ⟨(some 110), none, false, .pick (.tmp 102) (.tmp 109) (.const (.bool false))⟩,
    ⟨(some 111), none, false, .mov (.tmp 110)⟩,
    ⟨(some 112), (some (111, true)), false, .call chantrylaw15_awake []⟩,
    ⟨(some 113), none, false, .pick (.tmp 111) (.tmp 112) (.const (.bool false))⟩,
    ⟨(some 4), none, false, .mov (.tmp 113)⟩]) .ret))))))))
theorem fits_chantrylaw15_UpdatePuts : Fits Tryd.prog 1 chantrylaw15_UpdatePuts ic_chantrylaw15_UpdatePuts [.tmp 4] 2 :=
  ⟨Tryd.f3, Tryd.func3, by decide, by kernel_rfl, by kernel_rfl⟩

/-- chantry/chantrylaw15.UpdateGets -/
noncomputable def ic_chantrylaw15_UpdateGets : IC :=
  (.seq (.ops [
    ⟨(some 2), none, false, .mov (.const (.bool false))⟩]) (.seq (.seq (.ops [
    ⟨(some 10), none, false, .mov (.tmp 0)⟩,
    ⟨(some 11), none, false, .lens false (.tmp 10)⟩,
    ⟨(some 12), none, false, .bin .gtr (.tmp 11) (.const (.int .i64 600))⟩]) (.cond (.tmp 12) (.seq (.ops [
    ⟨(some 13), none, false, .call chantrylaw15_awake []⟩,
    ⟨(some 2), none, false, .mov (.tmp 13)⟩]) .ret) .skip)) (.seq (.ops [
    ⟨(some 15), none, false, .mov (.tmp 0)⟩,
    ⟨(some 16), none, false, .call update_Get [(.tmp 15)]⟩,
    ⟨(some 14), none, false, .mov (.tmp 16)⟩,
    ⟨(some 17), none, false, .ext (.tmp 14) 0⟩,
    ⟨(some 18), none, false, .ext (.tmp 14) 1⟩,
    ⟨(some 3), none, false, .new [.int .i64 0, .slice none 0 0, .int .i64 0, .string ⟨#[]⟩, .string ⟨#[]⟩, .int .i64 0, .string ⟨#[]⟩]⟩,
    ⟨none, none, false, .store (.tmp 3) (.tmp 17) 7⟩,
    ⟨(some 4), none, false, .mov (.tmp 18)⟩]) (.seq (.ops [
    ⟨(some 20), none, false, .mov (.tmp 0)⟩,
    ⟨(some 21), none, false, .call chantryref15_Get [(.tmp 20)]⟩,
    ⟨(some 19), none, false, .mov (.tmp 21)⟩,
    ⟨(some 22), none, false, .ext (.tmp 19) 0⟩,
    ⟨(some 23), none, false, .ext (.tmp 19) 1⟩,
    ⟨(some 5), none, false, .new [.int .i64 0, .slice none 0 0, .int .i64 0, .string ⟨#[]⟩, .string ⟨#[]⟩, .int .i64 0, .string ⟨#[]⟩]⟩,
    ⟨none, none, false, .store (.tmp 5) (.tmp 22) 7⟩,
    ⟨(some 6), none, false, .mov (.tmp 23)⟩]) (.seq (.ops [
    ⟨(some 25), none, false, .loadn (.tmp 3) 7⟩,
    ⟨(some 26), none, false, .call update_Put [(.tmp 25)]⟩,
    ⟨(some 24), none, false, .mov (.tmp 26)⟩,
    ⟨(some 27), none, false, .ext (.tmp 24) 0⟩,
    ⟨(some 28), none, false, .ext (.tmp 24) 1⟩,
    ⟨(some 7), none, false, .mov (.tmp 27)⟩,
    ⟨(some 8), none, false, .mov (.tmp 28)⟩]) (.seq (.ops [
    ⟨(some 29), none, false, .mov (.tmp 0)⟩,
    ⟨(some 30), none, false, .call update_Item [(.tmp 29)]⟩,
    ⟨(some 9), none, false, .new [.string ⟨#[]⟩, .slice none 0 0]⟩,
    ⟨none, none, false, .store (.tmp 9) (.tmp 30) 2⟩]) (.seq (.draw [
    ⟨(some 31), none, false, .loadn (.tmp 3) 7⟩,
    ⟨(some 32), none, false, .loadn (.tmp 5) 7⟩,
    ⟨(some 33), none, false, .call chantryref15_Same [(.tmp 31), (.tmp 32)]⟩,
    ⟨(some 34), none, false, .mov (.tmp 33)⟩,
    ⟨(some 35), (some (34, true)), false, .mov (.tmp 4)⟩,
    ⟨(some 36), (some (34, true)), false, .mov (.tmp 6)⟩,
    ⟨(some 37), (some (34, true)), false, .bin .eql (.tmp 35) (.tmp 36)⟩,
    ⟨(some 38), none, false, .pick (.tmp 34) (.tmp 37) (.const (.bool false))⟩,
    ⟨(some 39), none, false, .mov (.tmp 38)⟩,
    ⟨(some 40), (some (39, true)), false, .mov (.tmp 4)⟩,
    ⟨(some 41), (some (39, true)), false, .bin .neq (.tmp 40) (.const (.int .i64 0))⟩,
    ⟨(some 42), (some (39, true)), false, .mov (.tmp 41)⟩,
    ⟨(some 43), (some (42, false)), false, .mov (.tmp 8)⟩,
    ⟨(some 44), (some (42, false)), false, .bin .eql (.tmp 43) (.const (.int .i64 0))⟩,
    ⟨(some 45), (some (42, false)), false, .mov (.tmp 44)⟩,
    ⟨(some 46), (some (45, true)), false, .mov (.tmp 7)⟩,
    ⟨(some 47), (some (45, true)), false, .b2s (.tmp 46)⟩,
    ⟨(some 48), (some (45, true)), false, .mov (.tmp 0)⟩,
    ⟨(some 49), (some (45, true)), false, .b2s (.tmp 48)⟩,
    ⟨(some 50), (some (45, true)), false, .bin .eql (.tmp 47) (.tmp 49)⟩,
    ⟨(some 51), (some (42, false)), false, .pick (.tmp 45) (.tmp 50) (.const (.bool false))⟩,
    ⟨(some 52), (some (39, true)), false, .pick (.tmp 42) (.const (.bool true)) (.tmp 51)⟩,
    ⟨(some 53), none, false, .pick (.tmp 39) (.tmp 52) (.const (.bool false))⟩,
    ⟨(some 54), none, false, .mov (.tmp 53)⟩,
    ⟨(some 55), (some (54, true)), false, .faddr (.tmp 9) 0⟩,
    ⟨(some 56), (some (54, true)), true, .load1 (.tmp 55)⟩,
    ⟨(some 57), (some (54, true)), false, .mov (.tmp 0)⟩,
    ⟨(some 58), (some (54, true)), true, .call chantryref03_ID [(.tmp 57)]⟩,
    ⟨(some 59), (some (54, true)), false, .bin .eql (.tmp 56) (.tmp 58)⟩,
    ⟨(some 60), none, false, .pick (.tmp 54) (.tmp 59) (.const (.bool false))⟩,
    ⟨(some 61), none, false, .mov (.tmp 60)⟩,
    ⟨(some 62), (some (61, true)), false, .faddr (.tmp 9) 1⟩,
    ⟨(some 63), (some (61, true)), false, .load1 (.tmp 62)⟩,
    ⟨(some 64), (some (61, true)), false, .b2s (.tmp 63)⟩,
    ⟨(some 65), (some (61, true)), false, .mov (.tmp 0)⟩,
    ⟨(some 66), (some (61, true)), false, .b2s (.tmp 65)⟩,
    ⟨(some 67), (some (61, true)), false, .bin .eql (.tmp 64) (.tmp 66)⟩,
    ⟨(some 68), none, false, .pick (.tmp 61) (.tmp 67) (.const (.bool false))⟩,
    ⟨(some 69), none, false, .mov (.tmp 68)⟩,
    ⟨(some 70), (some (69, true)), false, .call chantrylaw15_awake []⟩,
    ⟨(some 71), none, false, .pick (.tmp 69) (.tmp 70) (.const (.bool false))⟩,
    ⟨(some 2), none, false, .mov (.tmp 71)⟩]) .ret)))))))
theorem fits_chantrylaw15_UpdateGets : Fits Tryd.prog 1 chantrylaw15_UpdateGets ic_chantrylaw15_UpdateGets [.tmp 2] 1 :=
  ⟨Tryd.f4, Tryd.func4, by decide, by kernel_rfl, by kernel_rfl⟩

/-- chantry/chantrylaw15.UpdateOne -/
noncomputable def ic_chantrylaw15_UpdateOne : IC :=
  (.seq (.ops [
    ⟨(some 2), none, false, .box (.tmp 0)⟩,
    ⟨(some 3), none, false, .box (.tmp 1)⟩,
    ⟨(some 4), none, false, .mov (.const (.bool false))⟩]) (.seq (.seq (.ops [
    ⟨(some 9), none, false, .loadn (.tmp 2) 7⟩,
    ⟨(some 10), none, false, .call chantrylaw15_large [(.tmp 9)]⟩,
    ⟨(some 11), none, false, .mov (.tmp 10)⟩,
    ⟨(some 12), (some (11, false)), false, .loadn (.tmp 3) 7⟩,
    ⟨(some 13), (some (11, false)), false, .call chantrylaw15_large [(.tmp 12)]⟩,
    ⟨(some 14), none, false, .pick (.tmp 11) (.const (.bool true)) (.tmp 13)⟩,
    ⟨(some 15), none, false, .mov (.tmp 14)⟩,
    ⟨(some 16), (some (15, false)), false, .loadn (.tmp 2) 7⟩,
    ⟨(some 17), (some (15, false)), false, .call chantryref15_Check [(.tmp 16)]⟩,
    ⟨(some 18), (some (15, false)), false, .bin .neq (.tmp 17) (.const (.int .i64 0))⟩,
    ⟨(some 19), none, false, .pick (.tmp 15) (.const (.bool true)) (.tmp 18)⟩,
    ⟨(some 20), none, false, .mov (.tmp 19)⟩,
    ⟨(some 21), (some (20, false)), false, .loadn (.tmp 3) 7⟩,
    ⟨(some 22), (some (20, false)), false, .call chantryref15_Check [(.tmp 21)]⟩,
    ⟨(some 23), (some (20, false)), false, .bin .neq (.tmp 22) (.const (.int .i64 0))⟩,
    ⟨(some 24), none, false, .pick (.tmp 20) (.const (.bool true)) (.tmp 23)⟩]) (.cond (.tmp 24) (.seq (.ops [
    ⟨(some 25), none, false, .call chantrylaw15_awake []⟩,
    ⟨(some 4), none, false, .mov (.tmp 25)⟩]) .ret) .skip)) (.seq (.ops [
    ⟨(some 27), none, false, .loadn (.tmp 2) 7⟩,
    ⟨(some 28), none, false, .call update_Put [(.tmp 27)]⟩,
    ⟨(some 26), none, false, .mov (.tmp 28)⟩,
    ⟨(some 29), none, false, .ext (.tmp 26) 0⟩,
    ⟨(some 30), none, false, .ext (.tmp 26) 1⟩,
    ⟨(some 5), none, false, .mov (.tmp 29)⟩,
    ⟨(some 6), none, false, .mov (.tmp 30)⟩]) (.seq (.ops [
    ⟨(some 32), none, false, .loadn (.tmp 3) 7⟩,
    ⟨(some 33), none, false, .call update_Put [(.tmp 32)]⟩,
    ⟨(some 31), none, false, .mov (.tmp 33)⟩,
    ⟨(some 34), none, false, .ext (.tmp 31) 0⟩,
    ⟨(some 35), none, false, .ext (.tmp 31) 1⟩,
    ⟨(some 7), none, false, .mov (.tmp 34)⟩,
    ⟨(some 8), none, false, .mov (.tmp 35)⟩]) (.seq (.draw [
    ⟨(some 36), none, false, .mov (.tmp 6)⟩,
    ⟨(some 37), none, false, .bin .eql (.tmp 36) (.const (.int .i64 0))⟩,
    ⟨(some 38), none, false, .mov (.tmp 37)⟩,
    ⟨(some 39), (some (38, true)), false, .mov (.tmp 8)⟩,
    ⟨(some 40), (some (38, true)), false, .bin .eql (.tmp 39) (.const (.int .i64 0))⟩,
    ⟨(some 41), none, false, .pick (.tmp 38) (.tmp 40) (.const (.bool false))⟩,
    ⟨(some 42), none, false, .mov (.tmp 41)⟩,
    ⟨(some 43), (some (42, true)), false, .mov (.tmp 5)⟩,
    ⟨(some 44), (some (42, true)), true, .b2s (.tmp 43)⟩,
    ⟨(some 45), (some (42, true)), false, .mov (.tmp 7)⟩,
    ⟨(some 46), (some (42, true)), true, .b2s (.tmp 45)⟩,
    ⟨(some 47), (some (42, true)), false, .bin .eql (.tmp 44) (.tmp 46)⟩,
    ⟨(some 48), (some (42, true)), false, .loadn (.tmp 2) 7⟩,
    ⟨(some 49), (some (42, true)), false, .loadn (.tmp 3) 7⟩,
    ⟨(some 50), (some (42, true)), true, .call chantryref15_Same [(.tmp 48), (.tmp 49)]⟩,
    ⟨(some 51), (some (42, true)), false, .beq false (.tmp 47) (.tmp 50)⟩,
    ⟨(some 52), none, false, .pick (.tmp 42) (.tmp 51) (.const (.bool false))⟩,
    ⟨(some 53), none, false, .mov (.tmp 52)⟩,
    ⟨(some 54), (some (53, true)), false, .call chantrylaw15_awake []⟩,
    ⟨(some 55), none, false, .pick (.tmp 53) (.tmp 54) (.const (.bool false))⟩,
    ⟨(some 4), none, false, .mov (.tmp 55)⟩]) .ret)))))
theorem fits_chantrylaw15_UpdateOne : Fits Tryd.prog 1 chantrylaw15_UpdateOne ic_chantrylaw15_UpdateOne [.tmp 4] 2 :=
  ⟨Tryd.f5, Tryd.func5, by decide, by kernel_rfl, by kernel_rfl⟩

/-- chantry/chantrylaw15.large -/
noncomputable def ic_chantrylaw15_large : IC :=
  (.seq (.ops [
    ⟨(some 1), none, false, .box (.tmp 0)⟩,
    ⟨(some 2), none, false, .mov (.const (.bool false))⟩]) (.seq (.seq (.ops [
    ⟨(some 4), none, false, .faddr (.tmp 1) 1⟩,
    ⟨(some 5), none, false, .load1 (.tmp 4)⟩,
    ⟨(some 6), none, false, .lens false (.tmp 5)⟩,
    ⟨(some 7), none, false, .bin .gtr (.tmp 6) (.const (.int .i64 20))⟩,
    ⟨(some 8), none, false, .mov (.tmp 7)⟩,
    ⟨(some 9), (some (8, false)), false, .faddr (.tmp 1) 2⟩,
    ⟨(some 10), (some (8, false)), false, .faddr (.tmp 9) 1⟩,
    ⟨(some 11), (some (8, false)), false, .load1 (.tmp 10)⟩,
    ⟨(some 12), (some (8, false)), false, .lens true (.tmp 11)⟩,
    ⟨(some 13), (some (8, false)), false, .bin .gtr (.tmp 12) (.const (.int .i64 300))⟩,
    ⟨(some 14), none, false, .pick (.tmp 8) (.const (.bool true)) (.tmp 13)⟩,
    ⟨(some 15), none, false, .mov (.tmp 14)⟩,
    ⟨(some 16), (some (15, false)), false, .faddr (.tmp 1) 2⟩,
    ⟨(some 17), (some (15, false)), false, .faddr (.tmp 16) 2⟩,
    ⟨(some 18), (some (15, false)), false, .load1 (.tmp 17)⟩,
    ⟨(some 19), (some (15, false)), false, .lens true (.tmp 18)⟩,
    ⟨(some 20), (some (15, false)), false, .bin .gtr (.tmp 19) (.const (.int .i64 300))⟩,
    ⟨(some 21), none, false, .pick (.tmp 15) (.const (.bool true)) (.tmp 20)⟩,
    ⟨(some 22), none, false, .mov (.tmp 21)⟩,
    ⟨(some 23), (some (22, false)), false, .faddr (.tmp 1) 2⟩,
    ⟨(some 24), (some (22, false)), false, .faddr (.tmp 23) 4⟩,
    ⟨(some 25), (some (22, false)), false, .load1 (.tmp 24)⟩,
    ⟨(some 26), (some (22, false)), false, .lens true (.tmp 25)⟩,
    ⟨(some 27), (some (22, false)), false, .bin .gtr (.tmp 26) (.const (.int .i64 300))⟩,
    ⟨(some 28), none, false, .pick (.tmp 22) (.const (.bool true)) (.tmp 27)⟩]) (.cond (.tmp 28) (.seq (.ops [
    ⟨(some 2), none, false, .mov (.const (.bool true))⟩]) .ret) .skip)) (.seq (.seq (.ops [
    ⟨(some 3), none, false, .mov (.const (.int .i64 0))⟩]) (.block 0 (.loop (.seq (.seq (.ops [
    ⟨(some 29), none, false, .mov (.tmp 3)⟩,
    ⟨(some 30), none, false, .faddr (.tmp 1) 1⟩,
    ⟨(some 31), none, false, .load1 (.tmp 30)⟩,
    ⟨(some 32), none, false, .lens false (.tmp 31)⟩,
    ⟨(some 33), none, false, .bin .lss (.tmp 29) (.tmp 32)⟩]) (.cond (.tmp 33) .skip (.exit 0))) (.seq (.block 1 (.seq (.ops [
    ⟨(some 36), none, false, .faddr (.tmp 1) 1⟩,
    ⟨(some 37), none, false, .load1 (.tmp 36)⟩,
    ⟨(some 38), none, false, .mov (.tmp 3)⟩,
    ⟨(some 39), none, false, .iaddr (.tmp 37) (.tmp 38) 1⟩,
    ⟨(some 40), none, false, .load1 (.tmp 39)⟩,
    ⟨(some 41), none, false, .lens true (.tmp 40)⟩,
    ⟨(some 42), none, false, .bin .gtr (.tmp 41) (.const (.int .i64 100))⟩]) (.cond (.tmp 42) (.seq (.ops [
    ⟨(some 2), none, false, .mov (.const (.bool true))⟩]) .ret) .skip))) (.ops [
    ⟨(some 34), none, false, .mov (.tmp 3)⟩,
    ⟨(some 35), none, false, .bin .add (.tmp 34) (.const (.int .i64 1))⟩,
    ⟨(some 3), none, false, .mov (.tmp 35)⟩])))))) (.seq (.ops [
    ⟨(some 2), none, false, .mov (.const (.bool false))⟩]) .ret))))
theorem fits_chantrylaw15_large : Fits Tryd.prog 1 chantrylaw15_large ic_chantrylaw15_large [.tmp 2] 1 :=
  ⟨Tryd.f6, Tryd.func6, by decide, by kernel_rfl, by kernel_rfl⟩

/-- chantry/chantrylaw15.awake -/
noncomputable def ic_chantrylaw15_awake : IC :=
  (.seq (.ops [
    ⟨(some 0), none, false, .mov (.const (.bool false))⟩]) (.seq (.ops [
    ⟨(some 17), none, false, .build [.int .i64 0, .string ⟨#[]⟩, .string ⟨#[]⟩, .int .i64 0, .string ⟨#[]⟩] [(0, 1, (.const (.int .i64 7)))]⟩,
    ⟨(some 18), none, false, .build [.int .i64 0, .slice none 0 0, .int .i64 0, .string ⟨#[]⟩, .string ⟨#[]⟩, .int .i64 0, .string ⟨#[]⟩] [(0, 1, (.const (.int .i64 3))), (2, 5, (.tmp 17))]⟩,
    ⟨(some 1), none, false, .new [.int .i64 0, .slice none 0 0, .int .i64 0, .string ⟨#[]⟩, .string ⟨#[]⟩, .int .i64 0, .string ⟨#[]⟩]⟩,
    ⟨none, none, false, .store (.tmp 1) (.tmp 18) 7⟩]) (.seq (.ops [
    ⟨(some 20), none, false, .loadn (.tmp 1) 7⟩,
    ⟨(some 21), none, false, .call update_Put [(.tmp 20)]⟩,
    ⟨(some 19), none, false, .mov (.tmp 21)⟩,
    ⟨(some 22), none, false, .ext (.tmp 19) 0⟩,
    ⟨(some 23), none, false, .ext (.tmp 19) 1⟩,
    ⟨(some 2), none, false, .mov (.tmp 22)⟩,
    ⟨(some 3), none, false, .mov (.tmp 23)⟩]) (.seq (.ops [
    ⟨(some 25), none, false, .mov (.tmp 2)⟩,
    ⟨(some 26), none, false, .call update_Get [(.tmp 25)]⟩,
    ⟨(some 24), none, false, .mov (.tmp 26)⟩,
    ⟨(some 27), none, false, .ext (.tmp 24) 0⟩,
    ⟨(some 28), none, false, .ext (.tmp 24) 1⟩,
    ⟨(some 4), none, false, .new [.int .i64 0, .slice none 0 0, .int .i64 0, .string ⟨#[]⟩, .string ⟨#[]⟩, .int .i64 0, .string ⟨#[]⟩]⟩,
    ⟨none, none, false, .store (.tmp 4) (.tmp 27) 7⟩,
    ⟨(some 5), none, false, .mov (.tmp 28)⟩]) (.seq (.ops [
    ⟨(some 30), none, false, .loadn (.tmp 1) 7⟩,
    ⟨(some 31), none, false, .call update_Of [(.tmp 30)]⟩,
    ⟨(some 29), none, false, .mov (.tmp 31)⟩,
    ⟨(some 32), none, false, .ext (.tmp 29) 0⟩,
    ⟨(some 33), none, false, .ext (.tmp 29) 1⟩,
    ⟨(some 6), none, false, .new [.string ⟨#[]⟩, .slice none 0 0]⟩,
    ⟨none, none, false, .store (.tmp 6) (.tmp 32) 2⟩,
    ⟨(some 7), none, false, .mov (.tmp 33)⟩]) (.seq (.ops [
    ⟨(some 35), none, false, .mk [.int .u8 0] 1 (.const (.int .i64 385)) (.const (.int .i64 385))⟩,
    ⟨(some 36), none, false, .call update_Get [(.tmp 35)]⟩,
    ⟨(some 34), none, false, .mov (.tmp 36)⟩,
    ⟨(some 37), none, false, .ext (.tmp 34) 0⟩,
    ⟨(some 38), none, false, .ext (.tmp 34) 1⟩,
    ⟨(some 8), none, false, .new [.int .i64 0, .slice none 0 0, .int .i64 0, .string ⟨#[]⟩, .string ⟨#[]⟩, .int .i64 0, .string ⟨#[]⟩]⟩,
    ⟨none, none, false, .store (.tmp 8) (.tmp 37) 7⟩,
    ⟨(some 9), none, false, .mov (.tmp 38)⟩]) (.seq (.ops [
    ⟨(some 40), none, false, .lit [.int .u8 0] 1 4 [(0, 1, (.const (.int .u8 3))), (1, 1, (.const (.int .u8 0))), (2, 1, (.const (.int .u8 7))), (3, 1, (.const (.int .u8 7)))]⟩,
    ⟨(some 41), none, false, .call update_Get [(.tmp 40)]⟩,
    ⟨(some 39), none, false, .mov (.tmp 41)⟩,
    ⟨(some 42), none, false, .ext (.tmp 39) 0⟩,
    ⟨(some 43), none, false, .ext (.tmp 39) 1⟩,
    ⟨(some 10), none, false, .new [.int .i64 0, .slice none 0 0, .int .i64 0, .string ⟨#[]⟩, .string ⟨#[]⟩, .int .i64 0, .string ⟨#[]⟩]⟩,
    ⟨none, none, false, .store (.tmp 10) (.tmp 42) 7⟩,
    ⟨(some 11), none, false, .mov (.tmp 43)⟩]) (.seq (.ops [
    ⟨(some 45), none, false, .build [.int .i64 0, .slice none 0 0, .int .i64 0, .string ⟨#[]⟩, .string ⟨#[]⟩, .int .i64 0, .string ⟨#[]⟩] [(0, 1, (.const (.int .i64 256)))]⟩,
    ⟨(some 46), none, false, .call update_Put [(.tmp 45)]⟩,
    ⟨(some 44), none, false, .mov (.tmp 46)⟩,
    ⟨(some 47), none, false, .ext (.tmp 44) 0⟩,
    ⟨(some 48), none, false, .ext (.tmp 44) 1⟩,
    ⟨(some 12), none, false, .mov (.tmp 47)⟩,
    ⟨(some 13), none, false, .mov (.tmp 48)⟩]) (.seq (.ops [
    ⟨(some 50), none, false, .mk [.string ⟨#[]⟩] 16 (.const (.int .i64 9)) (.const (.int .i64 9))⟩,
    ⟨(some 51), none, false, .build [.int .i64 0, .slice none 0 0, .int .i64 0, .string ⟨#[]⟩, .string ⟨#[]⟩, .int .i64 0, .string ⟨#[]⟩] [(1, 1, (.tmp 50))]⟩,
    ⟨(some 52), none, false, .call update_Put [(.tmp 51)]⟩,
    ⟨(some 49), none, false, .mov (.tmp 52)⟩,
    ⟨(some 53), none, false, .ext (.tmp 49) 0⟩,
    ⟨(some 54), none, false, .ext (.tmp 49) 1⟩,
    ⟨(some 14), none, false, .mov (.tmp 53)⟩,
    ⟨(some 15), none, false, .mov (.tmp 54)⟩]) (.seq (.ops [
    ⟨(some 55), none, false, .lit [.int .u8 0] 1 3 [(0, 1, (.const (.int .u8 97))), (1, 1, (.const (.int .u8 98))), (2, 1, (.const (.int .u8 99)))]⟩,
    ⟨(some 56), none, false, .mks (.tmp 55)⟩,
    ⟨(some 57), none, false, .call update_Item [(.tmp 56)]⟩,
    ⟨(some 16), none, false, .new [.string ⟨#[]⟩, .slice none 0 0]⟩,
    ⟨none, none, false, .store (.tmp 16) (.tmp 57) 2⟩]) (.seq (.draw [
    ⟨(some 58), none, false, .mov (.tmp 3)⟩,
    ⟨(some 59), none, false, .bin .eql (.tmp 58) (.const (.int .i64 0))⟩,
    ⟨(some 60), none, false, .mov (.tmp 59)⟩,
    ⟨(some 61), (some (60, true)), false, .mov (.tmp 2)⟩,
    ⟨(some 62), (some (60, true)), false, .b2s (.tmp 61)⟩,
    ⟨(some 63), (some (60, true)), false, .bin .eql (.tmp 62) (.const (.string ⟨#[3, 0, 7]⟩))⟩,
    ⟨(some 64), none, false, .pick (.tmp 60) (.tmp 63) (.const (.bool false))⟩,
    ⟨(some 65), none, false, .mov (.tmp 64)⟩,
    ⟨(some 66), (some (65, true)), false, .mov (.tmp 5)⟩,
    ⟨(some 67), (some (65, true)), false, .bin .eql (.tmp 66) (.const (.int .i64 0))⟩,
    ⟨(some 68), none, false, .pick (.tmp 65) (.tmp 67) (.const (.bool false))⟩,
    ⟨(some 69), none, false, .mov (.tmp 68)⟩,
    ⟨(some 70), (some (69, true)), false, .loadn (.tmp 1) 7⟩,
    ⟨(some 71), (some (69, true)), false, .loadn (.tmp 4) 7⟩,
    ⟨(some 72), (some (69, true)), false, .call chantryref15_Same [(.tmp 70), (.tmp 71)]⟩,
    ⟨(some 73), none, false, .pick (.tmp 69) (.tmp 72) (.const (.bool false))⟩,
    ⟨(some 74), none, false, .mov (.tmp 73)⟩,
    ⟨(some 75), (some (74, true)), false, .mov (.tmp 7)⟩,
    ⟨(some 76), (some (74, true)), false, .bin .eql (.tmp 75) (.const (.int .i64 0))⟩,
    ⟨(some 77), none, false, .pick (.tmp 74) (.tmp 76) (.const (.bool false))⟩,
    ⟨(some 78), none, false, .mov (.tmp 77)⟩,
    ⟨(some 79), (some (78, true)), false, .faddr (.tmp 6) 0⟩,
    ⟨(some 80), (some (78, true)), true, .load1 (.tmp 79)⟩,
    ⟨(some 81), (some (78, true)), false, .mov (.tmp 2)⟩,
    ⟨(some 82), (some (78, true)), true, .call chantryref03_ID [(.tmp 81)]⟩,
    ⟨(some 83), (some (78, true)), false, .bin .eql (.tmp 80) (.tmp 82)⟩,
    ⟨(some 84), none, false, .pick (.tmp 78) (.tmp 83) (.const (.bool false))⟩,
    ⟨(some 85), none, false, .mov (.tmp 84)⟩,
    ⟨(some 86), (some (85, true)), false, .faddr (.tmp 6) 1⟩,
    ⟨(some 87), (some (85, true)), false, .load1 (.tmp 86)⟩,
    ⟨(some 88), (some (85, true)), false, .b2s (.tmp 87)⟩,
    ⟨(some 89), (some (85, true)), false, .mov (.tmp 2)⟩,
    ⟨(some 90), (some (85, true)), false, .b2s (.tmp 89)⟩,
    ⟨(some 91), (some (85, true)), false, .bin .eql (.tmp 88) (.tmp 90)⟩,
    ⟨(some 92), none, false, .pick (.tmp 85) (.tmp 91) (.const (.bool false))⟩,
    ⟨(some 93), none, false, .mov (.tmp 92)⟩,
    ⟨(some 94), (some (93, true)), false, .mov (.tmp 9)⟩,
    ⟨(some 95), (some (93, true)), false, .bin .eql (.tmp 94) (.const (.int .i64 3))⟩,
    ⟨(some 96), none, false, .pick (.tmp 93) (.tmp 95) (.const (.bool false))⟩,
    ⟨(some 97), none, false, .mov (.tmp 96)⟩,
    ⟨(some 98), (some (97, true)), false, .mov (.tmp 11)⟩,
    ⟨(some 99), (some (97, true)), false, .bin .eql (.tmp 98) (.const (.int .i64 5))⟩,
    ⟨(some 100), none, false, .pick (.tmp 97) (.tmp 99) (.const (.bool false))⟩,
    ⟨(some 101), none, false, .mov (.tmp 100)⟩,
    ⟨(some 102), (some (101, true)), false, .mov (.tmp 13)⟩,
    ⟨(some 103), (some (101, true)), false, .bin .eql (.tmp 102) (.const (.int .i64 1))⟩,
    ⟨(some 104), none, false, .pick (.tmp 101) (.tmp 103) (.const (.bool false))⟩,
    ⟨(some 105), none, false, .mov (.tmp 104)⟩,
    ⟨(some 106), (some (105, true)), false, .mov (.tmp 15)⟩,
    ⟨(some 107), (some (105, true)), false, .bin .eql (.tmp 106) (.const (.int .i64 4))⟩,
    ⟨(some 108), none, false, .pick (.tmp 105) (.tmp 107) (.const (.bool false))⟩,
    ⟨(some 109), none, false, .mov (.tmp 108)⟩,
    ⟨(some 110), (some (109, true)), false, .faddr (.tmp 16) 0⟩,
    ⟨(some 111), (some (109, true)), true, .load1 (.tmp 110)⟩,
    ⟨(some 112), (some (109, true)), true, .lit [.int .u8 0] 1 3 [(0, 1, (.const (.int .u8 97))), (1, 1, (.const (.int .u8 98))), (2, 1, (.const (.int .u8 99)))]⟩,
    ⟨(some 113), (some (109, true)), true, .mks (.tmp 112)⟩,
    ⟨(some 114), (some (109, true)), true, .call chantryref03_ID [(.tmp 113)]⟩,
    ⟨(some 115), (some (109, true)), false, .bin .eql (.tmp 111) (.tmp 114)⟩,
    ⟨(some 116), none, false, .pick (.tmp 109) (.tmp 115) (.const (.bool false))⟩,
    ⟨(some 117), none, false, .mov (.tmp 116)⟩,
    ⟨(some 118), (some (117, true)), false, .loadn (.tmp 1) 7⟩,
    ⟨(some 119), (some (117, true)), false, .loadn (.tmp 4) 7⟩,
    ⟨(some 120), (some (117, true)), false, .call update_Same [(.tmp 118), (.tmp 119)]⟩,
    ⟨(some 121), none, false, .pick (.tmp 117) (.tmp 120) (.const (.bool false))⟩,
    ⟨(some 122), none, false, .mov (.tmp 121)⟩,
    ⟨(some 123), (some (122, true)), false, .loadn (.tmp 1) 7⟩,
    ⟨(some 124), (some (122, true)), false, .call update_Check [(.tmp 123)]⟩,
    ⟨(some 125), (some (122, true)), false, .bin .eql (.tmp 124) (.const (.int .i64 0))⟩,
    ⟨(some 126), none, false, .pick (.tmp 122) (.tmp 125) (.const (.bool false))⟩,
    ⟨(some 0), none, false, .mov (.tmp 126)⟩]) .ret)))))))))))
theorem fits_chantrylaw15_awake : Fits Tryd.prog 1 chantrylaw15_awake ic_chantrylaw15_awake [.tmp 0] 0 :=
  ⟨Tryd.f7, Tryd.func7, by decide, by kernel_rfl, by kernel_rfl⟩

/-- chantry/update.Put -/
noncomputable def ic_update_Put : IC :=
  (.seq (.ops [
    ⟨(some 1), none, false, .box (.tmp 0)⟩,
    ⟨(some 2), none, false, .mov (.const (.slice none 0 0))⟩,
    ⟨(some 3), none, false, .mov (.const (.int .i64 0))⟩]) (.seq (.seq (.ops [
    ⟨(some 8), none, false, .loadn (.tmp 1) 7⟩,
    ⟨(some 9), none, false, .call update_Check [(.tmp 8)]⟩,
    ⟨(some 4), none, false, .mov (.tmp 9)⟩]) (.seq (.ops [
    ⟨(some 10), none, false, .mov (.tmp 4)⟩,
    ⟨(some 11), none, false, .bin .neq (.tmp 10) (.const (.int .i64 0))⟩]) (.cond (.tmp 11) (.seq (.ops [
    ⟨(some 12), none, false, .mov (.tmp 4)⟩,
    ⟨(some 2), none, false, .mov (.const (.slice none 0 0))⟩,
    ⟨(some 3), none, false, .mov (.tmp 12)⟩]) .ret) .skip))) (.seq (.ops [
    ⟨(some 14), none, false, .faddr (.tmp 1) 2⟩,
    ⟨(some 15), none, false, .loadn (.tmp 14) 5⟩,
    ⟨(some 16), none, false, .call op_Put [(.tmp 15)]⟩,
    ⟨(some 13), none, false, .mov (.tmp 16)⟩,
    ⟨(some 17), none, false, .ext (.tmp 13) 0⟩,
    ⟨(some 18), none, false, .ext (.tmp 13) 1⟩,
    ⟨(some 5), none, false, .mov (.tmp 17)⟩,
    ⟨(some 6), none, false, .mov (.tmp 18)⟩]) (.seq (.seq (.ops [
    ⟨(some 19), none, false, .mov (.tmp 6)⟩,
    ⟨(some 20), none, false, .bin .neq (.tmp 19) (.const (.int .i64 0))⟩]) (.cond (.tmp 20) (.seq (.ops [
    ⟨(some 21), none, false, .mov (.tmp 6)⟩,
    ⟨(some 2), none, false, .mov (.const (.slice none 0 0))⟩,
    ⟨(some 3), none, false, .mov (.tmp 21)⟩]) .ret) .skip)) (.seq (.ops [
    ⟨(some 22), none, false, .faddr (.tmp 1) 0⟩,
    ⟨(some 23), none, false, .load1 (.tmp 22)⟩,
    ⟨(some 24), none, false, .conv .u8 (.tmp 23)⟩,
    ⟨(some 25), none, false, .faddr (.tmp 1) 1⟩,
    ⟨(some 26), none, false, .load1 (.tmp 25)⟩,
    ⟨(some 27), none, false, .lens false (.tmp 26)⟩,
    ⟨(some 28), none, false, .conv .u8 (.tmp 27)⟩,
    ⟨(some 29), none, false, .lit [.int .u8 0] 1 2 [(0, 1, (.tmp 24)), (1, 1, (.tmp 28))]⟩,
    ⟨(some 7), none, false, .mov (.tmp 29)⟩]) (.seq (.ops [
    ⟨(some 30), none, false, .mov (.tmp 7)⟩,
    ⟨(some 31), none, false, .faddr (.tmp 1) 1⟩,
    ⟨(some 32), none, false, .load1 (.tmp 31)⟩,
    ⟨(some 33), none, false, .call strings_Join [(.tmp 32), (.const (.string ⟨#[]⟩))]⟩,
    ⟨(some 34), none, false, .s2b (.tmp 33)⟩,
    ⟨(some 35), none, false, .mov (.tmp 5)⟩,
    ⟨(some 36), none, false, .lit [.slice none 0 0] 1 3 [(0, 1, (.tmp 30)), (1, 1, (.tmp 34)), (2, 1, (.tmp 35))]⟩,
    ⟨(some 37), none, false, .call slices_Concat_byte_byte [(.tmp 36)]⟩,
    ⟨(some 2), none, false, .mov (.tmp 37)⟩,
    ⟨(some 3), none, false, .mov (.const (.int .i64 0))⟩]) .ret))))))
theorem fits_update_Put : Fits Tryd.prog 1 update_Put ic_update_Put [.tmp 2, .tmp 3] 1 :=
  ⟨Tryd.f8, Tryd.func8, by decide, by kernel_rfl, by kernel_rfl⟩

/-- chantry/chantryref15.Put -/
noncomputable def ic_chantryref15_Put : IC :=
  (.seq (.ops [
    ⟨(some 1), none, false, .box (.tmp 0)⟩,
    ⟨(some 2), none, false, .mov (.const (.slice none 0 0))⟩,
    ⟨(some 3), none, false, .mov (.const (.int .i64 0))⟩]) (.seq (.ops [
    ⟨(some 9), none, false, .loadn (.tmp 1) 7⟩,
    ⟨(some 10), none, false, .call chantryref15_Check [(.tmp 9)]⟩,
    ⟨(some 4), none, false, .mov (.tmp 10)⟩]) (.seq (.seq (.ops [
    ⟨(some 11), none, false, .mov (.tmp 4)⟩,
    ⟨(some 12), none, false, .bin .neq (.tmp 11) (.const (.int .i64 0))⟩]) (.cond (.tmp 12) (.seq (.ops [
    ⟨(some 13), none, false, .mov (.tmp 4)⟩,
    ⟨(some 2), none, false, .mov (.const (.slice none 0 0))⟩,
    ⟨(some 3), none, false, .mov (.tmp 13)⟩]) .ret) .skip)) (.seq (.ops [
    ⟨(some 14), none, false, .faddr (.tmp 1) 0⟩,
    ⟨(some 15), none, false, .load1 (.tmp 14)⟩,
    ⟨(some 16), none, false, .conv .u8 (.tmp 15)⟩,
    ⟨(some 17), none, false, .faddr (.tmp 1) 1⟩,
    ⟨(some 18), none, false, .load1 (.tmp 17)⟩,
    ⟨(some 19), none, false, .lens false (.tmp 18)⟩,
    ⟨(some 20), none, false, .conv .u8 (.tmp 19)⟩,
    ⟨(some 21), none, false, .lit [.int .u8 0] 1 2 [(0, 1, (.tmp 16)), (1, 1, (.tmp 20))]⟩,
    ⟨(some 5), none, false, .mov (.tmp 21)⟩]) (.seq (.seq (.ops [
    ⟨(some 6), none, false, .mov (.const (.int .i64 0))⟩]) (.block 0 (.loop (.seq (.seq (.ops [
    ⟨(some 22), none, false, .mov (.tmp 6)⟩,
    ⟨(some 23), none, false, .faddr (.tmp 1) 1⟩,
    ⟨(some 24), none, false, .load1 (.tmp 23)⟩,
    ⟨(some 25), none, false, .lens false (.tmp 24)⟩,
    ⟨(some 26), none, false, .bin .lss (.tmp 22) (.tmp 25)⟩]) (.cond (.tmp 26) .skip (.exit 0))) (.seq (.block 1 (.ops [
    ⟨(some 29), none, false, .mov (.tmp 5)⟩,
    ⟨(some 30), none, false, .faddr (.tmp 1) 1⟩,
    ⟨(some 31), none, false, .load1 (.tmp 30)⟩,
    ⟨(some 32), none, false, .mov (.tmp 6)⟩,
    ⟨(some 33), none, false, .iaddr (.tmp 31) (.tmp 32) 1⟩,
    ⟨(some 34), none, false, .load1 (.tmp 33)⟩,
    ⟨(some 35), none, false, .apps (.tmp 29) (.tmp 34) 1⟩,
    ⟨(some 5), none, false, .mov (.tmp 35)⟩])) (.ops [
    ⟨(some 27), none, false, .mov (.tmp 6)⟩,
    ⟨(some 28), none, false, .bin .add (.tmp 27) (.const (.int .i64 1))⟩,
    ⟨(some 6), none, false, .mov (.tmp 28)⟩])))))) (.seq (.ops [
    ⟨(some 37), none, false, .faddr (.tmp 1) 2⟩,
    ⟨(some 38), none, false, .loadn (.tmp 37) 5⟩,
    ⟨(some 39), none, false, .call chantryref14_Put [(.tmp 38)]⟩,
    ⟨(some 36), none, false, .mov (.tmp 39)⟩,
    ⟨(some 40), none, false, .ext (.tmp 36) 0⟩,
    ⟨(some 41), none, false, .ext (.tmp 36) 1⟩,
    ⟨(some 7), none, false, .mov (.tmp 40)⟩,
    ⟨(some 8), none, false, .mov (.tmp 41)⟩]) (.seq (.ops [
    ⟨(some 42), none, false, .mov (.tmp 5)⟩,
    ⟨(some 43), none, false, .mov (.tmp 7)⟩,
    ⟨(some 44), none, false, .app (.tmp 42) (.tmp 43) 1 1⟩,
    ⟨(some 2), none, false, .mov (.tmp 44)⟩,
    ⟨(some 3), none, false, .mov (.const (.int .i64 0))⟩]) .ret)))))))
theorem fits_chantryref15_Put : Fits Tryd.prog 1 chantryref15_Put ic_chantryref15_Put [.tmp 2, .tmp 3] 1 :=
  ⟨Tryd.f9, Tryd.func9, by decide, by kernel_rfl, by kernel_rfl⟩

/-- chantry/update.Get -/
noncomputable def ic_update_Get : IC :=
  (.seq (.ops [
    ⟨(some 2), none, false, .new [.int .i64 0, .slice none 0 0, .int .i64 0, .string ⟨#[]⟩, .string ⟨#[]⟩, .int .i64 0, .string ⟨#[]⟩]⟩,
    ⟨(some 3), none, false, .mov (.const (.int .i64 0))⟩]) (.seq (.seq (.ops [
    ⟨(some 10), none, false, .mov (.tmp 0)⟩,
    ⟨(some 11), none, false, .lens false (.tmp 10)⟩,
    ⟨(some 12), none, false, .bin .gtr (.tmp 11) (.const (.int .i64 384))⟩]) (.cond (.tmp 12) (.seq (.ops [
    ⟨(some 13), none, false, .build [.int .i64 0, .slice none 0 0, .int .i64 0, .string ⟨#[]⟩, .string ⟨#[]⟩, .int .i64 0, .string ⟨#[]⟩] []⟩,
    ⟨none, none, false, .store (.tmp 2) (.tmp 13) 7⟩,
    ⟨(some 3), none, false, .mov (.const (.int .i64 3))⟩]) .ret) .skip)) (.seq (.ops [
    ⟨(some 14), none, false, .mov (.tmp 0)⟩,
    ⟨(some 15), none, false, .call num_From [(.tmp 14)]⟩,
    ⟨(some 4), none, false, .new [.pointer none]⟩,
    ⟨none, none, false, .store (.tmp 4) (.tmp 15) 1⟩]) (.seq (.ops [
    ⟨(some 16), none, false, .load1 (.tmp 4)⟩,
    ⟨(some 17), none, false, .call num_Cursor_Byte [(.tmp 16)]⟩,
    ⟨(some 18), none, false, .build [.int .i64 0, .slice none 0 0, .int .i64 0, .string ⟨#[]⟩, .string ⟨#[]⟩, .int .i64 0, .string ⟨#[]⟩] [(0, 1, (.tmp 17))]⟩,
    ⟨(some 5), none, false, .new [.int .i64 0, .slice none 0 0, .int .i64 0, .string ⟨#[]⟩, .string ⟨#[]⟩, .int .i64 0, .string ⟨#[]⟩]⟩,
    ⟨none, none, false, .store (.tmp 5) (.tmp 18) 7⟩]) (.seq (.ops [
    ⟨(some 19), none, false, .load1 (.tmp 4)⟩,
    ⟨(some 20), none, false, .call num_Cursor_Byte [(.tmp 19)]⟩,
    ⟨(some 21), none, false, .fn (.func update_Get_1) [] [(.tmp 4)]⟩,
    ⟨(some 22), none, false, .call update_list_string [(.tmp 20), (.tmp 21)]⟩,
    ⟨(some 23), none, false, .faddr (.tmp 5) 1⟩,
    ⟨none, none, false, .store (.tmp 23) (.tmp 22) 1⟩]) (.seq (.draw [
    ⟨(some 24), none, true, .load1 (.tmp 4)⟩,
    ⟨(some 25), none, false, .load1 (.tmp 4)⟩,
    ⟨(some 26), none, true, .call num_Cursor_Left [(.tmp 25)]⟩,
    ⟨(some 27), none, false, .call num_Cursor_Take [(.tmp 24), (.tmp 26)]⟩,
    ⟨(some 6), none, false, .mov (.tmp 27)⟩]) (.seq (.seq (.ops [
    ⟨(some 28), none, false, .load1 (.tmp 4)⟩,
    ⟨(some 29), none, false, .call num_Cursor_Bad [(.tmp 28)]⟩]) (.cond (.tmp 29) (.seq (.ops [
    ⟨(some 30), none, false, .build [.int .i64 0, .slice none 0 0, .int .i64 0, .string ⟨#[]⟩, .string ⟨#[]⟩, .int .i64 0, .string ⟨#[]⟩] []⟩,
    ⟨none, none, false, .store (.tmp 2) (.tmp 30) 7⟩,
    ⟨(some 3), none, false, .mov (.const (.int .i64 5))⟩]) .ret) .skip)) (.seq (.ops [
    ⟨(some 32), none, false, .mov (.tmp 6)⟩,
    ⟨(some 33), none, false, .call op_Get [(.tmp 32)]⟩,
    ⟨(some 31), none, false, .mov (.tmp 33)⟩,
    ⟨(some 34), none, false, .ext (.tmp 31) 0⟩,
    ⟨(some 35), none, false, .ext (.tmp 31) 1⟩,
    ⟨(some 36), none, false, .ext (.tmp 31) 2⟩,
    ⟨(some 7), none, false, .new [.int .i64 0, .string ⟨#[]⟩, .string ⟨#[]⟩, .int .i64 0, .string ⟨#[]⟩]⟩,
    ⟨none, none, false, .store (.tmp 7) (.tmp 34) 5⟩,
    ⟨(some 8), none, false, .mov (.tmp 35)⟩,
    ⟨(some 9), none, false, .mov (.tmp 36)⟩]) (.seq (.ops [
    ⟨(some 37), none, false, .loadn (.tmp 7) 5⟩,
    ⟨(some 38), none, false, .faddr (.tmp 5) 2⟩,
    ⟨none, none, false, .store (.tmp 38) (.tmp 37) 5⟩]) (.seq (.seq (.ops [
    ⟨(some 39), none, false, .mov (.tmp 9)⟩,
    ⟨(some 40), none, false, .bin .neq (.tmp 39) (.const (.int .i64 0))⟩,
    ⟨(some 41), none, false, .mov (.tmp 40)⟩,
    ⟨(some 42), (some (41, false)), false, .mov (.tmp 8)⟩,
    ⟨(some 43), (some (41, false)), false, .mov (.tmp 6)⟩,
    ⟨(some 44), (some (41, false)), false, .lens false (.tmp 43)⟩,
    ⟨(some 45), (some (41, false)), false, .bin .lss (.tmp 42) (.tmp 44)⟩,
    ⟨(some 46), none, false, .pick (.tmp 41) (.const (.bool true)) (.tmp 45)⟩,
    ⟨(some 47), none, false, .mov (.tmp 46)⟩,
    ⟨(some 48), (some (47, false)), false, .loadn (.tmp 5) 7⟩,
    ⟨(some 49), (some (47, false)), false, .call update_Check [(.tmp 48)]⟩,
    ⟨(some 50), (some (47, false)), false, .bin .neq (.tmp 49) (.const (.int .i64 0))⟩,
    ⟨(some 51), none, false, .pick (.tmp 47) (.const (.bool true)) (.tmp 50)⟩]) (.cond (.tmp 51) (.seq (.ops [
    ⟨(some 52), none, false, .build [.int .i64 0, .slice none 0 0, .int .i64 0, .string ⟨#[]⟩, .string ⟨#[]⟩, .int .i64 0, .string ⟨#[]⟩] []⟩,
    ⟨none, none, false, .store (.tmp 2) (.tmp 52) 7⟩,
    ⟨(some 3), none, false, .mov (.const (.int .i64 5))⟩]) .ret) .skip)) (.seq (.ops [
    ⟨(some 53), none, false, .loadn (.tmp 5) 7⟩,
    ⟨none, none, false, .store (.tmp 2) (.tmp 53) 7⟩,
    ⟨(some 3), none, false, .mov (.const (.int .i64 0))⟩]) .ret)))))))))))
theorem fits_update_Get : Fits Tryd.prog 1 update_Get ic_update_Get [.many 2 7, .tmp 3] 1 :=
  ⟨Tryd.f10, Tryd.func10, by decide, by kernel_rfl, by kernel_rfl⟩

/-- chantry/update.Of -/
noncomputable def ic_update_Of : IC :=
  (.seq (.ops [
    ⟨(some 1), none, false, .box (.tmp 0)⟩,
    ⟨(some 2), none, false, .new [.string ⟨#[]⟩, .slice none 0 0]⟩,
    ⟨(some 3), none, false, .mov (.const (.int .i64 0))⟩]) (.seq (.ops [
    ⟨(some 7), none, false, .loadn (.tmp 1) 7⟩,
    ⟨(some 8), none, false, .call update_Put [(.tmp 7)]⟩,
    ⟨(some 6), none, false, .mov (.tmp 8)⟩,
    ⟨(some 9), none, false, .ext (.tmp 6) 0⟩,
    ⟨(some 10), none, false, .ext (.tmp 6) 1⟩,
    ⟨(some 4), none, false, .mov (.tmp 9)⟩,
    ⟨(some 5), none, false, .mov (.tmp 10)⟩]) (.seq (.seq (.ops [
    ⟨(some 11), none, false, .mov (.tmp 5)⟩,
    ⟨(some 12), none, false, .bin .neq (.tmp 11) (.const (.int .i64 0))⟩]) (.cond (.tmp 12) (.seq (.ops [
    ⟨(some 13), none, false, .build [.string ⟨#[]⟩, .slice none 0 0] []⟩,
    ⟨(some 14), none, false, .mov (.tmp 5)⟩,
    ⟨none, none, false, .store (.tmp 2) (.tmp 13) 2⟩,
    ⟨(some 3), none, false, .mov (.tmp 14)⟩]) .ret) .skip)) (.seq (.ops [
    ⟨(some 15), none, false, .mov (.tmp 4)⟩,
    ⟨(some 16), none, false, .call update_Item [(.tmp 15)]⟩,
    ⟨none, none, false, .store (.tmp 2) (.tmp 16) 2⟩,
    ⟨(some 3), none, false, .mov (.const (.int .i64 0))⟩]) .ret))))
theorem fits_update_Of : Fits Tryd.prog 1 update_Of ic_update_Of [.many 2 2, .tmp 3] 1 :=
  ⟨Tryd.f11, Tryd.func11, by decide, by kernel_rfl, by kernel_rfl⟩

/-- chantry/chantryref15.Of -/
noncomputable def ic_chantryref15_Of : IC :=
  (.seq (.ops [
    ⟨(some 1), none, false, .box (.tmp 0)⟩,
    ⟨(some 2), none, false, .new [.string ⟨#[]⟩, .slice none 0 0]⟩,
    ⟨(some 3), none, false, .mov (.const (.int .i64 0))⟩]) (.seq (.ops [
    ⟨(some 7), none, false, .loadn (.tmp 1) 7⟩,
    ⟨(some 8), none, false, .call chantryref15_Put [(.tmp 7)]⟩,
    ⟨(some 6), none, false, .mov (.tmp 8)⟩,
    ⟨(some 9), none, false, .ext (.tmp 6) 0⟩,
    ⟨(some 10), none, false, .ext (.tmp 6) 1⟩,
    ⟨(some 4), none, false, .mov (.tmp 9)⟩,
    ⟨(some 5), none, false, .mov (.tmp 10)⟩]) (.seq (.seq (.ops [
    ⟨(some 11), none, false, .mov (.tmp 5)⟩,
    ⟨(some 12), none, false, .bin .neq (.tmp 11) (.const (.int .i64 0))⟩]) (.cond (.tmp 12) (.seq (.ops [
    ⟨(some 13), none, false, .build [.string ⟨#[]⟩, .slice none 0 0] []⟩,
    ⟨(some 14), none, false, .mov (.tmp 5)⟩,
    ⟨none, none, false, .store (.tmp 2) (.tmp 13) 2⟩,
    ⟨(some 3), none, false, .mov (.tmp 14)⟩]) .ret) .skip)) (.seq (.ops [
    ⟨(some 15), none, false, .mov (.tmp 4)⟩,
    ⟨(some 16), none, false, .call chantryref15_Item [(.tmp 15)]⟩,
    ⟨none, none, false, .store (.tmp 2) (.tmp 16) 2⟩,
    ⟨(some 3), none, false, .mov (.const (.int .i64 0))⟩]) .ret))))
theorem fits_chantryref15_Of : Fits Tryd.prog 1 chantryref15_Of ic_chantryref15_Of [.many 2 2, .tmp 3] 1 :=
  ⟨Tryd.f12, Tryd.func12, by decide, by kernel_rfl, by kernel_rfl⟩

/-- chantry/update.Check -/
noncomputable def ic_update_Check : IC :=
  (.seq (.ops [
    ⟨(some 1), none, false, .box (.tmp 0)⟩,
    ⟨(some 2), none, false, .mov (.const (.int .i64 0))⟩]) (.seq (.block 0 (.seq (.ops [
    ⟨(some 4), none, false, .faddr (.tmp 1) 0⟩,
    ⟨(some 5), none, false, .load1 (.tmp 4)⟩,
    ⟨(some 6), none, false, .bin .lss (.tmp 5) (.const (.int .i64 0))⟩,
    ⟨(some 7), none, false, .mov (.tmp 6)⟩,
    ⟨(some 8), (some (7, false)), false, .faddr (.tmp 1) 0⟩,
    ⟨(some 9), (some (7, false)), false, .load1 (.tmp 8)⟩,
    ⟨(some 10), (some (7, false)), false, .bin .geq (.tmp 9) (.const (.int .i64 256))⟩,
    ⟨(some 11), none, false, .pick (.tmp 7) (.const (.bool true)) (.tmp 10)⟩,
    ⟨(some 3), none, false, .mov (.tmp 11)⟩]) (.cond (.tmp 3) (.seq (.ops [
    ⟨(some 2), none, false, .mov (.const (.int .i64 1))⟩]) .ret) (.seq (.ops [
    ⟨(some 13), none, false, .faddr (.tmp 1) 1⟩,
    ⟨(some 14), none, false, .load1 (.tmp 13)⟩,
    ⟨(some 15), none, false, .lens false (.tmp 14)⟩,
    ⟨(some 16), none, false, .bin .gtr (.tmp 15) (.const (.int .i64 8))⟩,
    ⟨(some 12), none, false, .mov (.tmp 16)⟩]) (.cond (.tmp 12) (.seq (.ops [
    ⟨(some 2), none, false, .mov (.const (.int .i64 4))⟩]) .ret) (.seq (.ops [
    ⟨(some 18), none, false, .faddr (.tmp 1) 1⟩,
    ⟨(some 19), none, false, .load1 (.tmp 18)⟩,
    ⟨(some 20), none, false, .call ids_Rising [(.tmp 19)]⟩,
    ⟨(some 21), none, false, .un .not (.tmp 20)⟩,
    ⟨(some 17), none, false, .mov (.tmp 21)⟩]) (.cond (.tmp 17) (.seq (.ops [
    ⟨(some 2), none, false, .mov (.const (.int .i64 1))⟩]) .ret) .skip))))))) (.seq (.ops [
    ⟨(some 22), none, false, .faddr (.tmp 1) 2⟩,
    ⟨(some 23), none, false, .loadn (.tmp 22) 5⟩,
    ⟨(some 24), none, false, .call op_Check [(.tmp 23)]⟩,
    ⟨(some 2), none, false, .mov (.tmp 24)⟩]) .ret)))
theorem fits_update_Check : Fits Tryd.prog 1 update_Check ic_update_Check [.tmp 2] 1 :=
  ⟨Tryd.f13, Tryd.func13, by decide, by kernel_rfl, by kernel_rfl⟩

/-- chantry/chantryref15.Same -/
noncomputable def ic_chantryref15_Same : IC :=
  (.seq (.ops [
    ⟨(some 2), none, false, .box (.tmp 0)⟩,
    ⟨(some 3), none, false, .box (.tmp 1)⟩,
    ⟨(some 4), none, false, .mov (.const (.bool false))⟩]) (.seq (.ops [
    ⟨(some 5), none, false, .faddr (.tmp 2) 0⟩,
    ⟨(some 6), none, false, .load1 (.tmp 5)⟩,
    ⟨(some 7), none, false, .faddr (.tmp 3) 0⟩,
    ⟨(some 8), none, false, .load1 (.tmp 7)⟩,
    ⟨(some 9), none, false, .bin .eql (.tmp 6) (.tmp 8)⟩,
    ⟨(some 10), none, false, .mov (.tmp 9)⟩,
    ⟨(some 11), (some (10, true)), false, .faddr (.tmp 2) 1⟩,
    ⟨(some 12), (some (10, true)), false, .load1 (.tmp 11)⟩,
    ⟨(some 13), (some (10, true)), false, .faddr (.tmp 3) 1⟩,
    ⟨(some 14), (some (10, true)), false, .load1 (.tmp 13)⟩,
    ⟨(some 15), (some (10, true)), false, .call chantryref01_Texts [(.tmp 12), (.tmp 14)]⟩,
    ⟨(some 16), none, false, .pick (.tmp 10) (.tmp 15) (.const (.bool false))⟩,
    ⟨(some 17), none, false, .mov (.tmp 16)⟩,
    ⟨(some 18), (some (17, true)), false, .faddr (.tmp 2) 2⟩,
    ⟨(some 19), (some (17, true)), false, .loadn (.tmp 18) 5⟩,
    ⟨(some 20), (some (17, true)), false, .faddr (.tmp 3) 2⟩,
    ⟨(some 21), (some (17, true)), false, .loadn (.tmp 20) 5⟩,
    ⟨(some 22), (some (17, true)), false, .eqagg false (Tryd.prog.keyLits 8 24) (.tmp 19) (.tmp 21)⟩,
    ⟨(some 23), none, false, .pick (.tmp 17) (.tmp 22) (.const (.bool false))⟩,
    ⟨(some 4), none, false, .mov (.tmp 23)⟩]) .ret))
theorem fits_chantryref15_Same : Fits Tryd.prog 1 chantryref15_Same ic_chantryref15_Same [.tmp 4] 2 :=
  ⟨Tryd.f14, Tryd.func14, by decide, by kernel_rfl, by kernel_rfl⟩

/-- chantry/update.Same -/
noncomputable def ic_update_Same : IC :=
  (.seq (.ops [
    ⟨(some 2), none, false, .box (.tmp 0)⟩,
    ⟨(some 3), none, false, .box (.tmp 1)⟩,
    ⟨(some 4), none, false, .mov (.const (.bool false))⟩]) (.seq (.ops [
    ⟨(some 5), none, false, .faddr (.tmp 2) 0⟩,
    ⟨(some 6), none, false, .load1 (.tmp 5)⟩,
    ⟨(some 7), none, false, .faddr (.tmp 3) 0⟩,
    ⟨(some 8), none, false, .load1 (.tmp 7)⟩,
    ⟨(some 9), none, false, .bin .eql (.tmp 6) (.tmp 8)⟩,
    ⟨(some 10), none, false, .mov (.tmp 9)⟩,
    ⟨(some 11), (some (10, true)), false, .faddr (.tmp 2) 2⟩,
    ⟨(some 12), (some (10, true)), false, .loadn (.tmp 11) 5⟩,
    ⟨(some 13), (some (10, true)), false, .faddr (.tmp 3) 2⟩,
    ⟨(some 14), (some (10, true)), false, .loadn (.tmp 13) 5⟩,
    ⟨(some 15), (some (10, true)), false, .eqagg false (Tryd.prog.keyLits 8 24) (.tmp 12) (.tmp 14)⟩,
    ⟨(some 16), none, false, .pick (.tmp 10) (.tmp 15) (.const (.bool false))⟩,
    ⟨(some 17), none, false, .mov (.tmp 16)⟩,
    ⟨(some 18), (some (17, true)), false, .faddr (.tmp 2) 1⟩,
    ⟨(some 19), (some (17, true)), false, .load1 (.tmp 18)⟩,
    ⟨(some 20), (some (17, true)), false, .faddr (.tmp 3) 1⟩,
    ⟨(some 21), (some (17, true)), false, .load1 (.tmp 20)⟩,
    ⟨(some 22), (some (17, true)), false, .call slices_Equal_string_string [(.tmp 19), (.tmp 21)]⟩,
    ⟨(some 23), none, false, .pick (.tmp 17) (.tmp 22) (.const (.bool false))⟩,
    ⟨(some 4), none, false, .mov (.tmp 23)⟩]) .ret))
theorem fits_update_Same : Fits Tryd.prog 1 update_Same ic_update_Same [.tmp 4] 2 :=
  ⟨Tryd.f15, Tryd.func15, by decide, by kernel_rfl, by kernel_rfl⟩

/-- chantry/chantryref15.Get -/
noncomputable def ic_chantryref15_Get : IC :=
  (.seq (.ops [
    ⟨(some 2), none, false, .new [.int .i64 0, .slice none 0 0, .int .i64 0, .string ⟨#[]⟩, .string ⟨#[]⟩, .int .i64 0, .string ⟨#[]⟩]⟩,
    ⟨(some 3), none, false, .mov (.const (.int .i64 0))⟩]) (.seq (.seq (.ops [
    ⟨(some 16), none, false, .mov (.tmp 0)⟩,
    ⟨(some 17), none, false, .lens false (.tmp 16)⟩,
    ⟨(some 18), none, false, .bin .gtr (.tmp 17) (.const (.int .i64 384))⟩]) (.cond (.tmp 18) (.seq (.ops [
    ⟨(some 19), none, false, .build [.int .i64 0, .slice none 0 0, .int .i64 0, .string ⟨#[]⟩, .string ⟨#[]⟩, .int .i64 0, .string ⟨#[]⟩] []⟩,
    ⟨none, none, false, .store (.tmp 2) (.tmp 19) 7⟩,
    ⟨(some 3), none, false, .mov (.const (.int .i64 3))⟩]) .ret) .skip)) (.seq (.ops [
    ⟨(some 21), none, false, .mov (.tmp 0)⟩,
    ⟨(some 22), none, false, .call chantryref01_From [(.tmp 21)]⟩,
    ⟨(some 23), none, false, .call chantryref01_Byte [(.tmp 22)]⟩,
    ⟨(some 20), none, false, .mov (.tmp 23)⟩,
    ⟨(some 24), none, false, .ext (.tmp 20) 0⟩,
    ⟨(some 25), none, false, .ext (.tmp 20) 1⟩,
    ⟨(some 4), none, false, .new [.slice none 0 0, .int .i64 0, .bool false]⟩,
    ⟨none, none, false, .store (.tmp 4) (.tmp 24) 3⟩,
    ⟨(some 5), none, false, .mov (.tmp 25)⟩]) (.seq (.ops [
    ⟨(some 27), none, false, .loadn (.tmp 4) 3⟩,
    ⟨(some 28), none, false, .call chantryref01_Byte [(.tmp 27)]⟩,
    ⟨(some 26), none, false, .mov (.tmp 28)⟩,
    ⟨(some 29), none, false, .ext (.tmp 26) 0⟩,
    ⟨(some 30), none, false, .ext (.tmp 26) 1⟩,
    ⟨none, none, false, .store (.tmp 4) (.tmp 29) 3⟩,
    ⟨(some 6), none, false, .mov (.tmp 30)⟩]) (.seq (.ops [
    ⟨(some 31), none, false, .mov (.tmp 5)⟩,
    ⟨(some 32), none, false, .build [.int .i64 0, .slice none 0 0, .int .i64 0, .string ⟨#[]⟩, .string ⟨#[]⟩, .int .i64 0, .string ⟨#[]⟩] [(0, 1, (.tmp 31))]⟩,
    ⟨(some 7), none, false, .new [.int .i64 0, .slice none 0 0, .int .i64 0, .string ⟨#[]⟩, .string ⟨#[]⟩, .int .i64 0, .string ⟨#[]⟩]⟩,
    ⟨none, none, false, .store (.tmp 7) (.tmp 32) 7⟩]) (.seq (.seq (.ops [
    ⟨(some 8), none, false, .mov (.const (.int .i64 0))⟩]) (.block 0 (.loop (.seq (.seq (.ops [
    ⟨(some 33), none, false, .mov (.tmp 8)⟩,
    ⟨(some 34), none, false, .mov (.tmp 6)⟩,
    ⟨(some 35), none, false, .bin .lss (.tmp 33) (.tmp 34)⟩]) (.cond (.tmp 35) .skip (.exit 0))) (.seq (.block 1 (.seq (.ops [
    ⟨(some 39), none, false, .loadn (.tmp 4) 3⟩,
    ⟨(some 40), none, false, .call chantryref01_Take [(.tmp 39), (.const (.int .i64 32))]⟩,
    ⟨(some 38), none, false, .mov (.tmp 40)⟩,
    ⟨(some 41), none, false, .ext (.tmp 38) 0⟩,
    ⟨(some 42), none, false, .ext (.tmp 38) 1⟩,
    ⟨(some 9), none, false, .new [.slice none 0 0, .int .i64 0, .bool false]⟩,
    ⟨none, none, false, .store (.tmp 9) (.tmp 41) 3⟩,
    ⟨(some 10), none, false, .mov (.tmp 42)⟩]) (.seq (.ops [
    ⟨(some 43), none, false, .loadn (.tmp 9) 3⟩,
    ⟨none, none, false, .store (.tmp 4) (.tmp 43) 3⟩]) (.ops [
    ⟨(some 44), none, false, .faddr (.tmp 7) 1⟩,
    ⟨(some 45), none, false, .load1 (.tmp 44)⟩,
    ⟨(some 46), none, false, .mov (.tmp 10)⟩,
    ⟨(some 47), none, false, .b2s (.tmp 46)⟩,
    ⟨(some 48), none, false, .lit [.string ⟨#[]⟩] 1 1 [(0, 1, (.tmp 47))]⟩,
    ⟨(some 49), none, false, .app (.tmp 45) (.tmp 48) 1 16⟩,
    ⟨(some 50), none, false, .faddr (.tmp 7) 1⟩,
    ⟨none, none, false, .store (.tmp 50) (.tmp 49) 1⟩])))) (.ops [
    ⟨(some 36), none, false, .mov (.tmp 8)⟩,
    ⟨(some 37), none, false, .bin .add (.tmp 36) (.const (.int .i64 1))⟩,
    ⟨(some 8), none, false, .mov (.tmp 37)⟩])))))) (.seq (.seq (.ops [
    ⟨(some 51), none, false, .faddr (.tmp 4) 2⟩,
    ⟨(some 52), none, false, .load1 (.tmp 51)⟩]) (.cond (.tmp 52) (.seq (.ops [
    ⟨(some 53), none, false, .build [.int .i64 0, .slice none 0 0, .int .i64 0, .string ⟨#[]⟩, .string ⟨#[]⟩, .int .i64 0, .string ⟨#[]⟩] []⟩,
    ⟨none, none, false, .store (.tmp 2) (.tmp 53) 7⟩,
    ⟨(some 3), none, false, .mov (.const (.int .i64 5))⟩]) .ret) .skip)) (.seq (.ops [
    ⟨(some 55), none, false, .mov (.tmp 0)⟩,
    ⟨(some 56), none, false, .mov (.tmp 0)⟩,
    ⟨(some 57), none, false, .lens false (.tmp 56)⟩,
    ⟨(some 58), none, false, .loadn (.tmp 4) 3⟩,
    ⟨(some 59), none, false, .call chantryref01_Left [(.tmp 58)]⟩,
    ⟨(some 60), none, false, .bin .sub (.tmp 57) (.tmp 59)⟩,
    ⟨(some 61), none, false, .sll (.tmp 55) (some (.tmp 60)) none none 1⟩,
    ⟨(some 62), none, false, .call chantryref14_Get [(.tmp 61)]⟩,
    ⟨(some 54), none, false, .mov (.tmp 62)⟩,
    ⟨(some 63), none, false, .ext (.tmp 54) 0⟩,
    ⟨(some 64), none, false, .ext (.tmp 54) 1⟩,
    ⟨(some 65), none, false, .ext (.tmp 54) 2⟩,
    ⟨(some 11), none, false, .new [.int .i64 0, .string ⟨#[]⟩, .string ⟨#[]⟩, .int .i64 0, .string ⟨#[]⟩]⟩,
    ⟨none, none, false, .store (.tmp 11) (.tmp 63) 5⟩,
    ⟨(some 12), none, false, .mov (.tmp 64)⟩,
    ⟨(some 13), none, false, .mov (.tmp 65)⟩]) (.seq (.ops [
    ⟨(some 66), none, false, .loadn (.tmp 11) 5⟩,
    ⟨(some 67), none, false, .faddr (.tmp 7) 2⟩,
    ⟨none, none, false, .store (.tmp 67) (.tmp 66) 5⟩]) (.seq (.ops [
    ⟨(some 69), none, false, .loadn (.tmp 7) 7⟩,
    ⟨(some 70), none, false, .call chantryref15_Put [(.tmp 69)]⟩,
    ⟨(some 68), none, false, .mov (.tmp 70)⟩,
    ⟨(some 71), none, false, .ext (.tmp 68) 0⟩,
    ⟨(some 72), none, false, .ext (.tmp 68) 1⟩,
    ⟨(some 14), none, false, .mov (.tmp 71)⟩,
    ⟨(some 15), none, false, .mov (.tmp 72)⟩]) (.seq (.seq (.ops [
    ⟨(some 73), none, false, .mov (.tmp 13)⟩,
    ⟨(some 74), none, false, .bin .neq (.tmp 73) (.const (.int .i64 0))⟩,
    ⟨(some 75), none, false, .mov (.tmp 74)⟩,
    ⟨(some 76), (some (75, false)), false, .mov (.tmp 15)⟩,
    ⟨(some 77), (some (75, false)), false, .bin .neq (.tmp 76) (.const (.int .i64 0))⟩,
    ⟨(some 78), none, false, .pick (.tmp 75) (.const (.bool true)) (.tmp 77)⟩,
    ⟨(some 79), none, false, .mov (.tmp 78)⟩,
    ⟨(some 80), (some (79, false)), false, .mov (.tmp 14)⟩,
    ⟨(some 81), (some (79, false)), false, .b2s (.tmp 80)⟩,
    ⟨(some 82), (some (79, false)), false, .mov (.tmp 0)⟩,
    ⟨(some 83), (some (79, false)), false, .b2s (.tmp 82)⟩,
    ⟨(some 84), (some (79, false)), false, .bin .neq (.tmp 81) (.tmp 83)⟩,
    ⟨(some 85), none, false, .pick (.tmp 79) (.const (.bool true)) (.tmp 84)⟩]) (.cond (.tmp 85) (.seq (.ops [
    ⟨(some 86), none, false, .build [.int .i64 0, .slice none 0 0, .int .i64 0, .string ⟨#[]⟩, .string ⟨#[]⟩, .int .i64 0, .string ⟨#[]⟩] []⟩,
    ⟨none, none, false, .store (.tmp 2) (.tmp 86) 7⟩,
    ⟨(some 3), none, false, .mov (.const (.int .i64 5))⟩]) .ret) .skip)) (.seq (.ops [
    ⟨(some 87), none, false, .loadn (.tmp 7) 7⟩,
    ⟨none, none, false, .store (.tmp 2) (.tmp 87) 7⟩,
    ⟨(some 3), none, false, .mov (.const (.int .i64 0))⟩]) .ret))))))))))))
theorem fits_chantryref15_Get : Fits Tryd.prog 1 chantryref15_Get ic_chantryref15_Get [.many 2 7, .tmp 3] 1 :=
  ⟨Tryd.f16, Tryd.func16, by decide, by kernel_rfl, by kernel_rfl⟩

/-- chantry/update.Item -/
noncomputable def ic_update_Item : IC :=
  (.seq (.ops [
    ⟨(some 2), none, false, .new [.string ⟨#[]⟩, .slice none 0 0]⟩]) (.seq (.ops [
    ⟨(some 3), none, false, .mov (.tmp 0)⟩,
    ⟨(some 4), none, false, .call sha_ID [(.tmp 3)]⟩,
    ⟨(some 5), none, false, .mov (.tmp 0)⟩,
    ⟨(some 6), none, false, .call slices_Clone_byte_byte [(.tmp 5)]⟩,
    ⟨(some 7), none, false, .build [.string ⟨#[]⟩, .slice none 0 0] [(0, 1, (.tmp 4)), (1, 1, (.tmp 6))]⟩,
    ⟨none, none, false, .store (.tmp 2) (.tmp 7) 2⟩]) .ret))
theorem fits_update_Item : Fits Tryd.prog 1 update_Item ic_update_Item [.many 2 2] 1 :=
  ⟨Tryd.f17, Tryd.func17, by decide, by kernel_rfl, by kernel_rfl⟩

/-- chantry/chantryref03.ID -/
noncomputable def ic_chantryref03_ID : IC :=
  (.seq (.ops [
    ⟨(some 2), none, false, .mov (.const (.string ⟨#[]⟩))⟩]) (.seq (.ops [
    ⟨(some 10), none, false, .lit [.int .u8 0] 1 0 []⟩,
    ⟨(some 11), none, false, .mov (.tmp 0)⟩,
    ⟨(some 12), none, false, .app (.tmp 10) (.tmp 11) 1 1⟩,
    ⟨(some 3), none, false, .mov (.tmp 12)⟩]) (.seq (.ops [
    ⟨(some 13), none, false, .mov (.tmp 3)⟩,
    ⟨(some 14), none, false, .lit [.int .u8 0] 1 1 [(0, 1, (.const (.int .u8 128)))]⟩,
    ⟨(some 15), none, false, .app (.tmp 13) (.tmp 14) 1 1⟩,
    ⟨(some 3), none, false, .mov (.tmp 15)⟩]) (.seq (.block 0 (.loop (.seq (.seq (.ops [
    ⟨(some 16), none, false, .mov (.tmp 3)⟩,
    ⟨(some 17), none, false, .lens false (.tmp 16)⟩,
    ⟨(some 18), none, false, .bin .rem (.tmp 17) (.const (.int .i64 64))⟩,
    ⟨(some 19), none, false, .bin .neq (.tmp 18) (.const (.int .i64 56))⟩]) (.cond (.tmp 19) .skip (.exit 0))) (.block 1 (.ops [
    ⟨(some 20), none, false, .mov (.tmp 3)⟩,
    ⟨(some 21), none, false, .lit [.int .u8 0] 1 1 [(0, 1, (.const (.int .u8 0)))]⟩,
    ⟨(some 22), none, false, .app (.tmp 20) (.tmp 21) 1 1⟩,
    ⟨(some 3), none, false, .mov (.tmp 22)⟩]))))) (.seq (.ops [
    ⟨(some 23), none, false, .mov (.tmp 0)⟩,
    ⟨(some 24), none, false, .lens false (.tmp 23)⟩,
    ⟨(some 25), none, false, .bin .mul (.const (.int .i64 8)) (.tmp 24)⟩,
    ⟨(some 4), none, false, .mov (.tmp 25)⟩]) (.seq (.ops [
    ⟨(some 26), none, false, .mov (.tmp 3)⟩,
    ⟨(some 27), none, false, .mov (.tmp 4)⟩,
    ⟨(some 28), none, false, .bin .shr (.tmp 27) (.const (.int .u64 32))⟩,
    ⟨(some 29), none, false, .conv .u8 (.tmp 28)⟩,
    ⟨(some 30), none, false, .mov (.tmp 4)⟩,
    ⟨(some 31), none, false, .bin .shr (.tmp 30) (.const (.int .u64 24))⟩,
    ⟨(some 32), none, false, .conv .u8 (.tmp 31)⟩,
    ⟨(some 33), none, false, .mov (.tmp 4)⟩,
    ⟨(some 34), none, false, .bin .shr (.tmp 33) (.const (.int .u64 16))⟩,
    ⟨(some 35), none, false, .conv .u8 (.tmp 34)⟩,
    ⟨(some 36), none, false, .mov (.tmp 4)⟩,
    ⟨(some 37), none, false, .bin .shr (.tmp 36) (.const (.int .u64 8))⟩,
    ⟨(some 38), none, false, .conv .u8 (.tmp 37)⟩,
    ⟨(some 39), none, false, .mov (.tmp 4)⟩,
    ⟨(some 40), none, false, .conv .u8 (.tmp 39)⟩,
    ⟨(some 41), none, false, .lit [.int .u8 0] 1 8 [(0, 1, (.const (.int .u8 0))), (1, 1, (.const (.int .u8 0))), (2, 1, (.const (.int .u8 0))), (3, 1, (.tmp 29)), (4, 1, (.tmp 32)), (5, 1, (.tmp 35)), (6, 1, (.tmp 38)), (7, 1, (.tmp 40))]⟩,
    ⟨(some 42), none, false, .app (.tmp 26) (.tmp 41) 1 1⟩,
    ⟨(some 3), none, false, .mov (.tmp 42)⟩]) (.seq (.ops [
    ⟨(some 43), none, false, .lit [.int .u32 0] 1 8 [(0, 1, (.const (.int .u32 1779033703))), (1, 1, (.const (.int .u32 3144134277))), (2, 1, (.const (.int .u32 1013904242))), (3, 1, (.const (.int .u32 2773480762))), (4, 1, (.const (.int .u32 1359893119))), (5, 1, (.const (.int .u32 2600822924))), (6, 1, (.const (.int .u32 528734635))), (7, 1, (.const (.int .u32 1541459225)))]⟩,
    ⟨(some 5), none, false, .mov (.tmp 43)⟩]) (.seq (.ops [
    ⟨(some 44), none, false, .call chantryref03_rounds []⟩,
    ⟨(some 6), none, false, .mov (.tmp 44)⟩]) (.seq (.seq (.ops [
    ⟨(some 7), none, false, .mov (.const (.int .i64 0))⟩]) (.block 2 (.loop (.seq (.seq (.ops [
    ⟨(some 45), none, false, .mov (.tmp 7)⟩,
    ⟨(some 46), none, false, .mov (.tmp 3)⟩,
    ⟨(some 47), none, false, .lens false (.tmp 46)⟩,
    ⟨(some 48), none, false, .bin .lss (.tmp 45) (.tmp 47)⟩]) (.cond (.tmp 48) .skip (.exit 2))) (.seq (.block 3 (.ops [
    ⟨(some 51), none, false, .mov (.tmp 5)⟩,
    ⟨(some 52), none, false, .mov (.tmp 3)⟩,
    ⟨(some 53), none, false, .mov (.tmp 7)⟩,
    ⟨(some 54), none, false, .mov (.tmp 7)⟩,
    ⟨(some 55), none, false, .bin .add (.tmp 54) (.const (.int .i64 64))⟩,
    ⟨(some 56), none, false, .sll (.tmp 52) (some (.tmp 53)) (some (.tmp 55)) none 1⟩,
    ⟨(some 57), none, false, .mov (.tmp 6)⟩,
    ⟨(some 58), none, false, .call chantryref03_block [(.tmp 51), (.tmp 56), (.tmp 57)]⟩,
    ⟨(some 5), none, false, .mov (.tmp 58)⟩])) (.ops [
    ⟨(some 49), none, false, .mov (.tmp 7)⟩,
    ⟨(some 50), none, false, .bin .add (.tmp 49) (.const (.int .i64 64))⟩,
    ⟨(some 7), none, false, .mov (.tmp 50)⟩])))))) (.seq (.ops [
    ⟨(some 8), none, false, .mov (.const (.slice none 0 0))⟩]) (.seq (.seq (.ops [
    ⟨(some 9), none, false, .mov (.const (.int .i64 0))⟩]) (.block 4 (.loop (.seq (.seq (.ops [
    ⟨(some 59), none, false, .mov (.tmp 9)⟩,
    ⟨(some 60), none, false, .bin .lss (.tmp 59) (.const (.int .i64 8))⟩]) (.cond (.tmp 60) .skip (.exit 4))) (.seq (.block 5 (.draw [
    ⟨(some 63), none, false, .mov (.tmp 8)⟩,
    ⟨(some 64), none, false, .mov (.tmp 5)⟩,
    ⟨(some 65), none, false, .mov (.tmp 9)⟩,
    ⟨(some 66), none, false, .iaddr (.tmp 64) (.tmp 65) 1⟩,
    ⟨(some 67), none, false, .load1 (.tmp 66)⟩,
    ⟨(some 68), none, false, .bin .shr (.tmp 67) (.const (.int .u64 24))⟩,
    ⟨(some 69), none, false, .conv .u8 (.tmp 68)⟩,
    ⟨(some 70), none, false, .mov (.tmp 5)⟩,
    ⟨(some 71), none, false, .mov (.tmp 9)⟩,
    ⟨(some 72), none, false, .iaddr (.tmp 70) (.tmp 71) 1⟩,
    ⟨(some 73), none, false, .load1 (.tmp 72)⟩,
    ⟨(some 74), none, false, .bin .shr (.tmp 73) (.const (.int .u64 16))⟩,
    ⟨(some 75), none, false, .conv .u8 (.tmp 74)⟩,
    ⟨(some 76), none, false, .mov (.tmp 5)⟩,
    ⟨(some 77), none, false, .mov (.tmp 9)⟩,
    ⟨(some 78), none, false, .iaddr (.tmp 76) (.tmp 77) 1⟩,
    ⟨(some 79), none, false, .load1 (.tmp 78)⟩,
    ⟨(some 80), none, false, .bin .shr (.tmp 79) (.const (.int .u64 8))⟩,
    ⟨(some 81), none, false, .conv .u8 (.tmp 80)⟩,
    ⟨(some 82), none, false, .mov (.tmp 5)⟩,
    ⟨(some 83), none, false, .mov (.tmp 9)⟩,
    ⟨(some 84), none, false, .iaddr (.tmp 82) (.tmp 83) 1⟩,
    ⟨(some 85), none, false, .load1 (.tmp 84)⟩,
    ⟨(some 86), none, false, .conv .u8 (.tmp 85)⟩,
    ⟨(some 87), none, false, .lit [.int .u8 0] 1 4 [(0, 1, (.tmp 69)), (1, 1, (.tmp 75)), (2, 1, (.tmp 81)), (3, 1, (.tmp 86))]⟩,
    ⟨(some 88), none, false, .app (.tmp 63) (.tmp 87) 1 1⟩,
    ⟨(some 8), none, false, .mov (.tmp 88)⟩])) (.ops [
    ⟨(some 61), none, false, .mov (.tmp 9)⟩,
    ⟨(some 62), none, false, .bin .add (.tmp 61) (.const (.int .i64 1))⟩,
    ⟨(some 9), none, false, .mov (.tmp 62)⟩])))))) (.seq (.ops [
    ⟨(some 89), none, false, .mov (.tmp 8)⟩,
    ⟨(some 90), none, false, .b2s (.tmp 89)⟩,
    ⟨(some 2), none, false, .mov (.tmp 90)⟩]) .ret))))))))))))
theorem fits_chantryref03_ID : Fits Tryd.prog 1 chantryref03_ID ic_chantryref03_ID [.tmp 2] 1 :=
  ⟨Tryd.f18, Tryd.func18, by decide, by kernel_rfl, by kernel_rfl⟩

/-- chantry/chantryref15.Check -/
noncomputable def ic_chantryref15_Check : IC :=
  (.seq (.ops [
    ⟨(some 1), none, false, .box (.tmp 0)⟩,
    ⟨(some 2), none, false, .mov (.const (.int .i64 0))⟩]) (.seq (.block 0 (.seq (.ops [
    ⟨(some 4), none, false, .faddr (.tmp 1) 0⟩,
    ⟨(some 5), none, false, .load1 (.tmp 4)⟩,
    ⟨(some 6), none, false, .bin .lss (.tmp 5) (.const (.int .i64 0))⟩,
    ⟨(some 7), none, false, .mov (.tmp 6)⟩,
    ⟨(some 8), (some (7, false)), false, .faddr (.tmp 1) 0⟩,
    ⟨(some 9), (some (7, false)), false, .load1 (.tmp 8)⟩,
    ⟨(some 10), (some (7, false)), false, .bin .gtr (.tmp 9) (.const (.int .i64 255))⟩,
    ⟨(some 11), none, false, .pick (.tmp 7) (.const (.bool true)) (.tmp 10)⟩,
    ⟨(some 3), none, false, .mov (.tmp 11)⟩]) (.cond (.tmp 3) (.seq (.ops [
    ⟨(some 2), none, false, .mov (.const (.int .i64 1))⟩]) .ret) (.seq (.ops [
    ⟨(some 13), none, false, .faddr (.tmp 1) 1⟩,
    ⟨(some 14), none, false, .load1 (.tmp 13)⟩,
    ⟨(some 15), none, false, .lens false (.tmp 14)⟩,
    ⟨(some 16), none, false, .bin .gtr (.tmp 15) (.const (.int .i64 8))⟩,
    ⟨(some 12), none, false, .mov (.tmp 16)⟩]) (.cond (.tmp 12) (.seq (.ops [
    ⟨(some 2), none, false, .mov (.const (.int .i64 4))⟩]) .ret) (.seq (.ops [
    ⟨(some 18), none, false, .faddr (.tmp 1) 1⟩,
    ⟨(some 19), none, false, .load1 (.tmp 18)⟩,
    ⟨(some 20), none, false, .call chantryref04_Rising [(.tmp 19)]⟩,
    ⟨(some 21), none, false, .un .not (.tmp 20)⟩,
    ⟨(some 22), none, false, .mov (.tmp 21)⟩,
    ⟨(some 23), (some (22, false)), false, .faddr (.tmp 1) 2⟩,
    ⟨(some 24), (some (22, false)), false, .loadn (.tmp 23) 5⟩,
    ⟨(some 25), (some (22, false)), false, .call chantryref14_Check [(.tmp 24)]⟩,
    ⟨(some 26), (some (22, false)), false, .un .not (.tmp 25)⟩,
    ⟨(some 27), none, false, .pick (.tmp 22) (.const (.bool true)) (.tmp 26)⟩,
    ⟨(some 17), none, false, .mov (.tmp 27)⟩]) (.cond (.tmp 17) (.seq (.ops [
    ⟨(some 2), none, false, .mov (.const (.int .i64 1))⟩]) .ret) .skip))))))) (.seq (.ops [
    ⟨(some 2), none, false, .mov (.const (.int .i64 0))⟩]) .ret)))
theorem fits_chantryref15_Check : Fits Tryd.prog 1 chantryref15_Check ic_chantryref15_Check [.tmp 2] 1 :=
  ⟨Tryd.f19, Tryd.func19, by decide, by kernel_rfl, by kernel_rfl⟩

/-- chantry/op.Put -/
noncomputable def ic_op_Put : IC :=
  (.seq (.ops [
    ⟨(some 1), none, false, .box (.tmp 0)⟩,
    ⟨(some 2), none, false, .mov (.const (.slice none 0 0))⟩,
    ⟨(some 3), none, false, .mov (.const (.int .i64 0))⟩]) (.seq (.seq (.ops [
    ⟨(some 10), none, false, .loadn (.tmp 1) 5⟩,
    ⟨(some 11), none, false, .call op_Check [(.tmp 10)]⟩,
    ⟨(some 4), none, false, .mov (.tmp 11)⟩]) (.seq (.ops [
    ⟨(some 12), none, false, .mov (.tmp 4)⟩,
    ⟨(some 13), none, false, .bin .neq (.tmp 12) (.const (.int .i64 0))⟩]) (.cond (.tmp 13) (.seq (.ops [
    ⟨(some 14), none, false, .mov (.tmp 4)⟩,
    ⟨(some 2), none, false, .mov (.const (.slice none 0 0))⟩,
    ⟨(some 3), none, false, .mov (.tmp 14)⟩]) .ret) .skip))) (.seq (.ops [
    ⟨(some 15), none, false, .faddr (.tmp 1) 0⟩,
    ⟨(some 16), none, false, .load1 (.tmp 15)⟩,
    ⟨(some 17), none, false, .call op_has [(.tmp 16)]⟩,
    ⟨(some 5), none, false, .mov (.tmp 17)⟩]) (.seq (.ops [
    ⟨(some 18), none, false, .faddr (.tmp 1) 0⟩,
    ⟨(some 19), none, false, .load1 (.tmp 18)⟩,
    ⟨(some 20), none, false, .conv .u8 (.tmp 19)⟩,
    ⟨(some 21), none, false, .lit [.int .u8 0] 1 1 [(0, 1, (.tmp 20))]⟩,
    ⟨(some 6), none, false, .new [.slice none 0 0]⟩,
    ⟨none, none, false, .store (.tmp 6) (.tmp 21) 1⟩]) (.seq (.ops [
    ⟨(some 22), none, false, .fn (.func op_Put_1) [] [(.tmp 6)]⟩,
    ⟨(some 7), none, false, .mov (.tmp 22)⟩]) (.seq (.seq (.ops [
    ⟨(some 23), none, false, .mov (.tmp 5)⟩,
    ⟨(some 24), none, false, .bin .and (.tmp 23) (.const (.int .i64 1))⟩,
    ⟨(some 25), none, false, .bin .gtr (.tmp 24) (.const (.int .i64 0))⟩]) (.cond (.tmp 25) (.ops [
    ⟨(some 26), none, false, .mov (.tmp 7)⟩,
    ⟨(some 27), none, false, .faddr (.tmp 1) 1⟩,
    ⟨(some 28), none, false, .load1 (.tmp 27)⟩,
    ⟨(some 29), none, false, .calld (.tmp 26) [(.tmp 28)]⟩]) .skip)) (.seq (.seq (.ops [
    ⟨(some 30), none, false, .mov (.tmp 5)⟩,
    ⟨(some 31), none, false, .bin .and (.tmp 30) (.const (.int .i64 2))⟩,
    ⟨(some 32), none, false, .bin .gtr (.tmp 31) (.const (.int .i64 0))⟩]) (.cond (.tmp 32) (.ops [
    ⟨(some 33), none, false, .mov (.tmp 7)⟩,
    ⟨(some 34), none, false, .faddr (.tmp 1) 2⟩,
    ⟨(some 35), none, false, .load1 (.tmp 34)⟩,
    ⟨(some 36), none, false, .calld (.tmp 33) [(.tmp 35)]⟩]) .skip)) (.seq (.seq (.ops [
    ⟨(some 37), none, false, .mov (.tmp 5)⟩,
    ⟨(some 38), none, false, .bin .and (.tmp 37) (.const (.int .i64 4))⟩,
    ⟨(some 39), none, false, .bin .gtr (.tmp 38) (.const (.int .i64 0))⟩]) (.cond (.tmp 39) (.seq (.ops [
    ⟨(some 41), none, false, .faddr (.tmp 1) 3⟩,
    ⟨(some 42), none, false, .load1 (.tmp 41)⟩,
    ⟨(some 43), none, false, .faddr (.tmp 1) 3⟩,
    ⟨(some 44), none, false, .load1 (.tmp 43)⟩,
    ⟨(some 45), none, false, .un .neg (.tmp 44)⟩,
    ⟨(some 46), none, false, .mx (.tmp 42) (.tmp 45)⟩,
    ⟨(some 47), none, false, .call num_Fix [(.tmp 46), (.const (.int .i64 4))]⟩,
    ⟨(some 40), none, false, .mov (.tmp 47)⟩,
    ⟨(some 48), none, false, .ext (.tmp 40) 0⟩,
    ⟨(some 49), none, false, .ext (.tmp 40) 1⟩,
    ⟨(some 8), none, false, .mov (.tmp 48)⟩,
    ⟨(some 9), none, false, .mov (.tmp 49)⟩]) (.draw [
    ⟨(some 50), none, true, .load1 (.tmp 6)⟩,
    ⟨(some 51), none, false, .faddr (.tmp 1) 3⟩,
    ⟨(some 52), none, false, .load1 (.tmp 51)⟩,
    ⟨(some 53), none, false, .bin .lss (.tmp 52) (.const (.int .i64 0))⟩,
    ⟨(some 57), none, false, .mov (.tmp 8)⟩,
    ⟨(some 54), none, true, .call op_truth [(.tmp 53)]⟩,
    ⟨(some 55), none, true, .lit [.int .u8 0] 1 1 [(0, 1, (.tmp 54))]⟩,
    ⟨(some 56), none, false, .app (.tmp 50) (.tmp 55) 1 1⟩,
    ⟨(some 58), none, false, .app (.tmp 56) (.tmp 57) 1 1⟩,
    ⟨none, none, false, .store (.tmp 6) (.tmp 58) 1⟩])) .skip)) (.seq (.seq (.ops [
    ⟨(some 59), none, false, .faddr (.tmp 1) 0⟩,
    ⟨(some 60), none, false, .load1 (.tmp 59)⟩,
    ⟨(some 61), none, false, .bin .eql (.tmp 60) (.const (.int .i64 5))⟩]) (.cond (.tmp 61) (.draw [
    ⟨(some 62), none, true, .load1 (.tmp 6)⟩,
    ⟨(some 63), none, false, .faddr (.tmp 1) 4⟩,
    ⟨(some 64), none, false, .load1 (.tmp 63)⟩,
    ⟨(some 65), none, false, .bin .neq (.tmp 64) (.const (.string ⟨#[]⟩))⟩,
    ⟨(some 66), none, true, .call op_truth [(.tmp 65)]⟩,
    ⟨(some 67), none, true, .lit [.int .u8 0] 1 1 [(0, 1, (.tmp 66))]⟩,
    ⟨(some 68), none, false, .app (.tmp 62) (.tmp 67) 1 1⟩,
    ⟨none, none, false, .store (.tmp 6) (.tmp 68) 1⟩]) .skip)) (.seq (.ops [
    ⟨(some 69), none, false, .load1 (.tmp 6)⟩,
    ⟨(some 70), none, false, .faddr (.tmp 1) 4⟩,
    ⟨(some 71), none, false, .load1 (.tmp 70)⟩,
    ⟨(some 72), none, false, .apps (.tmp 69) (.tmp 71) 1⟩,
    ⟨(some 2), none, false, .mov (.tmp 72)⟩,
    ⟨(some 3), none, false, .mov (.const (.int .i64 0))⟩]) .ret))))))))))
theorem fits_op_Put : Fits Tryd.prog 1 op_Put ic_op_Put [.tmp 2, .tmp 3] 1 :=
  ⟨Tryd.f20, Tryd.func20, by decide, by kernel_rfl, by kernel_rfl⟩

/-- slices.Concat[[]byte,byte] -/
noncomputable def ic_slices_Concat_byte_byte : IC :=
  (.seq (.ops [
    ⟨(some 2), none, false, .mov (.const (.slice none 0 0))⟩]) (.seq (.ops [
    ⟨(some 3), none, false, .mov (.const (.int .i64 0))⟩]) (.seq (.seq (.ops [
    ⟨(some 9), none, false, .mov (.tmp 0)⟩,
    ⟨(some 10), none, false, .lens false (.tmp 9)⟩,
    ⟨(some 11), none, false, .mov (.const (.int .i64 0))⟩]) (.block 0 (.loop (.seq (.ops [
    ⟨(some 12), none, false, .bin .lss (.tmp 11) (.tmp 10)⟩]) (.seq (.cond (.tmp 12) .skip (.exit 0)) (.seq (.block 1 (.seq (.ops [
    ⟨(some 13), none, false, .iaddr (.tmp 9) (.tmp 11) 1⟩,
    ⟨(some 14), none, false, .load1 (.tmp 13)⟩,
    ⟨(some 5), none, false, .mov (.tmp 14)⟩]) (.seq (.ops [
    ⟨(some 15), none, false, .mov (.tmp 3)⟩,
    ⟨(some 16), none, false, .mov (.tmp 5)⟩,
    ⟨(some 17), none, false, .lens false (.tmp 16)⟩,
    ⟨(some 18), none, false, .bin .add (.tmp 15) (.tmp 17)⟩,
    ⟨(some 3), none, false, .mov (.tmp 18)⟩]) (.seq (.ops [
    ⟨(some 19), none, false, .mov (.tmp 3)⟩,
    ⟨(some 20), none, false, .bin .lss (.tmp 19) (.const (.int .i64 0))⟩]) (.cond (.tmp 20) (.ops [
    ⟨(some 21), none, false, .ifc 9 (.const (.string ⟨#[108, 101, 110, 32, 111, 117, 116, 32, 111, 102, 32, 114, 97, 110, 103, 101]⟩))⟩,
    ⟨none, none, false, .fail⟩]) .skip))))) (.ops [
    ⟨(some 22), none, false, .bin .add (.tmp 11) (.const (.int .i64 1))⟩,
    ⟨(some 11), none, false, .mov (.tmp 22)⟩]))))))) (.seq (.ops [
    ⟨(some 23), none, false, .mov (.tmp 3)⟩,
    ⟨(some 24), none, false, .call slices_Grow_byte_byte [(.const (.slice none 0 0)), (.tmp 23)]⟩,
    ⟨(some 6), none, false, .mov (.tmp 24)⟩]) (.seq (.seq (.ops [
    ⟨(some 25), none, false, .mov (.tmp 0)⟩,
    ⟨(some 26), none, false, .lens false (.tmp 25)⟩,
    ⟨(some 27), none, false, .mov (.const (.int .i64 0))⟩]) (.block 2 (.loop (.seq (.ops [
    ⟨(some 28), none, false, .bin .lss (.tmp 27) (.tmp 26)⟩]) (.seq (.cond (.tmp 28) .skip (.exit 2)) (.seq (.block 3 (.seq (.ops [
    ⟨(some 29), none, false, .iaddr (.tmp 25) (.tmp 27) 1⟩,
    ⟨(some 30), none, false, .load1 (.tmp 29)⟩,
    ⟨(some 8), none, false, .mov (.tmp 30)⟩]) (.ops [
    ⟨(some 31), none, false, .mov (.tmp 6)⟩,
    ⟨(some 32), none, false, .mov (.tmp 8)⟩,
    ⟨(some 33), none, false, .app (.tmp 31) (.tmp 32) 1 1⟩,
    ⟨(some 6), none, false, .mov (.tmp 33)⟩]))) (.ops [
    ⟨(some 34), none, false, .bin .add (.tmp 27) (.const (.int .i64 1))⟩,
    ⟨(some 27), none, false, .mov (.tmp 34)⟩]))))))) (.seq (.ops [
    ⟨(some 35), none, false, .mov (.tmp 6)⟩,
    ⟨(some 2), none, false, .mov (.tmp 35)⟩]) .ret))))))
theorem fits_slices_Concat_byte_byte : Fits Tryd.prog 1 slices_Concat_byte_byte ic_slices_Concat_byte_byte [.tmp 2] 1 :=
  ⟨Tryd.f21, Tryd.func21, by decide, by kernel_rfl, by kernel_rfl⟩

/-- strings.Join -/
noncomputable def ic_strings_Join : IC :=
  (.seq (.ops [
    ⟨(some 4), none, false, .mov (.const (.string ⟨#[]⟩))⟩]) (.seq (.seq (.ops [
    ⟨(some 11), none, false, .mov (.tmp 0)⟩,
    ⟨(some 12), none, false, .lens false (.tmp 11)⟩]) (.block 0 (.seq (.ops [
    ⟨(some 14), none, false, .bin .eql (.tmp 12) (.const (.int .i64 0))⟩,
    ⟨(some 13), none, false, .mov (.tmp 14)⟩]) (.cond (.tmp 13) (.seq (.ops [
    ⟨(some 4), none, false, .mov (.const (.string ⟨#[]⟩))⟩]) .ret) (.seq (.ops [
    ⟨(some 16), none, false, .bin .eql (.tmp 12) (.const (.int .i64 1))⟩,
    ⟨(some 15), none, false, .mov (.tmp 16)⟩]) (.cond (.tmp 15) (.seq (.ops [
    ⟨(some 17), none, false, .mov (.tmp 0)⟩,
    ⟨(some 18), none, false, .iaddr (.tmp 17) (.const (.int .i64 0)) 1⟩,
    ⟨(some 19), none, false, .load1 (.tmp 18)⟩,
    ⟨(some 4), none, false, .mov (.tmp 19)⟩]) .ret) .skip)))))) (.seq (.ops [
    ⟨(some 5), none, false, .mov (.const (.int .i64 0))⟩]) (.seq (.seq (.ops [
    ⟨(some 20), none, false, .mov (.tmp 1)⟩,
    ⟨(some 21), none, false, .lens true (.tmp 20)⟩,
    ⟨(some 22), none, false, .bin .gtr (.tmp 21) (.const (.int .i64 0))⟩]) (.cond (.tmp 22) (.seq (.seq (.ops [
    ⟨(some 23), none, false, .mov (.tmp 1)⟩,
    ⟨(some 24), none, false, .lens true (.tmp 23)⟩,
    ⟨(some 25), none, false, .mov (.tmp 0)⟩,
    ⟨(some 26), none, false, .lens false (.tmp 25)⟩,
    ⟨(some 27), none, false, .bin .sub (.tmp 26) (.const (.int .i64 1))⟩,
    ⟨(some 28), none, false, .bin .quo (.const (.int .i64 9223372036854775807)) (.tmp 27)⟩,
    ⟨(some 29), none, false, .bin .geq (.tmp 24) (.tmp 28)⟩]) (.cond (.tmp 29) (.ops [
    ⟨(some 30), none, false, .ifc 9 (.const (.string ⟨#[115, 116, 114, 105, 110, 103, 115, 58, 32, 74, 111, 105, 110, 32, 111, 117, 116, 112, 117, 116, 32, 108, 101, 110, 103, 116, 104, 32, 111, 118, 101, 114, 102, 108, 111, 119]⟩))⟩,
    ⟨none, none, false, .fail⟩]) .skip)) (.ops [
    ⟨(some 31), none, false, .mov (.tmp 5)⟩,
    ⟨(some 32), none, false, .mov (.tmp 1)⟩,
    ⟨(some 33), none, false, .lens true (.tmp 32)⟩,
    ⟨(some 34), none, false, .mov (.tmp 0)⟩,
    ⟨(some 35), none, false, .lens false (.tmp 34)⟩,
    ⟨(some 36), none, false, .bin .sub (.tmp 35) (.const (.int .i64 1))⟩,
    ⟨(some 37), none, false, .bin .mul (.tmp 33) (.tmp 36)⟩,
    ⟨(some 38), none, false, .bin .add (.tmp 31) (.tmp 37)⟩,
    ⟨(some 5), none, false, .mov (.tmp 38)⟩])) .skip)) (.seq (.seq (.ops [
    ⟨(some 39), none, false, .mov (.tmp 0)⟩,
    ⟨(some 40), none, false, .lens false (.tmp 39)⟩,
    ⟨(some 41), none, false, .mov (.const (.int .i64 0))⟩]) (.block 1 (.loop (.seq (.ops [
    ⟨(some 42), none, false, .bin .lss (.tmp 41) (.tmp 40)⟩]) (.seq (.cond (.tmp 42) .skip (.exit 1)) (.seq (.block 2 (.seq (.ops [
    ⟨(some 43), none, false, .iaddr (.tmp 39) (.tmp 41) 1⟩,
    ⟨(some 44), none, false, .load1 (.tmp 43)⟩,
    ⟨(some 7), none, false, .mov (.tmp 44)⟩]) (.seq (.seq (.ops [
    ⟨(some 45), none, false, .mov (.tmp 7)⟩,
    ⟨(some 46), none, false, .lens true (.tmp 45)⟩,
    ⟨(some 47), none, false, .mov (.tmp 5)⟩,
    ⟨(some 48), none, false, .bin .sub (.const (.int .i64 9223372036854775807)) (.tmp 47)⟩,
    ⟨(some 49), none, false, .bin .gtr (.tmp 46) (.tmp 48)⟩]) (.cond (.tmp 49) (.ops [
    ⟨(some 50), none, false, .ifc 9 (.const (.string ⟨#[115, 116, 114, 105, 110, 103, 115, 58, 32, 74, 111, 105, 110, 32, 111, 117, 116, 112, 117, 116, 32, 108, 101, 110, 103, 116, 104, 32, 111, 118, 101, 114, 102, 108, 111, 119]⟩))⟩,
    ⟨none, none, false, .fail⟩]) .skip)) (.ops [
    ⟨(some 51), none, false, .mov (.tmp 5)⟩,
    ⟨(some 52), none, false, .mov (.tmp 7)⟩,
    ⟨(some 53), none, false, .lens true (.tmp 52)⟩,
    ⟨(some 54), none, false, .bin .add (.tmp 51) (.tmp 53)⟩,
    ⟨(some 5), none, false, .mov (.tmp 54)⟩])))) (.ops [
    ⟨(some 55), none, false, .bin .add (.tmp 41) (.const (.int .i64 1))⟩,
    ⟨(some 41), none, false, .mov (.tmp 55)⟩]))))))) (.seq (.ops [
    ⟨(some 8), none, false, .new [.pointer none, .slice none 0 0]⟩]) (.seq (.ops [
    ⟨(some 56), none, false, .mov (.tmp 5)⟩,
    ⟨(some 57), none, false, .call strings_Builder_Grow [(.tmp 8), (.tmp 56)]⟩]) (.seq (.ops [
    ⟨(some 58), none, false, .mov (.tmp 0)⟩,
    ⟨(some 59), none, false, .iaddr (.tmp 58) (.const (.int .i64 0)) 1⟩,
    ⟨(some 60), none, false, .load1 (.tmp 59)⟩,
    ⟨(some 61), none, false, .call strings_Builder_WriteString [(.tmp 8), (.tmp 60)]⟩]) (.seq (.seq (.ops [
    ⟨(some 62), none, false, .mov (.tmp 0)⟩,
    ⟨(some 63), none, false, .sll (.tmp 62) (some (.const (.int .i64 1))) none none 1⟩,
    ⟨(some 64), none, false, .lens false (.tmp 63)⟩,
    ⟨(some 65), none, false, .mov (.const (.int .i64 0))⟩]) (.block 3 (.loop (.seq (.ops [
    ⟨(some 66), none, false, .bin .lss (.tmp 65) (.tmp 64)⟩]) (.seq (.cond (.tmp 66) .skip (.exit 3)) (.seq (.block 4 (.seq (.ops [
    ⟨(some 67), none, false, .iaddr (.tmp 63) (.tmp 65) 1⟩,
    ⟨(some 68), none, false, .load1 (.tmp 67)⟩,
    ⟨(some 10), none, false, .mov (.tmp 68)⟩]) (.seq (.ops [
    ⟨(some 69), none, false, .mov (.tmp 1)⟩,
    ⟨(some 70), none, false, .call strings_Builder_WriteString [(.tmp 8), (.tmp 69)]⟩]) (.ops [
    ⟨(some 71), none, false, .mov (.tmp 10)⟩,
    ⟨(some 72), none, false, .call strings_Builder_WriteString [(.tmp 8), (.tmp 71)]⟩])))) (.ops [
    ⟨(some 73), none, false, .bin .add (.tmp 65) (.const (.int .i64 1))⟩,
    ⟨(some 65), none, false, .mov (.tmp 73)⟩]))))))) (.seq (.ops [
    ⟨(some 74), none, false, .call strings_Builder_String [(.tmp 8)]⟩,
    ⟨(some 4), none, false, .mov (.tmp 74)⟩]) .ret))))))))))
theorem fits_strings_Join : Fits Tryd.prog 1 strings_Join ic_strings_Join [.tmp 4] 2 :=
  ⟨Tryd.f22, Tryd.func22, by decide, by kernel_rfl, by kernel_rfl⟩

/-- chantry/chantryref14.Put -/
noncomputable def ic_chantryref14_Put : IC :=
  (.seq (.ops [
    ⟨(some 1), none, false, .box (.tmp 0)⟩,
    ⟨(some 2), none, false, .mov (.const (.slice none 0 0))⟩,
    ⟨(some 3), none, false, .mov (.const (.int .i64 0))⟩]) (.seq (.seq (.ops [
    ⟨(some 19), none, false, .loadn (.tmp 1) 5⟩,
    ⟨(some 20), none, false, .call chantryref14_Check [(.tmp 19)]⟩,
    ⟨(some 21), none, false, .un .not (.tmp 20)⟩]) (.cond (.tmp 21) (.seq (.ops [
    ⟨(some 2), none, false, .mov (.const (.slice none 0 0))⟩,
    ⟨(some 3), none, false, .mov (.const (.int .i64 1))⟩]) .ret) .skip)) (.seq (.ops [
    ⟨(some 23), none, false, .faddr (.tmp 1) 0⟩,
    ⟨(some 24), none, false, .load1 (.tmp 23)⟩,
    ⟨(some 25), none, false, .call chantryref14_Has [(.tmp 24)]⟩,
    ⟨(some 22), none, false, .mov (.tmp 25)⟩,
    ⟨(some 26), none, false, .ext (.tmp 22) 0⟩,
    ⟨(some 27), none, false, .ext (.tmp 22) 1⟩,
    ⟨(some 28), none, false, .ext (.tmp 22) 2⟩,
    ⟨(some 29), none, false, .ext (.tmp 22) 3⟩,
    ⟨(some 30), none, false, .ext (.tmp 22) 4⟩,
    ⟨(some 4), none, false, .mov (.tmp 26)⟩,
    ⟨(some 5), none, false, .mov (.tmp 27)⟩,
    ⟨(some 6), none, false, .mov (.tmp 28)⟩,
    ⟨(some 7), none, false, .mov (.tmp 29)⟩,
    ⟨(some 8), none, false, .mov (.tmp 30)⟩]) (.seq (.ops [
    ⟨(some 31), none, false, .faddr (.tmp 1) 0⟩,
    ⟨(some 32), none, false, .load1 (.tmp 31)⟩,
    ⟨(some 33), none, false, .conv .u8 (.tmp 32)⟩,
    ⟨(some 34), none, false, .lit [.int .u8 0] 1 1 [(0, 1, (.tmp 33))]⟩,
    ⟨(some 9), none, false, .mov (.tmp 34)⟩]) (.seq (.seq (.ops [
    ⟨(some 35), none, false, .mov (.tmp 4)⟩]) (.cond (.tmp 35) (.seq (.ops [
    ⟨(some 37), none, false, .faddr (.tmp 1) 1⟩,
    ⟨(some 38), none, false, .load1 (.tmp 37)⟩,
    ⟨(some 39), none, false, .s2b (.tmp 38)⟩,
    ⟨(some 40), none, false, .call chantryref01_Text [(.tmp 39)]⟩,
    ⟨(some 36), none, false, .mov (.tmp 40)⟩,
    ⟨(some 41), none, false, .ext (.tmp 36) 0⟩,
    ⟨(some 42), none, false, .ext (.tmp 36) 1⟩,
    ⟨(some 10), none, false, .mov (.tmp 41)⟩,
    ⟨(some 11), none, false, .mov (.tmp 42)⟩]) (.ops [
    ⟨(some 43), none, false, .mov (.tmp 9)⟩,
    ⟨(some 44), none, false, .mov (.tmp 10)⟩,
    ⟨(some 45), none, false, .app (.tmp 43) (.tmp 44) 1 1⟩,
    ⟨(some 9), none, false, .mov (.tmp 45)⟩])) .skip)) (.seq (.seq (.ops [
    ⟨(some 46), none, false, .mov (.tmp 5)⟩]) (.cond (.tmp 46) (.seq (.ops [
    ⟨(some 48), none, false, .faddr (.tmp 1) 2⟩,
    ⟨(some 49), none, false, .load1 (.tmp 48)⟩,
    ⟨(some 50), none, false, .s2b (.tmp 49)⟩,
    ⟨(some 51), none, false, .call chantryref01_Text [(.tmp 50)]⟩,
    ⟨(some 47), none, false, .mov (.tmp 51)⟩,
    ⟨(some 52), none, false, .ext (.tmp 47) 0⟩,
    ⟨(some 53), none, false, .ext (.tmp 47) 1⟩,
    ⟨(some 12), none, false, .mov (.tmp 52)⟩,
    ⟨(some 13), none, false, .mov (.tmp 53)⟩]) (.ops [
    ⟨(some 54), none, false, .mov (.tmp 9)⟩,
    ⟨(some 55), none, false, .mov (.tmp 12)⟩,
    ⟨(some 56), none, false, .app (.tmp 54) (.tmp 55) 1 1⟩,
    ⟨(some 9), none, false, .mov (.tmp 56)⟩])) .skip)) (.seq (.seq (.ops [
    ⟨(some 57), none, false, .mov (.tmp 6)⟩]) (.cond (.tmp 57) (.seq (.ops [
    ⟨(some 14), none, false, .mov (.const (.int .u8 0))⟩]) (.seq (.ops [
    ⟨(some 58), none, false, .faddr (.tmp 1) 3⟩,
    ⟨(some 59), none, false, .load1 (.tmp 58)⟩,
    ⟨(some 15), none, false, .mov (.tmp 59)⟩]) (.seq (.seq (.ops [
    ⟨(some 60), none, false, .mov (.tmp 15)⟩,
    ⟨(some 61), none, false, .bin .lss (.tmp 60) (.const (.int .i64 0))⟩]) (.cond (.tmp 61) (.seq (.ops [
    ⟨(some 14), none, false, .mov (.const (.int .u8 1))⟩]) (.ops [
    ⟨(some 62), none, false, .mov (.tmp 15)⟩,
    ⟨(some 63), none, false, .un .neg (.tmp 62)⟩,
    ⟨(some 15), none, false, .mov (.tmp 63)⟩])) .skip)) (.seq (.ops [
    ⟨(some 65), none, false, .mov (.tmp 15)⟩,
    ⟨(some 66), none, false, .call chantryref01_Fix [(.tmp 65), (.const (.int .i64 4))]⟩,
    ⟨(some 64), none, false, .mov (.tmp 66)⟩,
    ⟨(some 67), none, false, .ext (.tmp 64) 0⟩,
    ⟨(some 68), none, false, .ext (.tmp 64) 1⟩,
    ⟨(some 16), none, false, .mov (.tmp 67)⟩,
    ⟨(some 17), none, false, .mov (.tmp 68)⟩]) (.ops [
    ⟨(some 69), none, false, .mov (.tmp 9)⟩,
    ⟨(some 70), none, false, .mov (.tmp 14)⟩,
    ⟨(some 71), none, false, .lit [.int .u8 0] 1 1 [(0, 1, (.tmp 70))]⟩,
    ⟨(some 72), none, false, .app (.tmp 69) (.tmp 71) 1 1⟩,
    ⟨(some 73), none, false, .mov (.tmp 16)⟩,
    ⟨(some 74), none, false, .app (.tmp 72) (.tmp 73) 1 1⟩,
    ⟨(some 9), none, false, .mov (.tmp 74)⟩]))))) .skip)) (.seq (.seq (.ops [
    ⟨(some 75), none, false, .mov (.tmp 7)⟩,
    ⟨(some 76), none, false, .mov (.tmp 75)⟩,
    ⟨(some 77), (some (76, true)), false, .faddr (.tmp 1) 0⟩,
    ⟨(some 78), (some (76, true)), false, .load1 (.tmp 77)⟩,
    ⟨(some 79), (some (76, true)), false, .bin .eql (.tmp 78) (.const (.int .i64 5))⟩,
    ⟨(some 80), none, false, .pick (.tmp 76) (.tmp 79) (.const (.bool false))⟩]) (.cond (.tmp 80) (.seq (.ops [
    ⟨(some 18), none, false, .mov (.const (.int .u8 0))⟩]) (.seq (.seq (.ops [
    ⟨(some 81), none, false, .faddr (.tmp 1) 4⟩,
    ⟨(some 82), none, false, .load1 (.tmp 81)⟩,
    ⟨(some 83), none, false, .bin .neq (.tmp 82) (.const (.string ⟨#[]⟩))⟩]) (.cond (.tmp 83) (.ops [
    ⟨(some 18), none, false, .mov (.const (.int .u8 1))⟩]) .skip)) (.ops [
    ⟨(some 84), none, false, .mov (.tmp 9)⟩,
    ⟨(some 85), none, false, .mov (.tmp 18)⟩,
    ⟨(some 86), none, false, .lit [.int .u8 0] 1 1 [(0, 1, (.tmp 85))]⟩,
    ⟨(some 87), none, false, .app (.tmp 84) (.tmp 86) 1 1⟩,
    ⟨(some 9), none, false, .mov (.tmp 87)⟩]))) .skip)) (.seq (.ops [
    ⟨(some 88), none, false, .mov (.tmp 9)⟩,
    ⟨(some 89), none, false, .faddr (.tmp 1) 4⟩,
    ⟨(some 90), none, false, .load1 (.tmp 89)⟩,
    ⟨(some 91), none, false, .apps (.tmp 88) (.tmp 90) 1⟩,
    ⟨(some 2), none, false, .mov (.tmp 91)⟩,
    ⟨(some 3), none, false, .mov (.const (.int .i64 0))⟩]) .ret)))))))))
theorem fits_chantryref14_Put : Fits Tryd.prog 1 chantryref14_Put ic_chantryref14_Put [.tmp 2, .tmp 3] 1 :=
  ⟨Tryd.f23, Tryd.func23, by decide, by kernel_rfl, by kernel_rfl⟩

/-- chantry/num.From -/
noncomputable def ic_num_From : IC :=
  (.seq (.ops [
    ⟨(some 2), none, false, .mov (.const (.pointer none))⟩]) (.seq (.ops [
    ⟨(some 3), none, false, .mov (.tmp 0)⟩,
    ⟨(some 4), none, false, .call slices_Clone_byte_byte [(.tmp 3)]⟩,
    ⟨(some 5), none, false, .build [.slice none 0 0, .bool false] [(0, 1, (.tmp 4))]⟩,
    ⟨(some 6), none, false, .box (.tmp 5)⟩,
    ⟨(some 2), none, false, .mov (.tmp 6)⟩]) .ret))
theorem fits_num_From : Fits Tryd.prog 1 num_From ic_num_From [.tmp 2] 1 :=
  ⟨Tryd.f24, Tryd.func24, by decide, by kernel_rfl, by kernel_rfl⟩

/-- (*chantry/num.Cursor).Byte -/
noncomputable def ic_num_Cursor_Byte : IC :=
  (.seq (.ops [
    ⟨(some 2), none, false, .mov (.const (.int .i64 0))⟩]) (.seq (.seq (.ops [
    ⟨(some 5), none, false, .mov (.tmp 0)⟩,
    ⟨(some 6), none, false, .call num_Cursor_Take [(.tmp 5), (.const (.int .i64 1))]⟩,
    ⟨(some 7), none, false, .lens false (.tmp 6)⟩,
    ⟨(some 8), none, false, .mov (.const (.int .i64 0))⟩]) (.block 0 (.loop (.seq (.ops [
    ⟨(some 9), none, false, .bin .lss (.tmp 8) (.tmp 7)⟩]) (.seq (.cond (.tmp 9) .skip (.exit 0)) (.seq (.block 1 (.seq (.ops [
    ⟨(some 10), none, false, .iaddr (.tmp 6) (.tmp 8) 1⟩,
    ⟨(some 11), none, false, .load1 (.tmp 10)⟩,
    ⟨(some 4), none, false, .mov (.tmp 11)⟩]) (.seq (.ops [
    ⟨(some 12), none, false, .mov (.tmp 4)⟩,
    ⟨(some 13), none, false, .conv .i64 (.tmp 12)⟩,
    ⟨(some 2), none, false, .mov (.tmp 13)⟩]) .ret))) (.ops [
    ⟨(some 14), none, false, .bin .add (.tmp 8) (.const (.int .i64 1))⟩,
    ⟨(some 8), none, false, .mov (.tmp 14)⟩]))))))) (.seq (.ops [
    ⟨(some 2), none, false, .mov (.const (.int .i64 0))⟩]) .ret)))
theorem fits_num_Cursor_Byte : Fits Tryd.prog 1 num_Cursor_Byte ic_num_Cursor_Byte [.tmp 2] 1 :=
  ⟨Tryd.f25, Tryd.func25, by decide, by kernel_rfl, by kernel_rfl⟩

/-- chantry/update.list[string] -/
noncomputable def ic_update_list_string : IC :=
  (.seq (.ops [
    ⟨(some 4), none, false, .mov (.const (.slice none 0 0))⟩]) (.seq (.ops [
    ⟨(some 5), none, false, .mov (.const (.slice none 0 0))⟩]) (.seq (.seq (.ops [
    ⟨(some 6), none, false, .mov (.tmp 0)⟩,
    ⟨(some 7), none, false, .mov (.const (.int .i64 0))⟩]) (.block 0 (.loop (.seq (.ops [
    ⟨(some 8), none, false, .bin .lss (.tmp 7) (.tmp 6)⟩]) (.seq (.cond (.tmp 8) .skip (.exit 0)) (.seq (.block 1 (.ops [
    ⟨(some 9), none, false, .mov (.tmp 5)⟩,
    ⟨(some 10), none, false, .mov (.tmp 1)⟩,
    ⟨(some 11), none, false, .calld (.tmp 10) []⟩,
    ⟨(some 12), none, false, .lit [.string ⟨#[]⟩] 1 1 [(0, 1, (.tmp 11))]⟩,
    ⟨(some 13), none, false, .app (.tmp 9) (.tmp 12) 1 16⟩,
    ⟨(some 5), none, false, .mov (.tmp 13)⟩])) (.ops [
    ⟨(some 14), none, false, .bin .add (.tmp 7) (.const (.int .i64 1))⟩,
    ⟨(some 7), none, false, .mov (.tmp 14)⟩]))))))) (.seq (.ops [
    ⟨(some 15), none, false, .mov (.tmp 5)⟩,
    ⟨(some 4), none, false, .mov (.tmp 15)⟩]) .ret))))
theorem fits_update_list_string : Fits Tryd.prog 1 update_list_string ic_update_list_string [.tmp 4] 2 :=
  ⟨Tryd.f26, Tryd.func26, by decide, by kernel_rfl, by kernel_rfl⟩

/-- chantry/update.Get$1 -/
noncomputable def ic_update_Get_1 : IC :=
  (.seq (.ops [
    ⟨(some 1), none, false, .mov (.const (.string ⟨#[]⟩))⟩]) (.seq (.ops [
    ⟨(some 2), none, false, .load1 (.tmp 0)⟩,
    ⟨(some 3), none, false, .call num_Cursor_Take [(.tmp 2), (.const (.int .i64 32))]⟩,
    ⟨(some 4), none, false, .b2s (.tmp 3)⟩,
    ⟨(some 1), none, false, .mov (.tmp 4)⟩]) .ret))
theorem fits_update_Get_1 : Fits Tryd.prog 1 update_Get_1 ic_update_Get_1 [.tmp 1] 0 :=
  ⟨Tryd.f27, Tryd.func27, by decide, by kernel_rfl, by kernel_rfl⟩

/-- (*chantry/num.Cursor).Take -/
noncomputable def ic_num_Cursor_Take : IC :=
  (.seq (.ops [
    ⟨(some 4), none, false, .mov (.const (.slice none 0 0))⟩]) (.seq (.seq (.ops [
    ⟨(some 6), none, false, .mov (.tmp 0)⟩,
    ⟨(some 7), none, false, .call num_Cursor_Bad [(.tmp 6)]⟩,
    ⟨(some 8), none, false, .mov (.tmp 7)⟩,
    ⟨(some 9), (some (8, false)), false, .mov (.tmp 1)⟩,
    ⟨(some 10), (some (8, false)), false, .bin .lss (.tmp 9) (.const (.int .i64 0))⟩,
    ⟨(some 11), none, false, .pick (.tmp 8) (.const (.bool true)) (.tmp 10)⟩,
    ⟨(some 12), none, false, .mov (.tmp 11)⟩,
    ⟨(some 13), (some (12, false)), false, .mov (.tmp 1)⟩,
    ⟨(some 14), (some (12, false)), false, .mov (.tmp 0)⟩,
    ⟨(some 15), (some (12, false)), false, .nilc (.tmp 14)⟩,
    ⟨(some 16), (some (12, false)), false, .faddr (.tmp 15) 0⟩,
    ⟨(some 17), (some (12, false)), false, .load1 (.tmp 16)⟩,
    ⟨(some 18), (some (12, false)), false, .lens false (.tmp 17)⟩,
    ⟨(some 19), (some (12, false)), false, .bin .gtr (.tmp 13) (.tmp 18)⟩,
    ⟨(some 20), none, false, .pick (.tmp 12) (.const (.bool true)) (.tmp 19)⟩]) (.cond (.tmp 20) (.seq (.ops [
    ⟨(some 21), none, false, .mov (.tmp 0)⟩,
    ⟨(some 22), none, false, .call num_Cursor_fail [(.tmp 21)]⟩]) (.seq (.ops [
    ⟨(some 4), none, false, .mov (.const (.slice none 0 0))⟩]) .ret)) .skip)) (.seq (.ops [
    ⟨(some 23), none, false, .mov (.tmp 1)⟩,
    ⟨(some 24), none, false, .mk [.int .u8 0] 1 (.tmp 23) (.tmp 23)⟩,
    ⟨(some 5), none, false, .mov (.tmp 24)⟩]) (.seq (.ops [
    ⟨(some 25), none, false, .mov (.tmp 5)⟩,
    ⟨(some 26), none, false, .mov (.tmp 0)⟩,
    ⟨(some 27), none, false, .nilc (.tmp 26)⟩,
    ⟨(some 28), none, false, .faddr (.tmp 27) 0⟩,
    ⟨(some 29), none, false, .load1 (.tmp 28)⟩,
    ⟨(some 30), none, false, .copy (.tmp 25) (.tmp 29) 1⟩]) (.seq (.ops [
    ⟨(some 31), none, false, .mov (.tmp 0)⟩,
    ⟨(some 32), none, false, .mov (.tmp 0)⟩,
    ⟨(some 33), none, false, .nilc (.tmp 32)⟩,
    ⟨(some 34), none, false, .faddr (.tmp 33) 0⟩,
    ⟨(some 35), none, false, .load1 (.tmp 34)⟩,
    ⟨(some 36), none, false, .mov (.tmp 1)⟩,
    ⟨(some 37), none, false, .sll (.tmp 35) (some (.tmp 36)) none none 1⟩,
    ⟨(some 38), none, false, .nilc (.tmp 31)⟩,
    ⟨(some 39), none, false, .faddr (.tmp 38) 0⟩,
    ⟨none, none, false, .store (.tmp 39) (.tmp 37) 1⟩]) (.seq (.ops [
    ⟨(some 40), none, false, .mov (.tmp 5)⟩,
    ⟨(some 4), none, false, .mov (.tmp 40)⟩]) .ret))))))
theorem fits_num_Cursor_Take : Fits Tryd.prog 1 num_Cursor_Take ic_num_Cursor_Take [.tmp 4] 2 :=
  ⟨Tryd.f28, Tryd.func28, by decide, by kernel_rfl, by kernel_rfl⟩

/-- (*chantry/num.Cursor).Left -/
noncomputable def ic_num_Cursor_Left : IC :=
  (.seq (.ops [
    ⟨(some 2), none, false, .mov (.const (.int .i64 0))⟩]) (.seq (.seq (.ops [
    ⟨(some 3), none, false, .mov (.tmp 0)⟩,
    ⟨(some 4), none, false, .call num_Cursor_Bad [(.tmp 3)]⟩]) (.cond (.tmp 4) (.seq (.ops [
    ⟨(some 2), none, false, .mov (.const (.int .i64 0))⟩]) .ret) .skip)) (.seq (.ops [
    ⟨(some 5), none, false, .mov (.tmp 0)⟩,
    ⟨(some 6), none, false, .nilc (.tmp 5)⟩,
    ⟨(some 7), none, false, .faddr (.tmp 6) 0⟩,
    ⟨(some 8), none, false, .load1 (.tmp 7)⟩,
    ⟨(some 9), none, false, .lens false (.tmp 8)⟩,
    ⟨(some 2), none, false, .mov (.tmp 9)⟩]) .ret)))
theorem fits_num_Cursor_Left : Fits Tryd.prog 1 num_Cursor_Left ic_num_Cursor_Left [.tmp 2] 1 :=
  ⟨Tryd.f29, Tryd.func29, by decide, by kernel_rfl, by kernel_rfl⟩

/-- (*chantry/num.Cursor).Bad -/
noncomputable def ic_num_Cursor_Bad : IC :=
  (.seq (.ops [
    ⟨(some 2), none, false, .mov (.const (.bool false))⟩]) (.seq (.ops [
    ⟨(some 3), none, false, .mov (.tmp 0)⟩,
    ⟨(some 4), none, false, .isnil (.pointer 91) (.tmp 3) false⟩,
    ⟨(some 5), none, false, .mov (.tmp 4)⟩,
    ⟨(some 6), (some (5, false)), false, .mov (.tmp 0)⟩,
    ⟨(some 7), (some (5, false)), false, .nilc (.tmp 6)⟩,
    ⟨(some 8), (some (5, false)), false, .faddr (.tmp 7) 1⟩,
    ⟨(some 9), (some (5, false)), false, .load1 (.tmp 8)⟩,
    ⟨(some 10), none, false, .pick (.tmp 5) (.const (.bool true)) (.tmp 9)⟩,
    ⟨(some 2), none, false, .mov (.tmp 10)⟩]) .ret))
theorem fits_num_Cursor_Bad : Fits Tryd.prog 1 num_Cursor_Bad ic_num_Cursor_Bad [.tmp 2] 1 :=
  ⟨Tryd.f30, Tryd.func30, by decide, by kernel_rfl, by kernel_rfl⟩

/-- chantry/op.Get -/
noncomputable def ic_op_Get : IC :=
  (.seq (.ops [
    ⟨(some 2), none, false, .new [.int .i64 0, .string ⟨#[]⟩, .string ⟨#[]⟩, .int .i64 0, .string ⟨#[]⟩]⟩,
    ⟨(some 3), none, false, .mov (.const (.int .i64 0))⟩,
    ⟨(some 4), none, false, .mov (.const (.int .i64 0))⟩]) (.seq (.ops [
    ⟨(some 10), none, false, .mov (.tmp 0)⟩,
    ⟨(some 11), none, false, .call num_From [(.tmp 10)]⟩,
    ⟨(some 5), none, false, .mov (.tmp 11)⟩]) (.seq (.ops [
    ⟨(some 12), none, false, .mov (.tmp 5)⟩,
    ⟨(some 13), none, false, .call num_Cursor_Byte [(.tmp 12)]⟩,
    ⟨(some 14), none, false, .build [.int .i64 0, .string ⟨#[]⟩, .string ⟨#[]⟩, .int .i64 0, .string ⟨#[]⟩] [(0, 1, (.tmp 13))]⟩,
    ⟨(some 6), none, false, .new [.int .i64 0, .string ⟨#[]⟩, .string ⟨#[]⟩, .int .i64 0, .string ⟨#[]⟩]⟩,
    ⟨none, none, false, .store (.tmp 6) (.tmp 14) 5⟩]) (.seq (.ops [
    ⟨(some 15), none, false, .faddr (.tmp 6) 0⟩,
    ⟨(some 16), none, false, .load1 (.tmp 15)⟩,
    ⟨(some 17), none, false, .call op_has [(.tmp 16)]⟩,
    ⟨(some 7), none, false, .mov (.tmp 17)⟩,
    ⟨(some 8), none, false, .mov (.const (.bool true))⟩,
    ⟨(some 9), none, false, .mov (.const (.bool true))⟩]) (.seq (.seq (.ops [
    ⟨(some 18), none, false, .mov (.tmp 7)⟩,
    ⟨(some 19), none, false, .bin .gtr (.tmp 18) (.const (.int .i64 0))⟩,
    ⟨(some 20), none, false, .mov (.tmp 19)⟩,
    ⟨(some 21), (some (20, true)), false, .mov (.tmp 7)⟩,
    ⟨(some 22), (some (20, true)), false, .bin .and (.tmp 21) (.const (.int .i64 1))⟩,
    ⟨(some 23), (some (20, true)), false, .bin .gtr (.tmp 22) (.const (.int .i64 0))⟩,
    ⟨(some 24), none, false, .pick (.tmp 20) (.tmp 23) (.const (.bool false))⟩]) (.cond (.tmp 24) (.ops [
    ⟨(some 25), none, false, .mov (.tmp 5)⟩,
    ⟨(some 26), none, false, .call num_Cursor_Text [(.tmp 25)]⟩,
    ⟨(some 27), none, false, .b2s (.tmp 26)⟩,
    ⟨(some 28), none, false, .faddr (.tmp 6) 1⟩,
    ⟨none, none, false, .store (.tmp 28) (.tmp 27) 1⟩]) .skip)) (.seq (.seq (.ops [
    ⟨(some 29), none, false, .mov (.tmp 7)⟩,
    ⟨(some 30), none, false, .bin .gtr (.tmp 29) (.const (.int .i64 0))⟩,
    ⟨(some 31), none, false, .mov (.tmp 30)⟩,
    ⟨(some 32), (some (31, true)), false, .mov (.tmp 7)⟩,
    ⟨(some 33), (some (31, true)), false, .bin .and (.tmp 32) (.const (.int .i64 2))⟩,
    ⟨(some 34), (some (31, true)), false, .bin .gtr (.tmp 33) (.const (.int .i64 0))⟩,
    ⟨(some 35), none, false, .pick (.tmp 31) (.tmp 34) (.const (.bool false))⟩]) (.cond (.tmp 35) (.ops [
    ⟨(some 36), none, false, .mov (.tmp 5)⟩,
    ⟨(some 37), none, false, .call num_Cursor_Text [(.tmp 36)]⟩,
    ⟨(some 38), none, false, .b2s (.tmp 37)⟩,
    ⟨(some 39), none, false, .faddr (.tmp 6) 2⟩,
    ⟨none, none, false, .store (.tmp 39) (.tmp 38) 1⟩]) .skip)) (.seq (.seq (.ops [
    ⟨(some 40), none, false, .mov (.tmp 7)⟩,
    ⟨(some 41), none, false, .bin .gtr (.tmp 40) (.const (.int .i64 0))⟩,
    ⟨(some 42), none, false, .mov (.tmp 41)⟩,
    ⟨(some 43), (some (42, true)), false, .mov (.tmp 7)⟩,
    ⟨(some 44), (some (42, true)), false, .bin .and (.tmp 43) (.const (.int .i64 4))⟩,
    ⟨(some 45), (some (42, true)), false, .bin .gtr (.tmp 44) (.const (.int .i64 0))⟩,
    ⟨(some 46), none, false, .pick (.tmp 42) (.tmp 45) (.const (.bool false))⟩]) (.cond (.tmp 46) (.ops [
    ⟨(some 48), none, false, .mov (.tmp 5)⟩,
    ⟨(some 49), none, false, .call op_number [(.tmp 48)]⟩,
    ⟨(some 47), none, false, .mov (.tmp 49)⟩,
    ⟨(some 50), none, false, .ext (.tmp 47) 0⟩,
    ⟨(some 51), none, false, .ext (.tmp 47) 1⟩,
    ⟨(some 52), none, false, .faddr (.tmp 6) 3⟩,
    ⟨none, none, false, .store (.tmp 52) (.tmp 50) 1⟩,
    ⟨(some 8), none, false, .mov (.tmp 51)⟩]) .skip)) (.seq (.seq (.ops [
    ⟨(some 53), none, false, .mov (.tmp 7)⟩,
    ⟨(some 54), none, false, .bin .gtr (.tmp 53) (.const (.int .i64 0))⟩,
    ⟨(some 55), none, false, .mov (.tmp 54)⟩,
    ⟨(some 56), (some (55, true)), false, .mov (.tmp 7)⟩,
    ⟨(some 57), (some (55, true)), false, .bin .and (.tmp 56) (.const (.int .i64 8))⟩,
    ⟨(some 58), (some (55, true)), false, .bin .gtr (.tmp 57) (.const (.int .i64 0))⟩,
    ⟨(some 59), none, false, .pick (.tmp 55) (.tmp 58) (.const (.bool false))⟩]) (.cond (.tmp 59) (.ops [
    ⟨(some 61), none, false, .mov (.tmp 5)⟩,
    ⟨(some 62), none, false, .faddr (.tmp 6) 0⟩,
    ⟨(some 63), none, false, .load1 (.tmp 62)⟩,
    ⟨(some 64), none, false, .call op_place [(.tmp 61), (.tmp 63)]⟩,
    ⟨(some 60), none, false, .mov (.tmp 64)⟩,
    ⟨(some 65), none, false, .ext (.tmp 60) 0⟩,
    ⟨(some 66), none, false, .ext (.tmp 60) 1⟩,
    ⟨(some 67), none, false, .faddr (.tmp 6) 4⟩,
    ⟨none, none, false, .store (.tmp 67) (.tmp 65) 1⟩,
    ⟨(some 9), none, false, .mov (.tmp 66)⟩]) .skip)) (.seq (.seq (.ops [
    ⟨(some 68), none, false, .mov (.tmp 5)⟩,
    ⟨(some 69), none, false, .call num_Cursor_Bad [(.tmp 68)]⟩,
    ⟨(some 70), none, false, .mov (.tmp 69)⟩,
    ⟨(some 71), (some (70, false)), false, .mov (.tmp 8)⟩,
    ⟨(some 72), (some (70, false)), false, .un .not (.tmp 71)⟩,
    ⟨(some 73), none, false, .pick (.tmp 70) (.const (.bool true)) (.tmp 72)⟩,
    ⟨(some 74), none, false, .mov (.tmp 73)⟩,
    ⟨(some 75), (some (74, false)), false, .mov (.tmp 9)⟩,
    ⟨(some 76), (some (74, false)), false, .un .not (.tmp 75)⟩,
    ⟨(some 77), none, false, .pick (.tmp 74) (.const (.bool true)) (.tmp 76)⟩,
    ⟨(some 78), none, false, .mov (.tmp 77)⟩,
    ⟨(some 79), (some (78, false)), false, .loadn (.tmp 6) 5⟩,
    ⟨(some 80), (some (78, false)), false, .call op_Check [(.tmp 79)]⟩,
    ⟨(some 81), (some (78, false)), false, .bin .neq (.tmp 80) (.const (.int .i64 0))⟩,
    ⟨(some 82), none, false, .pick (.tmp 78) (.const (.bool true)) (.tmp 81)⟩]) (.cond (.tmp 82) (.seq (.ops [
    ⟨(some 83), none, false, .build [.int .i64 0, .string ⟨#[]⟩, .string ⟨#[]⟩, .int .i64 0, .string ⟨#[]⟩] []⟩,
    ⟨none, none, false, .store (.tmp 2) (.tmp 83) 5⟩,
    ⟨(some 3), none, false, .mov (.const (.int .i64 0))⟩,
    ⟨(some 4), none, false, .mov (.const (.int .i64 5))⟩]) .ret) .skip)) (.seq (.draw [
    ⟨(some 84), none, true, .loadn (.tmp 6) 5⟩,
    ⟨(some 85), none, false, .mov (.tmp 0)⟩,
    ⟨(some 86), none, false, .lens false (.tmp 85)⟩,
    ⟨(some 87), none, false, .mov (.tmp 5)⟩,
    ⟨(some 88), none, true, .call num_Cursor_Left [(.tmp 87)]⟩,
    ⟨(some 89), none, false, .bin .sub (.tmp 86) (.tmp 88)⟩,
    ⟨none, none, false, .store (.tmp 2) (.tmp 84) 5⟩,
    ⟨(some 3), none, false, .mov (.tmp 89)⟩,
    ⟨(some 4), none, false, .mov (.const (.int .i64 0))⟩]) .ret))))))))))
theorem fits_op_Get : Fits Tryd.prog 1 op_Get ic_op_Get [.many 2 5, .tmp 3, .tmp 4] 1 :=
  ⟨Tryd.f31, Tryd.func31, by decide, by kernel_rfl, by kernel_rfl⟩

/-- chantry/chantryref15.Item -/
noncomputable def ic_chantryref15_Item : IC :=
  (.seq (.ops [
    ⟨(some 2), none, false, .new [.string ⟨#[]⟩, .slice none 0 0]⟩]) (.seq (.ops [
    ⟨(some 3), none, false, .mov (.tmp 0)⟩,
    ⟨(some 4), none, false, .call chantryref03_ID [(.tmp 3)]⟩,
    ⟨(some 5), none, false, .mov (.tmp 0)⟩,
    ⟨(some 6), none, false, .build [.string ⟨#[]⟩, .slice none 0 0] [(0, 1, (.tmp 4)), (1, 1, (.tmp 5))]⟩,
    ⟨none, none, false, .store (.tmp 2) (.tmp 6) 2⟩]) .ret))
theorem fits_chantryref15_Item : Fits Tryd.prog 1 chantryref15_Item ic_chantryref15_Item [.many 2 2] 1 :=
  ⟨Tryd.f32, Tryd.func32, by decide, by kernel_rfl, by kernel_rfl⟩

/-- chantry/ids.Rising -/
noncomputable def ic_ids_Rising : IC :=
  (.seq (.ops [
    ⟨(some 2), none, false, .mov (.const (.bool false))⟩]) (.seq (.seq (.ops [
    ⟨(some 5), none, false, .mov (.tmp 0)⟩,
    ⟨(some 6), none, false, .lens false (.tmp 5)⟩,
    ⟨(some 7), none, false, .mov (.const (.int .i64 0))⟩]) (.block 0 (.loop (.seq (.ops [
    ⟨(some 8), none, false, .bin .lss (.tmp 7) (.tmp 6)⟩]) (.seq (.cond (.tmp 8) .skip (.exit 0)) (.seq (.block 1 (.seq (.ops [
    ⟨(some 9), none, false, .mov (.tmp 7)⟩,
    ⟨(some 10), none, false, .iaddr (.tmp 5) (.tmp 7) 1⟩,
    ⟨(some 11), none, false, .load1 (.tmp 10)⟩,
    ⟨(some 3), none, false, .mov (.tmp 9)⟩,
    ⟨(some 4), none, false, .mov (.tmp 11)⟩]) (.seq (.ops [
    ⟨(some 12), none, false, .mov (.tmp 4)⟩,
    ⟨(some 13), none, false, .call ids_Right [(.tmp 12)]⟩,
    ⟨(some 14), none, false, .un .not (.tmp 13)⟩,
    ⟨(some 15), none, false, .mov (.tmp 14)⟩,
    ⟨(some 16), (some (15, false)), false, .mov (.tmp 3)⟩,
    ⟨(some 17), (some (15, false)), false, .bin .gtr (.tmp 16) (.const (.int .i64 0))⟩,
    ⟨(some 18), (some (15, false)), false, .mov (.tmp 17)⟩,
    ⟨(some 19), (some (18, true)), false, .mov (.tmp 0)⟩,
    ⟨(some 20), (some (18, true)), false, .mov (.tmp 3)⟩,
    ⟨(some 21), (some (18, true)), false, .bin .sub (.tmp 20) (.const (.int .i64 1))⟩,
    ⟨(some 22), (some (18, true)), false, .iaddr (.tmp 19) (.tmp 21) 1⟩,
    ⟨(some 23), (some (18, true)), false, .load1 (.tmp 22)⟩,
    ⟨(some 24), (some (18, true)), false, .mov (.tmp 4)⟩,
    ⟨(some 25), (some (18, true)), false, .bin .geq (.tmp 23) (.tmp 24)⟩,
    ⟨(some 26), (some (15, false)), false, .pick (.tmp 18) (.tmp 25) (.const (.bool false))⟩,
    ⟨(some 27), none, false, .pick (.tmp 15) (.const (.bool true)) (.tmp 26)⟩]) (.cond (.tmp 27) (.seq (.ops [
    ⟨(some 2), none, false, .mov (.const (.bool false))⟩]) .ret) .skip)))) (.ops [
    ⟨(some 28), none, false, .bin .add (.tmp 7) (.const (.int .i64 1))⟩,
    ⟨(some 7), none, false, .mov (.tmp 28)⟩]))))))) (.seq (.ops [
    ⟨(some 2), none, false, .mov (.const (.bool true))⟩]) .ret)))
theorem fits_ids_Rising : Fits Tryd.prog 1 ids_Rising ic_ids_Rising [.tmp 2] 1 :=
  ⟨Tryd.f33, Tryd.func33, by decide, by kernel_rfl, by kernel_rfl⟩

/-- chantry/op.Check -/
noncomputable def ic_op_Check : IC :=
  (.seq (.ops [
    ⟨(some 1), none, false, .box (.tmp 0)⟩,
    ⟨(some 2), none, false, .mov (.const (.int .i64 0))⟩]) (.seq (.ops [
    ⟨(some 7), none, false, .faddr (.tmp 1) 0⟩,
    ⟨(some 8), none, false, .load1 (.tmp 7)⟩,
    ⟨(some 9), none, false, .call op_has [(.tmp 8)]⟩,
    ⟨(some 3), none, false, .mov (.tmp 9)⟩]) (.seq (.ops [
    ⟨(some 10), none, false, .mov (.tmp 3)⟩,
    ⟨(some 11), none, false, .bin .and (.tmp 10) (.const (.int .i64 1))⟩,
    ⟨(some 12), none, false, .bin .eql (.tmp 11) (.const (.int .i64 0))⟩,
    ⟨(some 13), none, false, .mov (.tmp 12)⟩,
    ⟨(some 14), (some (13, false)), false, .faddr (.tmp 1) 1⟩,
    ⟨(some 15), (some (13, false)), false, .load1 (.tmp 14)⟩,
    ⟨(some 16), (some (13, false)), false, .call op_Name [(.tmp 15)]⟩,
    ⟨(some 17), none, false, .pick (.tmp 13) (.const (.bool true)) (.tmp 16)⟩,
    ⟨(some 4), none, false, .mov (.tmp 17)⟩]) (.seq (.ops [
    ⟨(some 18), none, false, .faddr (.tmp 1) 2⟩,
    ⟨(some 19), none, false, .load1 (.tmp 18)⟩,
    ⟨(some 20), none, false, .lens true (.tmp 19)⟩,
    ⟨(some 21), none, false, .bin .leq (.tmp 20) (.const (.int .i64 48))⟩,
    ⟨(some 22), none, false, .mov (.tmp 21)⟩,
    ⟨(some 23), (some (22, true)), false, .faddr (.tmp 1) 3⟩,
    ⟨(some 24), (some (22, true)), false, .load1 (.tmp 23)⟩,
    ⟨(some 25), (some (22, true)), false, .bin .geq (.tmp 24) (.const (.int .i64 (-2147483647)))⟩,
    ⟨(some 26), none, false, .pick (.tmp 22) (.tmp 25) (.const (.bool false))⟩,
    ⟨(some 27), none, false, .mov (.tmp 26)⟩,
    ⟨(some 28), (some (27, true)), false, .faddr (.tmp 1) 3⟩,
    ⟨(some 29), (some (27, true)), false, .load1 (.tmp 28)⟩,
    ⟨(some 30), (some (27, true)), false, .bin .leq (.tmp 29) (.const (.int .i64 2147483647))⟩,
    ⟨(some 31), none, false, .pick (.tmp 27) (.tmp 30) (.const (.bool false))⟩,
    ⟨(some 5), none, false, .mov (.tmp 31)⟩]) (.seq (.ops [
    ⟨(some 32), none, false, .faddr (.tmp 1) 4⟩,
    ⟨(some 33), none, false, .load1 (.tmp 32)⟩,
    ⟨(some 34), none, false, .bin .eql (.tmp 33) (.const (.string ⟨#[]⟩))⟩,
    ⟨(some 35), none, false, .mov (.tmp 34)⟩,
    ⟨(some 36), (some (35, false)), false, .faddr (.tmp 1) 4⟩,
    ⟨(some 37), (some (35, false)), false, .load1 (.tmp 36)⟩,
    ⟨(some 38), (some (35, false)), false, .call ids_Right [(.tmp 37)]⟩,
    ⟨(some 39), none, false, .pick (.tmp 35) (.const (.bool true)) (.tmp 38)⟩,
    ⟨(some 6), none, false, .mov (.tmp 39)⟩]) (.seq (.block 0 (.seq (.draw [
    ⟨(some 41), none, false, .mov (.tmp 3)⟩,
    ⟨(some 42), none, false, .bin .lss (.tmp 41) (.const (.int .i64 0))⟩,
    ⟨(some 43), none, false, .mov (.tmp 42)⟩,
    ⟨(some 44), (some (43, false)), false, .loadn (.tmp 1) 5⟩,
    ⟨(some 46), (some (43, false)), true, .loadn (.tmp 1) 5⟩,
    ⟨(some 45), (some (43, false)), true, .call op_bare [(.tmp 44)]⟩,
    ⟨(some 47), (some (43, false)), false, .eqagg true (Tryd.prog.keyLits 8 24) (.tmp 45) (.tmp 46)⟩,
    ⟨(some 48), none, false, .pick (.tmp 43) (.const (.bool true)) (.tmp 47)⟩,
    ⟨(some 49), none, false, .mov (.tmp 48)⟩,
    ⟨(some 50), (some (49, false)), false, .mov (.tmp 4)⟩,
    ⟨(some 51), (some (49, false)), false, .un .not (.tmp 50)⟩,
    ⟨(some 52), none, false, .pick (.tmp 49) (.const (.bool true)) (.tmp 51)⟩,
    ⟨(some 53), none, false, .mov (.tmp 52)⟩,
    ⟨(some 54), (some (53, false)), false, .mov (.tmp 5)⟩,
    ⟨(some 55), (some (53, false)), false, .un .not (.tmp 54)⟩,
    ⟨(some 56), none, false, .pick (.tmp 53) (.const (.bool true)) (.tmp 55)⟩,
    ⟨(some 57), none, false, .mov (.tmp 56)⟩,
    ⟨(some 58), (some (57, false)), false, .mov (.tmp 6)⟩,
    ⟨(some 59), (some (57, false)), false, .un .not (.tmp 58)⟩,
    ⟨(some 60), none, false, .pick (.tmp 57) (.const (.bool true)) (.tmp 59)⟩,
    ⟨(some 40), none, false, .mov (.tmp 60)⟩]) (.cond (.tmp 40) (.seq (.ops [
    ⟨(some 2), none, false, .mov (.const (.int .i64 1))⟩]) .ret) (.seq (.ops [
    ⟨(some 62), none, false, .faddr (.tmp 1) 0⟩,
    ⟨(some 63), none, false, .load1 (.tmp 62)⟩,
    ⟨(some 64), none, false, .bin .eql (.tmp 63) (.const (.int .i64 5))⟩,
    ⟨(some 65), none, false, .mov (.tmp 64)⟩,
    ⟨(some 66), (some (65, true)), false, .faddr (.tmp 1) 2⟩,
    ⟨(some 67), (some (65, true)), false, .load1 (.tmp 66)⟩,
    ⟨(some 68), (some (65, true)), false, .bin .eql (.tmp 67) (.const (.string ⟨#[]⟩))⟩,
    ⟨(some 69), none, false, .pick (.tmp 65) (.tmp 68) (.const (.bool false))⟩,
    ⟨(some 70), none, false, .mov (.tmp 69)⟩,
    ⟨(some 71), (some (70, false)), false, .faddr (.tmp 1) 0⟩,
    ⟨(some 72), (some (70, false)), false, .load1 (.tmp 71)⟩,
    ⟨(some 73), (some (70, false)), false, .bin .eql (.tmp 72) (.const (.int .i64 6))⟩,
    ⟨(some 74), (some (70, false)), false, .mov (.tmp 73)⟩,
    ⟨(some 75), (some (74, true)), false, .faddr (.tmp 1) 4⟩,
    ⟨(some 76), (some (74, true)), false, .load1 (.tmp 75)⟩,
    ⟨(some 77), (some (74, true)), false, .bin .eql (.tmp 76) (.const (.string ⟨#[]⟩))⟩,
    ⟨(some 78), (some (70, false)), false, .pick (.tmp 74) (.tmp 77) (.const (.bool false))⟩,
    ⟨(some 79), none, false, .pick (.tmp 70) (.const (.bool true)) (.tmp 78)⟩,
    ⟨(some 61), none, false, .mov (.tmp 79)⟩]) (.cond (.tmp 61) (.seq (.ops [
    ⟨(some 2), none, false, .mov (.const (.int .i64 1))⟩]) .ret) .skip))))) (.seq (.ops [
    ⟨(some 2), none, false, .mov (.const (.int .i64 0))⟩]) .ret)))))))
theorem fits_op_Check : Fits Tryd.prog 1 op_Check ic_op_Check [.tmp 2] 1 :=
  ⟨Tryd.f34, Tryd.func34, by decide, by kernel_rfl, by kernel_rfl⟩

/-- chantry/chantryref01.Texts -/
noncomputable def ic_chantryref01_Texts : IC :=
  (.seq (.ops [
    ⟨(some 4), none, false, .mov (.const (.bool false))⟩]) (.seq (.seq (.ops [
    ⟨(some 6), none, false, .mov (.tmp 0)⟩,
    ⟨(some 7), none, false, .lens false (.tmp 6)⟩,
    ⟨(some 8), none, false, .mov (.tmp 1)⟩,
    ⟨(some 9), none, false, .lens false (.tmp 8)⟩,
    ⟨(some 10), none, false, .bin .neq (.tmp 7) (.tmp 9)⟩]) (.cond (.tmp 10) (.seq (.ops [
    ⟨(some 4), none, false, .mov (.const (.bool false))⟩]) .ret) .skip)) (.seq (.seq (.ops [
    ⟨(some 5), none, false, .mov (.const (.int .i64 0))⟩]) (.block 0 (.loop (.seq (.seq (.ops [
    ⟨(some 11), none, false, .mov (.tmp 5)⟩,
    ⟨(some 12), none, false, .mov (.tmp 0)⟩,
    ⟨(some 13), none, false, .lens false (.tmp 12)⟩,
    ⟨(some 14), none, false, .bin .lss (.tmp 11) (.tmp 13)⟩]) (.cond (.tmp 14) .skip (.exit 0))) (.seq (.block 1 (.seq (.draw [
    ⟨(some 17), none, false, .mov (.tmp 0)⟩,
    ⟨(some 18), none, false, .mov (.tmp 5)⟩,
    ⟨(some 19), none, false, .iaddr (.tmp 17) (.tmp 18) 1⟩,
    ⟨(some 20), none, false, .load1 (.tmp 19)⟩,
    ⟨(some 21), none, false, .mov (.tmp 1)⟩,
    ⟨(some 22), none, false, .mov (.tmp 5)⟩,
    ⟨(some 23), none, false, .iaddr (.tmp 21) (.tmp 22) 1⟩,
    ⟨(some 24), none, false, .load1 (.tmp 23)⟩,
    ⟨(some 25), none, false, .bin .neq (.tmp 20) (.tmp 24)⟩]) (.cond (.tmp 25) (.seq (.ops [
    ⟨(some 4), none, false, .mov (.const (.bool false))⟩]) .ret) .skip))) (.ops [
    ⟨(some 15), none, false, .mov (.tmp 5)⟩,
    ⟨(some 16), none, false, .bin .add (.tmp 15) (.const (.int .i64 1))⟩,
    ⟨(some 5), none, false, .mov (.tmp 16)⟩])))))) (.seq (.ops [
    ⟨(some 4), none, false, .mov (.const (.bool true))⟩]) .ret))))
theorem fits_chantryref01_Texts : Fits Tryd.prog 1 chantryref01_Texts ic_chantryref01_Texts [.tmp 4] 2 :=
  ⟨Tryd.f35, Tryd.func35, by decide, by kernel_rfl, by kernel_rfl⟩

/-- slices.Equal[[]string,string] -/
noncomputable def ic_slices_Equal_string_string : IC :=
  (.seq (.ops [
    ⟨(some 4), none, false, .mov (.const (.bool false))⟩]) (.seq (.seq (.ops [
    ⟨(some 6), none, false, .mov (.tmp 0)⟩,
    ⟨(some 7), none, false, .lens false (.tmp 6)⟩,
    ⟨(some 8), none, false, .mov (.tmp 1)⟩,
    ⟨(some 9), none, false, .lens false (.tmp 8)⟩,
    ⟨(some 10), none, false, .bin .neq (.tmp 7) (.tmp 9)⟩]) (.cond (.tmp 10) (.seq (.ops [
    ⟨(some 4), none, false, .mov (.const (.bool false))⟩]) .ret) .skip)) (.seq (.seq (.ops [
    ⟨(some 11), none, false, .mov (.tmp 0)⟩,
    ⟨(some 12), none, false, .lens false (.tmp 11)⟩,
    ⟨(some 13), none, false, .mov (.const (.int .i64 0))⟩]) (.block 0 (.loop (.seq (.ops [
    ⟨(some 14), none, false, .bin .lss (.tmp 13) (.tmp 12)⟩]) (.seq (.cond (.tmp 14) .skip (.exit 0)) (.seq (.block 1 (.seq (.ops [
    ⟨(some 15), none, false, .mov (.tmp 13)⟩,
    ⟨(some 5), none, false, .mov (.tmp 15)⟩]) (.seq (.draw [
    ⟨(some 16), none, false, .mov (.tmp 0)⟩,
    ⟨(some 17), none, false, .mov (.tmp 5)⟩,
    ⟨(some 18), none, false, .iaddr (.tmp 16) (.tmp 17) 1⟩,
    ⟨(some 19), none, false, .load1 (.tmp 18)⟩,
    ⟨(some 20), none, false, .mov (.tmp 1)⟩,
    ⟨(some 21), none, false, .mov (.tmp 5)⟩,
    ⟨(some 22), none, false, .iaddr (.tmp 20) (.tmp 21) 1⟩,
    ⟨(some 23), none, false, .load1 (.tmp 22)⟩,
    ⟨(some 24), none, false, .bin .neq (.tmp 19) (.tmp 23)⟩]) (.cond (.tmp 24) (.seq (.ops [
    ⟨(some 4), none, false, .mov (.const (.bool false))⟩]) .ret) .skip)))) (.ops [
    ⟨(some 25), none, false, .bin .add (.tmp 13) (.const (.int .i64 1))⟩,
    ⟨(some 13), none, false, .mov (.tmp 25)⟩]))))))) (.seq (.ops [
    ⟨(some 4), none, false, .mov (.const (.bool true))⟩]) .ret))))
theorem fits_slices_Equal_string_string : Fits Tryd.prog 1 slices_Equal_string_string ic_slices_Equal_string_string [.tmp 4] 2 :=
  ⟨Tryd.f36, Tryd.func36, by decide, by kernel_rfl, by kernel_rfl⟩

/-- chantry/chantryref01.Byte -/
noncomputable def ic_chantryref01_Byte : IC :=
  (.seq (.ops [
    ⟨(some 1), none, false, .box (.tmp 0)⟩,
    ⟨(some 2), none, false, .new [.slice none 0 0, .int .i64 0, .bool false]⟩,
    ⟨(some 3), none, false, .mov (.const (.int .i64 0))⟩]) (.seq (.ops [
    ⟨(some 7), none, false, .loadn (.tmp 1) 3⟩,
    ⟨(some 8), none, false, .call chantryref01_Take [(.tmp 7), (.const (.int .i64 1))]⟩,
    ⟨(some 6), none, false, .mov (.tmp 8)⟩,
    ⟨(some 9), none, false, .ext (.tmp 6) 0⟩,
    ⟨(some 10), none, false, .ext (.tmp 6) 1⟩,
    ⟨(some 4), none, false, .new [.slice none 0 0, .int .i64 0, .bool false]⟩,
    ⟨none, none, false, .store (.tmp 4) (.tmp 9) 3⟩,
    ⟨(some 5), none, false, .mov (.tmp 10)⟩]) (.seq (.seq (.ops [
    ⟨(some 11), none, false, .mov (.tmp 5)⟩,
    ⟨(some 12), none, false, .lens false (.tmp 11)⟩,
    ⟨(some 13), none, false, .bin .eql (.tmp 12) (.const (.int .i64 0))⟩]) (.cond (.tmp 13) (.seq (.ops [
    ⟨(some 14), none, false, .loadn (.tmp 4) 3⟩,
    ⟨none, none, false, .store (.tmp 2) (.tmp 14) 3⟩,
    ⟨(some 3), none, false, .mov (.const (.int .i64 0))⟩]) .ret) .skip)) (.seq (.draw [
    ⟨(some 15), none, false, .loadn (.tmp 4) 3⟩,
    ⟨(some 16), none, false, .mov (.tmp 5)⟩,
    ⟨(some 17), none, false, .iaddr (.tmp 16) (.const (.int .i64 0)) 1⟩,
    ⟨(some 18), none, true, .load1 (.tmp 17)⟩,
    ⟨(some 19), none, false, .conv .i64 (.tmp 18)⟩,
    ⟨none, none, true, .store (.tmp 2) (.tmp 15) 3⟩,
    ⟨(some 3), none, false, .mov (.tmp 19)⟩]) .ret))))
theorem fits_chantryref01_Byte : Fits Tryd.prog 1 chantryref01_Byte ic_chantryref01_Byte [.many 2 3, .tmp 3] 1 :=
  ⟨Tryd.f37, Tryd.func37, by decide, by kernel_rfl, by kernel_rfl⟩

/-- chantry/chantryref01.From -/
noncomputable def ic_chantryref01_From : IC :=
  (.seq (.ops [
    ⟨(some 2), none, false, .new [.slice none 0 0, .int .i64 0, .bool false]⟩]) (.seq (.ops [
    ⟨(some 3), none, false, .mov (.tmp 0)⟩,
    ⟨(some 4), none, false, .build [.slice none 0 0, .int .i64 0, .bool false] [(0, 1, (.tmp 3))]⟩,
    ⟨none, none, false, .store (.tmp 2) (.tmp 4) 3⟩]) .ret))
theorem fits_chantryref01_From : Fits Tryd.prog 1 chantryref01_From ic_chantryref01_From [.many 2 3] 1 :=
  ⟨Tryd.f38, Tryd.func38, by decide, by kernel_rfl, by kernel_rfl⟩

/-- chantry/chantryref01.Take -/
noncomputable def ic_chantryref01_Take : IC :=
  (.seq (.ops [
    ⟨(some 2), none, false, .box (.tmp 0)⟩,
    ⟨(some 4), none, false, .new [.slice none 0 0, .int .i64 0, .bool false]⟩,
    ⟨(some 5), none, false, .mov (.const (.slice none 0 0))⟩]) (.seq (.seq (.ops [
    ⟨(some 6), none, false, .faddr (.tmp 2) 2⟩,
    ⟨(some 7), none, false, .load1 (.tmp 6)⟩,
    ⟨(some 8), none, false, .mov (.tmp 7)⟩,
    ⟨(some 9), (some (8, false)), false, .mov (.tmp 1)⟩,
    ⟨(some 10), (some (8, false)), false, .bin .lss (.tmp 9) (.const (.int .i64 0))⟩,
    ⟨(some 11), none, false, .pick (.tmp 8) (.const (.bool true)) (.tmp 10)⟩,
    ⟨(some 12), none, false, .mov (.tmp 11)⟩,
    ⟨(some 13), (some (12, false)), false, .mov (.tmp 1)⟩,
    ⟨(some 14), (some (12, false)), false, .faddr (.tmp 2) 0⟩,
    ⟨(some 15), (some (12, false)), false, .load1 (.tmp 14)⟩,
    ⟨(some 16), (some (12, false)), false, .lens false (.tmp 15)⟩,
    ⟨(some 17), (some (12, false)), false, .faddr (.tmp 2) 1⟩,
    ⟨(some 18), (some (12, false)), false, .load1 (.tmp 17)⟩,
    ⟨(some 19), (some (12, false)), false, .bin .sub (.tmp 16) (.tmp 18)⟩,
    ⟨(some 20), (some (12, false)), false, .bin .gtr (.tmp 13) (.tmp 19)⟩,
    ⟨(some 21), none, false, .pick (.tmp 12) (.const (.bool true)) (.tmp 20)⟩]) (.cond (.tmp 21) (.seq (.ops [
    ⟨(some 22), none, false, .loadn (.tmp 2) 3⟩,
    ⟨(some 23), none, false, .call chantryref01_spoilt [(.tmp 22)]⟩,
    ⟨none, none, false, .store (.tmp 4) (.tmp 23) 3⟩,
    ⟨(some 5), none, false, .mov (.const (.slice none 0 0))⟩]) .ret) .skip)) (.seq (.draw [
    ⟨(some 24), none, false, .faddr (.tmp 2) 0⟩,
    ⟨(some 25), none, false, .load1 (.tmp 24)⟩,
    ⟨(some 26), none, false, .faddr (.tmp 2) 1⟩,
    ⟨(some 27), none, false, .load1 (.tmp 26)⟩,
    ⟨(some 28), none, false, .mov (.tmp 1)⟩,
    ⟨(some 29), none, false, .bin .add (.tmp 27) (.tmp 28)⟩,
    ⟨(some 30), none, false, .build [.slice none 0 0, .int .i64 0, .bool false] [(0, 1, (.tmp 25)), (1, 1, (.tmp 29))]⟩,
    ⟨(some 31), none, false, .faddr (.tmp 2) 0⟩,
    ⟨(some 32), none, true, .load1 (.tmp 31)⟩,
    ⟨(some 33), none, false, .faddr (.tmp 2) 1⟩,
    ⟨(some 34), none, true, .load1 (.tmp 33)⟩,
    ⟨(some 35), none, false, .faddr (.tmp 2) 1⟩,
    ⟨(some 36), none, true, .load1 (.tmp 35)⟩,
    ⟨(some 37), none, false, .mov (.tmp 1)⟩,
    ⟨(some 38), none, false, .bin .add (.tmp 36) (.tmp 37)⟩,
    ⟨(some 39), none, true, .sll (.tmp 32) (some (.tmp 34)) (some (.tmp 38)) none 1⟩,
    ⟨none, none, true, .store (.tmp 4) (.tmp 30) 3⟩,
    ⟨(some 5), none, false, .mov (.tmp 39)⟩]) .ret)))
theorem fits_chantryref01_Take : Fits Tryd.prog 1 chantryref01_Take ic_chantryref01_Take [.many 4 3, .tmp 5] 2 :=
  ⟨Tryd.f39, Tryd.func39, by decide, by kernel_rfl, by kernel_rfl⟩

/-- chantry/chantryref14.Get -/
noncomputable def ic_chantryref14_Get : IC :=
  (.seq (.ops [
    ⟨(some 2), none, false, .new [.int .i64 0, .string ⟨#[]⟩, .string ⟨#[]⟩, .int .i64 0, .string ⟨#[]⟩]⟩,
    ⟨(some 3), none, false, .mov (.const (.int .i64 0))⟩,
    ⟨(some 4), none, false, .mov (.const (.int .i64 0))⟩]) (.seq (.ops [
    ⟨(some 29), none, false, .mov (.tmp 0)⟩,
    ⟨(some 30), none, false, .call chantryref01_From [(.tmp 29)]⟩,
    ⟨(some 5), none, false, .new [.slice none 0 0, .int .i64 0, .bool false]⟩,
    ⟨none, none, false, .store (.tmp 5) (.tmp 30) 3⟩]) (.seq (.ops [
    ⟨(some 32), none, false, .loadn (.tmp 5) 3⟩,
    ⟨(some 33), none, false, .call chantryref01_Byte [(.tmp 32)]⟩,
    ⟨(some 31), none, false, .mov (.tmp 33)⟩,
    ⟨(some 34), none, false, .ext (.tmp 31) 0⟩,
    ⟨(some 35), none, false, .ext (.tmp 31) 1⟩,
    ⟨none, none, false, .store (.tmp 5) (.tmp 34) 3⟩,
    ⟨(some 6), none, false, .mov (.tmp 35)⟩]) (.seq (.ops [
    ⟨(some 36), none, false, .mov (.tmp 6)⟩,
    ⟨(some 37), none, false, .build [.int .i64 0, .string ⟨#[]⟩, .string ⟨#[]⟩, .int .i64 0, .string ⟨#[]⟩] [(0, 1, (.tmp 36))]⟩,
    ⟨(some 7), none, false, .new [.int .i64 0, .string ⟨#[]⟩, .string ⟨#[]⟩, .int .i64 0, .string ⟨#[]⟩]⟩,
    ⟨none, none, false, .store (.tmp 7) (.tmp 37) 5⟩]) (.seq (.ops [
    ⟨(some 39), none, false, .mov (.tmp 6)⟩,
    ⟨(some 40), none, false, .call chantryref14_Has [(.tmp 39)]⟩,
    ⟨(some 38), none, false, .mov (.tmp 40)⟩,
    ⟨(some 41), none, false, .ext (.tmp 38) 0⟩,
    ⟨(some 42), none, false, .ext (.tmp 38) 1⟩,
    ⟨(some 43), none, false, .ext (.tmp 38) 2⟩,
    ⟨(some 44), none, false, .ext (.tmp 38) 3⟩,
    ⟨(some 45), none, false, .ext (.tmp 38) 4⟩,
    ⟨(some 8), none, false, .mov (.tmp 41)⟩,
    ⟨(some 9), none, false, .mov (.tmp 42)⟩,
    ⟨(some 10), none, false, .mov (.tmp 43)⟩,
    ⟨(some 11), none, false, .mov (.tmp 44)⟩,
    ⟨(some 12), none, false, .mov (.tmp 45)⟩]) (.seq (.seq (.ops [
    ⟨(some 46), none, false, .mov (.tmp 8)⟩]) (.cond (.tmp 46) (.seq (.ops [
    ⟨(some 48), none, false, .loadn (.tmp 5) 3⟩,
    ⟨(some 49), none, false, .call chantryref01_TakeText [(.tmp 48)]⟩,
    ⟨(some 47), none, false, .mov (.tmp 49)⟩,
    ⟨(some 50), none, false, .ext (.tmp 47) 0⟩,
    ⟨(some 51), none, false, .ext (.tmp 47) 1⟩,
    ⟨(some 13), none, false, .new [.slice none 0 0, .int .i64 0, .bool false]⟩,
    ⟨none, none, false, .store (.tmp 13) (.tmp 50) 3⟩,
    ⟨(some 14), none, false, .mov (.tmp 51)⟩]) (.seq (.ops [
    ⟨(some 52), none, false, .loadn (.tmp 13) 3⟩,
    ⟨none, none, false, .store (.tmp 5) (.tmp 52) 3⟩]) (.ops [
    ⟨(some 53), none, false, .mov (.tmp 14)⟩,
    ⟨(some 54), none, false, .b2s (.tmp 53)⟩,
    ⟨(some 55), none, false, .faddr (.tmp 7) 1⟩,
    ⟨none, none, false, .store (.tmp 55) (.tmp 54) 1⟩]))) .skip)) (.seq (.seq (.ops [
    ⟨(some 56), none, false, .mov (.tmp 9)⟩]) (.cond (.tmp 56) (.seq (.ops [
    ⟨(some 58), none, false, .loadn (.tmp 5) 3⟩,
    ⟨(some 59), none, false, .call chantryref01_TakeText [(.tmp 58)]⟩,
    ⟨(some 57), none, false, .mov (.tmp 59)⟩,
    ⟨(some 60), none, false, .ext (.tmp 57) 0⟩,
    ⟨(some 61), none, false, .ext (.tmp 57) 1⟩,
    ⟨(some 15), none, false, .new [.slice none 0 0, .int .i64 0, .bool false]⟩,
    ⟨none, none, false, .store (.tmp 15) (.tmp 60) 3⟩,
    ⟨(some 16), none, false, .mov (.tmp 61)⟩]) (.seq (.ops [
    ⟨(some 62), none, false, .loadn (.tmp 15) 3⟩,
    ⟨none, none, false, .store (.tmp 5) (.tmp 62) 3⟩]) (.ops [
    ⟨(some 63), none, false, .mov (.tmp 16)⟩,
    ⟨(some 64), none, false, .b2s (.tmp 63)⟩,
    ⟨(some 65), none, false, .faddr (.tmp 7) 2⟩,
    ⟨none, none, false, .store (.tmp 65) (.tmp 64) 1⟩]))) .skip)) (.seq (.seq (.ops [
    ⟨(some 66), none, false, .mov (.tmp 10)⟩]) (.cond (.tmp 66) (.seq (.ops [
    ⟨(some 68), none, false, .loadn (.tmp 5) 3⟩,
    ⟨(some 69), none, false, .call chantryref01_Byte [(.tmp 68)]⟩,
    ⟨(some 67), none, false, .mov (.tmp 69)⟩,
    ⟨(some 70), none, false, .ext (.tmp 67) 0⟩,
    ⟨(some 71), none, false, .ext (.tmp 67) 1⟩,
    ⟨(some 17), none, false, .new [.slice none 0 0, .int .i64 0, .bool false]⟩,
    ⟨none, none, false, .store (.tmp 17) (.tmp 70) 3⟩,
    ⟨(some 18), none, false, .mov (.tmp 71)⟩]) (.seq (.ops [
    ⟨(some 73), none, false, .loadn (.tmp 17) 3⟩,
    ⟨(some 74), none, false, .call chantryref01_Take [(.tmp 73), (.const (.int .i64 4))]⟩,
    ⟨(some 72), none, false, .mov (.tmp 74)⟩,
    ⟨(some 75), none, false, .ext (.tmp 72) 0⟩,
    ⟨(some 76), none, false, .ext (.tmp 72) 1⟩,
    ⟨(some 19), none, false, .new [.slice none 0 0, .int .i64 0, .bool false]⟩,
    ⟨none, none, false, .store (.tmp 19) (.tmp 75) 3⟩,
    ⟨(some 20), none, false, .mov (.tmp 76)⟩]) (.seq (.ops [
    ⟨(some 77), none, false, .loadn (.tmp 19) 3⟩,
    ⟨none, none, false, .store (.tmp 5) (.tmp 77) 3⟩]) (.seq (.seq (.ops [
    ⟨(some 78), none, false, .mov (.tmp 20)⟩,
    ⟨(some 79), none, false, .lens false (.tmp 78)⟩,
    ⟨(some 80), none, false, .bin .eql (.tmp 79) (.const (.int .i64 4))⟩]) (.cond (.tmp 80) (.ops [
    ⟨(some 82), none, false, .mov (.tmp 20)⟩,
    ⟨(some 83), none, false, .call chantryref01_Unfix [(.tmp 82)]⟩,
    ⟨(some 81), none, false, .mov (.tmp 83)⟩,
    ⟨(some 84), none, false, .ext (.tmp 81) 0⟩,
    ⟨(some 85), none, false, .ext (.tmp 81) 1⟩,
    ⟨(some 86), none, false, .faddr (.tmp 7) 3⟩,
    ⟨none, none, false, .store (.tmp 86) (.tmp 84) 1⟩]) .skip)) (.seq (.ops [
    ⟨(some 87), none, false, .mov (.tmp 18)⟩,
    ⟨(some 88), none, false, .bin .eql (.tmp 87) (.const (.int .i64 1))⟩]) (.cond (.tmp 88) (.ops [
    ⟨(some 89), none, false, .faddr (.tmp 7) 3⟩,
    ⟨(some 90), none, false, .load1 (.tmp 89)⟩,
    ⟨(some 91), none, false, .un .neg (.tmp 90)⟩,
    ⟨(some 92), none, false, .faddr (.tmp 7) 3⟩,
    ⟨none, none, false, .store (.tmp 92) (.tmp 91) 1⟩]) .skip)))))) .skip)) (.seq (.ops [
    ⟨(some 21), none, false, .mov (.const (.int .i64 1))⟩]) (.seq (.seq (.ops [
    ⟨(some 93), none, false, .mov (.tmp 11)⟩,
    ⟨(some 94), none, false, .mov (.tmp 93)⟩,
    ⟨(some 95), (some (94, true)), false, .mov (.tmp 6)⟩,
    ⟨(some 96), (some (94, true)), false, .bin .eql (.tmp 95) (.const (.int .i64 5))⟩,
    ⟨(some 97), none, false, .pick (.tmp 94) (.tmp 96) (.const (.bool false))⟩]) (.cond (.tmp 97) (.seq (.ops [
    ⟨(some 99), none, false, .loadn (.tmp 5) 3⟩,
    ⟨(some 100), none, false, .call chantryref01_Byte [(.tmp 99)]⟩,
    ⟨(some 98), none, false, .mov (.tmp 100)⟩,
    ⟨(some 101), none, false, .ext (.tmp 98) 0⟩,
    ⟨(some 102), none, false, .ext (.tmp 98) 1⟩,
    ⟨(some 22), none, false, .new [.slice none 0 0, .int .i64 0, .bool false]⟩,
    ⟨none, none, false, .store (.tmp 22) (.tmp 101) 3⟩,
    ⟨(some 23), none, false, .mov (.tmp 102)⟩]) (.seq (.ops [
    ⟨(some 103), none, false, .loadn (.tmp 22) 3⟩,
    ⟨none, none, false, .store (.tmp 5) (.tmp 103) 3⟩]) (.ops [
    ⟨(some 104), none, false, .mov (.tmp 23)⟩,
    ⟨(some 21), none, false, .mov (.tmp 104)⟩]))) .skip)) (.seq (.seq (.ops [
    ⟨(some 105), none, false, .mov (.tmp 11)⟩,
    ⟨(some 106), none, false, .mov (.tmp 105)⟩,
    ⟨(some 107), (some (106, true)), false, .mov (.tmp 21)⟩,
    ⟨(some 108), (some (106, true)), false, .bin .eql (.tmp 107) (.const (.int .i64 1))⟩,
    ⟨(some 109), none, false, .pick (.tmp 106) (.tmp 108) (.const (.bool false))⟩]) (.cond (.tmp 109) (.seq (.ops [
    ⟨(some 111), none, false, .loadn (.tmp 5) 3⟩,
    ⟨(some 112), none, false, .call chantryref01_Take [(.tmp 111), (.const (.int .i64 32))]⟩,
    ⟨(some 110), none, false, .mov (.tmp 112)⟩,
    ⟨(some 113), none, false, .ext (.tmp 110) 0⟩,
    ⟨(some 114), none, false, .ext (.tmp 110) 1⟩,
    ⟨(some 24), none, false, .new [.slice none 0 0, .int .i64 0, .bool false]⟩,
    ⟨none, none, false, .store (.tmp 24) (.tmp 113) 3⟩,
    ⟨(some 25), none, false, .mov (.tmp 114)⟩]) (.seq (.ops [
    ⟨(some 115), none, false, .loadn (.tmp 24) 3⟩,
    ⟨none, none, false, .store (.tmp 5) (.tmp 115) 3⟩]) (.ops [
    ⟨(some 116), none, false, .mov (.tmp 25)⟩,
    ⟨(some 117), none, false, .b2s (.tmp 116)⟩,
    ⟨(some 118), none, false, .faddr (.tmp 7) 4⟩,
    ⟨none, none, false, .store (.tmp 118) (.tmp 117) 1⟩]))) .skip)) (.seq (.ops [
    ⟨(some 120), none, false, .loadn (.tmp 7) 5⟩,
    ⟨(some 121), none, false, .call chantryref14_Put [(.tmp 120)]⟩,
    ⟨(some 119), none, false, .mov (.tmp 121)⟩,
    ⟨(some 122), none, false, .ext (.tmp 119) 0⟩,
    ⟨(some 123), none, false, .ext (.tmp 119) 1⟩,
    ⟨(some 26), none, false, .mov (.tmp 122)⟩,
    ⟨(some 27), none, false, .mov (.tmp 123)⟩]) (.seq (.ops [
    ⟨(some 124), none, false, .mov (.tmp 0)⟩,
    ⟨(some 125), none, false, .lens false (.tmp 124)⟩,
    ⟨(some 126), none, false, .loadn (.tmp 5) 3⟩,
    ⟨(some 127), none, false, .call chantryref01_Left [(.tmp 126)]⟩,
    ⟨(some 128), none, false, .bin .sub (.tmp 125) (.tmp 127)⟩,
    ⟨(some 28), none, false, .mov (.tmp 128)⟩]) (.seq (.seq (.draw [
    ⟨(some 129), none, false, .faddr (.tmp 5) 2⟩,
    ⟨(some 130), none, false, .load1 (.tmp 129)⟩,
    ⟨(some 131), none, false, .mov (.tmp 130)⟩,
    ⟨(some 132), (some (131, false)), false, .mov (.tmp 27)⟩,
    ⟨(some 133), (some (131, false)), false, .bin .neq (.tmp 132) (.const (.int .i64 0))⟩,
    ⟨(some 134), none, false, .pick (.tmp 131) (.const (.bool true)) (.tmp 133)⟩,
    ⟨(some 135), none, false, .mov (.tmp 134)⟩,
    ⟨(some 136), (some (135, false)), false, .mov (.tmp 26)⟩,
    ⟨(some 137), (some (135, false)), false, .b2s (.tmp 136)⟩,
    ⟨(some 138), (some (135, false)), false, .mov (.tmp 0)⟩,
    ⟨(some 139), (some (135, false)), false, .mov (.tmp 28)⟩,
    ⟨(some 140), (some (135, false)), false, .sll (.tmp 138) none (some (.tmp 139)) none 1⟩,
    ⟨(some 141), (some (135, false)), false, .b2s (.tmp 140)⟩,
    ⟨(some 142), (some (135, false)), false, .bin .neq (.tmp 137) (.tmp 141)⟩,
    ⟨(some 143), none, false, .pick (.tmp 135) (.const (.bool true)) (.tmp 142)⟩]) (.cond (.tmp 143) (.seq (.ops [
    ⟨(some 144), none, false, .build [.int .i64 0, .string ⟨#[]⟩, .string ⟨#[]⟩, .int .i64 0, .string ⟨#[]⟩] []⟩,
    ⟨none, none, false, .store (.tmp 2) (.tmp 144) 5⟩,
    ⟨(some 3), none, false, .mov (.const (.int .i64 0))⟩,
    ⟨(some 4), none, false, .mov (.const (.int .i64 5))⟩]) .ret) .skip)) (.seq (.ops [
    ⟨(some 145), none, false, .loadn (.tmp 7) 5⟩,
    ⟨(some 146), none, false, .mov (.tmp 28)⟩,
    ⟨none, none, false, .store (.tmp 2) (.tmp 145) 5⟩,
    ⟨(some 3), none, false, .mov (.tmp 146)⟩,
    ⟨(some 4), none, false, .mov (.const (.int .i64 0))⟩]) .ret)))))))))))))))
theorem fits_chantryref14_Get : Fits Tryd.prog 1 chantryref14_Get ic_chantryref14_Get [.many 2 5, .tmp 3, .tmp 4] 1 :=
  ⟨Tryd.f40, Tryd.func40, by decide, by kernel_rfl, by kernel_rfl⟩

/-- chantry/chantryref01.Left -/
noncomputable def ic_chantryref01_Left : IC :=
  (.seq (.ops [
    ⟨(some 1), none, false, .box (.tmp 0)⟩,
    ⟨(some 2), none, false, .mov (.const (.int .i64 0))⟩]) (.seq (.seq (.ops [
    ⟨(some 3), none, false, .faddr (.tmp 1) 2⟩,
    ⟨(some 4), none, false, .load1 (.tmp 3)⟩]) (.cond (.tmp 4) (.seq (.ops [
    ⟨(some 2), none, false, .mov (.const (.int .i64 0))⟩]) .ret) .skip)) (.seq (.ops [
    ⟨(some 5), none, false, .faddr (.tmp 1) 0⟩,
    ⟨(some 6), none, false, .load1 (.tmp 5)⟩,
    ⟨(some 7), none, false, .lens false (.tmp 6)⟩,
    ⟨(some 8), none, false, .faddr (.tmp 1) 1⟩,
    ⟨(some 9), none, false, .load1 (.tmp 8)⟩,
    ⟨(some 10), none, false, .bin .sub (.tmp 7) (.tmp 9)⟩,
    ⟨(some 2), none, false, .mov (.tmp 10)⟩]) .ret)))
theorem fits_chantryref01_Left : Fits Tryd.prog 1 chantryref01_Left ic_chantryref01_Left [.tmp 2] 1 :=
  ⟨Tryd.f41, Tryd.func41, by decide, by kernel_rfl, by kernel_rfl⟩

/-- chantry/sha.ID -/
noncomputable def ic_sha_ID : IC :=
  (.seq (.ops [
    ⟨(some 2), none, false, .mov (.const (.string ⟨#[]⟩))⟩]) (.seq (.ops [
    ⟨(some 4), none, false, .call sha_Begin []⟩,
    ⟨(some 3), none, false, .mov (.tmp 4)⟩]) (.seq (.ops [
    ⟨(some 5), none, false, .mov (.tmp 3)⟩,
    ⟨(some 6), none, false, .mov (.tmp 0)⟩,
    ⟨(some 7), none, false, .call sha_Hash_Add [(.tmp 5), (.tmp 6)]⟩]) (.seq (.ops [
    ⟨(some 8), none, false, .mov (.tmp 3)⟩,
    ⟨(some 9), none, false, .call sha_Hash_Sum [(.tmp 8)]⟩,
    ⟨(some 2), none, false, .mov (.tmp 9)⟩]) .ret))))
theorem fits_sha_ID : Fits Tryd.prog 1 sha_ID ic_sha_ID [.tmp 2] 1 :=
  ⟨Tryd.f42, Tryd.func42, by decide, by kernel_rfl, by kernel_rfl⟩

/-- slices.Clone[[]byte,byte] -/
noncomputable def ic_slices_Clone_byte_byte : IC :=
  (.seq (.ops [
    ⟨(some 2), none, false, .mov (.const (.slice none 0 0))⟩]) (.seq (.seq (.ops [
    ⟨(some 3), none, false, .mov (.tmp 0)⟩,
    ⟨(some 4), none, false, .isnil (.slice 5) (.tmp 3) false⟩]) (.cond (.tmp 4) (.seq (.ops [
    ⟨(some 2), none, false, .mov (.const (.slice none 0 0))⟩]) .ret) .skip)) (.seq (.ops [
    ⟨(some 5), none, false, .lit [.int .u8 0] 1 0 []⟩,
    ⟨(some 6), none, false, .mov (.tmp 0)⟩,
    ⟨(some 7), none, false, .app (.tmp 5) (.tmp 6) 1 1⟩,
    ⟨(some 2), none, false, .mov (.tmp 7)⟩]) .ret)))
theorem fits_slices_Clone_byte_byte : Fits Tryd.prog 1 slices_Clone_byte_byte ic_slices_Clone_byte_byte [.tmp 2] 1 :=
  ⟨Tryd.f43, Tryd.func43, by decide, by kernel_rfl, by kernel_rfl⟩

/-- chantry/chantryref03.rounds -/
noncomputable def ic_chantryref03_rounds : IC :=
  (.seq (.ops [
    ⟨(some 0), none, false, .mov (.const (.slice none 0 0))⟩]) (.seq (.ops [
    ⟨(some 1), none, false, .lit [.int .u32 0] 1 64 [(0, 1, (.const (.int .u32 1116352408))), (1, 1, (.const (.int .u32 1899447441))), (2, 1, (.const (.int .u32 3049323471))), (3, 1, (.const (.int .u32 3921009573))), (4, 1, (.const (.int .u32 961987163))), (5, 1, (.const (.int .u32 1508970993))), (6, 1, (.const (.int .u32 2453635748))), (7, 1, (.const (.int .u32 2870763221))), (8, 1, (.const (.int .u32 3624381080))), (9, 1, (.const (.int .u32 310598401))), (10, 1, (.const (.int .u32 607225278))), (11, 1, (.const (.int .u32 1426881987))), (12, 1, (.const (.int .u32 1925078388))), (13, 1, (.const (.int .u32 2162078206))), (14, 1, (.const (.int .u32 2614888103))), (15, 1, (.const (.int .u32 3248222580))), (16, 1, (.const (.int .u32 3835390401))), (17, 1, (.const (.int .u32 4022224774))), (18, 1, (.const (.int .u32 264347078))), (19, 1, (.const (.int .u32 604807628))), (20, 1, (.const (.int .u32 770255983))), (21, 1, (.const (.int .u32 1249150122))), (22, 1, (.const (.int .u32 1555081692))), (23, 1, (.const (.int .u32 1996064986))), (24, 1, (.const (.int .u32 2554220882))), (25, 1, (.const (.int .u32 2821834349))), (26, 1, (.const (.int .u32 2952996808))), (27, 1, (.const (.int .u32 3210313671))), (28, 1, (.const (.int .u32 3336571891))), (29, 1, (.const (.int .u32 3584528711))), (30, 1, (.const (.int .u32 113926993))), (31, 1, (.const (.int .u32 338241895))), (32, 1, (.const (.int .u32 666307205))), (33, 1, (.const (.int .u32 773529912))), (34, 1, (.const (.int .u32 1294757372))), (35, 1, (.const (.int .u32 1396182291))), (36, 1, (.const (.int .u32 1695183700))), (37, 1, (.const (.int .u32 1986661051))), (38, 1, (.const (.int .u32 2177026350))), (39, 1, (.const (.int .u32 2456956037))), (40, 1, (.const (.int .u32 2730485921))), (41, 1, (.const (.int .u32 2820302411))), (42, 1, (.const (.int .u32 3259730800))), (43, 1, (.const (.int .u32 3345764771))), (44, 1, (.const (.int .u32 3516065817))), (45, 1, (.const (.int .u32 3600352804))), (46, 1, (.const (.int .u32 4094571909))), (47, 1, (.const (.int .u32 275423344))), (48, 1, (.const (.int .u32 430227734))), (49, 1, (.const (.int .u32 506948616))), (50, 1, (.const (.int .u32 659060556))), (51, 1, (.const (.int .u32 883997877))), (52, 1, (.const (.int .u32 958139571))), (53, 1, (.const (.int .u32 1322822218))), (54, 1, (.const (.int .u32 1537002063))), (55, 1, (.const (.int .u32 1747873779))), (56, 1, (.const (.int .u32 1955562222))), (57, 1, (.const (.int .u32 2024104815))), (58, 1, (.const (.int .u32 2227730452))), (59, 1, (.const (.int .u32 2361852424))), (60, 1, (.const (.int .u32 2428436474))), (61, 1, (.const (.int .u32 2756734187))), (62, 1, (.const (.int .u32 3204031479))), (63, 1, (.const (.int .u32 3329325298)))]⟩,
    ⟨(some 0), none, false, .mov (.tmp 1)⟩]) .ret))
theorem fits_chantryref03_rounds : Fits Tryd.prog 1 chantryref03_rounds ic_chantryref03_rounds [.tmp 0] 0 :=
  ⟨Tryd.f44, Tryd.func44, by decide, by kernel_rfl, by kernel_rfl⟩

/-- chantry/chantryref03.block -/
noncomputable def ic_chantryref03_block : IC :=
  (.seq (.ops [
    ⟨(some 6), none, false, .mov (.const (.slice none 0 0))⟩]) (.seq (.ops [
    ⟨(some 21), none, false, .mov (.tmp 1)⟩,
    ⟨(some 22), none, false, .call chantryref03_schedule [(.tmp 21)]⟩,
    ⟨(some 7), none, false, .mov (.tmp 22)⟩]) (.seq (.draw [
    ⟨(some 23), none, false, .mov (.tmp 0)⟩,
    ⟨(some 24), none, false, .iaddr (.tmp 23) (.const (.int .i64 0)) 1⟩,
    ⟨(some 25), none, false, .load1 (.tmp 24)⟩,
    ⟨(some 26), none, false, .mov (.tmp 0)⟩,
    ⟨(some 27), none, false, .iaddr (.tmp 26) (.const (.int .i64 1)) 1⟩,
    ⟨(some 28), none, false, .load1 (.tmp 27)⟩,
    ⟨(some 29), none, false, .mov (.tmp 0)⟩,
    ⟨(some 30), none, false, .iaddr (.tmp 29) (.const (.int .i64 2)) 1⟩,
    ⟨(some 31), none, false, .load1 (.tmp 30)⟩,
    ⟨(some 32), none, false, .mov (.tmp 0)⟩,
    ⟨(some 33), none, false, .iaddr (.tmp 32) (.const (.int .i64 3)) 1⟩,
    ⟨(some 34), none, false, .load1 (.tmp 33)⟩,
    ⟨(some 35), none, false, .mov (.tmp 0)⟩,
    ⟨(some 36), none, false, .iaddr (.tmp 35) (.const (.int .i64 4)) 1⟩,
    ⟨(some 37), none, false, .load1 (.tmp 36)⟩,
    ⟨(some 38), none, false, .mov (.tmp 0)⟩,
    ⟨(some 39), none, false, .iaddr (.tmp 38) (.const (.int .i64 5)) 1⟩,
    ⟨(some 40), none, false, .load1 (.tmp 39)⟩,
    ⟨(some 41), none, false, .mov (.tmp 0)⟩,
    ⟨(some 42), none, false, .iaddr (.tmp 41) (.const (.int .i64 6)) 1⟩,
    ⟨(some 43), none, false, .load1 (.tmp 42)⟩,
    ⟨(some 44), none, false, .mov (.tmp 0)⟩,
    ⟨(some 45), none, false, .iaddr (.tmp 44) (.const (.int .i64 7)) 1⟩,
    ⟨(some 46), none, false, .load1 (.tmp 45)⟩,
    ⟨(some 8), none, false, .mov (.tmp 25)⟩,
    ⟨(some 9), none, false, .mov (.tmp 28)⟩,
    ⟨(some 10), none, false, .mov (.tmp 31)⟩,
    ⟨(some 11), none, false, .mov (.tmp 34)⟩,
    ⟨(some 12), none, false, .mov (.tmp 37)⟩,
    ⟨(some 13), none, false, .mov (.tmp 40)⟩,
    ⟨(some 14), none, false, .mov (.tmp 43)⟩,
    ⟨(some 15), none, false, .mov (.tmp 46)⟩]) (.seq (.seq (.ops [
    ⟨(some 16), none, false, .mov (.const (.int .i64 0))⟩]) (.block 0 (.loop (.seq (.seq (.ops [
    ⟨(some 47), none, false, .mov (.tmp 16)⟩,
    ⟨(some 48), none, false, .bin .lss (.tmp 47) (.const (.int .i64 64))⟩]) (.cond (.tmp 48) .skip (.exit 0))) (.seq (.block 1 (.seq (.ops [
    ⟨(some 51), none, false, .mov (.tmp 12)⟩,
    ⟨(some 52), none, false, .call chantryref03_turn [(.tmp 51), (.const (.int .u32 6))]⟩,
    ⟨(some 53), none, false, .mov (.tmp 12)⟩,
    ⟨(some 54), none, false, .call chantryref03_turn [(.tmp 53), (.const (.int .u32 11))]⟩,
    ⟨(some 55), none, false, .bin .xor (.tmp 52) (.tmp 54)⟩,
    ⟨(some 56), none, false, .mov (.tmp 12)⟩,
    ⟨(some 57), none, false, .call chantryref03_turn [(.tmp 56), (.const (.int .u32 25))]⟩,
    ⟨(some 58), none, false, .bin .xor (.tmp 55) (.tmp 57)⟩,
    ⟨(some 17), none, false, .mov (.tmp 58)⟩]) (.seq (.draw [
    ⟨(some 59), none, false, .mov (.tmp 15)⟩,
    ⟨(some 60), none, false, .mov (.tmp 17)⟩,
    ⟨(some 61), none, false, .bin .add (.tmp 59) (.tmp 60)⟩,
    ⟨(some 62), none, false, .mov (.tmp 12)⟩,
    ⟨(some 63), none, false, .mov (.tmp 13)⟩,
    ⟨(some 64), none, false, .bin .and (.tmp 62) (.tmp 63)⟩,
    ⟨(some 65), none, false, .mov (.tmp 12)⟩,
    ⟨(some 66), none, false, .bin .xor (.tmp 65) (.const (.int .u32 4294967295))⟩,
    ⟨(some 67), none, false, .mov (.tmp 14)⟩,
    ⟨(some 68), none, false, .bin .and (.tmp 66) (.tmp 67)⟩,
    ⟨(some 69), none, false, .bin .xor (.tmp 64) (.tmp 68)⟩,
    ⟨(some 70), none, false, .bin .add (.tmp 61) (.tmp 69)⟩,
    ⟨(some 71), none, false, .mov (.tmp 2)⟩,
    ⟨(some 72), none, false, .mov (.tmp 16)⟩,
    ⟨(some 73), none, false, .iaddr (.tmp 71) (.tmp 72) 1⟩,
    ⟨(some 74), none, false, .load1 (.tmp 73)⟩,
    ⟨(some 75), none, false, .bin .add (.tmp 70) (.tmp 74)⟩,
    ⟨(some 76), none, false, .mov (.tmp 7)⟩,
    ⟨(some 77), none, false, .mov (.tmp 16)⟩,
    ⟨(some 78), none, false, .iaddr (.tmp 76) (.tmp 77) 1⟩,
    ⟨(some 79), none, false, .load1 (.tmp 78)⟩,
    ⟨(some 80), none, false, .bin .add (.tmp 75) (.tmp 79)⟩,
    ⟨(some 18), none, false, .mov (.tmp 80)⟩]) (.seq (.ops [
    ⟨(some 81), none, false, .mov (.tmp 8)⟩,
    ⟨(some 82), none, false, .call chantryref03_turn [(.tmp 81), (.const (.int .u32 2))]⟩,
    ⟨(some 83), none, false, .mov (.tmp 8)⟩,
    ⟨(some 84), none, false, .call chantryref03_turn [(.tmp 83), (.const (.int .u32 13))]⟩,
    ⟨(some 85), none, false, .bin .xor (.tmp 82) (.tmp 84)⟩,
    ⟨(some 86), none, false, .mov (.tmp 8)⟩,
    ⟨(some 87), none, false, .call chantryref03_turn [(.tmp 86), (.const (.int .u32 22))]⟩,
    ⟨(some 88), none, false, .bin .xor (.tmp 85) (.tmp 87)⟩,
    ⟨(some 19), none, false, .mov (.tmp 88)⟩]) (.seq (.ops [
    ⟨(some 89), none, false, .mov (.tmp 19)⟩,
    ⟨(some 90), none, false, .mov (.tmp 8)⟩,
    ⟨(some 91), none, false, .mov (.tmp 9)⟩,
    ⟨(some 92), none, false, .bin .and (.tmp 90) (.tmp 91)⟩,
    ⟨(some 93), none, false, .mov (.tmp 8)⟩,
    ⟨(some 94), none, false, .mov (.tmp 10)⟩,
    ⟨(some 95), none, false, .bin .and (.tmp 93) (.tmp 94)⟩,
    ⟨(some 96), none, false, .bin .xor (.tmp 92) (.tmp 95)⟩,
    ⟨(some 97), none, false, .mov (.tmp 9)⟩,
    ⟨(some 98), none, false, .mov (.tmp 10)⟩,
    ⟨(some 99), none, false, .bin .and (.tmp 97) (.tmp 98)⟩,
    ⟨(some 100), none, false, .bin .xor (.tmp 96) (.tmp 99)⟩,
    ⟨(some 101), none, false, .bin .add (.tmp 89) (.tmp 100)⟩,
    ⟨(some 20), none, false, .mov (.tmp 101)⟩]) (.ops [
    ⟨(some 102), none, false, .mov (.tmp 14)⟩,
    ⟨(some 103), none, false, .mov (.tmp 13)⟩,
    ⟨(some 104), none, false, .mov (.tmp 12)⟩,
    ⟨(some 105), none, false, .mov (.tmp 11)⟩,
    ⟨(some 106), none, false, .mov (.tmp 18)⟩,
    ⟨(some 107), none, false, .bin .add (.tmp 105) (.tmp 106)⟩,
    ⟨(some 108), none, false, .mov (.tmp 10)⟩,
    ⟨(some 109), none, false, .mov (.tmp 9)⟩,
    ⟨(some 110), none, false, .mov (.tmp 8)⟩,
    ⟨(some 111), none, false, .mov (.tmp 18)⟩,
    ⟨(some 112), none, false, .mov (.tmp 20)⟩,
    ⟨(some 113), none, false, .bin .add (.tmp 111) (.tmp 112)⟩,
    ⟨(some 15), none, false, .mov (.tmp 102)⟩,
    ⟨(some 14), none, false, .mov (.tmp 103)⟩,
    ⟨(some 13), none, false, .mov (.tmp 104)⟩,
    ⟨(some 12), none, false, .mov (.tmp 107)⟩,
    ⟨(some 11), none, false, .mov (.tmp 108)⟩,
    ⟨(some 10), none, false, .mov (.tmp 109)⟩,
    ⟨(some 9), none, false, .mov (.tmp 110)⟩,
    ⟨(some 8), none, false, .mov (.tmp 113)⟩])))))) (.ops [
    ⟨(some 49), none, false, .mov (.tmp 16)⟩,
    ⟨(some 50), none, false, .bin .add (.tmp 49) (.const (.int .i64 1))⟩,
    ⟨(some 16), none, false, .mov (.tmp 50)⟩])))))) (.seq (.draw [
    ⟨(some 114), none, false, .mov (.tmp 0)⟩,
    ⟨(some 115), none, false, .iaddr (.tmp 114) (.const (.int .i64 0)) 1⟩,
    ⟨(some 116), none, false, .load1 (.tmp 115)⟩,
    ⟨(some 117), none, false, .mov (.tmp 8)⟩,
    ⟨(some 118), none, false, .bin .add (.tmp 116) (.tmp 117)⟩,
    ⟨(some 119), none, false, .mov (.tmp 0)⟩,
    ⟨(some 120), none, false, .iaddr (.tmp 119) (.const (.int .i64 1)) 1⟩,
    ⟨(some 121), none, false, .load1 (.tmp 120)⟩,
    ⟨(some 122), none, false, .mov (.tmp 9)⟩,
    ⟨(some 123), none, false, .bin .add (.tmp 121) (.tmp 122)⟩,
    ⟨(some 124), none, false, .mov (.tmp 0)⟩,
    ⟨(some 125), none, false, .iaddr (.tmp 124) (.const (.int .i64 2)) 1⟩,
    ⟨(some 126), none, false, .load1 (.tmp 125)⟩,
    ⟨(some 127), none, false, .mov (.tmp 10)⟩,
    ⟨(some 128), none, false, .bin .add (.tmp 126) (.tmp 127)⟩,
    ⟨(some 129), none, false, .mov (.tmp 0)⟩,
    ⟨(some 130), none, false, .iaddr (.tmp 129) (.const (.int .i64 3)) 1⟩,
    ⟨(some 131), none, false, .load1 (.tmp 130)⟩,
    ⟨(some 132), none, false, .mov (.tmp 11)⟩,
    ⟨(some 133), none, false, .bin .add (.tmp 131) (.tmp 132)⟩,
    ⟨(some 134), none, false, .mov (.tmp 0)⟩,
    ⟨(some 135), none, false, .iaddr (.tmp 134) (.const (.int .i64 4)) 1⟩,
    ⟨(some 136), none, false, .load1 (.tmp 135)⟩,
    ⟨(some 137), none, false, .mov (.tmp 12)⟩,
    ⟨(some 138), none, false, .bin .add (.tmp 136) (.tmp 137)⟩,
    ⟨(some 139), none, false, .mov (.tmp 0)⟩,
    ⟨(some 140), none, false, .iaddr (.tmp 139) (.const (.int .i64 5)) 1⟩,
    ⟨(some 141), none, false, .load1 (.tmp 140)⟩,
    ⟨(some 142), none, false, .mov (.tmp 13)⟩,
    ⟨(some 143), none, false, .bin .add (.tmp 141) (.tmp 142)⟩,
    ⟨(some 144), none, false, .mov (.tmp 0)⟩,
    ⟨(some 145), none, false, .iaddr (.tmp 144) (.const (.int .i64 6)) 1⟩,
    ⟨(some 146), none, false, .load1 (.tmp 145)⟩,
    ⟨(some 147), none, false, .mov (.tmp 14)⟩,
    ⟨(some 148), none, false, .bin .add (.tmp 146) (.tmp 147)⟩,
    ⟨(some 149), none, false, .mov (.tmp 0)⟩,
    ⟨(some 150), none, false, .iaddr (.tmp 149) (.const (.int .i64 7)) 1⟩,
    ⟨(some 151), none, false, .load1 (.tmp 150)⟩,
    ⟨(some 152), none, false, .mov (.tmp 15)⟩,
    ⟨(some 153), none, false, .bin .add (.tmp 151) (.tmp 152)⟩,
    ⟨(some 154), none, false, .lit [.int .u32 0] 1 8 [(0, 1, (.tmp 118)), (1, 1, (.tmp 123)), (2, 1, (.tmp 128)), (3, 1, (.tmp 133)), (4, 1, (.tmp 138)), (5, 1, (.tmp 143)), (6, 1, (.tmp 148)), (7, 1, (.tmp 153))]⟩,
    ⟨(some 6), none, false, .mov (.tmp 154)⟩]) .ret)))))
theorem fits_chantryref03_block : Fits Tryd.prog 1 chantryref03_block ic_chantryref03_block [.tmp 6] 3 :=
  ⟨Tryd.f45, Tryd.func45, by decide, by kernel_rfl, by kernel_rfl⟩

/-- chantry/chantryref04.Rising -/
noncomputable def ic_chantryref04_Rising : IC :=
  (.seq (.ops [
    ⟨(some 2), none, false, .mov (.const (.bool false))⟩]) (.seq (.seq (.ops [
    ⟨(some 3), none, false, .mov (.const (.int .i64 0))⟩]) (.block 0 (.loop (.seq (.seq (.ops [
    ⟨(some 4), none, false, .mov (.tmp 3)⟩,
    ⟨(some 5), none, false, .mov (.tmp 0)⟩,
    ⟨(some 6), none, false, .lens false (.tmp 5)⟩,
    ⟨(some 7), none, false, .bin .lss (.tmp 4) (.tmp 6)⟩]) (.cond (.tmp 7) .skip (.exit 0))) (.seq (.block 1 (.seq (.draw [
    ⟨(some 10), none, false, .mov (.tmp 0)⟩,
    ⟨(some 11), none, false, .mov (.tmp 3)⟩,
    ⟨(some 12), none, false, .iaddr (.tmp 10) (.tmp 11) 1⟩,
    ⟨(some 13), none, false, .load1 (.tmp 12)⟩,
    ⟨(some 14), none, false, .call chantryref04_Right [(.tmp 13)]⟩,
    ⟨(some 15), none, false, .un .not (.tmp 14)⟩,
    ⟨(some 16), none, false, .mov (.tmp 15)⟩,
    ⟨(some 17), (some (16, false)), false, .mov (.tmp 3)⟩,
    ⟨(some 18), (some (16, false)), false, .bin .gtr (.tmp 17) (.const (.int .i64 0))⟩,
    ⟨(some 19), (some (16, false)), false, .mov (.tmp 18)⟩,
    ⟨(some 20), (some (19, true)), false, .mov (.tmp 0)⟩,
    ⟨(some 21), (some (19, true)), false, .mov (.tmp 3)⟩,
    ⟨(some 22), (some (19, true)), false, .bin .sub (.tmp 21) (.const (.int .i64 1))⟩,
    ⟨(some 23), (some (19, true)), false, .iaddr (.tmp 20) (.tmp 22) 1⟩,
    ⟨(some 24), (some (19, true)), false, .load1 (.tmp 23)⟩,
    ⟨(some 25), (some (19, true)), false, .mov (.tmp 0)⟩,
    ⟨(some 26), (some (19, true)), false, .mov (.tmp 3)⟩,
    ⟨(some 27), (some (19, true)), false, .iaddr (.tmp 25) (.tmp 26) 1⟩,
    ⟨(some 28), (some (19, true)), false, .load1 (.tmp 27)⟩,
    ⟨(some 29), (some (19, true)), false, .bin .geq (.tmp 24) (.tmp 28)⟩,
    ⟨(some 30), (some (16, false)), false, .pick (.tmp 19) (.tmp 29) (.const (.bool false))⟩,
    ⟨(some 31), none, false, .pick (.tmp 16) (.const (.bool true)) (.tmp 30)⟩]) (.cond (.tmp 31) (.seq (.ops [
    ⟨(some 2), none, false, .mov (.const (.bool false))⟩]) .ret) .skip))) (.ops [
    ⟨(some 8), none, false, .mov (.tmp 3)⟩,
    ⟨(some 9), none, false, .bin .add (.tmp 8) (.const (.int .i64 1))⟩,
    ⟨(some 3), none, false, .mov (.tmp 9)⟩])))))) (.seq (.ops [
    ⟨(some 2), none, false, .mov (.const (.bool true))⟩]) .ret)))
theorem fits_chantryref04_Rising : Fits Tryd.prog 1 chantryref04_Rising ic_chantryref04_Rising [.tmp 2] 1 :=
  ⟨Tryd.f46, Tryd.func46, by decide, by kernel_rfl, by kernel_rfl⟩

/-- chantry/chantryref14.Check -/
noncomputable def ic_chantryref14_Check : IC :=
  (.seq (.ops [
    ⟨(some 1), none, false, .box (.tmp 0)⟩,
    ⟨(some 2), none, false, .mov (.const (.bool false))⟩]) (.seq (.ops [
    ⟨(some 9), none, false, .faddr (.tmp 1) 0⟩,
    ⟨(some 10), none, false, .load1 (.tmp 9)⟩,
    ⟨(some 11), none, false, .call chantryref14_Has [(.tmp 10)]⟩,
    ⟨(some 8), none, false, .mov (.tmp 11)⟩,
    ⟨(some 12), none, false, .ext (.tmp 8) 0⟩,
    ⟨(some 13), none, false, .ext (.tmp 8) 1⟩,
    ⟨(some 14), none, false, .ext (.tmp 8) 2⟩,
    ⟨(some 15), none, false, .ext (.tmp 8) 3⟩,
    ⟨(some 16), none, false, .ext (.tmp 8) 4⟩,
    ⟨(some 3), none, false, .mov (.tmp 12)⟩,
    ⟨(some 4), none, false, .mov (.tmp 13)⟩,
    ⟨(some 5), none, false, .mov (.tmp 14)⟩,
    ⟨(some 6), none, false, .mov (.tmp 15)⟩,
    ⟨(some 7), none, false, .mov (.tmp 16)⟩]) (.seq (.seq (.ops [
    ⟨(some 17), none, false, .mov (.tmp 7)⟩,
    ⟨(some 18), none, false, .un .not (.tmp 17)⟩,
    ⟨(some 19), none, false, .mov (.tmp 18)⟩,
    ⟨(some 20), (some (19, false)), false, .mov (.tmp 3)⟩,
    ⟨(some 21), (some (19, false)), false, .mov (.tmp 20)⟩,
    ⟨(some 22), (some (21, true)), false, .faddr (.tmp 1) 1⟩,
    ⟨(some 23), (some (21, true)), false, .load1 (.tmp 22)⟩,
    ⟨(some 24), (some (21, true)), false, .call chantryref14_Name [(.tmp 23)]⟩,
    ⟨(some 25), (some (21, true)), false, .un .not (.tmp 24)⟩,
    ⟨(some 26), (some (19, false)), false, .pick (.tmp 21) (.tmp 25) (.const (.bool false))⟩,
    ⟨(some 27), none, false, .pick (.tmp 19) (.const (.bool true)) (.tmp 26)⟩,
    ⟨(some 28), none, false, .mov (.tmp 27)⟩,
    ⟨(some 29), (some (28, false)), false, .mov (.tmp 3)⟩,
    ⟨(some 30), (some (28, false)), false, .un .not (.tmp 29)⟩,
    ⟨(some 31), (some (28, false)), false, .mov (.tmp 30)⟩,
    ⟨(some 32), (some (31, true)), false, .faddr (.tmp 1) 1⟩,
    ⟨(some 33), (some (31, true)), false, .load1 (.tmp 32)⟩,
    ⟨(some 34), (some (31, true)), false, .bin .neq (.tmp 33) (.const (.string ⟨#[]⟩))⟩,
    ⟨(some 35), (some (28, false)), false, .pick (.tmp 31) (.tmp 34) (.const (.bool false))⟩,
    ⟨(some 36), none, false, .pick (.tmp 28) (.const (.bool true)) (.tmp 35)⟩,
    ⟨(some 37), none, false, .mov (.tmp 36)⟩,
    ⟨(some 38), (some (37, false)), false, .faddr (.tmp 1) 2⟩,
    ⟨(some 39), (some (37, false)), false, .load1 (.tmp 38)⟩,
    ⟨(some 40), (some (37, false)), false, .lens true (.tmp 39)⟩,
    ⟨(some 41), (some (37, false)), false, .bin .gtr (.tmp 40) (.const (.int .i64 48))⟩,
    ⟨(some 42), none, false, .pick (.tmp 37) (.const (.bool true)) (.tmp 41)⟩,
    ⟨(some 43), none, false, .mov (.tmp 42)⟩,
    ⟨(some 44), (some (43, false)), false, .mov (.tmp 4)⟩,
    ⟨(some 45), (some (43, false)), false, .un .not (.tmp 44)⟩,
    ⟨(some 46), (some (43, false)), false, .mov (.tmp 45)⟩,
    ⟨(some 47), (some (46, true)), false, .faddr (.tmp 1) 2⟩,
    ⟨(some 48), (some (46, true)), false, .load1 (.tmp 47)⟩,
    ⟨(some 49), (some (46, true)), false, .bin .neq (.tmp 48) (.const (.string ⟨#[]⟩))⟩,
    ⟨(some 50), (some (43, false)), false, .pick (.tmp 46) (.tmp 49) (.const (.bool false))⟩,
    ⟨(some 51), none, false, .pick (.tmp 43) (.const (.bool true)) (.tmp 50)⟩,
    ⟨(some 52), none, false, .mov (.tmp 51)⟩,
    ⟨(some 53), (some (52, false)), false, .mov (.tmp 5)⟩,
    ⟨(some 54), (some (52, false)), false, .un .not (.tmp 53)⟩,
    ⟨(some 55), (some (52, false)), false, .mov (.tmp 54)⟩,
    ⟨(some 56), (some (55, true)), false, .faddr (.tmp 1) 3⟩,
    ⟨(some 57), (some (55, true)), false, .load1 (.tmp 56)⟩,
    ⟨(some 58), (some (55, true)), false, .bin .neq (.tmp 57) (.const (.int .i64 0))⟩,
    ⟨(some 59), (some (52, false)), false, .pick (.tmp 55) (.tmp 58) (.const (.bool false))⟩,
    ⟨(some 60), none, false, .pick (.tmp 52) (.const (.bool true)) (.tmp 59)⟩,
    ⟨(some 61), none, false, .mov (.tmp 60)⟩,
    ⟨(some 62), (some (61, false)), false, .mov (.tmp 6)⟩,
    ⟨(some 63), (some (61, false)), false, .un .not (.tmp 62)⟩,
    ⟨(some 64), (some (61, false)), false, .mov (.tmp 63)⟩,
    ⟨(some 65), (some (64, true)), false, .faddr (.tmp 1) 4⟩,
    ⟨(some 66), (some (64, true)), false, .load1 (.tmp 65)⟩,
    ⟨(some 67), (some (64, true)), false, .bin .neq (.tmp 66) (.const (.string ⟨#[]⟩))⟩,
    ⟨(some 68), (some (61, false)), false, .pick (.tmp 64) (.tmp 67) (.const (.bool false))⟩,
    ⟨(some 69), none, false, .pick (.tmp 61) (.const (.bool true)) (.tmp 68)⟩]) (.cond (.tmp 69) (.seq (.ops [
    ⟨(some 2), none, false, .mov (.const (.bool false))⟩]) .ret) .skip)) (.seq (.seq (.ops [
    ⟨(some 70), none, false, .faddr (.tmp 1) 3⟩,
    ⟨(some 71), none, false, .load1 (.tmp 70)⟩,
    ⟨(some 72), none, false, .bin .lss (.tmp 71) (.const (.int .i64 (-2147483647)))⟩,
    ⟨(some 73), none, false, .mov (.tmp 72)⟩,
    ⟨(some 74), (some (73, false)), false, .faddr (.tmp 1) 3⟩,
    ⟨(some 75), (some (73, false)), false, .load1 (.tmp 74)⟩,
    ⟨(some 76), (some (73, false)), false, .bin .gtr (.tmp 75) (.const (.int .i64 2147483647))⟩,
    ⟨(some 77), none, false, .pick (.tmp 73) (.const (.bool true)) (.tmp 76)⟩,
    ⟨(some 78), none, false, .mov (.tmp 77)⟩,
    ⟨(some 79), (some (78, false)), false, .faddr (.tmp 1) 4⟩,
    ⟨(some 80), (some (78, false)), false, .load1 (.tmp 79)⟩,
    ⟨(some 81), (some (78, false)), false, .bin .neq (.tmp 80) (.const (.string ⟨#[]⟩))⟩,
    ⟨(some 82), (some (78, false)), false, .mov (.tmp 81)⟩,
    ⟨(some 83), (some (82, true)), false, .faddr (.tmp 1) 4⟩,
    ⟨(some 84), (some (82, true)), false, .load1 (.tmp 83)⟩,
    ⟨(some 85), (some (82, true)), false, .lens true (.tmp 84)⟩,
    ⟨(some 86), (some (82, true)), false, .bin .neq (.tmp 85) (.const (.int .i64 32))⟩,
    ⟨(some 87), (some (78, false)), false, .pick (.tmp 82) (.tmp 86) (.const (.bool false))⟩,
    ⟨(some 88), none, false, .pick (.tmp 78) (.const (.bool true)) (.tmp 87)⟩]) (.cond (.tmp 88) (.seq (.ops [
    ⟨(some 2), none, false, .mov (.const (.bool false))⟩]) .ret) .skip)) (.seq (.ops [
    ⟨(some 89), none, false, .faddr (.tmp 1) 0⟩,
    ⟨(some 90), none, false, .load1 (.tmp 89)⟩,
    ⟨(some 91), none, false, .bin .eql (.tmp 90) (.const (.int .i64 5))⟩,
    ⟨(some 92), none, false, .mov (.tmp 91)⟩,
    ⟨(some 93), (some (92, true)), false, .faddr (.tmp 1) 2⟩,
    ⟨(some 94), (some (92, true)), false, .load1 (.tmp 93)⟩,
    ⟨(some 95), (some (92, true)), false, .bin .eql (.tmp 94) (.const (.string ⟨#[]⟩))⟩,
    ⟨(some 96), none, false, .pick (.tmp 92) (.tmp 95) (.const (.bool false))⟩,
    ⟨(some 97), none, false, .un .not (.tmp 96)⟩,
    ⟨(some 98), none, false, .mov (.tmp 97)⟩,
    ⟨(some 99), (some (98, true)), false, .faddr (.tmp 1) 0⟩,
    ⟨(some 100), (some (98, true)), false, .load1 (.tmp 99)⟩,
    ⟨(some 101), (some (98, true)), false, .bin .eql (.tmp 100) (.const (.int .i64 6))⟩,
    ⟨(some 102), (some (98, true)), false, .mov (.tmp 101)⟩,
    ⟨(some 103), (some (102, true)), false, .faddr (.tmp 1) 4⟩,
    ⟨(some 104), (some (102, true)), false, .load1 (.tmp 103)⟩,
    ⟨(some 105), (some (102, true)), false, .bin .eql (.tmp 104) (.const (.string ⟨#[]⟩))⟩,
    ⟨(some 106), (some (98, true)), false, .pick (.tmp 102) (.tmp 105) (.const (.bool false))⟩,
    ⟨(some 107), (some (98, true)), false, .un .not (.tmp 106)⟩,
    ⟨(some 108), none, false, .pick (.tmp 98) (.tmp 107) (.const (.bool false))⟩,
    ⟨(some 2), none, false, .mov (.tmp 108)⟩]) .ret)))))
theorem fits_chantryref14_Check : Fits Tryd.prog 1 chantryref14_Check ic_chantryref14_Check [.tmp 2] 1 :=
  ⟨Tryd.f47, Tryd.func47, by decide, by kernel_rfl, by kernel_rfl⟩

/-- chantry/op.has -/
noncomputable def ic_op_has : IC :=
  (.seq (.ops [
    ⟨(some 2), none, false, .mov (.const (.int .i64 0))⟩]) (.seq (.seq (.ops [
    ⟨(some 3), none, false, .mov (.tmp 0)⟩]) (.block 0 (.seq (.ops [
    ⟨(some 5), none, false, .bin .eql (.tmp 3) (.const (.int .i64 1))⟩,
    ⟨(some 4), none, false, .mov (.tmp 5)⟩]) (.cond (.tmp 4) (.seq (.ops [
    ⟨(some 2), none, false, .mov (.const (.int .i64 5))⟩]) .ret) (.seq (.seq (.ops [
    ⟨(some 7), none, false, .bin .eql (.tmp 3) (.const (.int .i64 2))⟩,
    ⟨(some 6), none, false, .mov (.tmp 7)⟩]) (.cond (.tmp 6) .skip (.seq (.ops [
    ⟨(some 8), none, false, .bin .eql (.tmp 3) (.const (.int .i64 3))⟩,
    ⟨(some 6), none, false, .mov (.tmp 8)⟩]) (.cond (.tmp 6) .skip (.ops [
    ⟨(some 9), none, false, .bin .eql (.tmp 3) (.const (.int .i64 4))⟩,
    ⟨(some 6), none, false, .mov (.tmp 9)⟩]))))) (.cond (.tmp 6) (.seq (.ops [
    ⟨(some 2), none, false, .mov (.const (.int .i64 3))⟩]) .ret) (.seq (.ops [
    ⟨(some 11), none, false, .bin .eql (.tmp 3) (.const (.int .i64 5))⟩,
    ⟨(some 10), none, false, .mov (.tmp 11)⟩]) (.cond (.tmp 10) (.seq (.ops [
    ⟨(some 2), none, false, .mov (.const (.int .i64 11))⟩]) .ret) (.seq (.ops [
    ⟨(some 13), none, false, .bin .eql (.tmp 3) (.const (.int .i64 6))⟩,
    ⟨(some 12), none, false, .mov (.tmp 13)⟩]) (.cond (.tmp 12) (.seq (.ops [
    ⟨(some 2), none, false, .mov (.const (.int .i64 9))⟩]) .ret) (.seq (.ops [
    ⟨(some 15), none, false, .bin .eql (.tmp 3) (.const (.int .i64 7))⟩,
    ⟨(some 14), none, false, .mov (.tmp 15)⟩]) (.cond (.tmp 14) (.seq (.ops [
    ⟨(some 2), none, false, .mov (.const (.int .i64 0))⟩]) .ret) .skip)))))))))))) (.seq (.ops [
    ⟨(some 2), none, false, .mov (.const (.int .i64 (-1)))⟩]) .ret)))
theorem fits_op_has : Fits Tryd.prog 1 op_has ic_op_has [.tmp 2] 1 :=
  ⟨Tryd.f48, Tryd.func48, by decide, by kernel_rfl, by kernel_rfl⟩

/-- chantry/op.Put$1 -/
noncomputable def ic_op_Put_1 : IC :=
  (.seq (.ops [
    ⟨(some 6), none, false, .mov (.tmp 0)⟩,
    ⟨(some 7), none, false, .s2b (.tmp 6)⟩,
    ⟨(some 8), none, false, .call num_Text [(.tmp 7)]⟩,
    ⟨(some 5), none, false, .mov (.tmp 8)⟩,
    ⟨(some 9), none, false, .ext (.tmp 5) 0⟩,
    ⟨(some 10), none, false, .ext (.tmp 5) 1⟩,
    ⟨(some 3), none, false, .mov (.tmp 9)⟩,
    ⟨(some 4), none, false, .mov (.tmp 10)⟩]) (.ops [
    ⟨(some 11), none, false, .load1 (.tmp 1)⟩,
    ⟨(some 12), none, false, .mov (.tmp 3)⟩,
    ⟨(some 13), none, false, .app (.tmp 11) (.tmp 12) 1 1⟩,
    ⟨none, none, false, .store (.tmp 1) (.tmp 13) 1⟩]))
theorem fits_op_Put_1 : Fits Tryd.prog 1 op_Put_1 ic_op_Put_1 [] 1 :=
  ⟨Tryd.f49, Tryd.func49, by decide, by kernel_rfl, by kernel_rfl⟩

/-- chantry/num.Text -/
noncomputable def ic_num_Text : IC :=
  (.seq (.ops [
    ⟨(some 2), none, false, .mov (.const (.slice none 0 0))⟩,
    ⟨(some 3), none, false, .mov (.const (.int .i64 0))⟩]) (.seq (.seq (.ops [
    ⟨(some 6), none, false, .mov (.tmp 0)⟩,
    ⟨(some 7), none, false, .lens false (.tmp 6)⟩,
    ⟨(some 8), none, false, .bin .gtr (.tmp 7) (.const (.int .i64 262144))⟩]) (.cond (.tmp 8) (.seq (.ops [
    ⟨(some 2), none, false, .mov (.const (.slice none 0 0))⟩,
    ⟨(some 3), none, false, .mov (.const (.int .i64 3))⟩]) .ret) .skip)) (.seq (.ops [
    ⟨(some 10), none, false, .mov (.tmp 0)⟩,
    ⟨(some 11), none, false, .lens false (.tmp 10)⟩,
    ⟨(some 12), none, false, .call num_Put [(.tmp 11)]⟩,
    ⟨(some 9), none, false, .mov (.tmp 12)⟩,
    ⟨(some 13), none, false, .ext (.tmp 9) 0⟩,
    ⟨(some 14), none, false, .ext (.tmp 9) 1⟩,
    ⟨(some 4), none, false, .mov (.tmp 13)⟩,
    ⟨(some 5), none, false, .mov (.tmp 14)⟩]) (.seq (.ops [
    ⟨(some 15), none, false, .mov (.tmp 4)⟩,
    ⟨(some 16), none, false, .mov (.tmp 0)⟩,
    ⟨(some 17), none, false, .lit [.slice none 0 0] 1 2 [(0, 1, (.tmp 15)), (1, 1, (.tmp 16))]⟩,
    ⟨(some 18), none, false, .call slices_Concat_byte_byte [(.tmp 17)]⟩,
    ⟨(some 2), none, false, .mov (.tmp 18)⟩,
    ⟨(some 3), none, false, .mov (.const (.int .i64 0))⟩]) .ret))))
theorem fits_num_Text : Fits Tryd.prog 1 num_Text ic_num_Text [.tmp 2, .tmp 3] 1 :=
  ⟨Tryd.f50, Tryd.func50, by decide, by kernel_rfl, by kernel_rfl⟩

/-- chantry/num.Fix -/
noncomputable def ic_num_Fix : IC :=
  (.seq (.ops [
    ⟨(some 4), none, false, .mov (.const (.slice none 0 0))⟩,
    ⟨(some 5), none, false, .mov (.const (.int .i64 0))⟩]) (.seq (.seq (.ops [
    ⟨(some 8), none, false, .mov (.tmp 1)⟩,
    ⟨(some 9), none, false, .bin .lss (.tmp 8) (.const (.int .i64 1))⟩,
    ⟨(some 10), none, false, .mov (.tmp 9)⟩,
    ⟨(some 11), (some (10, false)), false, .mov (.tmp 1)⟩,
    ⟨(some 12), (some (10, false)), false, .bin .gtr (.tmp 11) (.const (.int .i64 4))⟩,
    ⟨(some 13), none, false, .pick (.tmp 10) (.const (.bool true)) (.tmp 12)⟩,
    ⟨(some 14), none, false, .mov (.tmp 13)⟩,
    ⟨(some 15), (some (14, false)), false, .mov (.tmp 0)⟩,
    ⟨(some 16), (some (14, false)), false, .call num_is [(.tmp 15)]⟩,
    ⟨(some 17), (some (14, false)), false, .un .not (.tmp 16)⟩,
    ⟨(some 18), none, false, .pick (.tmp 14) (.const (.bool true)) (.tmp 17)⟩,
    ⟨(some 19), none, false, .mov (.tmp 18)⟩,
    ⟨(some 20), (some (19, false)), false, .mov (.tmp 0)⟩,
    ⟨(some 21), (some (19, false)), false, .mov (.tmp 1)⟩,
    ⟨(some 22), (some (19, false)), false, .bin .mul (.const (.int .i64 8)) (.tmp 21)⟩,
    ⟨(some 23), (some (19, false)), false, .bin .shr (.tmp 20) (.tmp 22)⟩,
    ⟨(some 24), (some (19, false)), false, .bin .gtr (.tmp 23) (.const (.int .i64 0))⟩,
    ⟨(some 25), none, false, .pick (.tmp 19) (.const (.bool true)) (.tmp 24)⟩]) (.cond (.tmp 25) (.seq (.ops [
    ⟨(some 4), none, false, .mov (.const (.slice none 0 0))⟩,
    ⟨(some 5), none, false, .mov (.const (.int .i64 1))⟩]) .ret) .skip)) (.seq (.ops [
    ⟨(some 26), none, false, .mov (.tmp 1)⟩,
    ⟨(some 27), none, false, .mk [.int .u8 0] 1 (.tmp 26) (.tmp 26)⟩,
    ⟨(some 6), none, false, .mov (.tmp 27)⟩]) (.seq (.seq (.ops [
    ⟨(some 28), none, false, .mov (.tmp 6)⟩,
    ⟨(some 29), none, false, .lens false (.tmp 28)⟩,
    ⟨(some 30), none, false, .mov (.const (.int .i64 0))⟩]) (.block 0 (.loop (.seq (.ops [
    ⟨(some 31), none, false, .bin .lss (.tmp 30) (.tmp 29)⟩]) (.seq (.cond (.tmp 31) .skip (.exit 0)) (.seq (.block 1 (.seq (.ops [
    ⟨(some 32), none, false, .mov (.tmp 30)⟩,
    ⟨(some 7), none, false, .mov (.tmp 32)⟩]) (.ops [
    ⟨(some 33), none, false, .mov (.tmp 6)⟩,
    ⟨(some 34), none, false, .mov (.tmp 7)⟩,
    ⟨(some 35), none, false, .mov (.tmp 0)⟩,
    ⟨(some 36), none, false, .mov (.tmp 7)⟩,
    ⟨(some 37), none, false, .bin .mul (.const (.int .i64 8)) (.tmp 36)⟩,
    ⟨(some 38), none, false, .bin .shr (.tmp 35) (.tmp 37)⟩,
    ⟨(some 39), none, false, .conv .u8 (.tmp 38)⟩,
    ⟨(some 40), none, false, .iaddr (.tmp 33) (.tmp 34) 1⟩,
    ⟨none, none, false, .store (.tmp 40) (.tmp 39) 1⟩]))) (.ops [
    ⟨(some 41), none, false, .bin .add (.tmp 30) (.const (.int .i64 1))⟩,
    ⟨(some 30), none, false, .mov (.tmp 41)⟩]))))))) (.seq (.ops [
    ⟨(some 42), none, false, .mov (.tmp 6)⟩,
    ⟨(some 4), none, false, .mov (.tmp 42)⟩,
    ⟨(some 5), none, false, .mov (.const (.int .i64 0))⟩]) .ret)))))
theorem fits_num_Fix : Fits Tryd.prog 1 num_Fix ic_num_Fix [.tmp 4, .tmp 5] 2 :=
  ⟨Tryd.f51, Tryd.func51, by decide, by kernel_rfl, by kernel_rfl⟩

/-- chantry/op.truth -/
noncomputable def ic_op_truth : IC :=
  (.seq (.ops [
    ⟨(some 2), none, false, .mov (.const (.int .u8 0))⟩]) (.seq (.seq (.ops [
    ⟨(some 3), none, false, .mov (.tmp 0)⟩]) (.cond (.tmp 3) (.seq (.ops [
    ⟨(some 2), none, false, .mov (.const (.int .u8 1))⟩]) .ret) .skip)) (.seq (.ops [
    ⟨(some 2), none, false, .mov (.const (.int .u8 0))⟩]) .ret)))
theorem fits_op_truth : Fits Tryd.prog 1 op_truth ic_op_truth [.tmp 2] 1 :=
  ⟨Tryd.f52, Tryd.func52, by decide, by kernel_rfl, by kernel_rfl⟩

/-- slices.Grow[[]byte,byte] -/
noncomputable def ic_slices_Grow_byte_byte : IC :=
  (.seq (.ops [
    ⟨(some 4), none, false, .mov (.const (.slice none 0 0))⟩]) (.seq (.seq (.ops [
    ⟨(some 5), none, false, .mov (.tmp 1)⟩,
    ⟨(some 6), none, false, .bin .lss (.tmp 5) (.const (.int .i64 0))⟩]) (.cond (.tmp 6) (.ops [
    ⟨(some 7), none, false, .ifc 9 (.const (.string ⟨#[99, 97, 110, 110, 111, 116, 32, 98, 101, 32, 110, 101, 103, 97, 116, 105, 118, 101]⟩))⟩,
    ⟨none, none, false, .fail⟩]) .skip)) (.seq (.seq (.ops [
    ⟨(some 8), none, false, .mov (.tmp 1)⟩,
    ⟨(some 9), none, false, .mov (.tmp 0)⟩,
    ⟨(some 10), none, false, .capn (.tmp 9)⟩,
    ⟨(some 11), none, false, .mov (.tmp 0)⟩,
    ⟨(some 12), none, false, .lens false (.tmp 11)⟩,
    ⟨(some 13), none, false, .bin .sub (.tmp 10) (.tmp 12)⟩,
    ⟨(some 14), none, false, .bin .sub (.tmp 8) (.tmp 13)⟩,
    ⟨(some 1), none, false, .mov (.tmp 14)⟩]) (.seq (.ops [
    ⟨(some 15), none, false, .mov (.tmp 1)⟩,
    ⟨(some 16), none, false, .bin .gtr (.tmp 15) (.const (.int .i64 0))⟩]) (.cond (.tmp 16) (.ops [
    ⟨(some 17), none, false, .mov (.tmp 0)⟩,
    ⟨(some 18), none, false, .mov (.tmp 0)⟩,
    ⟨(some 19), none, false, .capn (.tmp 18)⟩,
    ⟨(some 20), none, false, .sll (.tmp 17) none (some (.tmp 19)) none 1⟩,
    ⟨(some 21), none, false, .mov (.tmp 1)⟩,
    ⟨(some 22), none, false, .appz (.tmp 20) (.tmp 21) [.int .u8 0] 1⟩,
    ⟨(some 23), none, false, .mov (.tmp 0)⟩,
    ⟨(some 24), none, false, .lens false (.tmp 23)⟩,
    ⟨(some 25), none, false, .sll (.tmp 22) none (some (.tmp 24)) none 1⟩,
    ⟨(some 0), none, false, .mov (.tmp 25)⟩]) .skip))) (.seq (.ops [
    ⟨(some 26), none, false, .mov (.tmp 0)⟩,
    ⟨(some 4), none, false, .mov (.tmp 26)⟩]) .ret))))
theorem fits_slices_Grow_byte_byte : Fits Tryd.prog 1 slices_Grow_byte_byte ic_slices_Grow_byte_byte [.tmp 4] 2 :=
  ⟨Tryd.f53, Tryd.func53, by decide, by kernel_rfl, by kernel_rfl⟩

/-- (*strings.Builder).Grow -/
noncomputable def ic_strings_Builder_Grow : IC :=
  (.seq (.ops [
    ⟨(some 4), none, false, .mov (.tmp 0)⟩,
    ⟨(some 5), none, false, .call strings_Builder_copyCheck [(.tmp 4)]⟩]) (.seq (.seq (.ops [
    ⟨(some 6), none, false, .mov (.tmp 1)⟩,
    ⟨(some 7), none, false, .bin .lss (.tmp 6) (.const (.int .i64 0))⟩]) (.cond (.tmp 7) (.ops [
    ⟨(some 8), none, false, .ifc 9 (.const (.string ⟨#[115, 116, 114, 105, 110, 103, 115, 46, 66, 117, 105, 108, 100, 101, 114, 46, 71, 114, 111, 119, 58, 32, 110, 101, 103, 97, 116, 105, 118, 101, 32, 99, 111, 117, 110, 116]⟩))⟩,
    ⟨none, none, false, .fail⟩]) .skip)) (.seq (.draw [
    ⟨(some 9), none, false, .mov (.tmp 0)⟩,
    ⟨(some 10), none, false, .nilc (.tmp 9)⟩,
    ⟨(some 11), none, false, .faddr (.tmp 10) 1⟩,
    ⟨(some 12), none, false, .load1 (.tmp 11)⟩,
    ⟨(some 13), none, false, .capn (.tmp 12)⟩,
    ⟨(some 14), none, false, .mov (.tmp 0)⟩,
    ⟨(some 15), none, false, .nilc (.tmp 14)⟩,
    ⟨(some 16), none, false, .faddr (.tmp 15) 1⟩,
    ⟨(some 17), none, false, .load1 (.tmp 16)⟩,
    ⟨(some 18), none, false, .lens false (.tmp 17)⟩,
    ⟨(some 19), none, false, .bin .sub (.tmp 13) (.tmp 18)⟩,
    ⟨(some 20), none, false, .mov (.tmp 1)⟩,
    ⟨(some 21), none, false, .bin .lss (.tmp 19) (.tmp 20)⟩]) (.cond (.tmp 21) (.ops [
    ⟨(some 22), none, false, .mov (.tmp 0)⟩,
    ⟨(some 23), none, false, .mov (.tmp 1)⟩,
    ⟨(some 24), none, false, .call strings_Builder_grow [(.tmp 22), (.tmp 23)]⟩]) .skip))))
theorem fits_strings_Builder_Grow : Fits Tryd.prog 1 strings_Builder_Grow ic_strings_Builder_Grow [] 2 :=
  ⟨Tryd.f54, Tryd.func54, by decide, by kernel_rfl, by kernel_rfl⟩

/-- (*strings.Builder).WriteString -/
noncomputable def ic_strings_Builder_WriteString : IC :=
  (.seq (.ops [
    ⟨(some 4), none, false, .mov (.const (.int .i64 0))⟩,
    ⟨(some 5), none, false, .mov (.const (.nilIface))⟩]) (.seq (.ops [
    ⟨(some 6), none, false, .mov (.tmp 0)⟩,
    ⟨(some 7), none, false, .call strings_Builder_copyCheck [(.tmp 6)]⟩]) (.seq (.ops [
    ⟨(some 8), none, false, .mov (.tmp 0)⟩,
    ⟨(some 9), none, false, .mov (.tmp 0)⟩,
    ⟨(some 10), none, false, .nilc (.tmp 9)⟩,
    ⟨(some 11), none, false, .faddr (.tmp 10) 1⟩,
    ⟨(some 12), none, false, .load1 (.tmp 11)⟩,
    ⟨(some 13), none, false, .mov (.tmp 1)⟩,
    ⟨(some 14), none, false, .apps (.tmp 12) (.tmp 13) 1⟩,
    ⟨(some 15), none, false, .nilc (.tmp 8)⟩,
    ⟨(some 16), none, false, .faddr (.tmp 15) 1⟩,
    ⟨none, none, false, .store (.tmp 16) (.tmp 14) 1⟩]) (.seq (.ops [
    ⟨(some 17), none, false, .mov (.tmp 1)⟩,
    ⟨(some 18), none, false, .lens true (.tmp 17)⟩,
    ⟨(some 4), none, false, .mov (.tmp 18)⟩,
    ⟨(some 5), none, false, .mov (.const (.nilIface))⟩]) .ret))))
theorem fits_strings_Builder_WriteString : Fits Tryd.prog 1 strings_Builder_WriteString ic_strings_Builder_WriteString [.tmp 4, .tmp 5] 2 :=
  ⟨Tryd.f55, Tryd.func55, by decide, by kernel_rfl, by kernel_rfl⟩

-- NOT SERVED 56 (*strings.Builder).String: builtin unsafeSliceData

/-- chantry/chantryref14.Has -/
noncomputable def ic_chantryref14_Has : IC :=
  (.seq (.ops [
    ⟨(some 2), none, false, .mov (.const (.bool false))⟩,
    ⟨(some 3), none, false, .mov (.const (.bool false))⟩,
    ⟨(some 4), none, false, .mov (.const (.bool false))⟩,
    ⟨(some 5), none, false, .mov (.const (.bool false))⟩,
    ⟨(some 6), none, false, .mov (.const (.bool false))⟩]) (.seq (.seq (.ops [
    ⟨(some 7), none, false, .mov (.tmp 0)⟩]) (.block 0 (.seq (.ops [
    ⟨(some 9), none, false, .bin .eql (.tmp 7) (.const (.int .i64 1))⟩,
    ⟨(some 8), none, false, .mov (.tmp 9)⟩]) (.cond (.tmp 8) (.seq (.ops [
    ⟨(some 2), none, false, .mov (.const (.bool true))⟩,
    ⟨(some 3), none, false, .mov (.const (.bool false))⟩,
    ⟨(some 4), none, false, .mov (.const (.bool true))⟩,
    ⟨(some 5), none, false, .mov (.const (.bool false))⟩,
    ⟨(some 6), none, false, .mov (.const (.bool true))⟩]) .ret) (.seq (.seq (.ops [
    ⟨(some 11), none, false, .bin .eql (.tmp 7) (.const (.int .i64 2))⟩,
    ⟨(some 10), none, false, .mov (.tmp 11)⟩]) (.cond (.tmp 10) .skip (.seq (.ops [
    ⟨(some 12), none, false, .bin .eql (.tmp 7) (.const (.int .i64 3))⟩,
    ⟨(some 10), none, false, .mov (.tmp 12)⟩]) (.cond (.tmp 10) .skip (.ops [
    ⟨(some 13), none, false, .bin .eql (.tmp 7) (.const (.int .i64 4))⟩,
    ⟨(some 10), none, false, .mov (.tmp 13)⟩]))))) (.cond (.tmp 10) (.seq (.ops [
    ⟨(some 2), none, false, .mov (.const (.bool true))⟩,
    ⟨(some 3), none, false, .mov (.const (.bool true))⟩,
    ⟨(some 4), none, false, .mov (.const (.bool false))⟩,
    ⟨(some 5), none, false, .mov (.const (.bool false))⟩,
    ⟨(some 6), none, false, .mov (.const (.bool true))⟩]) .ret) (.seq (.ops [
    ⟨(some 15), none, false, .bin .eql (.tmp 7) (.const (.int .i64 5))⟩,
    ⟨(some 14), none, false, .mov (.tmp 15)⟩]) (.cond (.tmp 14) (.seq (.ops [
    ⟨(some 2), none, false, .mov (.const (.bool true))⟩,
    ⟨(some 3), none, false, .mov (.const (.bool true))⟩,
    ⟨(some 4), none, false, .mov (.const (.bool false))⟩,
    ⟨(some 5), none, false, .mov (.const (.bool true))⟩,
    ⟨(some 6), none, false, .mov (.const (.bool true))⟩]) .ret) (.seq (.ops [
    ⟨(some 17), none, false, .bin .eql (.tmp 7) (.const (.int .i64 6))⟩,
    ⟨(some 16), none, false, .mov (.tmp 17)⟩]) (.cond (.tmp 16) (.seq (.ops [
    ⟨(some 2), none, false, .mov (.const (.bool true))⟩,
    ⟨(some 3), none, false, .mov (.const (.bool false))⟩,
    ⟨(some 4), none, false, .mov (.const (.bool false))⟩,
    ⟨(some 5), none, false, .mov (.const (.bool true))⟩,
    ⟨(some 6), none, false, .mov (.const (.bool true))⟩]) .ret) (.seq (.ops [
    ⟨(some 19), none, false, .bin .eql (.tmp 7) (.const (.int .i64 7))⟩,
    ⟨(some 18), none, false, .mov (.tmp 19)⟩]) (.cond (.tmp 18) (.seq (.ops [
    ⟨(some 2), none, false, .mov (.const (.bool false))⟩,
    ⟨(some 3), none, false, .mov (.const (.bool false))⟩,
    ⟨(some 4), none, false, .mov (.const (.bool false))⟩,
    ⟨(some 5), none, false, .mov (.const (.bool false))⟩,
    ⟨(some 6), none, false, .mov (.const (.bool true))⟩]) .ret) .skip)))))))))))) (.seq (.ops [
    ⟨(some 2), none, false, .mov (.const (.bool false))⟩,
    ⟨(some 3), none, false, .mov (.const (.bool false))⟩,
    ⟨(some 4), none, false, .mov (.const (.bool false))⟩,
    ⟨(some 5), none, false, .mov (.const (.bool false))⟩,
    ⟨(some 6), none, false, .mov (.const (.bool false))⟩]) .ret)))
theorem fits_chantryref14_Has : Fits Tryd.prog 1 chantryref14_Has ic_chantryref14_Has [.tmp 2, .tmp 3, .tmp 4, .tmp 5, .tmp 6] 1 :=
  ⟨Tryd.f57, Tryd.func57, by decide, by kernel_rfl, by kernel_rfl⟩

/-- chantry/chantryref01.Text -/
noncomputable def ic_chantryref01_Text : IC :=
  (.seq (.ops [
    ⟨(some 2), none, false, .mov (.const (.slice none 0 0))⟩,
    ⟨(some 3), none, false, .mov (.const (.int .i64 0))⟩]) (.seq (.seq (.ops [
    ⟨(some 6), none, false, .mov (.tmp 0)⟩,
    ⟨(some 7), none, false, .lens false (.tmp 6)⟩,
    ⟨(some 8), none, false, .bin .gtr (.tmp 7) (.const (.int .i64 262144))⟩]) (.cond (.tmp 8) (.seq (.ops [
    ⟨(some 2), none, false, .mov (.const (.slice none 0 0))⟩,
    ⟨(some 3), none, false, .mov (.const (.int .i64 3))⟩]) .ret) .skip)) (.seq (.ops [
    ⟨(some 10), none, false, .mov (.tmp 0)⟩,
    ⟨(some 11), none, false, .lens false (.tmp 10)⟩,
    ⟨(some 12), none, false, .call chantryref01_Put [(.tmp 11)]⟩,
    ⟨(some 9), none, false, .mov (.tmp 12)⟩,
    ⟨(some 13), none, false, .ext (.tmp 9) 0⟩,
    ⟨(some 14), none, false, .ext (.tmp 9) 1⟩,
    ⟨(some 4), none, false, .mov (.tmp 13)⟩,
    ⟨(some 5), none, false, .mov (.tmp 14)⟩]) (.seq (.ops [
    ⟨(some 15), none, false, .mov (.tmp 4)⟩,
    ⟨(some 16), none, false, .mov (.tmp 0)⟩,
    ⟨(some 17), none, false, .app (.tmp 15) (.tmp 16) 1 1⟩,
    ⟨(some 2), none, false, .mov (.tmp 17)⟩,
    ⟨(some 3), none, false, .mov (.const (.int .i64 0))⟩]) .ret))))
theorem fits_chantryref01_Text : Fits Tryd.prog 1 chantryref01_Text ic_chantryref01_Text [.tmp 2, .tmp 3] 1 :=
  ⟨Tryd.f58, Tryd.func58, by decide, by kernel_rfl, by kernel_rfl⟩

/-- chantry/chantryref01.Fix -/
noncomputable def ic_chantryref01_Fix : IC :=
  (.seq (.ops [
    ⟨(some 4), none, false, .mov (.const (.slice none 0 0))⟩,
    ⟨(some 5), none, false, .mov (.const (.int .i64 0))⟩]) (.seq (.seq (.ops [
    ⟨(some 8), none, false, .mov (.tmp 1)⟩,
    ⟨(some 9), none, false, .bin .lss (.tmp 8) (.const (.int .i64 1))⟩,
    ⟨(some 10), none, false, .mov (.tmp 9)⟩,
    ⟨(some 11), (some (10, false)), false, .mov (.tmp 1)⟩,
    ⟨(some 12), (some (10, false)), false, .bin .gtr (.tmp 11) (.const (.int .i64 4))⟩,
    ⟨(some 13), none, false, .pick (.tmp 10) (.const (.bool true)) (.tmp 12)⟩,
    ⟨(some 14), none, false, .mov (.tmp 13)⟩,
    ⟨(some 15), (some (14, false)), false, .mov (.tmp 0)⟩,
    ⟨(some 16), (some (14, false)), false, .bin .lss (.tmp 15) (.const (.int .i64 0))⟩,
    ⟨(some 17), none, false, .pick (.tmp 14) (.const (.bool true)) (.tmp 16)⟩,
    ⟨(some 18), none, false, .mov (.tmp 17)⟩,
    ⟨(some 19), (some (18, false)), false, .mov (.tmp 0)⟩,
    ⟨(some 20), (some (18, false)), false, .bin .gtr (.tmp 19) (.const (.int .i64 2147483647))⟩,
    ⟨(some 21), none, false, .pick (.tmp 18) (.const (.bool true)) (.tmp 20)⟩]) (.cond (.tmp 21) (.seq (.ops [
    ⟨(some 4), none, false, .mov (.const (.slice none 0 0))⟩,
    ⟨(some 5), none, false, .mov (.const (.int .i64 1))⟩]) .ret) .skip)) (.seq (.ops [
    ⟨(some 6), none, false, .mov (.const (.slice none 0 0))⟩]) (.seq (.seq (.ops [
    ⟨(some 7), none, false, .mov (.const (.int .i64 0))⟩]) (.block 0 (.loop (.seq (.seq (.ops [
    ⟨(some 22), none, false, .mov (.tmp 7)⟩,
    ⟨(some 23), none, false, .mov (.tmp 1)⟩,
    ⟨(some 24), none, false, .bin .lss (.tmp 22) (.tmp 23)⟩]) (.cond (.tmp 24) .skip (.exit 0))) (.seq (.block 1 (.seq (.ops [
    ⟨(some 27), none, false, .mov (.tmp 6)⟩,
    ⟨(some 28), none, false, .mov (.tmp 0)⟩,
    ⟨(some 29), none, false, .bin .rem (.tmp 28) (.const (.int .i64 256))⟩,
    ⟨(some 30), none, false, .conv .u8 (.tmp 29)⟩,
    ⟨(some 31), none, false, .lit [.int .u8 0] 1 1 [(0, 1, (.tmp 30))]⟩,
    ⟨(some 32), none, false, .app (.tmp 27) (.tmp 31) 1 1⟩,
    ⟨(some 6), none, false, .mov (.tmp 32)⟩]) (.ops [
    ⟨(some 33), none, false, .mov (.tmp 0)⟩,
    ⟨(some 34), none, false, .bin .quo (.tmp 33) (.const (.int .i64 256))⟩,
    ⟨(some 0), none, false, .mov (.tmp 34)⟩]))) (.ops [
    ⟨(some 25), none, false, .mov (.tmp 7)⟩,
    ⟨(some 26), none, false, .bin .add (.tmp 25) (.const (.int .i64 1))⟩,
    ⟨(some 7), none, false, .mov (.tmp 26)⟩])))))) (.seq (.seq (.ops [
    ⟨(some 35), none, false, .mov (.tmp 0)⟩,
    ⟨(some 36), none, false, .bin .gtr (.tmp 35) (.const (.int .i64 0))⟩]) (.cond (.tmp 36) (.seq (.ops [
    ⟨(some 4), none, false, .mov (.const (.slice none 0 0))⟩,
    ⟨(some 5), none, false, .mov (.const (.int .i64 1))⟩]) .ret) .skip)) (.seq (.ops [
    ⟨(some 37), none, false, .mov (.tmp 6)⟩,
    ⟨(some 4), none, false, .mov (.tmp 37)⟩,
    ⟨(some 5), none, false, .mov (.const (.int .i64 0))⟩]) .ret))))))
theorem fits_chantryref01_Fix : Fits Tryd.prog 1 chantryref01_Fix ic_chantryref01_Fix [.tmp 4, .tmp 5] 2 :=
  ⟨Tryd.f59, Tryd.func59, by decide, by kernel_rfl, by kernel_rfl⟩

/-- (*chantry/num.Cursor).fail -/
noncomputable def ic_num_Cursor_fail : IC :=
  (.seq (.ops [
    ⟨(some 2), none, false, .mov (.tmp 0)⟩,
    ⟨(some 3), none, false, .isnil (.pointer 91) (.tmp 2) true⟩]) (.cond (.tmp 3) (.ops [
    ⟨(some 4), none, false, .mov (.tmp 0)⟩,
    ⟨(some 5), none, false, .mov (.tmp 0)⟩,
    ⟨(some 6), none, false, .nilc (.tmp 4)⟩,
    ⟨(some 7), none, false, .faddr (.tmp 6) 0⟩,
    ⟨none, none, false, .store (.tmp 7) (.const (.slice none 0 0)) 1⟩,
    ⟨(some 8), none, false, .nilc (.tmp 5)⟩,
    ⟨(some 9), none, false, .faddr (.tmp 8) 1⟩,
    ⟨none, none, false, .store (.tmp 9) (.const (.bool true)) 1⟩]) .skip))
theorem fits_num_Cursor_fail : Fits Tryd.prog 1 num_Cursor_fail ic_num_Cursor_fail [] 1 :=
  ⟨Tryd.f60, Tryd.func60, by decide, by kernel_rfl, by kernel_rfl⟩

/-- (*chantry/num.Cursor).Text -/
noncomputable def ic_num_Cursor_Text : IC :=
  (.seq (.ops [
    ⟨(some 2), none, false, .mov (.const (.slice none 0 0))⟩]) (.seq (.ops [
    ⟨(some 4), none, false, .mov (.tmp 0)⟩,
    ⟨(some 5), none, false, .call num_Cursor_Num [(.tmp 4)]⟩,
    ⟨(some 3), none, false, .mov (.tmp 5)⟩]) (.seq (.seq (.ops [
    ⟨(some 6), none, false, .mov (.tmp 3)⟩,
    ⟨(some 7), none, false, .bin .gtr (.tmp 6) (.const (.int .i64 262144))⟩]) (.cond (.tmp 7) (.ops [
    ⟨(some 3), none, false, .mov (.const (.int .i64 (-1)))⟩]) .skip)) (.seq (.seq (.ops [
    ⟨(some 8), none, false, .mov (.tmp 0)⟩,
    ⟨(some 9), none, false, .call num_Cursor_Bad [(.tmp 8)]⟩]) (.cond (.tmp 9) (.seq (.ops [
    ⟨(some 2), none, false, .mov (.const (.slice none 0 0))⟩]) .ret) .skip)) (.seq (.ops [
    ⟨(some 10), none, false, .mov (.tmp 0)⟩,
    ⟨(some 11), none, false, .mov (.tmp 3)⟩,
    ⟨(some 12), none, false, .call num_Cursor_Take [(.tmp 10), (.tmp 11)]⟩,
    ⟨(some 2), none, false, .mov (.tmp 12)⟩]) .ret)))))
theorem fits_num_Cursor_Text : Fits Tryd.prog 1 num_Cursor_Text ic_num_Cursor_Text [.tmp 2] 1 :=
  ⟨Tryd.f61, Tryd.func61, by decide, by kernel_rfl, by kernel_rfl⟩

/-- chantry/op.number -/
noncomputable def ic_op_number : IC :=
  (.seq (.ops [
    ⟨(some 2), none, false, .mov (.const (.int .i64 0))⟩,
    ⟨(some 3), none, false, .mov (.const (.bool false))⟩]) (.seq (.ops [
    ⟨(some 7), none, false, .mov (.tmp 0)⟩,
    ⟨(some 8), none, false, .call num_Cursor_Byte [(.tmp 7)]⟩,
    ⟨(some 4), none, false, .mov (.tmp 8)⟩]) (.seq (.ops [
    ⟨(some 10), none, false, .mov (.tmp 0)⟩,
    ⟨(some 11), none, false, .call num_Cursor_Take [(.tmp 10), (.const (.int .i64 4))]⟩,
    ⟨(some 12), none, false, .call num_Unfix [(.tmp 11)]⟩,
    ⟨(some 9), none, false, .mov (.tmp 12)⟩,
    ⟨(some 13), none, false, .ext (.tmp 9) 0⟩,
    ⟨(some 14), none, false, .ext (.tmp 9) 1⟩,
    ⟨(some 5), none, false, .mov (.tmp 13)⟩,
    ⟨(some 6), none, false, .mov (.tmp 14)⟩]) (.seq (.seq (.ops [
    ⟨(some 15), none, false, .mov (.tmp 4)⟩,
    ⟨(some 16), none, false, .bin .gtr (.tmp 15) (.const (.int .i64 1))⟩,
    ⟨(some 17), none, false, .mov (.tmp 16)⟩,
    ⟨(some 18), (some (17, false)), false, .mov (.tmp 4)⟩,
    ⟨(some 19), (some (17, false)), false, .bin .eql (.tmp 18) (.const (.int .i64 1))⟩,
    ⟨(some 20), (some (17, false)), false, .mov (.tmp 19)⟩,
    ⟨(some 21), (some (20, true)), false, .mov (.tmp 5)⟩,
    ⟨(some 22), (some (20, true)), false, .bin .eql (.tmp 21) (.const (.int .i64 0))⟩,
    ⟨(some 23), (some (17, false)), false, .pick (.tmp 20) (.tmp 22) (.const (.bool false))⟩,
    ⟨(some 24), none, false, .pick (.tmp 17) (.const (.bool true)) (.tmp 23)⟩]) (.cond (.tmp 24) (.seq (.ops [
    ⟨(some 2), none, false, .mov (.const (.int .i64 0))⟩,
    ⟨(some 3), none, false, .mov (.const (.bool false))⟩]) .ret) .skip)) (.seq (.ops [
    ⟨(some 25), none, false, .mov (.tmp 5)⟩,
    ⟨(some 26), none, false, .mov (.tmp 4)⟩,
    ⟨(some 27), none, false, .bin .mul (.const (.int .i64 2)) (.tmp 26)⟩,
    ⟨(some 28), none, false, .bin .sub (.const (.int .i64 1)) (.tmp 27)⟩,
    ⟨(some 29), none, false, .bin .mul (.tmp 25) (.tmp 28)⟩,
    ⟨(some 30), none, false, .mov (.tmp 6)⟩,
    ⟨(some 31), none, false, .bin .eql (.tmp 30) (.const (.int .i64 0))⟩,
    ⟨(some 2), none, false, .mov (.tmp 29)⟩,
    ⟨(some 3), none, false, .mov (.tmp 31)⟩]) .ret)))))
theorem fits_op_number : Fits Tryd.prog 1 op_number ic_op_number [.tmp 2, .tmp 3] 1 :=
  ⟨Tryd.f62, Tryd.func62, by decide, by kernel_rfl, by kernel_rfl⟩

/-- chantry/op.place -/
noncomputable def ic_op_place : IC :=
  (.seq (.ops [
    ⟨(some 4), none, false, .mov (.const (.string ⟨#[]⟩))⟩,
    ⟨(some 5), none, false, .mov (.const (.bool false))⟩]) (.seq (.seq (.ops [
    ⟨(some 6), none, false, .mov (.tmp 1)⟩,
    ⟨(some 7), none, false, .bin .eql (.tmp 6) (.const (.int .i64 5))⟩]) (.cond (.tmp 7) (.seq (.ops [
    ⟨(some 8), none, false, .mov (.tmp 0)⟩,
    ⟨(some 9), none, false, .call num_Cursor_Byte [(.tmp 8)]⟩]) (.block 0 (.seq (.ops [
    ⟨(some 11), none, false, .bin .eql (.tmp 9) (.const (.int .i64 0))⟩,
    ⟨(some 10), none, false, .mov (.tmp 11)⟩]) (.cond (.tmp 10) (.seq (.ops [
    ⟨(some 4), none, false, .mov (.const (.string ⟨#[]⟩))⟩,
    ⟨(some 5), none, false, .mov (.const (.bool true))⟩]) .ret) (.seq (.ops [
    ⟨(some 13), none, false, .bin .eql (.tmp 9) (.const (.int .i64 1))⟩,
    ⟨(some 12), none, false, .mov (.tmp 13)⟩]) (.cond (.tmp 12) .skip (.seq (.ops [
    ⟨(some 4), none, false, .mov (.const (.string ⟨#[]⟩))⟩,
    ⟨(some 5), none, false, .mov (.const (.bool false))⟩]) .ret))))))) .skip)) (.seq (.ops [
    ⟨(some 14), none, false, .mov (.tmp 0)⟩,
    ⟨(some 15), none, false, .call num_Cursor_Take [(.tmp 14), (.const (.int .i64 32))]⟩,
    ⟨(some 16), none, false, .b2s (.tmp 15)⟩,
    ⟨(some 4), none, false, .mov (.tmp 16)⟩,
    ⟨(some 5), none, false, .mov (.const (.bool true))⟩]) .ret)))
theorem fits_op_place : Fits Tryd.prog 1 op_place ic_op_place [.tmp 4, .tmp 5] 2 :=
  ⟨Tryd.f63, Tryd.func63, by decide, by kernel_rfl, by kernel_rfl⟩

/-- chantry/ids.Right -/
noncomputable def ic_ids_Right : IC :=
  (.seq (.ops [
    ⟨(some 2), none, false, .mov (.const (.bool false))⟩]) (.seq (.ops [
    ⟨(some 3), none, false, .mov (.tmp 0)⟩,
    ⟨(some 4), none, false, .lens true (.tmp 3)⟩,
    ⟨(some 5), none, false, .bin .eql (.tmp 4) (.const (.int .i64 32))⟩,
    ⟨(some 2), none, false, .mov (.tmp 5)⟩]) .ret))
theorem fits_ids_Right : Fits Tryd.prog 1 ids_Right ic_ids_Right [.tmp 2] 1 :=
  ⟨Tryd.f64, Tryd.func64, by decide, by kernel_rfl, by kernel_rfl⟩

/-- chantry/op.Name -/
noncomputable def ic_op_Name : IC :=
  (.seq (.ops [
    ⟨(some 2), none, false, .mov (.const (.bool false))⟩]) (.seq (.ops [
    ⟨(some 4), none, false, .mov (.tmp 0)⟩,
    ⟨(some 5), none, false, .call strings_IndexFunc [(.tmp 4), (.func 85)]⟩,
    ⟨(some 3), none, false, .mov (.tmp 5)⟩]) (.seq (.ops [
    ⟨(some 6), none, false, .mov (.tmp 3)⟩,
    ⟨(some 7), none, false, .bin .lss (.tmp 6) (.const (.int .i64 0))⟩,
    ⟨(some 8), none, false, .mov (.tmp 7)⟩,
    ⟨(some 9), (some (8, true)), false, .mov (.tmp 0)⟩,
    ⟨(some 10), (some (8, true)), false, .lens true (.tmp 9)⟩,
    ⟨(some 11), (some (8, true)), false, .bin .geq (.tmp 10) (.const (.int .i64 1))⟩,
    ⟨(some 12), none, false, .pick (.tmp 8) (.tmp 11) (.const (.bool false))⟩,
    ⟨(some 13), none, false, .mov (.tmp 12)⟩,
    ⟨(some 14), (some (13, true)), false, .mov (.tmp 0)⟩,
    ⟨(some 15), (some (13, true)), false, .lens true (.tmp 14)⟩,
    ⟨(some 16), (some (13, true)), false, .bin .leq (.tmp 15) (.const (.int .i64 12))⟩,
    ⟨(some 17), none, false, .pick (.tmp 13) (.tmp 16) (.const (.bool false))⟩,
    ⟨(some 2), none, false, .mov (.tmp 17)⟩]) .ret)))
theorem fits_op_Name : Fits Tryd.prog 1 op_Name ic_op_Name [.tmp 2] 1 :=
  ⟨Tryd.f65, Tryd.func65, by decide, by kernel_rfl, by kernel_rfl⟩

/-- chantry/op.bare -/
noncomputable def ic_op_bare : IC :=
  (.seq (.ops [
    ⟨(some 1), none, false, .box (.tmp 0)⟩,
    ⟨(some 2), none, false, .new [.int .i64 0, .string ⟨#[]⟩, .string ⟨#[]⟩, .int .i64 0, .string ⟨#[]⟩]⟩]) (.seq (.tree (.op ⟨(some 5), none, false, .faddr (.tmp 1) 0⟩
    (.op ⟨(some 6), none, true, .load1 (.tmp 5)⟩
    (.op ⟨(some 7), none, false, .build [.int .i64 0, .string ⟨#[]⟩, .string ⟨#[]⟩, .int .i64 0, .string ⟨#[]⟩] [(0, 1, (.tmp 6))]⟩
    (.op ⟨(some 8), none, false, .faddr (.tmp 1) 0⟩
    (.op ⟨(some 9), none, true, .load1 (.tmp 8)⟩
    (.alt (.op ⟨(some 10), none, true, .call op_has [(.tmp 9)]⟩
    (.op ⟨(some 3), none, true, .new [.int .i64 0, .string ⟨#[]⟩, .string ⟨#[]⟩, .int .i64 0, .string ⟨#[]⟩]⟩
    (.op ⟨none, none, false, .store (.tmp 3) (.tmp 7) 5⟩
    (.op ⟨(some 4), none, false, .mov (.tmp 10)⟩
    (.nil)))))
    (.op ⟨(some 3), none, true, .new [.int .i64 0, .string ⟨#[]⟩, .string ⟨#[]⟩, .int .i64 0, .string ⟨#[]⟩]⟩
    (.op ⟨(some 10), none, true, .call op_has [(.tmp 9)]⟩
    (.op ⟨none, none, false, .store (.tmp 3) (.tmp 7) 5⟩
    (.op ⟨(some 4), none, false, .mov (.tmp 10)⟩
    (.nil)))))))))))) (.seq (.seq (.ops [
    ⟨(some 11), none, false, .mov (.tmp 4)⟩,
    ⟨(some 12), none, false, .bin .and (.tmp 11) (.const (.int .i64 1))⟩,
    ⟨(some 13), none, false, .bin .gtr (.tmp 12) (.const (.int .i64 0))⟩]) (.cond (.tmp 13) (.ops [
    ⟨(some 14), none, false, .faddr (.tmp 1) 1⟩,
    ⟨(some 15), none, false, .load1 (.tmp 14)⟩,
    ⟨(some 16), none, false, .faddr (.tmp 3) 1⟩,
    ⟨none, none, false, .store (.tmp 16) (.tmp 15) 1⟩]) .skip)) (.seq (.seq (.ops [
    ⟨(some 17), none, false, .mov (.tmp 4)⟩,
    ⟨(some 18), none, false, .bin .and (.tmp 17) (.const (.int .i64 2))⟩,
    ⟨(some 19), none, false, .bin .gtr (.tmp 18) (.const (.int .i64 0))⟩]) (.cond (.tmp 19) (.ops [
    ⟨(some 20), none, false, .faddr (.tmp 1) 2⟩,
    ⟨(some 21), none, false, .load1 (.tmp 20)⟩,
    ⟨(some 22), none, false, .faddr (.tmp 3) 2⟩,
    ⟨none, none, false, .store (.tmp 22) (.tmp 21) 1⟩]) .skip)) (.seq (.seq (.ops [
    ⟨(some 23), none, false, .mov (.tmp 4)⟩,
    ⟨(some 24), none, false, .bin .and (.tmp 23) (.const (.int .i64 4))⟩,
    ⟨(some 25), none, false, .bin .gtr (.tmp 24) (.const (.int .i64 0))⟩]) (.cond (.tmp 25) (.ops [
    ⟨(some 26), none, false, .faddr (.tmp 1) 3⟩,
    ⟨(some 27), none, false, .load1 (.tmp 26)⟩,
    ⟨(some 28), none, false, .faddr (.tmp 3) 3⟩,
    ⟨none, none, false, .store (.tmp 28) (.tmp 27) 1⟩]) .skip)) (.seq (.seq (.ops [
    ⟨(some 29), none, false, .mov (.tmp 4)⟩,
    ⟨(some 30), none, false, .bin .and (.tmp 29) (.const (.int .i64 8))⟩,
    ⟨(some 31), none, false, .bin .gtr (.tmp 30) (.const (.int .i64 0))⟩]) (.cond (.tmp 31) (.ops [
    ⟨(some 32), none, false, .faddr (.tmp 1) 4⟩,
    ⟨(some 33), none, false, .load1 (.tmp 32)⟩,
    ⟨(some 34), none, false, .faddr (.tmp 3) 4⟩,
    ⟨none, none, false, .store (.tmp 34) (.tmp 33) 1⟩]) .skip)) (.seq (.ops [
    ⟨(some 35), none, false, .loadn (.tmp 3) 5⟩,
    ⟨none, none, false, .store (.tmp 2) (.tmp 35) 5⟩]) .ret)))))))
theorem fits_op_bare : Fits Tryd.prog 1 op_bare ic_op_bare [.many 2 5] 1 :=
  ⟨Tryd.f66, Tryd.func66, by decide, by kernel_rfl, by kernel_rfl⟩

/-- chantry/chantryref01.spoilt -/
noncomputable def ic_chantryref01_spoilt : IC :=
  (.seq (.ops [
    ⟨(some 1), none, false, .box (.tmp 0)⟩,
    ⟨(some 2), none, false, .new [.slice none 0 0, .int .i64 0, .bool false]⟩]) (.seq (.ops [
    ⟨(some 3), none, false, .build [.slice none 0 0, .int .i64 0, .bool false] [(2, 1, (.const (.bool true)))]⟩,
    ⟨none, none, false, .store (.tmp 2) (.tmp 3) 3⟩]) .ret))
theorem fits_chantryref01_spoilt : Fits Tryd.prog 1 chantryref01_spoilt ic_chantryref01_spoilt [.many 2 3] 1 :=
  ⟨Tryd.f67, Tryd.func67, by decide, by kernel_rfl, by kernel_rfl⟩

/-- chantry/chantryref01.TakeText -/
noncomputable def ic_chantryref01_TakeText : IC :=
  (.seq (.ops [
    ⟨(some 1), none, false, .box (.tmp 0)⟩,
    ⟨(some 2), none, false, .new [.slice none 0 0, .int .i64 0, .bool false]⟩,
    ⟨(some 3), none, false, .mov (.const (.slice none 0 0))⟩]) (.seq (.ops [
    ⟨(some 7), none, false, .loadn (.tmp 1) 3⟩,
    ⟨(some 8), none, false, .call chantryref01_Num [(.tmp 7)]⟩,
    ⟨(some 6), none, false, .mov (.tmp 8)⟩,
    ⟨(some 9), none, false, .ext (.tmp 6) 0⟩,
    ⟨(some 10), none, false, .ext (.tmp 6) 1⟩,
    ⟨(some 4), none, false, .new [.slice none 0 0, .int .i64 0, .bool false]⟩,
    ⟨none, none, false, .store (.tmp 4) (.tmp 9) 3⟩,
    ⟨(some 5), none, false, .mov (.tmp 10)⟩]) (.seq (.seq (.ops [
    ⟨(some 11), none, false, .faddr (.tmp 4) 2⟩,
    ⟨(some 12), none, false, .load1 (.tmp 11)⟩,
    ⟨(some 13), none, false, .mov (.tmp 12)⟩,
    ⟨(some 14), (some (13, false)), false, .mov (.tmp 5)⟩,
    ⟨(some 15), (some (13, false)), false, .bin .gtr (.tmp 14) (.const (.int .i64 262144))⟩,
    ⟨(some 16), none, false, .pick (.tmp 13) (.const (.bool true)) (.tmp 15)⟩]) (.cond (.tmp 16) (.seq (.ops [
    ⟨(some 17), none, false, .loadn (.tmp 1) 3⟩,
    ⟨(some 18), none, false, .call chantryref01_spoilt [(.tmp 17)]⟩,
    ⟨none, none, false, .store (.tmp 2) (.tmp 18) 3⟩,
    ⟨(some 3), none, false, .mov (.const (.slice none 0 0))⟩]) .ret) .skip)) (.seq (.ops [
    ⟨(some 19), none, false, .loadn (.tmp 4) 3⟩,
    ⟨(some 20), none, false, .mov (.tmp 5)⟩,
    ⟨(some 21), none, false, .call chantryref01_Take [(.tmp 19), (.tmp 20)]⟩,
    ⟨(some 22), none, false, .ext (.tmp 21) 0⟩,
    ⟨(some 23), none, false, .ext (.tmp 21) 1⟩,
    ⟨none, none, false, .store (.tmp 2) (.tmp 22) 3⟩,
    ⟨(some 3), none, false, .mov (.tmp 23)⟩]) .ret))))
theorem fits_chantryref01_TakeText : Fits Tryd.prog 1 chantryref01_TakeText ic_chantryref01_TakeText [.many 2 3, .tmp 3] 1 :=
  ⟨Tryd.f68, Tryd.func68, by decide, by kernel_rfl, by kernel_rfl⟩

/-- chantry/chantryref01.Unfix -/
noncomputable def ic_chantryref01_Unfix : IC :=
  (.seq (.ops [
    ⟨(some 2), none, false, .mov (.const (.int .i64 0))⟩,
    ⟨(some 3), none, false, .mov (.const (.int .i64 0))⟩]) (.seq (.seq (.ops [
    ⟨(some 6), none, false, .mov (.tmp 0)⟩,
    ⟨(some 7), none, false, .lens false (.tmp 6)⟩,
    ⟨(some 8), none, false, .bin .lss (.tmp 7) (.const (.int .i64 1))⟩,
    ⟨(some 9), none, false, .mov (.tmp 8)⟩,
    ⟨(some 10), (some (9, false)), false, .mov (.tmp 0)⟩,
    ⟨(some 11), (some (9, false)), false, .lens false (.tmp 10)⟩,
    ⟨(some 12), (some (9, false)), false, .bin .gtr (.tmp 11) (.const (.int .i64 4))⟩,
    ⟨(some 13), none, false, .pick (.tmp 9) (.const (.bool true)) (.tmp 12)⟩]) (.cond (.tmp 13) (.seq (.ops [
    ⟨(some 2), none, false, .mov (.const (.int .i64 0))⟩,
    ⟨(some 3), none, false, .mov (.const (.int .i64 1))⟩]) .ret) .skip)) (.seq (.ops [
    ⟨(some 4), none, false, .mov (.const (.int .i64 0))⟩]) (.seq (.seq (.ops [
    ⟨(some 14), none, false, .mov (.tmp 0)⟩,
    ⟨(some 15), none, false, .lens false (.tmp 14)⟩,
    ⟨(some 16), none, false, .bin .sub (.tmp 15) (.const (.int .i64 1))⟩,
    ⟨(some 5), none, false, .mov (.tmp 16)⟩]) (.block 0 (.loop (.seq (.seq (.ops [
    ⟨(some 17), none, false, .mov (.tmp 5)⟩,
    ⟨(some 18), none, false, .bin .geq (.tmp 17) (.const (.int .i64 0))⟩]) (.cond (.tmp 18) .skip (.exit 0))) (.seq (.block 1 (.ops [
    ⟨(some 21), none, false, .mov (.tmp 4)⟩,
    ⟨(some 22), none, false, .bin .mul (.const (.int .i64 256)) (.tmp 21)⟩,
    ⟨(some 23), none, false, .mov (.tmp 0)⟩,
    ⟨(some 24), none, false, .mov (.tmp 5)⟩,
    ⟨(some 25), none, false, .iaddr (.tmp 23) (.tmp 24) 1⟩,
    ⟨(some 26), none, false, .load1 (.tmp 25)⟩,
    ⟨(some 27), none, false, .conv .i64 (.tmp 26)⟩,
    ⟨(some 28), none, false, .bin .add (.tmp 22) (.tmp 27)⟩,
    ⟨(some 4), none, false, .mov (.tmp 28)⟩])) (.ops [
    ⟨(some 19), none, false, .mov (.tmp 5)⟩,
    ⟨(some 20), none, false, .bin .sub (.tmp 19) (.const (.int .i64 1))⟩,
    ⟨(some 5), none, false, .mov (.tmp 20)⟩])))))) (.seq (.seq (.ops [
    ⟨(some 29), none, false, .mov (.tmp 4)⟩,
    ⟨(some 30), none, false, .bin .gtr (.tmp 29) (.const (.int .i64 2147483647))⟩]) (.cond (.tmp 30) (.seq (.ops [
    ⟨(some 2), none, false, .mov (.const (.int .i64 0))⟩,
    ⟨(some 3), none, false, .mov (.const (.int .i64 5))⟩]) .ret) .skip)) (.seq (.ops [
    ⟨(some 31), none, false, .mov (.tmp 4)⟩,
    ⟨(some 2), none, false, .mov (.tmp 31)⟩,
    ⟨(some 3), none, false, .mov (.const (.int .i64 0))⟩]) .ret))))))
theorem fits_chantryref01_Unfix : Fits Tryd.prog 1 chantryref01_Unfix ic_chantryref01_Unfix [.tmp 2, .tmp 3] 1 :=
  ⟨Tryd.f69, Tryd.func69, by decide, by kernel_rfl, by kernel_rfl⟩

/-- chantry/sha.Begin -/
noncomputable def ic_sha_Begin : IC :=
  (.seq (.ops [
    ⟨(some 0), none, false, .mov (.const (.pointer none))⟩]) (.seq (.ops [
    ⟨(some 1), none, false, .build [.int .u32 0, .int .u32 0, .int .u32 0, .int .u32 0, .int .u32 0, .int .u32 0, .int .u32 0, .int .u32 0] [(0, 1, (.const (.int .u32 1779033703))), (1, 1, (.const (.int .u32 3144134277))), (2, 1, (.const (.int .u32 1013904242))), (3, 1, (.const (.int .u32 2773480762))), (4, 1, (.const (.int .u32 1359893119))), (5, 1, (.const (.int .u32 2600822924))), (6, 1, (.const (.int .u32 528734635))), (7, 1, (.const (.int .u32 1541459225)))]⟩,
    ⟨(some 2), none, false, .build [.int .u32 0, .int .u32 0, .int .u32 0, .int .u32 0, .int .u32 0, .int .u32 0, .int .u32 0, .int .u32 0, .slice none 0 0, .int .i64 0] [(0, 8, (.tmp 1))]⟩,
    ⟨(some 3), none, false, .box (.tmp 2)⟩,
    ⟨(some 0), none, false, .mov (.tmp 3)⟩]) .ret))
theorem fits_sha_Begin : Fits Tryd.prog 1 sha_Begin ic_sha_Begin [.tmp 0] 0 :=
  ⟨Tryd.f70, Tryd.func70, by decide, by kernel_rfl, by kernel_rfl⟩

/-- (*chantry/sha.Hash).Add -/
noncomputable def ic_sha_Hash_Add : IC :=
  (.seq (.seq (.ops [
    ⟨(some 5), none, false, .mov (.tmp 0)⟩,
    ⟨(some 6), none, false, .isnil (.pointer 115) (.tmp 5) false⟩]) (.cond (.tmp 6) .ret .skip)) (.seq (.ops [
    ⟨(some 7), none, false, .mov (.tmp 0)⟩,
    ⟨(some 8), none, false, .nilc (.tmp 7)⟩,
    ⟨(some 9), none, false, .faddr (.tmp 8) 9⟩,
    ⟨(some 10), none, false, .load1 (.tmp 9)⟩,
    ⟨(some 11), none, false, .mov (.tmp 1)⟩,
    ⟨(some 12), none, false, .lens false (.tmp 11)⟩,
    ⟨(some 13), none, false, .bin .add (.tmp 10) (.tmp 12)⟩,
    ⟨(some 14), none, false, .nilc (.tmp 7)⟩,
    ⟨(some 15), none, false, .faddr (.tmp 14) 9⟩,
    ⟨none, none, false, .store (.tmp 15) (.tmp 13) 1⟩]) (.seq (.ops [
    ⟨(some 16), none, false, .mov (.tmp 0)⟩,
    ⟨(some 17), none, false, .nilc (.tmp 16)⟩,
    ⟨(some 18), none, false, .faddr (.tmp 17) 8⟩,
    ⟨(some 19), none, false, .load1 (.tmp 18)⟩,
    ⟨(some 20), none, false, .mov (.tmp 1)⟩,
    ⟨(some 21), none, false, .lit [.slice none 0 0] 1 2 [(0, 1, (.tmp 19)), (1, 1, (.tmp 20))]⟩,
    ⟨(some 22), none, false, .call slices_Concat_byte_byte [(.tmp 21)]⟩,
    ⟨(some 4), none, false, .mov (.tmp 22)⟩]) (.seq (.block 0 (.loop (.seq (.seq (.ops [
    ⟨(some 23), none, false, .mov (.tmp 4)⟩,
    ⟨(some 24), none, false, .lens false (.tmp 23)⟩,
    ⟨(some 25), none, false, .bin .geq (.tmp 24) (.const (.int .i64 64))⟩]) (.cond (.tmp 25) .skip (.exit 0))) (.block 1 (.seq (.ops [
    ⟨(some 26), none, false, .mov (.tmp 0)⟩,
    ⟨(some 27), none, false, .mov (.tmp 4)⟩,
    ⟨(some 28), none, false, .sll (.tmp 27) none (some (.const (.int .i64 64))) none 1⟩,
    ⟨(some 29), none, false, .call sha_Hash_mix [(.tmp 26), (.tmp 28)]⟩]) (.ops [
    ⟨(some 30), none, false, .mov (.tmp 4)⟩,
    ⟨(some 31), none, false, .sll (.tmp 30) (some (.const (.int .i64 64))) none none 1⟩,
    ⟨(some 4), none, false, .mov (.tmp 31)⟩])))))) (.ops [
    ⟨(some 32), none, false, .mov (.tmp 0)⟩,
    ⟨(some 33), none, false, .mov (.tmp 4)⟩,
    ⟨(some 34), none, false, .call slices_Clone_byte_byte [(.tmp 33)]⟩,
    ⟨(some 35), none, false, .nilc (.tmp 32)⟩,
    ⟨(some 36), none, false, .faddr (.tmp 35) 8⟩,
    ⟨none, none, false, .store (.tmp 36) (.tmp 34) 1⟩])))))
theorem fits_sha_Hash_Add : Fits Tryd.prog 1 sha_Hash_Add ic_sha_Hash_Add [] 2 :=
  ⟨Tryd.f71, Tryd.func71, by decide, by kernel_rfl, by kernel_rfl⟩

/-- (*chantry/sha.Hash).Sum -/
noncomputable def ic_sha_Hash_Sum : IC :=
  (.seq (.ops [
    ⟨(some 2), none, false, .mov (.const (.string ⟨#[]⟩))⟩]) (.seq (.seq (.ops [
    ⟨(some 7), none, false, .mov (.tmp 0)⟩,
    ⟨(some 8), none, false, .isnil (.pointer 115) (.tmp 7) false⟩]) (.cond (.tmp 8) (.seq (.ops [
    ⟨(some 2), none, false, .mov (.const (.string ⟨#[]⟩))⟩]) .ret) .skip)) (.seq (.ops [
    ⟨(some 9), none, false, .mov (.tmp 0)⟩,
    ⟨(some 10), none, false, .nilc (.tmp 9)⟩,
    ⟨(some 11), none, false, .loadn (.tmp 10) 10⟩,
    ⟨(some 3), none, false, .new [.int .u32 0, .int .u32 0, .int .u32 0, .int .u32 0, .int .u32 0, .int .u32 0, .int .u32 0, .int .u32 0, .slice none 0 0, .int .i64 0]⟩,
    ⟨none, none, false, .store (.tmp 3) (.tmp 11) 10⟩]) (.seq (.ops [
    ⟨(some 12), none, false, .mov (.tmp 0)⟩,
    ⟨(some 13), none, false, .call sha_Hash_end [(.tmp 12)]⟩,
    ⟨(some 14), none, false, .call sha_Hash_Add [(.tmp 3), (.tmp 13)]⟩]) (.seq (.ops [
    ⟨(some 4), none, false, .mov (.const (.slice none 0 0))⟩]) (.seq (.seq (.ops [
    ⟨(some 15), none, false, .faddr (.tmp 3) 0⟩,
    ⟨(some 16), none, false, .loadn (.tmp 15) 8⟩,
    ⟨(some 17), none, false, .mov (.const (.int .i64 0))⟩]) (.block 0 (.loop (.seq (.ops [
    ⟨(some 18), none, false, .bin .lss (.tmp 17) (.const (.int .i64 8))⟩]) (.seq (.cond (.tmp 18) .skip (.exit 0)) (.seq (.block 1 (.seq (.ops [
    ⟨(some 19), none, false, .idxa1 (.tmp 16) (.tmp 17) 8⟩,
    ⟨(some 6), none, false, .mov (.tmp 19)⟩]) (.ops [
    ⟨(some 20), none, false, .mov (.tmp 4)⟩,
    ⟨(some 21), none, false, .mov (.tmp 6)⟩,
    ⟨(some 22), none, false, .bin .shr (.tmp 21) (.const (.int .u64 24))⟩,
    ⟨(some 23), none, false, .conv .u8 (.tmp 22)⟩,
    ⟨(some 24), none, false, .mov (.tmp 6)⟩,
    ⟨(some 25), none, false, .bin .shr (.tmp 24) (.const (.int .u64 16))⟩,
    ⟨(some 26), none, false, .conv .u8 (.tmp 25)⟩,
    ⟨(some 27), none, false, .mov (.tmp 6)⟩,
    ⟨(some 28), none, false, .bin .shr (.tmp 27) (.const (.int .u64 8))⟩,
    ⟨(some 29), none, false, .conv .u8 (.tmp 28)⟩,
    ⟨(some 30), none, false, .mov (.tmp 6)⟩,
    ⟨(some 31), none, false, .conv .u8 (.tmp 30)⟩,
    ⟨(some 32), none, false, .lit [.int .u8 0] 1 4 [(0, 1, (.tmp 23)), (1, 1, (.tmp 26)), (2, 1, (.tmp 29)), (3, 1, (.tmp 31))]⟩,
    ⟨(some 33), none, false, .app (.tmp 20) (.tmp 32) 1 1⟩,
    ⟨(some 4), none, false, .mov (.tmp 33)⟩]))) (.ops [
    ⟨(some 34), none, false, .bin .add (.tmp 17) (.const (.int .i64 1))⟩,
    ⟨(some 17), none, false, .mov (.tmp 34)⟩]))))))) (.seq (.ops [
    ⟨(some 35), none, false, .mov (.tmp 4)⟩,
    ⟨(some 36), none, false, .b2s (.tmp 35)⟩,
    ⟨(some 2), none, false, .mov (.tmp 36)⟩]) .ret)))))))
theorem fits_sha_Hash_Sum : Fits Tryd.prog 1 sha_Hash_Sum ic_sha_Hash_Sum [.tmp 2] 1 :=
  ⟨Tryd.f72, Tryd.func72, by decide, by kernel_rfl, by kernel_rfl⟩

/-- chantry/chantryref03.schedule -/
noncomputable def ic_chantryref03_schedule : IC :=
  (.seq (.ops [
    ⟨(some 2), none, false, .mov (.const (.slice none 0 0))⟩]) (.seq (.ops [
    ⟨(some 3), none, false, .mov (.const (.slice none 0 0))⟩]) (.seq (.seq (.ops [
    ⟨(some 4), none, false, .mov (.const (.int .i64 0))⟩]) (.block 0 (.loop (.seq (.seq (.ops [
    ⟨(some 10), none, false, .mov (.tmp 4)⟩,
    ⟨(some 11), none, false, .bin .lss (.tmp 10) (.const (.int .i64 16))⟩]) (.cond (.tmp 11) .skip (.exit 0))) (.seq (.block 1 (.ops [
    ⟨(some 14), none, false, .mov (.tmp 3)⟩,
    ⟨(some 15), none, false, .mov (.tmp 0)⟩,
    ⟨(some 16), none, false, .mov (.tmp 4)⟩,
    ⟨(some 17), none, false, .bin .mul (.const (.int .i64 4)) (.tmp 16)⟩,
    ⟨(some 18), none, false, .sll (.tmp 15) (some (.tmp 17)) none none 1⟩,
    ⟨(some 19), none, false, .call chantryref03_word [(.tmp 18)]⟩,
    ⟨(some 20), none, false, .lit [.int .u32 0] 1 1 [(0, 1, (.tmp 19))]⟩,
    ⟨(some 21), none, false, .app (.tmp 14) (.tmp 20) 1 4⟩,
    ⟨(some 3), none, false, .mov (.tmp 21)⟩])) (.ops [
    ⟨(some 12), none, false, .mov (.tmp 4)⟩,
    ⟨(some 13), none, false, .bin .add (.tmp 12) (.const (.int .i64 1))⟩,
    ⟨(some 4), none, false, .mov (.tmp 13)⟩])))))) (.seq (.seq (.ops [
    ⟨(some 5), none, false, .mov (.const (.int .i64 16))⟩]) (.block 2 (.loop (.seq (.seq (.ops [
    ⟨(some 22), none, false, .mov (.tmp 5)⟩,
    ⟨(some 23), none, false, .bin .lss (.tmp 22) (.const (.int .i64 64))⟩]) (.cond (.tmp 23) .skip (.exit 2))) (.seq (.block 3 (.seq (.draw [
    ⟨(some 26), none, false, .mov (.tmp 3)⟩,
    ⟨(some 27), none, false, .mov (.tmp 5)⟩,
    ⟨(some 28), none, false, .bin .sub (.tmp 27) (.const (.int .i64 15))⟩,
    ⟨(some 29), none, false, .iaddr (.tmp 26) (.tmp 28) 1⟩,
    ⟨(some 30), none, false, .load1 (.tmp 29)⟩,
    ⟨(some 31), none, false, .mov (.tmp 3)⟩,
    ⟨(some 32), none, false, .mov (.tmp 5)⟩,
    ⟨(some 33), none, false, .bin .sub (.tmp 32) (.const (.int .i64 2))⟩,
    ⟨(some 34), none, false, .iaddr (.tmp 31) (.tmp 33) 1⟩,
    ⟨(some 35), none, false, .load1 (.tmp 34)⟩,
    ⟨(some 6), none, false, .mov (.tmp 30)⟩,
    ⟨(some 7), none, false, .mov (.tmp 35)⟩]) (.seq (.ops [
    ⟨(some 36), none, false, .mov (.tmp 6)⟩,
    ⟨(some 37), none, false, .call chantryref03_turn [(.tmp 36), (.const (.int .u32 7))]⟩,
    ⟨(some 38), none, false, .mov (.tmp 6)⟩,
    ⟨(some 39), none, false, .call chantryref03_turn [(.tmp 38), (.const (.int .u32 18))]⟩,
    ⟨(some 40), none, false, .bin .xor (.tmp 37) (.tmp 39)⟩,
    ⟨(some 41), none, false, .mov (.tmp 6)⟩,
    ⟨(some 42), none, false, .bin .shr (.tmp 41) (.const (.int .u64 3))⟩,
    ⟨(some 43), none, false, .bin .xor (.tmp 40) (.tmp 42)⟩,
    ⟨(some 8), none, false, .mov (.tmp 43)⟩]) (.seq (.ops [
    ⟨(some 44), none, false, .mov (.tmp 7)⟩,
    ⟨(some 45), none, false, .call chantryref03_turn [(.tmp 44), (.const (.int .u32 17))]⟩,
    ⟨(some 46), none, false, .mov (.tmp 7)⟩,
    ⟨(some 47), none, false, .call chantryref03_turn [(.tmp 46), (.const (.int .u32 19))]⟩,
    ⟨(some 48), none, false, .bin .xor (.tmp 45) (.tmp 47)⟩,
    ⟨(some 49), none, false, .mov (.tmp 7)⟩,
    ⟨(some 50), none, false, .bin .shr (.tmp 49) (.const (.int .u64 10))⟩,
    ⟨(some 51), none, false, .bin .xor (.tmp 48) (.tmp 50)⟩,
    ⟨(some 9), none, false, .mov (.tmp 51)⟩]) (.draw [
    ⟨(some 52), none, false, .mov (.tmp 3)⟩,
    ⟨(some 53), none, false, .mov (.tmp 3)⟩,
    ⟨(some 54), none, false, .mov (.tmp 5)⟩,
    ⟨(some 55), none, false, .bin .sub (.tmp 54) (.const (.int .i64 16))⟩,
    ⟨(some 56), none, false, .iaddr (.tmp 53) (.tmp 55) 1⟩,
    ⟨(some 57), none, false, .load1 (.tmp 56)⟩,
    ⟨(some 58), none, false, .mov (.tmp 8)⟩,
    ⟨(some 59), none, false, .bin .add (.tmp 57) (.tmp 58)⟩,
    ⟨(some 60), none, false, .mov (.tmp 3)⟩,
    ⟨(some 61), none, false, .mov (.tmp 5)⟩,
    ⟨(some 62), none, false, .bin .sub (.tmp 61) (.const (.int .i64 7))⟩,
    ⟨(some 63), none, false, .iaddr (.tmp 60) (.tmp 62) 1⟩,
    ⟨(some 64), none, false, .load1 (.tmp 63)⟩,
    ⟨(some 65), none, false, .bin .add (.tmp 59) (.tmp 64)⟩,
    ⟨(some 66), none, false, .mov (.tmp 9)⟩,
    ⟨(some 67), none, false, .bin .add (.tmp 65) (.tmp 66)⟩,
    ⟨(some 68), none, false, .lit [.int .u32 0] 1 1 [(0, 1, (.tmp 67))]⟩,
    ⟨(some 69), none, false, .app (.tmp 52) (.tmp 68) 1 4⟩,
    ⟨(some 3), none, false, .mov (.tmp 69)⟩]))))) (.ops [
    ⟨(some 24), none, false, .mov (.tmp 5)⟩,
    ⟨(some 25), none, false, .bin .add (.tmp 24) (.const (.int .i64 1))⟩,
    ⟨(some 5), none, false, .mov (.tmp 25)⟩])))))) (.seq (.ops [
    ⟨(some 70), none, false, .mov (.tmp 3)⟩,
    ⟨(some 2), none, false, .mov (.tmp 70)⟩]) .ret)))))
theorem fits_chantryref03_schedule : Fits Tryd.prog 1 chantryref03_schedule ic_chantryref03_schedule [.tmp 2] 1 :=
  ⟨Tryd.f73, Tryd.func73, by decide, by kernel_rfl, by kernel_rfl⟩

/-- chantry/chantryref03.turn -/
noncomputable def ic_chantryref03_turn : IC :=
  (.seq (.ops [
    ⟨(some 4), none, false, .mov (.const (.int .u32 0))⟩]) (.seq (.ops [
    ⟨(some 5), none, false, .mov (.tmp 0)⟩,
    ⟨(some 6), none, false, .mov (.tmp 1)⟩,
    ⟨(some 7), none, false, .bin .shr (.tmp 5) (.tmp 6)⟩,
    ⟨(some 8), none, false, .mov (.tmp 0)⟩,
    ⟨(some 9), none, false, .mov (.tmp 1)⟩,
    ⟨(some 10), none, false, .bin .sub (.const (.int .u32 32)) (.tmp 9)⟩,
    ⟨(some 11), none, false, .bin .shl (.tmp 8) (.tmp 10)⟩,
    ⟨(some 12), none, false, .bin .or (.tmp 7) (.tmp 11)⟩,
    ⟨(some 4), none, false, .mov (.tmp 12)⟩]) .ret))
theorem fits_chantryref03_turn : Fits Tryd.prog 1 chantryref03_turn ic_chantryref03_turn [.tmp 4] 2 :=
  ⟨Tryd.f74, Tryd.func74, by decide, by kernel_rfl, by kernel_rfl⟩

/-- chantry/chantryref04.Right -/
noncomputable def ic_chantryref04_Right : IC :=
  (.seq (.ops [
    ⟨(some 2), none, false, .mov (.const (.bool false))⟩]) (.seq (.ops [
    ⟨(some 3), none, false, .mov (.tmp 0)⟩,
    ⟨(some 4), none, false, .lens true (.tmp 3)⟩,
    ⟨(some 5), none, false, .bin .eql (.tmp 4) (.const (.int .i64 32))⟩,
    ⟨(some 2), none, false, .mov (.tmp 5)⟩]) .ret))
theorem fits_chantryref04_Right : Fits Tryd.prog 1 chantryref04_Right ic_chantryref04_Right [.tmp 2] 1 :=
  ⟨Tryd.f75, Tryd.func75, by decide, by kernel_rfl, by kernel_rfl⟩

/-- chantry/chantryref14.Name -/
noncomputable def ic_chantryref14_Name : IC :=
  (.seq (.ops [
    ⟨(some 2), none, false, .mov (.const (.bool false))⟩]) (.seq (.seq (.ops [
    ⟨(some 3), none, false, .mov (.const (.int .i64 0))⟩]) (.block 0 (.loop (.seq (.seq (.ops [
    ⟨(some 5), none, false, .mov (.tmp 3)⟩,
    ⟨(some 6), none, false, .mov (.tmp 0)⟩,
    ⟨(some 7), none, false, .lens true (.tmp 6)⟩,
    ⟨(some 8), none, false, .bin .lss (.tmp 5) (.tmp 7)⟩]) (.cond (.tmp 8) .skip (.exit 0))) (.seq (.block 1 (.seq (.ops [
    ⟨(some 11), none, false, .mov (.tmp 0)⟩,
    ⟨(some 12), none, false, .mov (.tmp 3)⟩,
    ⟨(some 13), none, false, .idxs (.tmp 11) (.tmp 12)⟩,
    ⟨(some 4), none, false, .mov (.tmp 13)⟩]) (.seq (.ops [
    ⟨(some 14), none, false, .mov (.tmp 4)⟩,
    ⟨(some 15), none, false, .bin .geq (.tmp 14) (.const (.int .u8 97))⟩,
    ⟨(some 16), none, false, .mov (.tmp 15)⟩,
    ⟨(some 17), (some (16, true)), false, .mov (.tmp 4)⟩,
    ⟨(some 18), (some (16, true)), false, .bin .leq (.tmp 17) (.const (.int .u8 122))⟩,
    ⟨(some 19), none, false, .pick (.tmp 16) (.tmp 18) (.const (.bool false))⟩,
    ⟨(some 20), none, false, .mov (.tmp 19)⟩,
    ⟨(some 21), (some (20, false)), false, .mov (.tmp 4)⟩,
    ⟨(some 22), (some (20, false)), false, .bin .geq (.tmp 21) (.const (.int .u8 48))⟩,
    ⟨(some 23), (some (20, false)), false, .mov (.tmp 22)⟩,
    ⟨(some 24), (some (23, true)), false, .mov (.tmp 4)⟩,
    ⟨(some 25), (some (23, true)), false, .bin .leq (.tmp 24) (.const (.int .u8 57))⟩,
    ⟨(some 26), (some (20, false)), false, .pick (.tmp 23) (.tmp 25) (.const (.bool false))⟩,
    ⟨(some 27), none, false, .pick (.tmp 20) (.const (.bool true)) (.tmp 26)⟩,
    ⟨(some 28), none, false, .mov (.tmp 27)⟩,
    ⟨(some 29), (some (28, false)), false, .mov (.tmp 4)⟩,
    ⟨(some 30), (some (28, false)), false, .bin .eql (.tmp 29) (.const (.int .u8 45))⟩,
    ⟨(some 31), none, false, .pick (.tmp 28) (.const (.bool true)) (.tmp 30)⟩,
    ⟨(some 32), none, false, .un .not (.tmp 31)⟩]) (.cond (.tmp 32) (.seq (.ops [
    ⟨(some 2), none, false, .mov (.const (.bool false))⟩]) .ret) .skip)))) (.ops [
    ⟨(some 9), none, false, .mov (.tmp 3)⟩,
    ⟨(some 10), none, false, .bin .add (.tmp 9) (.const (.int .i64 1))⟩,
    ⟨(some 3), none, false, .mov (.tmp 10)⟩])))))) (.seq (.ops [
    ⟨(some 33), none, false, .mov (.tmp 0)⟩,
    ⟨(some 34), none, false, .lens true (.tmp 33)⟩,
    ⟨(some 35), none, false, .bin .geq (.tmp 34) (.const (.int .i64 1))⟩,
    ⟨(some 36), none, false, .mov (.tmp 35)⟩,
    ⟨(some 37), (some (36, true)), false, .mov (.tmp 0)⟩,
    ⟨(some 38), (some (36, true)), false, .lens true (.tmp 37)⟩,
    ⟨(some 39), (some (36, true)), false, .bin .leq (.tmp 38) (.const (.int .i64 12))⟩,
    ⟨(some 40), none, false, .pick (.tmp 36) (.tmp 39) (.const (.bool false))⟩,
    ⟨(some 2), none, false, .mov (.tmp 40)⟩]) .ret)))
theorem fits_chantryref14_Name : Fits Tryd.prog 1 chantryref14_Name ic_chantryref14_Name [.tmp 2] 1 :=
  ⟨Tryd.f76, Tryd.func76, by decide, by kernel_rfl, by kernel_rfl⟩

/-- chantry/num.Put -/
noncomputable def ic_num_Put : IC :=
  (.seq (.ops [
    ⟨(some 2), none, false, .mov (.const (.slice none 0 0))⟩,
    ⟨(some 3), none, false, .mov (.const (.int .i64 0))⟩]) (.seq (.seq (.ops [
    ⟨(some 5), none, false, .mov (.tmp 0)⟩,
    ⟨(some 6), none, false, .call num_is [(.tmp 5)]⟩,
    ⟨(some 7), none, false, .un .not (.tmp 6)⟩]) (.cond (.tmp 7) (.seq (.ops [
    ⟨(some 2), none, false, .mov (.const (.slice none 0 0))⟩,
    ⟨(some 3), none, false, .mov (.const (.int .i64 1))⟩]) .ret) .skip)) (.seq (.ops [
    ⟨(some 4), none, false, .mov (.const (.slice none 0 0))⟩]) (.seq (.block 0 (.loop (.seq (.seq (.ops [
    ⟨(some 8), none, false, .mov (.tmp 0)⟩,
    ⟨(some 9), none, false, .bin .geq (.tmp 8) (.const (.int .i64 128))⟩]) (.cond (.tmp 9) .skip (.exit 0))) (.seq (.block 1 (.ops [
    ⟨(some 12), none, false, .mov (.tmp 4)⟩,
    ⟨(some 13), none, false, .mov (.tmp 0)⟩,
    ⟨(some 14), none, false, .conv .u8 (.tmp 13)⟩,
    ⟨(some 15), none, false, .bin .or (.tmp 14) (.const (.int .u8 128))⟩,
    ⟨(some 16), none, false, .lit [.int .u8 0] 1 1 [(0, 1, (.tmp 15))]⟩,
    ⟨(some 17), none, false, .app (.tmp 12) (.tmp 16) 1 1⟩,
    ⟨(some 4), none, false, .mov (.tmp 17)⟩])) (.ops [
    ⟨(some 10), none, false, .mov (.tmp 0)⟩,
    ⟨(some 11), none, false, .bin .shr (.tmp 10) (.const (.int .u64 7))⟩,
    ⟨(some 0), none, false, .mov (.tmp 11)⟩]))))) (.seq (.ops [
    ⟨(some 18), none, false, .mov (.tmp 4)⟩,
    ⟨(some 19), none, false, .mov (.tmp 0)⟩,
    ⟨(some 20), none, false, .conv .u8 (.tmp 19)⟩,
    ⟨(some 21), none, false, .lit [.int .u8 0] 1 1 [(0, 1, (.tmp 20))]⟩,
    ⟨(some 22), none, false, .app (.tmp 18) (.tmp 21) 1 1⟩,
    ⟨(some 2), none, false, .mov (.tmp 22)⟩,
    ⟨(some 3), none, false, .mov (.const (.int .i64 0))⟩]) .ret)))))
theorem fits_num_Put : Fits Tryd.prog 1 num_Put ic_num_Put [.tmp 2, .tmp 3] 1 :=
  ⟨Tryd.f77, Tryd.func77, by decide, by kernel_rfl, by kernel_rfl⟩

/-- chantry/num.is -/
noncomputable def ic_num_is : IC :=
  (.seq (.ops [
    ⟨(some 2), none, false, .mov (.const (.bool false))⟩]) (.seq (.ops [
    ⟨(some 3), none, false, .mov (.tmp 0)⟩,
    ⟨(some 4), none, false, .bin .geq (.tmp 3) (.const (.int .i64 0))⟩,
    ⟨(some 5), none, false, .mov (.tmp 4)⟩,
    ⟨(some 6), (some (5, true)), false, .mov (.tmp 0)⟩,
    ⟨(some 7), (some (5, true)), false, .bin .leq (.tmp 6) (.const (.int .i64 2147483647))⟩,
    ⟨(some 8), none, false, .pick (.tmp 5) (.tmp 7) (.const (.bool false))⟩,
    ⟨(some 2), none, false, .mov (.tmp 8)⟩]) .ret))
theorem fits_num_is : Fits Tryd.prog 1 num_is ic_num_is [.tmp 2] 1 :=
  ⟨Tryd.f78, Tryd.func78, by decide, by kernel_rfl, by kernel_rfl⟩

-- NOT SERVED 79 (*strings.Builder).copyCheck: conversion pointer to unsafePointer

-- left out: strings_Builder_grow (the kit's contracts serve)

/-- chantry/chantryref01.Put -/
noncomputable def ic_chantryref01_Put : IC :=
  (.seq (.ops [
    ⟨(some 2), none, false, .mov (.const (.slice none 0 0))⟩,
    ⟨(some 3), none, false, .mov (.const (.int .i64 0))⟩]) (.seq (.seq (.ops [
    ⟨(some 5), none, false, .mov (.tmp 0)⟩,
    ⟨(some 6), none, false, .bin .lss (.tmp 5) (.const (.int .i64 0))⟩,
    ⟨(some 7), none, false, .mov (.tmp 6)⟩,
    ⟨(some 8), (some (7, false)), false, .mov (.tmp 0)⟩,
    ⟨(some 9), (some (7, false)), false, .bin .gtr (.tmp 8) (.const (.int .i64 2147483647))⟩,
    ⟨(some 10), none, false, .pick (.tmp 7) (.const (.bool true)) (.tmp 9)⟩]) (.cond (.tmp 10) (.seq (.ops [
    ⟨(some 2), none, false, .mov (.const (.slice none 0 0))⟩,
    ⟨(some 3), none, false, .mov (.const (.int .i64 1))⟩]) .ret) .skip)) (.seq (.ops [
    ⟨(some 4), none, false, .mov (.const (.slice none 0 0))⟩]) (.seq (.block 0 (.loop (.seq (.seq (.ops [
    ⟨(some 11), none, false, .mov (.tmp 0)⟩,
    ⟨(some 12), none, false, .bin .geq (.tmp 11) (.const (.int .i64 128))⟩]) (.cond (.tmp 12) .skip (.exit 0))) (.block 1 (.seq (.ops [
    ⟨(some 13), none, false, .mov (.tmp 4)⟩,
    ⟨(some 14), none, false, .mov (.tmp 0)⟩,
    ⟨(some 15), none, false, .bin .rem (.tmp 14) (.const (.int .i64 128))⟩,
    ⟨(some 16), none, false, .bin .add (.tmp 15) (.const (.int .i64 128))⟩,
    ⟨(some 17), none, false, .conv .u8 (.tmp 16)⟩,
    ⟨(some 18), none, false, .lit [.int .u8 0] 1 1 [(0, 1, (.tmp 17))]⟩,
    ⟨(some 19), none, false, .app (.tmp 13) (.tmp 18) 1 1⟩,
    ⟨(some 4), none, false, .mov (.tmp 19)⟩]) (.ops [
    ⟨(some 20), none, false, .mov (.tmp 0)⟩,
    ⟨(some 21), none, false, .bin .quo (.tmp 20) (.const (.int .i64 128))⟩,
    ⟨(some 0), none, false, .mov (.tmp 21)⟩])))))) (.seq (.ops [
    ⟨(some 22), none, false, .mov (.tmp 4)⟩,
    ⟨(some 23), none, false, .mov (.tmp 0)⟩,
    ⟨(some 24), none, false, .conv .u8 (.tmp 23)⟩,
    ⟨(some 25), none, false, .lit [.int .u8 0] 1 1 [(0, 1, (.tmp 24))]⟩,
    ⟨(some 26), none, false, .app (.tmp 22) (.tmp 25) 1 1⟩,
    ⟨(some 2), none, false, .mov (.tmp 26)⟩,
    ⟨(some 3), none, false, .mov (.const (.int .i64 0))⟩]) .ret)))))
theorem fits_chantryref01_Put : Fits Tryd.prog 1 chantryref01_Put ic_chantryref01_Put [.tmp 2, .tmp 3] 1 :=
  ⟨Tryd.f81, Tryd.func81, by decide, by kernel_rfl, by kernel_rfl⟩

/-- (*chantry/num.Cursor).Num -/
noncomputable def ic_num_Cursor_Num : IC :=
  (.seq (.ops [
    ⟨(some 2), none, false, .mov (.const (.int .i64 0))⟩]) (.seq (.seq (.ops [
    ⟨(some 6), none, false, .mov (.tmp 0)⟩,
    ⟨(some 7), none, false, .call num_Cursor_Bad [(.tmp 6)]⟩]) (.cond (.tmp 7) (.seq (.ops [
    ⟨(some 2), none, false, .mov (.const (.int .i64 0))⟩]) .ret) .skip)) (.seq (.ops [
    ⟨(some 9), none, false, .mov (.tmp 0)⟩,
    ⟨(some 10), none, false, .nilc (.tmp 9)⟩,
    ⟨(some 11), none, false, .faddr (.tmp 10) 0⟩,
    ⟨(some 12), none, false, .load1 (.tmp 11)⟩,
    ⟨(some 13), none, false, .call num_Get [(.tmp 12)]⟩,
    ⟨(some 8), none, false, .mov (.tmp 13)⟩,
    ⟨(some 14), none, false, .ext (.tmp 8) 0⟩,
    ⟨(some 15), none, false, .ext (.tmp 8) 1⟩,
    ⟨(some 16), none, false, .ext (.tmp 8) 2⟩,
    ⟨(some 3), none, false, .mov (.tmp 14)⟩,
    ⟨(some 4), none, false, .mov (.tmp 15)⟩,
    ⟨(some 5), none, false, .mov (.tmp 16)⟩]) (.seq (.seq (.ops [
    ⟨(some 17), none, false, .mov (.tmp 5)⟩,
    ⟨(some 18), none, false, .bin .neq (.tmp 17) (.const (.int .i64 0))⟩]) (.cond (.tmp 18) (.seq (.ops [
    ⟨(some 19), none, false, .mov (.tmp 0)⟩,
    ⟨(some 20), none, false, .call num_Cursor_fail [(.tmp 19)]⟩]) (.seq (.ops [
    ⟨(some 2), none, false, .mov (.const (.int .i64 0))⟩]) .ret)) .skip)) (.seq (.ops [
    ⟨(some 21), none, false, .mov (.tmp 0)⟩,
    ⟨(some 22), none, false, .mov (.tmp 0)⟩,
    ⟨(some 23), none, false, .nilc (.tmp 22)⟩,
    ⟨(some 24), none, false, .faddr (.tmp 23) 0⟩,
    ⟨(some 25), none, false, .load1 (.tmp 24)⟩,
    ⟨(some 26), none, false, .mov (.tmp 4)⟩,
    ⟨(some 27), none, false, .sll (.tmp 25) (some (.tmp 26)) none none 1⟩,
    ⟨(some 28), none, false, .nilc (.tmp 21)⟩,
    ⟨(some 29), none, false, .faddr (.tmp 28) 0⟩,
    ⟨none, none, false, .store (.tmp 29) (.tmp 27) 1⟩]) (.seq (.ops [
    ⟨(some 30), none, false, .mov (.tmp 3)⟩,
    ⟨(some 2), none, false, .mov (.tmp 30)⟩]) .ret))))))
theorem fits_num_Cursor_Num : Fits Tryd.prog 1 num_Cursor_Num ic_num_Cursor_Num [.tmp 2] 1 :=
  ⟨Tryd.f82, Tryd.func82, by decide, by kernel_rfl, by kernel_rfl⟩

/-- chantry/num.Unfix -/
noncomputable def ic_num_Unfix : IC :=
  (.seq (.ops [
    ⟨(some 2), none, false, .mov (.const (.int .i64 0))⟩,
    ⟨(some 3), none, false, .mov (.const (.int .i64 0))⟩]) (.seq (.seq (.ops [
    ⟨(some 7), none, false, .mov (.tmp 0)⟩,
    ⟨(some 8), none, false, .lens false (.tmp 7)⟩,
    ⟨(some 9), none, false, .bin .lss (.tmp 8) (.const (.int .i64 1))⟩,
    ⟨(some 10), none, false, .mov (.tmp 9)⟩,
    ⟨(some 11), (some (10, false)), false, .mov (.tmp 0)⟩,
    ⟨(some 12), (some (10, false)), false, .lens false (.tmp 11)⟩,
    ⟨(some 13), (some (10, false)), false, .bin .gtr (.tmp 12) (.const (.int .i64 4))⟩,
    ⟨(some 14), none, false, .pick (.tmp 10) (.const (.bool true)) (.tmp 13)⟩]) (.cond (.tmp 14) (.seq (.ops [
    ⟨(some 2), none, false, .mov (.const (.int .i64 0))⟩,
    ⟨(some 3), none, false, .mov (.const (.int .i64 1))⟩]) .ret) .skip)) (.seq (.ops [
    ⟨(some 4), none, false, .mov (.const (.int .i64 0))⟩]) (.seq (.seq (.ops [
    ⟨(some 15), none, false, .mov (.tmp 0)⟩,
    ⟨(some 16), none, false, .lens false (.tmp 15)⟩,
    ⟨(some 17), none, false, .mov (.const (.int .i64 0))⟩]) (.block 0 (.loop (.seq (.ops [
    ⟨(some 18), none, false, .bin .lss (.tmp 17) (.tmp 16)⟩]) (.seq (.cond (.tmp 18) .skip (.exit 0)) (.seq (.block 1 (.seq (.ops [
    ⟨(some 19), none, false, .mov (.tmp 17)⟩,
    ⟨(some 20), none, false, .iaddr (.tmp 15) (.tmp 17) 1⟩,
    ⟨(some 21), none, false, .load1 (.tmp 20)⟩,
    ⟨(some 5), none, false, .mov (.tmp 19)⟩,
    ⟨(some 6), none, false, .mov (.tmp 21)⟩]) (.ops [
    ⟨(some 22), none, false, .mov (.tmp 4)⟩,
    ⟨(some 23), none, false, .mov (.tmp 6)⟩,
    ⟨(some 24), none, false, .conv .i64 (.tmp 23)⟩,
    ⟨(some 25), none, false, .mov (.tmp 5)⟩,
    ⟨(some 26), none, false, .bin .mul (.const (.int .i64 8)) (.tmp 25)⟩,
    ⟨(some 27), none, false, .bin .shl (.tmp 24) (.tmp 26)⟩,
    ⟨(some 28), none, false, .bin .or (.tmp 22) (.tmp 27)⟩,
    ⟨(some 4), none, false, .mov (.tmp 28)⟩]))) (.ops [
    ⟨(some 29), none, false, .bin .add (.tmp 17) (.const (.int .i64 1))⟩,
    ⟨(some 17), none, false, .mov (.tmp 29)⟩]))))))) (.seq (.seq (.ops [
    ⟨(some 30), none, false, .mov (.tmp 4)⟩,
    ⟨(some 31), none, false, .call num_is [(.tmp 30)]⟩,
    ⟨(some 32), none, false, .un .not (.tmp 31)⟩]) (.cond (.tmp 32) (.seq (.ops [
    ⟨(some 2), none, false, .mov (.const (.int .i64 0))⟩,
    ⟨(some 3), none, false, .mov (.const (.int .i64 5))⟩]) .ret) .skip)) (.seq (.ops [
    ⟨(some 33), none, false, .mov (.tmp 4)⟩,
    ⟨(some 2), none, false, .mov (.tmp 33)⟩,
    ⟨(some 3), none, false, .mov (.const (.int .i64 0))⟩]) .ret))))))
theorem fits_num_Unfix : Fits Tryd.prog 1 num_Unfix ic_num_Unfix [.tmp 2, .tmp 3] 1 :=
  ⟨Tryd.f83, Tryd.func83, by decide, by kernel_rfl, by kernel_rfl⟩

/-- strings.IndexFunc -/
noncomputable def ic_strings_IndexFunc : IC :=
  (.seq (.ops [
    ⟨(some 4), none, false, .mov (.const (.int .i64 0))⟩]) (.seq (.ops [
    ⟨(some 5), none, false, .mov (.tmp 0)⟩,
    ⟨(some 6), none, false, .mov (.tmp 1)⟩,
    ⟨(some 7), none, false, .call strings_indexFunc [(.tmp 5), (.tmp 6), (.const (.bool true))]⟩,
    ⟨(some 4), none, false, .mov (.tmp 7)⟩]) .ret))
theorem fits_strings_IndexFunc : Fits Tryd.prog 1 strings_IndexFunc ic_strings_IndexFunc [.tmp 4] 2 :=
  ⟨Tryd.f84, Tryd.func84, by decide, by kernel_rfl, by kernel_rfl⟩

/-- chantry/op.Name$1 -/
noncomputable def ic_op_Name_1 : IC :=
  (.seq (.ops [
    ⟨(some 2), none, false, .mov (.const (.bool false))⟩]) (.seq (.ops [
    ⟨(some 3), none, false, .mov (.tmp 0)⟩,
    ⟨(some 4), none, false, .bin .geq (.tmp 3) (.const (.int .i32 97))⟩,
    ⟨(some 5), none, false, .mov (.tmp 4)⟩,
    ⟨(some 6), (some (5, true)), false, .mov (.tmp 0)⟩,
    ⟨(some 7), (some (5, true)), false, .bin .leq (.tmp 6) (.const (.int .i32 122))⟩,
    ⟨(some 8), none, false, .pick (.tmp 5) (.tmp 7) (.const (.bool false))⟩,
    ⟨(some 9), none, false, .mov (.tmp 8)⟩,
    ⟨(some 10), (some (9, false)), false, .mov (.tmp 0)⟩,
    ⟨(some 11), (some (9, false)), false, .bin .geq (.tmp 10) (.const (.int .i32 48))⟩,
    ⟨(some 12), (some (9, false)), false, .mov (.tmp 11)⟩,
    ⟨(some 13), (some (12, true)), false, .mov (.tmp 0)⟩,
    ⟨(some 14), (some (12, true)), false, .bin .leq (.tmp 13) (.const (.int .i32 57))⟩,
    ⟨(some 15), (some (9, false)), false, .pick (.tmp 12) (.tmp 14) (.const (.bool false))⟩,
    ⟨(some 16), none, false, .pick (.tmp 9) (.const (.bool true)) (.tmp 15)⟩,
    ⟨(some 17), none, false, .mov (.tmp 16)⟩,
    ⟨(some 18), (some (17, false)), false, .mov (.tmp 0)⟩,
    ⟨(some 19), (some (17, false)), false, .bin .eql (.tmp 18) (.const (.int .i32 45))⟩,
    ⟨(some 20), none, false, .pick (.tmp 17) (.const (.bool true)) (.tmp 19)⟩,
    ⟨(some 21), none, false, .un .not (.tmp 20)⟩,
    ⟨(some 2), none, false, .mov (.tmp 21)⟩]) .ret))
theorem fits_op_Name_1 : Fits Tryd.prog 1 op_Name_1 ic_op_Name_1 [.tmp 2] 1 :=
  ⟨Tryd.f85, Tryd.func85, by decide, by kernel_rfl, by kernel_rfl⟩

/-- chantry/chantryref01.Num -/
noncomputable def ic_chantryref01_Num : IC :=
  (.seq (.ops [
    ⟨(some 1), none, false, .box (.tmp 0)⟩,
    ⟨(some 2), none, false, .new [.slice none 0 0, .int .i64 0, .bool false]⟩,
    ⟨(some 3), none, false, .mov (.const (.int .i64 0))⟩]) (.seq (.seq (.ops [
    ⟨(some 7), none, false, .faddr (.tmp 1) 2⟩,
    ⟨(some 8), none, false, .load1 (.tmp 7)⟩]) (.cond (.tmp 8) (.seq (.ops [
    ⟨(some 9), none, false, .loadn (.tmp 1) 3⟩,
    ⟨none, none, false, .store (.tmp 2) (.tmp 9) 3⟩,
    ⟨(some 3), none, false, .mov (.const (.int .i64 0))⟩]) .ret) .skip)) (.seq (.ops [
    ⟨(some 11), none, false, .faddr (.tmp 1) 0⟩,
    ⟨(some 12), none, false, .load1 (.tmp 11)⟩,
    ⟨(some 13), none, false, .faddr (.tmp 1) 1⟩,
    ⟨(some 14), none, false, .load1 (.tmp 13)⟩,
    ⟨(some 15), none, false, .sll (.tmp 12) (some (.tmp 14)) none none 1⟩,
    ⟨(some 16), none, false, .call chantryref01_Get [(.tmp 15)]⟩,
    ⟨(some 10), none, false, .mov (.tmp 16)⟩,
    ⟨(some 17), none, false, .ext (.tmp 10) 0⟩,
    ⟨(some 18), none, false, .ext (.tmp 10) 1⟩,
    ⟨(some 19), none, false, .ext (.tmp 10) 2⟩,
    ⟨(some 4), none, false, .mov (.tmp 17)⟩,
    ⟨(some 5), none, false, .mov (.tmp 18)⟩,
    ⟨(some 6), none, false, .mov (.tmp 19)⟩]) (.seq (.seq (.ops [
    ⟨(some 20), none, false, .mov (.tmp 6)⟩,
    ⟨(some 21), none, false, .bin .neq (.tmp 20) (.const (.int .i64 0))⟩]) (.cond (.tmp 21) (.seq (.ops [
    ⟨(some 22), none, false, .loadn (.tmp 1) 3⟩,
    ⟨(some 23), none, false, .call chantryref01_spoilt [(.tmp 22)]⟩,
    ⟨none, none, false, .store (.tmp 2) (.tmp 23) 3⟩,
    ⟨(some 3), none, false, .mov (.const (.int .i64 0))⟩]) .ret) .skip)) (.seq (.ops [
    ⟨(some 24), none, false, .faddr (.tmp 1) 0⟩,
    ⟨(some 25), none, false, .load1 (.tmp 24)⟩,
    ⟨(some 26), none, false, .faddr (.tmp 1) 1⟩,
    ⟨(some 27), none, false, .load1 (.tmp 26)⟩,
    ⟨(some 28), none, false, .mov (.tmp 5)⟩,
    ⟨(some 29), none, false, .bin .add (.tmp 27) (.tmp 28)⟩,
    ⟨(some 30), none, false, .build [.slice none 0 0, .int .i64 0, .bool false] [(0, 1, (.tmp 25)), (1, 1, (.tmp 29))]⟩,
    ⟨(some 31), none, false, .mov (.tmp 4)⟩,
    ⟨none, none, false, .store (.tmp 2) (.tmp 30) 3⟩,
    ⟨(some 3), none, false, .mov (.tmp 31)⟩]) .ret)))))
theorem fits_chantryref01_Num : Fits Tryd.prog 1 chantryref01_Num ic_chantryref01_Num [.many 2 3, .tmp 3] 1 :=
  ⟨Tryd.f86, Tryd.func86, by decide, by kernel_rfl, by kernel_rfl⟩

/-- (*chantry/sha.Hash).mix -/
noncomputable def ic_sha_Hash_mix : IC :=
  (.seq (.ops [
    ⟨(some 10), none, false, .mov (.tmp 0)⟩,
    ⟨(some 11), none, false, .nilc (.tmp 10)⟩,
    ⟨(some 12), none, false, .faddr (.tmp 11) 0⟩,
    ⟨(some 13), none, false, .loadn (.tmp 12) 8⟩,
    ⟨(some 4), none, false, .new [.int .u32 0, .int .u32 0, .int .u32 0, .int .u32 0, .int .u32 0, .int .u32 0, .int .u32 0, .int .u32 0]⟩,
    ⟨none, none, false, .store (.tmp 4) (.tmp 13) 8⟩]) (.seq (.seq (.ops [
    ⟨(some 14), none, false, .mov (.tmp 1)⟩,
    ⟨(some 15), none, false, .call sha_schedule [(.tmp 14)]⟩,
    ⟨(some 16), none, false, .mov (.const (.int .i64 0))⟩]) (.block 0 (.loop (.seq (.ops [
    ⟨(some 17), none, false, .bin .lss (.tmp 16) (.const (.int .i64 64))⟩]) (.seq (.cond (.tmp 17) .skip (.exit 0)) (.seq (.block 1 (.seq (.ops [
    ⟨(some 18), none, false, .mov (.tmp 16)⟩,
    ⟨(some 19), none, false, .idxa1 (.tmp 15) (.tmp 16) 64⟩,
    ⟨(some 5), none, false, .mov (.tmp 18)⟩,
    ⟨(some 6), none, false, .mov (.tmp 19)⟩]) (.seq (.draw [
    ⟨(some 20), none, false, .iarr (.tmp 4) (.const (.int .i64 7)) 8 1⟩,
    ⟨(some 21), none, true, .load1 (.tmp 20)⟩,
    ⟨(some 22), none, false, .iarr (.tmp 4) (.const (.int .i64 4)) 8 1⟩,
    ⟨(some 23), none, false, .load1 (.tmp 22)⟩,
    ⟨(some 25), none, false, .iarr (.tmp 4) (.const (.int .i64 4)) 8 1⟩,
    ⟨(some 26), none, true, .load1 (.tmp 25)⟩,
    ⟨(some 29), none, false, .iarr (.tmp 4) (.const (.int .i64 4)) 8 1⟩,
    ⟨(some 30), none, true, .load1 (.tmp 29)⟩,
    ⟨(some 34), none, false, .iarr (.tmp 4) (.const (.int .i64 4)) 8 1⟩,
    ⟨(some 35), none, true, .load1 (.tmp 34)⟩,
    ⟨(some 36), none, false, .iarr (.tmp 4) (.const (.int .i64 5)) 8 1⟩,
    ⟨(some 37), none, true, .load1 (.tmp 36)⟩,
    ⟨(some 38), none, false, .bin .and (.tmp 35) (.tmp 37)⟩,
    ⟨(some 39), none, false, .iarr (.tmp 4) (.const (.int .i64 4)) 8 1⟩,
    ⟨(some 40), none, true, .load1 (.tmp 39)⟩,
    ⟨(some 41), none, false, .un .xor (.tmp 40)⟩,
    ⟨(some 42), none, false, .iarr (.tmp 4) (.const (.int .i64 6)) 8 1⟩,
    ⟨(some 43), none, true, .load1 (.tmp 42)⟩,
    ⟨(some 44), none, false, .bin .and (.tmp 41) (.tmp 43)⟩,
    ⟨(some 45), none, false, .bin .xor (.tmp 38) (.tmp 44)⟩,
    ⟨(some 47), none, false, .mov (.tmp 5)⟩,
    ⟨(some 48), none, false, .iarr (.global 0) (.tmp 47) 64 1⟩,
    ⟨(some 49), none, true, .load1 (.tmp 48)⟩,
    ⟨(some 51), none, false, .mov (.tmp 6)⟩,
    ⟨(some 24), none, true, .call sha_right [(.tmp 23), (.const (.int .i64 6))]⟩,
    ⟨(some 27), none, true, .call sha_right [(.tmp 26), (.const (.int .i64 11))]⟩,
    ⟨(some 28), none, false, .bin .xor (.tmp 24) (.tmp 27)⟩,
    ⟨(some 31), none, true, .call sha_right [(.tmp 30), (.const (.int .i64 25))]⟩,
    ⟨(some 32), none, false, .bin .xor (.tmp 28) (.tmp 31)⟩,
    ⟨(some 33), none, false, .bin .add (.tmp 21) (.tmp 32)⟩,
    ⟨(some 46), none, false, .bin .add (.tmp 33) (.tmp 45)⟩,
    ⟨(some 50), none, false, .bin .add (.tmp 46) (.tmp 49)⟩,
    ⟨(some 52), none, false, .bin .add (.tmp 50) (.tmp 51)⟩,
    ⟨(some 7), none, false, .mov (.tmp 52)⟩]) (.seq (.draw [
    ⟨(some 53), none, false, .iarr (.tmp 4) (.const (.int .i64 0)) 8 1⟩,
    ⟨(some 54), none, false, .load1 (.tmp 53)⟩,
    ⟨(some 56), none, false, .iarr (.tmp 4) (.const (.int .i64 0)) 8 1⟩,
    ⟨(some 57), none, true, .load1 (.tmp 56)⟩,
    ⟨(some 60), none, false, .iarr (.tmp 4) (.const (.int .i64 0)) 8 1⟩,
    ⟨(some 61), none, true, .load1 (.tmp 60)⟩,
    ⟨(some 64), none, false, .iarr (.tmp 4) (.const (.int .i64 0)) 8 1⟩,
    ⟨(some 65), none, true, .load1 (.tmp 64)⟩,
    ⟨(some 66), none, false, .iarr (.tmp 4) (.const (.int .i64 1)) 8 1⟩,
    ⟨(some 67), none, true, .load1 (.tmp 66)⟩,
    ⟨(some 68), none, false, .bin .and (.tmp 65) (.tmp 67)⟩,
    ⟨(some 69), none, false, .iarr (.tmp 4) (.const (.int .i64 0)) 8 1⟩,
    ⟨(some 70), none, true, .load1 (.tmp 69)⟩,
    ⟨(some 71), none, false, .iarr (.tmp 4) (.const (.int .i64 2)) 8 1⟩,
    ⟨(some 72), none, true, .load1 (.tmp 71)⟩,
    ⟨(some 73), none, false, .bin .and (.tmp 70) (.tmp 72)⟩,
    ⟨(some 74), none, false, .bin .xor (.tmp 68) (.tmp 73)⟩,
    ⟨(some 75), none, false, .iarr (.tmp 4) (.const (.int .i64 1)) 8 1⟩,
    ⟨(some 76), none, true, .load1 (.tmp 75)⟩,
    ⟨(some 77), none, false, .iarr (.tmp 4) (.const (.int .i64 2)) 8 1⟩,
    ⟨(some 78), none, true, .load1 (.tmp 77)⟩,
    ⟨(some 79), none, false, .bin .and (.tmp 76) (.tmp 78)⟩,
    ⟨(some 80), none, false, .bin .xor (.tmp 74) (.tmp 79)⟩,
    ⟨(some 55), none, true, .call sha_right [(.tmp 54), (.const (.int .i64 2))]⟩,
    ⟨(some 58), none, true, .call sha_right [(.tmp 57), (.const (.int .i64 13))]⟩,
    ⟨(some 59), none, false, .bin .xor (.tmp 55) (.tmp 58)⟩,
    ⟨(some 62), none, true, .call sha_right [(.tmp 61), (.const (.int .i64 22))]⟩,
    ⟨(some 63), none, false, .bin .xor (.tmp 59) (.tmp 62)⟩,
    ⟨(some 81), none, false, .bin .add (.tmp 63) (.tmp 80)⟩,
    ⟨(some 8), none, false, .mov (.tmp 81)⟩]) (.ops [
    ⟨(some 82), none, false, .mov (.tmp 7)⟩,
    ⟨(some 83), none, false, .mov (.tmp 8)⟩,
    ⟨(some 84), none, false, .bin .add (.tmp 82) (.tmp 83)⟩,
    ⟨(some 85), none, false, .iarr (.tmp 4) (.const (.int .i64 0)) 8 1⟩,
    ⟨(some 86), none, false, .load1 (.tmp 85)⟩,
    ⟨(some 87), none, false, .iarr (.tmp 4) (.const (.int .i64 1)) 8 1⟩,
    ⟨(some 88), none, false, .load1 (.tmp 87)⟩,
    ⟨(some 89), none, false, .iarr (.tmp 4) (.const (.int .i64 2)) 8 1⟩,
    ⟨(some 90), none, false, .load1 (.tmp 89)⟩,
    ⟨(some 91), none, false, .iarr (.tmp 4) (.const (.int .i64 3)) 8 1⟩,
    ⟨(some 92), none, false, .load1 (.tmp 91)⟩,
    ⟨(some 93), none, false, .mov (.tmp 7)⟩,
    ⟨(some 94), none, false, .bin .add (.tmp 92) (.tmp 93)⟩,
    ⟨(some 95), none, false, .iarr (.tmp 4) (.const (.int .i64 4)) 8 1⟩,
    ⟨(some 96), none, false, .load1 (.tmp 95)⟩,
    ⟨(some 97), none, false, .iarr (.tmp 4) (.const (.int .i64 5)) 8 1⟩,
    ⟨(some 98), none, false, .load1 (.tmp 97)⟩,
    ⟨(some 99), none, false, .iarr (.tmp 4) (.const (.int .i64 6)) 8 1⟩,
    ⟨(some 100), none, false, .load1 (.tmp 99)⟩,
    ⟨(some 101), none, false, .build [.int .u32 0, .int .u32 0, .int .u32 0, .int .u32 0, .int .u32 0, .int .u32 0, .int .u32 0, .int .u32 0] [(0, 1, (.tmp 84)), (1, 1, (.tmp 86)), (2, 1, (.tmp 88)), (3, 1, (.tmp 90)), (4, 1, (.tmp 94)), (5, 1, (.tmp 96)), (6, 1, (.tmp 98)), (7, 1, (.tmp 100))]⟩,
    ⟨none, none, false, .store (.tmp 4) (.tmp 101) 8⟩]))))) (.ops [
    ⟨(some 102), none, false, .bin .add (.tmp 16) (.const (.int .i64 1))⟩,
    ⟨(some 16), none, false, .mov (.tmp 102)⟩]))))))) (.seq (.ops [
    ⟨(some 103), none, false, .mov (.const (.int .i64 0))⟩]) (.block 2 (.loop (.seq (.ops [
    ⟨(some 104), none, false, .bin .lss (.tmp 103) (.const (.int .i64 8))⟩]) (.seq (.cond (.tmp 104) .skip (.exit 2)) (.seq (.block 3 (.seq (.ops [
    ⟨(some 105), none, false, .mov (.tmp 103)⟩,
    ⟨(some 9), none, false, .mov (.tmp 105)⟩]) (.draw [
    ⟨(some 106), none, false, .mov (.tmp 0)⟩,
    ⟨(some 107), none, false, .mov (.tmp 9)⟩,
    ⟨(some 108), none, false, .nilc (.tmp 106)⟩,
    ⟨(some 109), none, false, .faddr (.tmp 108) 0⟩,
    ⟨(some 110), none, false, .iarr (.tmp 109) (.tmp 107) 8 1⟩,
    ⟨(some 111), none, false, .load1 (.tmp 110)⟩,
    ⟨(some 112), none, false, .mov (.tmp 9)⟩,
    ⟨(some 113), none, false, .iarr (.tmp 4) (.tmp 112) 8 1⟩,
    ⟨(some 114), none, false, .load1 (.tmp 113)⟩,
    ⟨(some 115), none, false, .bin .add (.tmp 111) (.tmp 114)⟩,
    ⟨(some 116), none, false, .nilc (.tmp 106)⟩,
    ⟨(some 117), none, false, .faddr (.tmp 116) 0⟩,
    ⟨(some 118), none, false, .iarr (.tmp 117) (.tmp 107) 8 1⟩,
    ⟨none, none, false, .store (.tmp 118) (.tmp 115) 1⟩]))) (.ops [
    ⟨(some 119), none, false, .bin .add (.tmp 103) (.const (.int .i64 1))⟩,
    ⟨(some 103), none, false, .mov (.tmp 119)⟩])))))))))
theorem fits_sha_Hash_mix : Fits Tryd.prog 1 sha_Hash_mix ic_sha_Hash_mix [] 2 :=
  ⟨Tryd.f87, Tryd.func87, by decide, by kernel_rfl, by kernel_rfl⟩

/-- (*chantry/sha.Hash).end -/
noncomputable def ic_sha_Hash_end : IC :=
  (.seq (.ops [
    ⟨(some 2), none, false, .mov (.const (.slice none 0 0))⟩]) (.seq (.ops [
    ⟨(some 5), none, false, .lit [.int .u8 0] 1 1 [(0, 1, (.const (.int .u8 128)))]⟩,
    ⟨(some 3), none, false, .mov (.tmp 5)⟩]) (.seq (.block 0 (.loop (.seq (.seq (.ops [
    ⟨(some 6), none, false, .mov (.tmp 0)⟩,
    ⟨(some 7), none, false, .nilc (.tmp 6)⟩,
    ⟨(some 8), none, false, .faddr (.tmp 7) 9⟩,
    ⟨(some 9), none, false, .load1 (.tmp 8)⟩,
    ⟨(some 10), none, false, .mov (.tmp 3)⟩,
    ⟨(some 11), none, false, .lens false (.tmp 10)⟩,
    ⟨(some 12), none, false, .bin .add (.tmp 9) (.tmp 11)⟩,
    ⟨(some 13), none, false, .bin .add (.tmp 12) (.const (.int .i64 8))⟩,
    ⟨(some 14), none, false, .bin .rem (.tmp 13) (.const (.int .i64 64))⟩,
    ⟨(some 15), none, false, .bin .neq (.tmp 14) (.const (.int .i64 0))⟩]) (.cond (.tmp 15) .skip (.exit 0))) (.block 1 (.ops [
    ⟨(some 16), none, false, .mov (.tmp 3)⟩,
    ⟨(some 17), none, false, .lit [.int .u8 0] 1 1 [(0, 1, (.const (.int .u8 0)))]⟩,
    ⟨(some 18), none, false, .app (.tmp 16) (.tmp 17) 1 1⟩,
    ⟨(some 3), none, false, .mov (.tmp 18)⟩]))))) (.seq (.seq (.ops [
    ⟨(some 4), none, false, .mov (.const (.int .i64 7))⟩]) (.block 2 (.loop (.seq (.seq (.ops [
    ⟨(some 19), none, false, .mov (.tmp 4)⟩,
    ⟨(some 20), none, false, .bin .geq (.tmp 19) (.const (.int .i64 0))⟩]) (.cond (.tmp 20) .skip (.exit 2))) (.seq (.block 3 (.ops [
    ⟨(some 23), none, false, .mov (.tmp 3)⟩,
    ⟨(some 24), none, false, .mov (.tmp 0)⟩,
    ⟨(some 25), none, false, .nilc (.tmp 24)⟩,
    ⟨(some 26), none, false, .faddr (.tmp 25) 9⟩,
    ⟨(some 27), none, false, .load1 (.tmp 26)⟩,
    ⟨(some 28), none, false, .bin .mul (.tmp 27) (.const (.int .i64 8))⟩,
    ⟨(some 29), none, false, .mov (.tmp 4)⟩,
    ⟨(some 30), none, false, .bin .mul (.const (.int .i64 8)) (.tmp 29)⟩,
    ⟨(some 31), none, false, .bin .shr (.tmp 28) (.tmp 30)⟩,
    ⟨(some 32), none, false, .conv .u8 (.tmp 31)⟩,
    ⟨(some 33), none, false, .lit [.int .u8 0] 1 1 [(0, 1, (.tmp 32))]⟩,
    ⟨(some 34), none, false, .app (.tmp 23) (.tmp 33) 1 1⟩,
    ⟨(some 3), none, false, .mov (.tmp 34)⟩])) (.ops [
    ⟨(some 21), none, false, .mov (.tmp 4)⟩,
    ⟨(some 22), none, false, .bin .sub (.tmp 21) (.const (.int .i64 1))⟩,
    ⟨(some 4), none, false, .mov (.tmp 22)⟩])))))) (.seq (.ops [
    ⟨(some 35), none, false, .mov (.tmp 3)⟩,
    ⟨(some 2), none, false, .mov (.tmp 35)⟩]) .ret)))))
theorem fits_sha_Hash_end : Fits Tryd.prog 1 sha_Hash_end ic_sha_Hash_end [.tmp 2] 1 :=
  ⟨Tryd.f88, Tryd.func88, by decide, by kernel_rfl, by kernel_rfl⟩

/-- chantry/chantryref03.word -/
noncomputable def ic_chantryref03_word : IC :=
  (.seq (.ops [
    ⟨(some 2), none, false, .mov (.const (.int .u32 0))⟩]) (.seq (.draw [
    ⟨(some 3), none, false, .mov (.tmp 0)⟩,
    ⟨(some 4), none, false, .iaddr (.tmp 3) (.const (.int .i64 0)) 1⟩,
    ⟨(some 5), none, false, .load1 (.tmp 4)⟩,
    ⟨(some 6), none, false, .conv .u32 (.tmp 5)⟩,
    ⟨(some 7), none, false, .bin .shl (.tmp 6) (.const (.int .u64 24))⟩,
    ⟨(some 8), none, false, .mov (.tmp 0)⟩,
    ⟨(some 9), none, false, .iaddr (.tmp 8) (.const (.int .i64 1)) 1⟩,
    ⟨(some 10), none, false, .load1 (.tmp 9)⟩,
    ⟨(some 11), none, false, .conv .u32 (.tmp 10)⟩,
    ⟨(some 12), none, false, .bin .shl (.tmp 11) (.const (.int .u64 16))⟩,
    ⟨(some 13), none, false, .bin .or (.tmp 7) (.tmp 12)⟩,
    ⟨(some 14), none, false, .mov (.tmp 0)⟩,
    ⟨(some 15), none, false, .iaddr (.tmp 14) (.const (.int .i64 2)) 1⟩,
    ⟨(some 16), none, false, .load1 (.tmp 15)⟩,
    ⟨(some 17), none, false, .conv .u32 (.tmp 16)⟩,
    ⟨(some 18), none, false, .bin .shl (.tmp 17) (.const (.int .u64 8))⟩,
    ⟨(some 19), none, false, .bin .or (.tmp 13) (.tmp 18)⟩,
    ⟨(some 20), none, false, .mov (.tmp 0)⟩,
    ⟨(some 21), none, false, .iaddr (.tmp 20) (.const (.int .i64 3)) 1⟩,
    ⟨(some 22), none, false, .load1 (.tmp 21)⟩,
    ⟨(some 23), none, false, .conv .u32 (.tmp 22)⟩,
    ⟨(some 24), none, false, .bin .or (.tmp 19) (.tmp 23)⟩,
    ⟨(some 2), none, false, .mov (.tmp 24)⟩]) .ret))
theorem fits_chantryref03_word : Fits Tryd.prog 1 chantryref03_word ic_chantryref03_word [.tmp 2] 1 :=
  ⟨Tryd.f89, Tryd.func89, by decide, by kernel_rfl, by kernel_rfl⟩

-- NOT SERVED 90 internal/abi.NoEscape: no body

-- NOT SERVED 91 internal/bytealg.MakeNoZero: no body

/-- chantry/num.Get -/
noncomputable def ic_num_Get : IC :=
  (.seq (.ops [
    ⟨(some 2), none, false, .mov (.const (.int .i64 0))⟩,
    ⟨(some 3), none, false, .mov (.const (.int .i64 0))⟩,
    ⟨(some 4), none, false, .mov (.const (.int .i64 0))⟩]) (.seq (.ops [
    ⟨(some 5), none, false, .mov (.const (.int .i64 0))⟩]) (.seq (.seq (.ops [
    ⟨(some 8), none, false, .mov (.tmp 0)⟩,
    ⟨(some 9), none, false, .mov (.tmp 0)⟩,
    ⟨(some 10), none, false, .lens false (.tmp 9)⟩,
    ⟨(some 11), none, false, .mn (.tmp 10) (.const (.int .i64 5))⟩,
    ⟨(some 12), none, false, .sll (.tmp 8) none (some (.tmp 11)) none 1⟩,
    ⟨(some 13), none, false, .lens false (.tmp 12)⟩,
    ⟨(some 14), none, false, .mov (.const (.int .i64 0))⟩]) (.block 0 (.loop (.seq (.ops [
    ⟨(some 15), none, false, .bin .lss (.tmp 14) (.tmp 13)⟩]) (.seq (.cond (.tmp 15) .skip (.exit 0)) (.seq (.block 1 (.seq (.ops [
    ⟨(some 16), none, false, .mov (.tmp 14)⟩,
    ⟨(some 17), none, false, .iaddr (.tmp 12) (.tmp 14) 1⟩,
    ⟨(some 18), none, false, .load1 (.tmp 17)⟩,
    ⟨(some 6), none, false, .mov (.tmp 16)⟩,
    ⟨(some 7), none, false, .mov (.tmp 18)⟩]) (.seq (.ops [
    ⟨(some 19), none, false, .mov (.tmp 5)⟩,
    ⟨(some 20), none, false, .mov (.tmp 7)⟩,
    ⟨(some 21), none, false, .bin .and (.tmp 20) (.const (.int .u8 127))⟩,
    ⟨(some 22), none, false, .conv .i64 (.tmp 21)⟩,
    ⟨(some 23), none, false, .mov (.tmp 6)⟩,
    ⟨(some 24), none, false, .bin .mul (.const (.int .i64 7)) (.tmp 23)⟩,
    ⟨(some 25), none, false, .bin .shl (.tmp 22) (.tmp 24)⟩,
    ⟨(some 26), none, false, .bin .or (.tmp 19) (.tmp 25)⟩,
    ⟨(some 5), none, false, .mov (.tmp 26)⟩]) (.seq (.block 2 (.seq (.ops [
    ⟨(some 28), none, false, .mov (.tmp 7)⟩,
    ⟨(some 29), none, false, .bin .geq (.tmp 28) (.const (.int .u8 128))⟩,
    ⟨(some 27), none, false, .mov (.tmp 29)⟩]) (.cond (.tmp 27) (.exit 1) (.seq (.ops [
    ⟨(some 31), none, false, .mov (.tmp 5)⟩,
    ⟨(some 32), none, false, .call num_is [(.tmp 31)]⟩,
    ⟨(some 33), none, false, .un .not (.tmp 32)⟩,
    ⟨(some 34), none, false, .mov (.tmp 33)⟩,
    ⟨(some 35), (some (34, false)), false, .mov (.tmp 6)⟩,
    ⟨(some 36), (some (34, false)), false, .bin .gtr (.tmp 35) (.const (.int .i64 0))⟩,
    ⟨(some 37), (some (34, false)), false, .mov (.tmp 36)⟩,
    ⟨(some 38), (some (37, true)), false, .mov (.tmp 7)⟩,
    ⟨(some 39), (some (37, true)), false, .bin .eql (.tmp 38) (.const (.int .u8 0))⟩,
    ⟨(some 40), (some (34, false)), false, .pick (.tmp 37) (.tmp 39) (.const (.bool false))⟩,
    ⟨(some 41), none, false, .pick (.tmp 34) (.const (.bool true)) (.tmp 40)⟩,
    ⟨(some 30), none, false, .mov (.tmp 41)⟩]) (.cond (.tmp 30) (.seq (.ops [
    ⟨(some 2), none, false, .mov (.const (.int .i64 0))⟩,
    ⟨(some 3), none, false, .mov (.const (.int .i64 0))⟩,
    ⟨(some 4), none, false, .mov (.const (.int .i64 5))⟩]) .ret) .skip))))) (.seq (.ops [
    ⟨(some 42), none, false, .mov (.tmp 5)⟩,
    ⟨(some 43), none, false, .mov (.tmp 6)⟩,
    ⟨(some 44), none, false, .bin .add (.tmp 43) (.const (.int .i64 1))⟩,
    ⟨(some 2), none, false, .mov (.tmp 42)⟩,
    ⟨(some 3), none, false, .mov (.tmp 44)⟩,
    ⟨(some 4), none, false, .mov (.const (.int .i64 0))⟩]) .ret))))) (.ops [
    ⟨(some 45), none, false, .bin .add (.tmp 14) (.const (.int .i64 1))⟩,
    ⟨(some 14), none, false, .mov (.tmp 45)⟩]))))))) (.seq (.ops [
    ⟨(some 2), none, false, .mov (.const (.int .i64 0))⟩,
    ⟨(some 3), none, false, .mov (.const (.int .i64 0))⟩,
    ⟨(some 4), none, false, .mov (.const (.int .i64 5))⟩]) .ret))))
theorem fits_num_Get : Fits Tryd.prog 1 num_Get ic_num_Get [.tmp 2, .tmp 3, .tmp 4] 1 :=
  ⟨Tryd.f92, Tryd.func92, by decide, by kernel_rfl, by kernel_rfl⟩

-- NOT SERVED 93 strings.indexFunc: operation Op.range

/-- chantry/chantryref01.Get -/
noncomputable def ic_chantryref01_Get : IC :=
  (.seq (.ops [
    ⟨(some 2), none, false, .mov (.const (.int .i64 0))⟩,
    ⟨(some 3), none, false, .mov (.const (.int .i64 0))⟩,
    ⟨(some 4), none, false, .mov (.const (.int .i64 0))⟩]) (.seq (.ops [
    ⟨(some 5), none, false, .mov (.const (.int .i64 0))⟩]) (.seq (.ops [
    ⟨(some 6), none, false, .mov (.const (.int .i64 1))⟩]) (.seq (.seq (.ops [
    ⟨(some 7), none, false, .mov (.const (.int .i64 0))⟩]) (.block 0 (.loop (.seq (.seq (.ops [
    ⟨(some 8), none, false, .mov (.tmp 7)⟩,
    ⟨(some 9), none, false, .mov (.tmp 0)⟩,
    ⟨(some 10), none, false, .lens false (.tmp 9)⟩,
    ⟨(some 11), none, false, .bin .lss (.tmp 8) (.tmp 10)⟩,
    ⟨(some 12), none, false, .mov (.tmp 11)⟩,
    ⟨(some 13), (some (12, true)), false, .mov (.tmp 7)⟩,
    ⟨(some 14), (some (12, true)), false, .bin .lss (.tmp 13) (.const (.int .i64 5))⟩,
    ⟨(some 15), none, false, .pick (.tmp 12) (.tmp 14) (.const (.bool false))⟩]) (.cond (.tmp 15) .skip (.exit 0))) (.seq (.block 1 (.seq (.ops [
    ⟨(some 18), none, false, .mov (.tmp 5)⟩,
    ⟨(some 19), none, false, .mov (.tmp 0)⟩,
    ⟨(some 20), none, false, .mov (.tmp 7)⟩,
    ⟨(some 21), none, false, .iaddr (.tmp 19) (.tmp 20) 1⟩,
    ⟨(some 22), none, false, .load1 (.tmp 21)⟩,
    ⟨(some 23), none, false, .bin .rem (.tmp 22) (.const (.int .u8 128))⟩,
    ⟨(some 24), none, false, .conv .i64 (.tmp 23)⟩,
    ⟨(some 25), none, false, .mov (.tmp 6)⟩,
    ⟨(some 26), none, false, .bin .mul (.tmp 24) (.tmp 25)⟩,
    ⟨(some 27), none, false, .bin .add (.tmp 18) (.tmp 26)⟩,
    ⟨(some 5), none, false, .mov (.tmp 27)⟩]) (.seq (.ops [
    ⟨(some 28), none, false, .mov (.tmp 6)⟩,
    ⟨(some 29), none, false, .bin .mul (.tmp 28) (.const (.int .i64 128))⟩,
    ⟨(some 6), none, false, .mov (.tmp 29)⟩]) (.seq (.seq (.ops [
    ⟨(some 30), none, false, .mov (.tmp 0)⟩,
    ⟨(some 31), none, false, .mov (.tmp 7)⟩,
    ⟨(some 32), none, false, .iaddr (.tmp 30) (.tmp 31) 1⟩,
    ⟨(some 33), none, false, .load1 (.tmp 32)⟩,
    ⟨(some 34), none, false, .bin .geq (.tmp 33) (.const (.int .u8 128))⟩]) (.cond (.tmp 34) (.exit 1) .skip)) (.seq (.seq (.ops [
    ⟨(some 35), none, false, .mov (.tmp 5)⟩,
    ⟨(some 36), none, false, .bin .gtr (.tmp 35) (.const (.int .i64 2147483647))⟩,
    ⟨(some 37), none, false, .mov (.tmp 36)⟩,
    ⟨(some 38), (some (37, false)), false, .mov (.tmp 7)⟩,
    ⟨(some 39), (some (37, false)), false, .bin .gtr (.tmp 38) (.const (.int .i64 0))⟩,
    ⟨(some 40), (some (37, false)), false, .mov (.tmp 39)⟩,
    ⟨(some 41), (some (40, true)), false, .mov (.tmp 0)⟩,
    ⟨(some 42), (some (40, true)), false, .mov (.tmp 7)⟩,
    ⟨(some 43), (some (40, true)), false, .iaddr (.tmp 41) (.tmp 42) 1⟩,
    ⟨(some 44), (some (40, true)), false, .load1 (.tmp 43)⟩,
    ⟨(some 45), (some (40, true)), false, .bin .eql (.tmp 44) (.const (.int .u8 0))⟩,
    ⟨(some 46), (some (37, false)), false, .pick (.tmp 40) (.tmp 45) (.const (.bool false))⟩,
    ⟨(some 47), none, false, .pick (.tmp 37) (.const (.bool true)) (.tmp 46)⟩]) (.cond (.tmp 47) (.seq (.ops [
    ⟨(some 2), none, false, .mov (.const (.int .i64 0))⟩,
    ⟨(some 3), none, false, .mov (.const (.int .i64 0))⟩,
    ⟨(some 4), none, false, .mov (.const (.int .i64 5))⟩]) .ret) .skip)) (.seq (.ops [
    ⟨(some 48), none, false, .mov (.tmp 5)⟩,
    ⟨(some 49), none, false, .mov (.tmp 7)⟩,
    ⟨(some 50), none, false, .bin .add (.tmp 49) (.const (.int .i64 1))⟩,
    ⟨(some 2), none, false, .mov (.tmp 48)⟩,
    ⟨(some 3), none, false, .mov (.tmp 50)⟩,
    ⟨(some 4), none, false, .mov (.const (.int .i64 0))⟩]) .ret)))))) (.ops [
    ⟨(some 16), none, false, .mov (.tmp 7)⟩,
    ⟨(some 17), none, false, .bin .add (.tmp 16) (.const (.int .i64 1))⟩,
    ⟨(some 7), none, false, .mov (.tmp 17)⟩])))))) (.seq (.ops [
    ⟨(some 2), none, false, .mov (.const (.int .i64 0))⟩,
    ⟨(some 3), none, false, .mov (.const (.int .i64 0))⟩,
    ⟨(some 4), none, false, .mov (.const (.int .i64 5))⟩]) .ret)))))
theorem fits_chantryref01_Get : Fits Tryd.prog 1 chantryref01_Get ic_chantryref01_Get [.tmp 2, .tmp 3, .tmp 4] 1 :=
  ⟨Tryd.f94, Tryd.func94, by decide, by kernel_rfl, by kernel_rfl⟩

/-- chantry/sha.schedule -/
noncomputable def ic_sha_schedule : IC :=
  (.seq (.ops [
    ⟨(some 2), none, false, .new [.int .u32 0, .int .u32 0, .int .u32 0, .int .u32 0, .int .u32 0, .int .u32 0, .int .u32 0, .int .u32 0, .int .u32 0, .int .u32 0, .int .u32 0, .int .u32 0, .int .u32 0, .int .u32 0, .int .u32 0, .int .u32 0, .int .u32 0, .int .u32 0, .int .u32 0, .int .u32 0, .int .u32 0, .int .u32 0, .int .u32 0, .int .u32 0, .int .u32 0, .int .u32 0, .int .u32 0, .int .u32 0, .int .u32 0, .int .u32 0, .int .u32 0, .int .u32 0, .int .u32 0, .int .u32 0, .int .u32 0, .int .u32 0, .int .u32 0, .int .u32 0, .int .u32 0, .int .u32 0, .int .u32 0, .int .u32 0, .int .u32 0, .int .u32 0, .int .u32 0, .int .u32 0, .int .u32 0, .int .u32 0, .int .u32 0, .int .u32 0, .int .u32 0, .int .u32 0, .int .u32 0, .int .u32 0, .int .u32 0, .int .u32 0, .int .u32 0, .int .u32 0, .int .u32 0, .int .u32 0, .int .u32 0, .int .u32 0, .int .u32 0, .int .u32 0]⟩]) (.seq (.ops [
    ⟨(some 3), none, false, .new [.int .u32 0, .int .u32 0, .int .u32 0, .int .u32 0, .int .u32 0, .int .u32 0, .int .u32 0, .int .u32 0, .int .u32 0, .int .u32 0, .int .u32 0, .int .u32 0, .int .u32 0, .int .u32 0, .int .u32 0, .int .u32 0, .int .u32 0, .int .u32 0, .int .u32 0, .int .u32 0, .int .u32 0, .int .u32 0, .int .u32 0, .int .u32 0, .int .u32 0, .int .u32 0, .int .u32 0, .int .u32 0, .int .u32 0, .int .u32 0, .int .u32 0, .int .u32 0, .int .u32 0, .int .u32 0, .int .u32 0, .int .u32 0, .int .u32 0, .int .u32 0, .int .u32 0, .int .u32 0, .int .u32 0, .int .u32 0, .int .u32 0, .int .u32 0, .int .u32 0, .int .u32 0, .int .u32 0, .int .u32 0, .int .u32 0, .int .u32 0, .int .u32 0, .int .u32 0, .int .u32 0, .int .u32 0, .int .u32 0, .int .u32 0, .int .u32 0, .int .u32 0, .int .u32 0, .int .u32 0, .int .u32 0, .int .u32 0, .int .u32 0, .int .u32 0]⟩]) (.seq (.seq (.ops [
    ⟨(some 7), none, false, .mov (.const (.int .i64 0))⟩]) (.block 0 (.loop (.seq (.ops [
    ⟨(some 8), none, false, .bin .lss (.tmp 7) (.const (.int .i64 64))⟩]) (.seq (.cond (.tmp 8) .skip (.exit 0)) (.seq (.block 1 (.seq (.ops [
    ⟨(some 9), none, false, .mov (.tmp 7)⟩,
    ⟨(some 4), none, false, .mov (.tmp 9)⟩]) (.seq (.seq (.ops [
    ⟨(some 10), none, false, .mov (.tmp 4)⟩,
    ⟨(some 11), none, false, .bin .lss (.tmp 10) (.const (.int .i64 16))⟩]) (.cond (.tmp 11) (.seq (.draw [
    ⟨(some 12), none, false, .mov (.tmp 4)⟩,
    ⟨(some 13), none, false, .mov (.tmp 0)⟩,
    ⟨(some 14), none, false, .mov (.tmp 4)⟩,
    ⟨(some 15), none, false, .bin .mul (.const (.int .i64 4)) (.tmp 14)⟩,
    ⟨(some 16), none, false, .iaddr (.tmp 13) (.tmp 15) 1⟩,
    ⟨(some 17), none, false, .load1 (.tmp 16)⟩,
    ⟨(some 18), none, false, .conv .u32 (.tmp 17)⟩,
    ⟨(some 19), none, false, .bin .shl (.tmp 18) (.const (.int .u64 24))⟩,
    ⟨(some 20), none, false, .mov (.tmp 0)⟩,
    ⟨(some 21), none, false, .mov (.tmp 4)⟩,
    ⟨(some 22), none, false, .bin .mul (.const (.int .i64 4)) (.tmp 21)⟩,
    ⟨(some 23), none, false, .bin .add (.tmp 22) (.const (.int .i64 1))⟩,
    ⟨(some 24), none, false, .iaddr (.tmp 20) (.tmp 23) 1⟩,
    ⟨(some 25), none, false, .load1 (.tmp 24)⟩,
    ⟨(some 26), none, false, .conv .u32 (.tmp 25)⟩,
    ⟨(some 27), none, false, .bin .shl (.tmp 26) (.const (.int .u64 16))⟩,
    ⟨(some 28), none, false, .bin .or (.tmp 19) (.tmp 27)⟩,
    ⟨(some 29), none, false, .mov (.tmp 0)⟩,
    ⟨(some 30), none, false, .mov (.tmp 4)⟩,
    ⟨(some 31), none, false, .bin .mul (.const (.int .i64 4)) (.tmp 30)⟩,
    ⟨(some 32), none, false, .bin .add (.tmp 31) (.const (.int .i64 2))⟩,
    ⟨(some 33), none, false, .iaddr (.tmp 29) (.tmp 32) 1⟩,
    ⟨(some 34), none, false, .load1 (.tmp 33)⟩,
    ⟨(some 35), none, false, .conv .u32 (.tmp 34)⟩,
    ⟨(some 36), none, false, .bin .shl (.tmp 35) (.const (.int .u64 8))⟩,
    ⟨(some 37), none, false, .bin .or (.tmp 28) (.tmp 36)⟩,
    ⟨(some 38), none, false, .mov (.tmp 0)⟩,
    ⟨(some 39), none, false, .mov (.tmp 4)⟩,
    ⟨(some 40), none, false, .bin .mul (.const (.int .i64 4)) (.tmp 39)⟩,
    ⟨(some 41), none, false, .bin .add (.tmp 40) (.const (.int .i64 3))⟩,
    ⟨(some 42), none, false, .iaddr (.tmp 38) (.tmp 41) 1⟩,
    ⟨(some 43), none, false, .load1 (.tmp 42)⟩,
    ⟨(some 44), none, false, .conv .u32 (.tmp 43)⟩,
    ⟨(some 45), none, false, .bin .or (.tmp 37) (.tmp 44)⟩,
    ⟨(some 46), none, false, .iarr (.tmp 3) (.tmp 12) 64 1⟩,
    ⟨none, none, false, .store (.tmp 46) (.tmp 45) 1⟩]) (.exit 1)) .skip)) (.seq (.draw [
    ⟨(some 47), none, false, .mov (.tmp 4)⟩,
    ⟨(some 48), none, false, .bin .sub (.tmp 47) (.const (.int .i64 15))⟩,
    ⟨(some 49), none, false, .iarr (.tmp 3) (.tmp 48) 64 1⟩,
    ⟨(some 50), none, false, .load1 (.tmp 49)⟩,
    ⟨(some 51), none, false, .mov (.tmp 4)⟩,
    ⟨(some 52), none, false, .bin .sub (.tmp 51) (.const (.int .i64 2))⟩,
    ⟨(some 53), none, false, .iarr (.tmp 3) (.tmp 52) 64 1⟩,
    ⟨(some 54), none, false, .load1 (.tmp 53)⟩,
    ⟨(some 5), none, false, .mov (.tmp 50)⟩,
    ⟨(some 6), none, false, .mov (.tmp 54)⟩]) (.draw [
    ⟨(some 55), none, false, .mov (.tmp 4)⟩,
    ⟨(some 56), none, false, .mov (.tmp 4)⟩,
    ⟨(some 57), none, false, .bin .sub (.tmp 56) (.const (.int .i64 16))⟩,
    ⟨(some 58), none, false, .iarr (.tmp 3) (.tmp 57) 64 1⟩,
    ⟨(some 59), none, true, .load1 (.tmp 58)⟩,
    ⟨(some 60), none, false, .mov (.tmp 4)⟩,
    ⟨(some 61), none, false, .bin .sub (.tmp 60) (.const (.int .i64 7))⟩,
    ⟨(some 62), none, false, .iarr (.tmp 3) (.tmp 61) 64 1⟩,
    ⟨(some 63), none, true, .load1 (.tmp 62)⟩,
    ⟨(some 64), none, false, .bin .add (.tmp 59) (.tmp 63)⟩,
    ⟨(some 65), none, false, .mov (.tmp 5)⟩,
    ⟨(some 67), none, false, .mov (.tmp 5)⟩,
    ⟨(some 70), none, false, .mov (.tmp 5)⟩,
    ⟨(some 71), none, false, .bin .shr (.tmp 70) (.const (.int .u64 3))⟩,
    ⟨(some 74), none, false, .mov (.tmp 6)⟩,
    ⟨(some 76), none, false, .mov (.tmp 6)⟩,
    ⟨(some 79), none, false, .mov (.tmp 6)⟩,
    ⟨(some 80), none, false, .bin .shr (.tmp 79) (.const (.int .u64 10))⟩,
    ⟨(some 66), none, true, .call sha_right [(.tmp 65), (.const (.int .i64 7))]⟩,
    ⟨(some 68), none, true, .call sha_right [(.tmp 67), (.const (.int .i64 18))]⟩,
    ⟨(some 69), none, false, .bin .xor (.tmp 66) (.tmp 68)⟩,
    ⟨(some 72), none, false, .bin .xor (.tmp 69) (.tmp 71)⟩,
    ⟨(some 73), none, false, .bin .add (.tmp 64) (.tmp 72)⟩,
    ⟨(some 75), none, true, .call sha_right [(.tmp 74), (.const (.int .i64 17))]⟩,
    ⟨(some 77), none, true, .call sha_right [(.tmp 76), (.const (.int .i64 19))]⟩,
    ⟨(some 78), none, false, .bin .xor (.tmp 75) (.tmp 77)⟩,
    ⟨(some 81), none, false, .bin .xor (.tmp 78) (.tmp 80)⟩,
    ⟨(some 82), none, false, .bin .add (.tmp 73) (.tmp 81)⟩,
    ⟨(some 83), none, false, .iarr (.tmp 3) (.tmp 55) 64 1⟩,
    ⟨none, none, false, .store (.tmp 83) (.tmp 82) 1⟩]))))) (.ops [
    ⟨(some 84), none, false, .bin .add (.tmp 7) (.const (.int .i64 1))⟩,
    ⟨(some 7), none, false, .mov (.tmp 84)⟩]))))))) (.seq (.ops [
    ⟨(some 85), none, false, .loadn (.tmp 3) 64⟩,
    ⟨none, none, false, .store (.tmp 2) (.tmp 85) 64⟩]) .ret))))
theorem fits_sha_schedule : Fits Tryd.prog 1 sha_schedule ic_sha_schedule [.many 2 64] 1 :=
  ⟨Tryd.f95, Tryd.func95, by decide, by kernel_rfl, by kernel_rfl⟩

/-- chantry/sha.right -/
noncomputable def ic_sha_right : IC :=
  (.seq (.ops [
    ⟨(some 4), none, false, .mov (.const (.int .u32 0))⟩]) (.seq (.draw [
    ⟨(some 5), none, false, .mov (.tmp 0)⟩,
    ⟨(some 6), none, false, .mov (.tmp 1)⟩,
    ⟨(some 7), none, false, .bin .shr (.tmp 5) (.tmp 6)⟩,
    ⟨(some 8), none, false, .mov (.tmp 0)⟩,
    ⟨(some 9), none, false, .mov (.tmp 1)⟩,
    ⟨(some 10), none, false, .bin .sub (.const (.int .i64 32)) (.tmp 9)⟩,
    ⟨(some 11), none, false, .bin .shl (.tmp 8) (.tmp 10)⟩,
    ⟨(some 12), none, false, .bin .or (.tmp 7) (.tmp 11)⟩,
    ⟨(some 4), none, false, .mov (.tmp 12)⟩]) .ret))
theorem fits_sha_right : Fits Tryd.prog 1 sha_right ic_sha_right [.tmp 4] 2 :=
  ⟨Tryd.f96, Tryd.func96, by decide, by kernel_rfl, by kernel_rfl⟩

-- NOT SERVED 97 (runtime.boundsError).Error: no body

-- NOT SERVED 98 (runtime.boundsError).RuntimeError: no body

-- NOT SERVED 99 (runtime.errorString).Error: no body

-- NOT SERVED 100 (runtime.errorString).RuntimeError: no body

-- NOT SERVED 101 (runtime.plainError).Error: no body

-- NOT SERVED 102 (runtime.plainError).RuntimeError: no body

-- NOT SERVED 103 (runtime.errorAddressString).Error: no body

-- NOT SERVED 104 (runtime.errorAddressString).RuntimeError: no body

-- NOT SERVED 105 (*runtime.TypeAssertionError).Error: no body

-- NOT SERVED 106 (*runtime.TypeAssertionError).RuntimeError: no body

-- NOT SERVED 107 (*runtime.PanicNilError).Error: no body

-- NOT SERVED 108 (*runtime.PanicNilError).RuntimeError: no body

-- NOT SERVED 109 (*internal/abi.Type).Align: no body

-- NOT SERVED 110 (internal/runtime/maps.unhashableTypeError).Error: no body

-- NOT SERVED 111 (internal/runtime/maps.unhashableTypeError).RuntimeError: no body

-- NOT SERVED 112 (*strings.Builder).Reset: no body

-- NOT SERVED 113 (*chantry/sha.Hash).Size: no body

-- NOT SERVED 114 (internal/abi.Kind).String: no body

-- NOT SERVED 115 var's door: chantry/sha.rounds is laid by its own initialiser, plain data (look 11): no body

-- NOT SERVED 116 var's door: gosem.cut.vars holds initialisers alone; see the manifest's row cutvarsword (look 11, test files too): no body

-- NOT SERVED 117 var's door: the look of gosem.cut.vars went over the folder that the caller named as the repository's root (look 11): no body

/-- gosem.cut.vars -/
noncomputable def ic_gosem_cut_vars : IC :=
  (.ops [
    ⟨(some 0), none, false, .build [.int .u32 0, .int .u32 0, .int .u32 0, .int .u32 0, .int .u32 0, .int .u32 0, .int .u32 0, .int .u32 0, .int .u32 0, .int .u32 0, .int .u32 0, .int .u32 0, .int .u32 0, .int .u32 0, .int .u32 0, .int .u32 0, .int .u32 0, .int .u32 0, .int .u32 0, .int .u32 0, .int .u32 0, .int .u32 0, .int .u32 0, .int .u32 0, .int .u32 0, .int .u32 0, .int .u32 0, .int .u32 0, .int .u32 0, .int .u32 0, .int .u32 0, .int .u32 0, .int .u32 0, .int .u32 0, .int .u32 0, .int .u32 0, .int .u32 0, .int .u32 0, .int .u32 0, .int .u32 0, .int .u32 0, .int .u32 0, .int .u32 0, .int .u32 0, .int .u32 0, .int .u32 0, .int .u32 0, .int .u32 0, .int .u32 0, .int .u32 0, .int .u32 0, .int .u32 0, .int .u32 0, .int .u32 0, .int .u32 0, .int .u32 0, .int .u32 0, .int .u32 0, .int .u32 0, .int .u32 0, .int .u32 0, .int .u32 0, .int .u32 0, .int .u32 0] [(0, 1, (.const (.int .u32 1116352408))), (1, 1, (.const (.int .u32 1899447441))), (2, 1, (.const (.int .u32 3049323471))), (3, 1, (.const (.int .u32 3921009573))), (4, 1, (.const (.int .u32 961987163))), (5, 1, (.const (.int .u32 1508970993))), (6, 1, (.const (.int .u32 2453635748))), (7, 1, (.const (.int .u32 2870763221))), (8, 1, (.const (.int .u32 3624381080))), (9, 1, (.const (.int .u32 310598401))), (10, 1, (.const (.int .u32 607225278))), (11, 1, (.const (.int .u32 1426881987))), (12, 1, (.const (.int .u32 1925078388))), (13, 1, (.const (.int .u32 2162078206))), (14, 1, (.const (.int .u32 2614888103))), (15, 1, (.const (.int .u32 3248222580))), (16, 1, (.const (.int .u32 3835390401))), (17, 1, (.const (.int .u32 4022224774))), (18, 1, (.const (.int .u32 264347078))), (19, 1, (.const (.int .u32 604807628))), (20, 1, (.const (.int .u32 770255983))), (21, 1, (.const (.int .u32 1249150122))), (22, 1, (.const (.int .u32 1555081692))), (23, 1, (.const (.int .u32 1996064986))), (24, 1, (.const (.int .u32 2554220882))), (25, 1, (.const (.int .u32 2821834349))), (26, 1, (.const (.int .u32 2952996808))), (27, 1, (.const (.int .u32 3210313671))), (28, 1, (.const (.int .u32 3336571891))), (29, 1, (.const (.int .u32 3584528711))), (30, 1, (.const (.int .u32 113926993))), (31, 1, (.const (.int .u32 338241895))), (32, 1, (.const (.int .u32 666307205))), (33, 1, (.const (.int .u32 773529912))), (34, 1, (.const (.int .u32 1294757372))), (35, 1, (.const (.int .u32 1396182291))), (36, 1, (.const (.int .u32 1695183700))), (37, 1, (.const (.int .u32 1986661051))), (38, 1, (.const (.int .u32 2177026350))), (39, 1, (.const (.int .u32 2456956037))), (40, 1, (.const (.int .u32 2730485921))), (41, 1, (.const (.int .u32 2820302411))), (42, 1, (.const (.int .u32 3259730800))), (43, 1, (.const (.int .u32 3345764771))), (44, 1, (.const (.int .u32 3516065817))), (45, 1, (.const (.int .u32 3600352804))), (46, 1, (.const (.int .u32 4094571909))), (47, 1, (.const (.int .u32 275423344))), (48, 1, (.const (.int .u32 430227734))), (49, 1, (.const (.int .u32 506948616))), (50, 1, (.const (.int .u32 659060556))), (51, 1, (.const (.int .u32 883997877))), (52, 1, (.const (.int .u32 958139571))), (53, 1, (.const (.int .u32 1322822218))), (54, 1, (.const (.int .u32 1537002063))), (55, 1, (.const (.int .u32 1747873779))), (56, 1, (.const (.int .u32 1955562222))), (57, 1, (.const (.int .u32 2024104815))), (58, 1, (.const (.int .u32 2227730452))), (59, 1, (.const (.int .u32 2361852424))), (60, 1, (.const (.int .u32 2428436474))), (61, 1, (.const (.int .u32 2756734187))), (62, 1, (.const (.int .u32 3204031479))), (63, 1, (.const (.int .u32 3329325298)))]⟩,
    ⟨none, none, false, .store (.global 0) (.tmp 0) 64⟩])
theorem fits_gosem_cut_vars : Fits Tryd.prog 1 gosem_cut_vars ic_gosem_cut_vars [] 0 :=
  ⟨Tryd.f118, Tryd.func118, by decide, by kernel_rfl, by kernel_rfl⟩

end Go.AS.C
