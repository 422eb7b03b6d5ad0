/- Lemmas for the proof of a given statement; no conditions. -/
import Derived.Test.YtjbmnlmjngegeaaDoorM4
import Derived.Test.YtjbmnlmjngegeaaDoorRows
set_option maxHeartbeats 1000000

-- ALIAS Tryd G 1
-- Printed by gen.py (wip/tools): the abstract code of each function, and that it fits the program.
namespace Go.AS.C
open Go Go.Proofs
set_option maxRecDepth 100000
abbrev chantrylaw28_SegmentSizes : FuncId := 6
abbrev chantrylaw28_awake : FuncId := 8
abbrev segment_Put : FuncId := 9
abbrev segment_Get : FuncId := 11
abbrev segment_Size : FuncId := 14
abbrev segment_Table_Texts : FuncId := 16
abbrev segment_Table_Find : FuncId := 17
abbrev segment_Rescue : FuncId := 20
abbrev chantryref26_Size : FuncId := 21
abbrev chantryref28_Size : FuncId := 22
abbrev segment_Table_IDs : FuncId := 23
abbrev chantryref03_ID : FuncId := 24
abbrev frame_Put : FuncId := 25
abbrev segment_sorted : FuncId := 26
abbrev segment_table : FuncId := 27
abbrev segment_Table_bytes : FuncId := 28
abbrev crc_Seal : FuncId := 29
abbrev crc_Open : FuncId := 34
abbrev num_Unfix : FuncId := 35
abbrev frame_Scan : FuncId := 36
abbrev slices_Equal_byte_byte : FuncId := 37
abbrev frame_Size : FuncId := 38
abbrev segment_Table_text : FuncId := 41
abbrev fence_Has : FuncId := 42
abbrev segment_row_string : FuncId := 43
abbrev segment_Table_Find_1 : FuncId := 44
abbrev cmp_Compare_string : FuncId := 45
abbrev chantryref03_rounds : FuncId := 47
abbrev chantryref03_block : FuncId := 48
abbrev num_Fix : FuncId := 49
abbrev sha_ID : FuncId := 50
abbrev api_Item : FuncId := 51
abbrev segment_sorted_1 : FuncId := 52
abbrev api_Item_53 : FuncId := 53
abbrev segment_sorted_2 : FuncId := 54
abbrev fence_Make : FuncId := 55
abbrev slices_Clone_byte_byte : FuncId := 56
abbrev segment_fix : FuncId := 57
abbrev slices_Concat_byte_byte : FuncId := 58
abbrev crc_tail : FuncId := 59
abbrev crc_Sum : FuncId := 60
abbrev num_is : FuncId := 64
abbrev frame_Next : FuncId := 65
abbrev fence_may : FuncId := 66
abbrev ids_Right : FuncId := 67
abbrev fence_marks : FuncId := 68
abbrev cmp_isNaN_string : FuncId := 69
abbrev chantryref03_schedule : FuncId := 70
abbrev chantryref03_turn : FuncId := 71
abbrev sha_Begin : FuncId := 72
abbrev sha_Hash_Add : FuncId := 73
abbrev sha_Hash_Sum : FuncId := 74
abbrev api_Item_75 : FuncId := 75
abbrev slices_ContainsFunc_string_string : FuncId := 76
abbrev fence_Make_1 : FuncId := 77
abbrev fence_set : FuncId := 78
abbrev slices_Grow_byte_byte : FuncId := 79
abbrev crc_More : FuncId := 80
abbrev chantryref03_word : FuncId := 82
abbrev sha_Hash_mix : FuncId := 83
abbrev sha_Hash_end : FuncId := 84
abbrev api_Item_85 : FuncId := 85
abbrev api_Item_86 : FuncId := 86
abbrev slices_IndexFunc_string_string : FuncId := 87
abbrev sha_schedule : FuncId := 88
abbrev sha_right : FuncId := 89
abbrev api_Item_90 : FuncId := 90
abbrev api_Item_91 : FuncId := 91
/-- chantry/chantrylaw28.SegmentSizes -/
noncomputable def ic_chantrylaw28_SegmentSizes : IC :=
  (.seq (.ops [
    ⟨(some 2), none, false, .mov (.const (.bool false))⟩]) (.seq (.seq (.ops [
    ⟨(some 6), none, false, .mov (.tmp 0)⟩,
    ⟨(some 7), none, false, .lens false (.tmp 6)⟩,
    ⟨(some 8), none, false, .bin .gtr (.tmp 7) (.const (.int .i64 5000))⟩]) (.cond (.tmp 8) (.seq (.ops [
    ⟨(some 9), none, false, .call chantrylaw28_awake []⟩,
    ⟨(some 2), none, false, .mov (.tmp 9)⟩]) .ret) .skip)) (.seq (.ops [
    ⟨(some 3), none, false, .mov (.const (.pointer none))⟩]) (.seq (.ops [
    ⟨(some 11), none, false, .mov (.tmp 3)⟩,
    ⟨(some 12), none, false, .call segment_Table_Find [(.tmp 11), (.const (.string ⟨#[]⟩))]⟩,
    ⟨(some 10), none, false, .mov (.tmp 12)⟩,
    ⟨(some 13), none, false, .ext (.tmp 10) 0⟩,
    ⟨(some 14), none, false, .ext (.tmp 10) 1⟩,
    ⟨(some 4), none, false, .mov (.tmp 13)⟩,
    ⟨(some 5), none, false, .mov (.tmp 14)⟩]) (.seq (.ops [
    ⟨(some 15), none, false, .mov (.tmp 0)⟩,
    ⟨(some 16), none, false, .call segment_Size [(.tmp 15)]⟩,
    ⟨(some 17), none, false, .mov (.tmp 0)⟩,
    ⟨(some 18), none, false, .call chantryref28_Size [(.tmp 17)]⟩,
    ⟨(some 19), none, false, .bin .eql (.tmp 16) (.tmp 18)⟩,
    ⟨(some 20), none, false, .mov (.tmp 19)⟩,
    ⟨(some 21), (some (20, true)), false, .mov (.tmp 3)⟩,
    ⟨(some 22), (some (20, true)), false, .call segment_Table_IDs [(.tmp 21)]⟩,
    ⟨(some 23), (some (20, true)), false, .lens false (.tmp 22)⟩,
    ⟨(some 24), (some (20, true)), false, .bin .eql (.tmp 23) (.const (.int .i64 0))⟩,
    ⟨(some 25), none, false, .pick (.tmp 20) (.tmp 24) (.const (.bool false))⟩,
    ⟨(some 26), none, false, .mov (.tmp 25)⟩,
    ⟨(some 27), (some (26, true)), false, .mov (.tmp 3)⟩,
    ⟨(some 28), (some (26, true)), false, .call segment_Table_Texts [(.tmp 27)]⟩,
    ⟨(some 29), (some (26, true)), false, .lens false (.tmp 28)⟩,
    ⟨(some 30), (some (26, true)), false, .bin .eql (.tmp 29) (.const (.int .i64 0))⟩,
    ⟨(some 31), none, false, .pick (.tmp 26) (.tmp 30) (.const (.bool false))⟩,
    ⟨(some 32), none, false, .mov (.tmp 31)⟩,
    ⟨(some 33), (some (32, true)), false, .mov (.tmp 5)⟩,
    ⟨(some 34), (some (32, true)), false, .un .not (.tmp 33)⟩,
    ⟨(some 35), none, false, .pick (.tmp 32) (.tmp 34) (.const (.bool false))⟩,
    ⟨(some 36), none, false, .mov (.tmp 35)⟩,
    ⟨(some 37), (some (36, true)), false, .call chantrylaw28_awake []⟩,
    ⟨(some 38), none, false, .pick (.tmp 36) (.tmp 37) (.const (.bool false))⟩,
    ⟨(some 2), none, false, .mov (.tmp 38)⟩]) .ret)))))
theorem fits_chantrylaw28_SegmentSizes : Fits Tryd.prog 1 chantrylaw28_SegmentSizes ic_chantrylaw28_SegmentSizes [.tmp 2] 1 :=
  ⟨Tryd.f6, Tryd.func6, by decide, by kernel_rfl, by kernel_rfl⟩

/-- chantry/chantrylaw28.awake -/
noncomputable def ic_chantrylaw28_awake : IC :=
  (.seq (.ops [
    ⟨(some 0), none, false, .mov (.const (.bool false))⟩]) (.seq (.ops [
    ⟨(some 20), none, false, .lit [.int .u8 0] 1 1 [(0, 1, (.const (.int .u8 97)))]⟩,
    ⟨(some 21), none, false, .mks (.tmp 20)⟩,
    ⟨(some 22), none, false, .lit [.int .u8 0] 1 2 [(0, 1, (.const (.int .u8 98))), (1, 1, (.const (.int .u8 99)))]⟩,
    ⟨(some 23), none, false, .mks (.tmp 22)⟩,
    ⟨(some 1), none, false, .mov (.tmp 21)⟩,
    ⟨(some 2), none, false, .mov (.tmp 23)⟩]) (.seq (.ops [
    ⟨(some 25), none, false, .mov (.tmp 1)⟩,
    ⟨(some 26), none, false, .lit [.slice none 0 0] 1 1 [(0, 1, (.tmp 25))]⟩,
    ⟨(some 27), none, false, .call segment_Put [(.tmp 26)]⟩,
    ⟨(some 24), none, false, .mov (.tmp 27)⟩,
    ⟨(some 28), none, false, .ext (.tmp 24) 0⟩,
    ⟨(some 29), none, false, .ext (.tmp 24) 1⟩,
    ⟨(some 3), none, false, .mov (.tmp 28)⟩,
    ⟨(some 4), none, false, .mov (.tmp 29)⟩]) (.seq (.ops [
    ⟨(some 31), none, false, .mov (.tmp 2)⟩,
    ⟨(some 32), none, false, .mov (.tmp 1)⟩,
    ⟨(some 33), none, false, .mov (.tmp 2)⟩,
    ⟨(some 34), none, false, .lit [.slice none 0 0] 1 3 [(0, 1, (.tmp 31)), (1, 1, (.tmp 32)), (2, 1, (.tmp 33))]⟩,
    ⟨(some 35), none, false, .call segment_Put [(.tmp 34)]⟩,
    ⟨(some 30), none, false, .mov (.tmp 35)⟩,
    ⟨(some 36), none, false, .ext (.tmp 30) 0⟩,
    ⟨(some 37), none, false, .ext (.tmp 30) 1⟩,
    ⟨(some 5), none, false, .mov (.tmp 36)⟩,
    ⟨(some 6), none, false, .mov (.tmp 37)⟩]) (.seq (.seq (.ops [
    ⟨(some 38), none, false, .mov (.tmp 3)⟩,
    ⟨(some 39), none, false, .lens false (.tmp 38)⟩,
    ⟨(some 40), none, false, .bin .eql (.tmp 39) (.const (.int .i64 0))⟩]) (.cond (.tmp 40) (.seq (.ops [
    ⟨(some 0), none, false, .mov (.const (.bool false))⟩]) .ret) .skip)) (.seq (.ops [
    ⟨(some 42), none, false, .mov (.tmp 5)⟩,
    ⟨(some 43), none, false, .call segment_Get [(.tmp 42)]⟩,
    ⟨(some 41), none, false, .mov (.tmp 43)⟩,
    ⟨(some 44), none, false, .ext (.tmp 41) 0⟩,
    ⟨(some 45), none, false, .ext (.tmp 41) 1⟩,
    ⟨(some 7), none, false, .mov (.tmp 44)⟩,
    ⟨(some 8), none, false, .mov (.tmp 45)⟩]) (.seq (.ops [
    ⟨(some 47), none, false, .mov (.tmp 3)⟩,
    ⟨(some 48), none, false, .sll (.tmp 47) (some (.const (.int .i64 1))) none none 1⟩,
    ⟨(some 49), none, false, .call segment_Get [(.tmp 48)]⟩,
    ⟨(some 46), none, false, .mov (.tmp 49)⟩,
    ⟨(some 50), none, false, .ext (.tmp 46) 0⟩,
    ⟨(some 51), none, false, .ext (.tmp 46) 1⟩,
    ⟨(some 9), none, false, .mov (.tmp 50)⟩,
    ⟨(some 10), none, false, .mov (.tmp 51)⟩]) (.seq (.ops [
    ⟨(some 53), none, false, .call segment_Put [(.const (.slice none 0 0))]⟩,
    ⟨(some 52), none, false, .mov (.tmp 53)⟩,
    ⟨(some 54), none, false, .ext (.tmp 52) 0⟩,
    ⟨(some 55), none, false, .ext (.tmp 52) 1⟩,
    ⟨(some 11), none, false, .mov (.tmp 54)⟩,
    ⟨(some 12), none, false, .mov (.tmp 55)⟩]) (.seq (.ops [
    ⟨(some 57), none, false, .lit [.slice none 0 0] 1 1 [(0, 1, (.const (.slice none 0 0)))]⟩,
    ⟨(some 58), none, false, .call segment_Put [(.tmp 57)]⟩,
    ⟨(some 56), none, false, .mov (.tmp 58)⟩,
    ⟨(some 59), none, false, .ext (.tmp 56) 0⟩,
    ⟨(some 60), none, false, .ext (.tmp 56) 1⟩,
    ⟨(some 13), none, false, .mov (.tmp 59)⟩,
    ⟨(some 14), none, false, .mov (.tmp 60)⟩]) (.seq (.ops [
    ⟨(some 62), none, false, .mov (.tmp 7)⟩,
    ⟨(some 63), none, false, .mov (.tmp 2)⟩,
    ⟨(some 64), none, false, .call chantryref03_ID [(.tmp 63)]⟩,
    ⟨(some 65), none, false, .call segment_Table_Find [(.tmp 62), (.tmp 64)]⟩,
    ⟨(some 61), none, false, .mov (.tmp 65)⟩,
    ⟨(some 66), none, false, .ext (.tmp 61) 0⟩,
    ⟨(some 67), none, false, .ext (.tmp 61) 1⟩,
    ⟨(some 15), none, false, .mov (.tmp 66)⟩,
    ⟨(some 16), none, false, .mov (.tmp 67)⟩]) (.seq (.ops [
    ⟨(some 69), none, false, .mov (.tmp 7)⟩,
    ⟨(some 70), none, false, .call chantryref03_ID [(.const (.slice none 0 0))]⟩,
    ⟨(some 71), none, false, .call segment_Table_Find [(.tmp 69), (.tmp 70)]⟩,
    ⟨(some 68), none, false, .mov (.tmp 71)⟩,
    ⟨(some 72), none, false, .ext (.tmp 68) 0⟩,
    ⟨(some 73), none, false, .ext (.tmp 68) 1⟩,
    ⟨(some 17), none, false, .mov (.tmp 72)⟩,
    ⟨(some 18), none, false, .mov (.tmp 73)⟩]) (.seq (.ops [
    ⟨(some 74), none, false, .mov (.tmp 5)⟩,
    ⟨(some 75), none, false, .mov (.tmp 5)⟩,
    ⟨(some 76), none, false, .lens false (.tmp 75)⟩,
    ⟨(some 77), none, false, .bin .quo (.tmp 76) (.const (.int .i64 2))⟩,
    ⟨(some 78), none, false, .sll (.tmp 74) none (some (.tmp 77)) none 1⟩,
    ⟨(some 79), none, false, .call segment_Rescue [(.tmp 78)]⟩,
    ⟨(some 19), none, false, .mov (.tmp 79)⟩]) (.seq (.ops [
    ⟨(some 80), none, false, .mov (.tmp 4)⟩,
    ⟨(some 81), none, false, .bin .eql (.tmp 80) (.const (.int .i64 0))⟩,
    ⟨(some 82), none, false, .mov (.tmp 81)⟩,
    ⟨(some 83), (some (82, true)), false, .mov (.tmp 3)⟩,
    ⟨(some 84), (some (82, true)), false, .lens false (.tmp 83)⟩,
    ⟨(some 85), (some (82, true)), false, .bin .eql (.tmp 84) (.const (.int .i64 56))⟩,
    ⟨(some 86), none, false, .pick (.tmp 82) (.tmp 85) (.const (.bool false))⟩,
    ⟨(some 87), none, false, .mov (.tmp 86)⟩,
    ⟨(some 88), (some (87, true)), false, .mov (.tmp 6)⟩,
    ⟨(some 89), (some (87, true)), false, .bin .eql (.tmp 88) (.const (.int .i64 0))⟩,
    ⟨(some 90), none, false, .pick (.tmp 87) (.tmp 89) (.const (.bool false))⟩,
    ⟨(some 91), none, false, .mov (.tmp 90)⟩,
    ⟨(some 92), (some (91, true)), false, .mov (.tmp 8)⟩,
    ⟨(some 93), (some (91, true)), false, .bin .eql (.tmp 92) (.const (.int .i64 0))⟩,
    ⟨(some 94), none, false, .pick (.tmp 91) (.tmp 93) (.const (.bool false))⟩,
    ⟨(some 95), none, false, .mov (.tmp 94)⟩,
    ⟨(some 96), (some (95, true)), false, .mov (.tmp 10)⟩,
    ⟨(some 97), (some (95, true)), false, .bin .eql (.tmp 96) (.const (.int .i64 12))⟩,
    ⟨(some 98), none, false, .pick (.tmp 95) (.tmp 97) (.const (.bool false))⟩,
    ⟨(some 99), none, false, .mov (.tmp 98)⟩,
    ⟨(some 100), (some (99, true)), false, .mov (.tmp 12)⟩,
    ⟨(some 101), (some (99, true)), false, .bin .eql (.tmp 100) (.const (.int .i64 1))⟩,
    ⟨(some 102), none, false, .pick (.tmp 99) (.tmp 101) (.const (.bool false))⟩,
    ⟨(some 103), none, false, .mov (.tmp 102)⟩,
    ⟨(some 104), (some (103, true)), false, .mov (.tmp 14)⟩,
    ⟨(some 105), (some (103, true)), false, .bin .eql (.tmp 104) (.const (.int .i64 1))⟩,
    ⟨(some 106), none, false, .pick (.tmp 103) (.tmp 105) (.const (.bool false))⟩,
    ⟨(some 107), none, false, .mov (.tmp 106)⟩,
    ⟨(some 108), (some (107, true)), false, .mov (.tmp 16)⟩,
    ⟨(some 109), none, false, .pick (.tmp 107) (.tmp 108) (.const (.bool false))⟩,
    ⟨(some 110), none, false, .mov (.tmp 109)⟩,
    ⟨(some 111), (some (110, true)), false, .mov (.tmp 15)⟩,
    ⟨(some 112), (some (110, true)), false, .b2s (.tmp 111)⟩,
    ⟨(some 113), (some (110, true)), false, .bin .eql (.tmp 112) (.const (.string ⟨#[98, 99]⟩))⟩,
    ⟨(some 114), none, false, .pick (.tmp 110) (.tmp 113) (.const (.bool false))⟩,
    ⟨(some 115), none, false, .mov (.tmp 114)⟩,
    ⟨(some 116), (some (115, true)), false, .mov (.tmp 18)⟩,
    ⟨(some 117), (some (115, true)), false, .un .not (.tmp 116)⟩,
    ⟨(some 118), none, false, .pick (.tmp 115) (.tmp 117) (.const (.bool false))⟩,
    ⟨(some 119), none, false, .mov (.tmp 118)⟩,
    ⟨(some 120), (some (119, true)), false, .mov (.tmp 7)⟩,
    ⟨(some 121), (some (119, true)), false, .call segment_Table_IDs [(.tmp 120)]⟩,
    ⟨(some 122), (some (119, true)), false, .lens false (.tmp 121)⟩,
    ⟨(some 123), (some (119, true)), false, .bin .eql (.tmp 122) (.const (.int .i64 2))⟩,
    ⟨(some 124), none, false, .pick (.tmp 119) (.tmp 123) (.const (.bool false))⟩,
    ⟨(some 125), none, false, .mov (.tmp 124)⟩,
    ⟨(some 126), (some (125, true)), false, .mov (.tmp 7)⟩,
    ⟨(some 127), (some (125, true)), false, .call segment_Table_Texts [(.tmp 126)]⟩,
    ⟨(some 128), (some (125, true)), false, .lens false (.tmp 127)⟩,
    ⟨(some 129), (some (125, true)), false, .bin .eql (.tmp 128) (.const (.int .i64 2))⟩,
    ⟨(some 130), none, false, .pick (.tmp 125) (.tmp 129) (.const (.bool false))⟩,
    ⟨(some 131), none, false, .mov (.tmp 130)⟩,
    ⟨(some 132), (some (131, true)), false, .lit [.int .i64 0] 1 1 [(0, 1, (.const (.int .i64 1)))]⟩,
    ⟨(some 133), (some (131, true)), false, .call segment_Size [(.tmp 132)]⟩,
    ⟨(some 134), (some (131, true)), false, .bin .eql (.tmp 133) (.const (.int .i64 56))⟩,
    ⟨(some 135), none, false, .pick (.tmp 131) (.tmp 134) (.const (.bool false))⟩,
    ⟨(some 136), none, false, .mov (.tmp 135)⟩,
    ⟨(some 137), (some (136, true)), false, .lit [.int .i64 0] 1 2 [(0, 1, (.const (.int .i64 1))), (1, 1, (.const (.int .i64 2)))]⟩,
    ⟨(some 138), (some (136, true)), false, .call segment_Size [(.tmp 137)]⟩,
    ⟨(some 139), (some (136, true)), false, .mov (.tmp 5)⟩,
    ⟨(some 140), (some (136, true)), false, .lens false (.tmp 139)⟩,
    ⟨(some 141), (some (136, true)), false, .bin .eql (.tmp 138) (.tmp 140)⟩,
    ⟨(some 142), none, false, .pick (.tmp 136) (.tmp 141) (.const (.bool false))⟩,
    ⟨(some 143), none, false, .mov (.tmp 142)⟩,
    ⟨(some 144), (some (143, true)), false, .call segment_Size [(.const (.slice none 0 0))]⟩,
    ⟨(some 145), (some (143, true)), false, .bin .eql (.tmp 144) (.const (.int .i64 0))⟩,
    ⟨(some 146), none, false, .pick (.tmp 143) (.tmp 145) (.const (.bool false))⟩,
    ⟨(some 147), none, false, .mov (.tmp 146)⟩,
    ⟨(some 148), (some (147, true)), false, .mov (.tmp 19)⟩,
    ⟨(some 149), (some (147, true)), false, .lens false (.tmp 148)⟩,
    ⟨(some 150), (some (147, true)), false, .bin .leq (.tmp 149) (.const (.int .i64 2))⟩,
    ⟨(some 151), none, false, .pick (.tmp 147) (.tmp 150) (.const (.bool false))⟩,
    ⟨(some 0), none, false, .mov (.tmp 151)⟩]) .ret)))))))))))))
theorem fits_chantrylaw28_awake : Fits Tryd.prog 1 chantrylaw28_awake ic_chantrylaw28_awake [.tmp 0] 0 :=
  ⟨Tryd.f8, Tryd.func8, by decide, by kernel_rfl, by kernel_rfl⟩

/-- chantry/segment.Put -/
noncomputable def ic_segment_Put : IC :=
  (.seq (.ops [
    ⟨(some 2), none, false, .mov (.const (.slice none 0 0))⟩,
    ⟨(some 3), none, false, .mov (.const (.int .i64 0))⟩]) (.seq (.seq (.ops [
    ⟨(some 10), none, false, .mov (.tmp 0)⟩,
    ⟨(some 11), none, false, .lens false (.tmp 10)⟩,
    ⟨(some 12), none, false, .bin .eql (.tmp 11) (.const (.int .i64 0))⟩]) (.cond (.tmp 12) (.seq (.ops [
    ⟨(some 2), none, false, .mov (.const (.slice none 0 0))⟩,
    ⟨(some 3), none, false, .mov (.const (.int .i64 1))⟩]) .ret) .skip)) (.seq (.seq (.ops [
    ⟨(some 13), none, false, .mov (.tmp 0)⟩,
    ⟨(some 14), none, false, .lens false (.tmp 13)⟩,
    ⟨(some 15), none, false, .mov (.const (.int .i64 0))⟩]) (.block 0 (.loop (.seq (.ops [
    ⟨(some 16), none, false, .bin .lss (.tmp 15) (.tmp 14)⟩]) (.seq (.cond (.tmp 16) .skip (.exit 0)) (.seq (.block 1 (.seq (.ops [
    ⟨(some 17), none, false, .iaddr (.tmp 13) (.tmp 15) 1⟩,
    ⟨(some 18), none, false, .load1 (.tmp 17)⟩,
    ⟨(some 5), none, false, .mov (.tmp 18)⟩]) (.seq (.ops [
    ⟨(some 20), none, false, .mov (.tmp 5)⟩,
    ⟨(some 21), none, false, .call frame_Put [(.tmp 20)]⟩,
    ⟨(some 19), none, false, .mov (.tmp 21)⟩,
    ⟨(some 22), none, false, .ext (.tmp 19) 0⟩,
    ⟨(some 23), none, false, .ext (.tmp 19) 1⟩,
    ⟨(some 6), none, false, .mov (.tmp 22)⟩,
    ⟨(some 7), none, false, .mov (.tmp 23)⟩]) (.seq (.ops [
    ⟨(some 24), none, false, .mov (.tmp 7)⟩,
    ⟨(some 25), none, false, .bin .neq (.tmp 24) (.const (.int .i64 0))⟩]) (.cond (.tmp 25) (.seq (.ops [
    ⟨(some 26), none, false, .mov (.tmp 7)⟩,
    ⟨(some 2), none, false, .mov (.const (.slice none 0 0))⟩,
    ⟨(some 3), none, false, .mov (.tmp 26)⟩]) .ret) .skip))))) (.ops [
    ⟨(some 27), none, false, .bin .add (.tmp 15) (.const (.int .i64 1))⟩,
    ⟨(some 15), none, false, .mov (.tmp 27)⟩]))))))) (.seq (.ops [
    ⟨(some 28), none, false, .mov (.tmp 0)⟩,
    ⟨(some 29), none, false, .call segment_sorted [(.tmp 28)]⟩,
    ⟨(some 8), none, false, .mov (.tmp 29)⟩]) (.seq (.seq (.ops [
    ⟨(some 30), none, false, .mov (.tmp 8)⟩,
    ⟨(some 31), none, false, .lens false (.tmp 30)⟩,
    ⟨(some 32), none, false, .bin .gtr (.tmp 31) (.const (.int .i64 4096))⟩]) (.cond (.tmp 32) (.seq (.ops [
    ⟨(some 2), none, false, .mov (.const (.slice none 0 0))⟩,
    ⟨(some 3), none, false, .mov (.const (.int .i64 4))⟩]) .ret) .skip)) (.seq (.ops [
    ⟨(some 33), none, false, .mov (.tmp 8)⟩,
    ⟨(some 34), none, false, .call segment_table [(.tmp 33)]⟩,
    ⟨(some 35), none, false, .call segment_Table_bytes [(.tmp 34)]⟩,
    ⟨(some 9), none, false, .mov (.tmp 35)⟩]) (.seq (.seq (.ops [
    ⟨(some 36), none, false, .mov (.tmp 9)⟩,
    ⟨(some 37), none, false, .lens false (.tmp 36)⟩,
    ⟨(some 38), none, false, .bin .add (.tmp 37) (.const (.int .i64 4))⟩,
    ⟨(some 39), none, false, .bin .gtr (.tmp 38) (.const (.int .i64 262144))⟩]) (.cond (.tmp 39) (.seq (.ops [
    ⟨(some 2), none, false, .mov (.const (.slice none 0 0))⟩,
    ⟨(some 3), none, false, .mov (.const (.int .i64 3))⟩]) .ret) .skip)) (.seq (.ops [
    ⟨(some 40), none, false, .mov (.tmp 9)⟩,
    ⟨(some 41), none, false, .call crc_Seal [(.tmp 40)]⟩,
    ⟨(some 2), none, false, .mov (.tmp 41)⟩,
    ⟨(some 3), none, false, .mov (.const (.int .i64 0))⟩]) .ret))))))))
theorem fits_segment_Put : Fits Tryd.prog 1 segment_Put ic_segment_Put [.tmp 2, .tmp 3] 1 :=
  ⟨Tryd.f9, Tryd.func9, by decide, by kernel_rfl, by kernel_rfl⟩

/-- chantry/segment.Get -/
noncomputable def ic_segment_Get : IC :=
  (.seq (.ops [
    ⟨(some 2), none, false, .mov (.const (.pointer none))⟩,
    ⟨(some 3), none, false, .mov (.const (.int .i64 0))⟩]) (.seq (.ops [
    ⟨(some 11), none, false, .mov (.tmp 0)⟩,
    ⟨(some 12), none, false, .call crc_Open [(.tmp 11)]⟩,
    ⟨(some 10), none, false, .mov (.tmp 12)⟩,
    ⟨(some 13), none, false, .ext (.tmp 10) 0⟩,
    ⟨(some 14), none, false, .ext (.tmp 10) 1⟩,
    ⟨(some 4), none, false, .mov (.tmp 13)⟩,
    ⟨(some 5), none, false, .mov (.tmp 14)⟩]) (.seq (.seq (.ops [
    ⟨(some 15), none, false, .mov (.tmp 5)⟩,
    ⟨(some 16), none, false, .bin .neq (.tmp 15) (.const (.int .i64 0))⟩]) (.cond (.tmp 16) (.seq (.ops [
    ⟨(some 17), none, false, .mov (.tmp 5)⟩,
    ⟨(some 2), none, false, .mov (.const (.pointer none))⟩,
    ⟨(some 3), none, false, .mov (.tmp 17)⟩]) .ret) .skip)) (.seq (.seq (.ops [
    ⟨(some 18), none, false, .mov (.tmp 4)⟩,
    ⟨(some 19), none, false, .lens false (.tmp 18)⟩,
    ⟨(some 20), none, false, .bin .lss (.tmp 19) (.const (.int .i64 8))⟩]) (.cond (.tmp 20) (.seq (.ops [
    ⟨(some 2), none, false, .mov (.const (.pointer none))⟩,
    ⟨(some 3), none, false, .mov (.const (.int .i64 5))⟩]) .ret) .skip)) (.seq (.ops [
    ⟨(some 22), none, false, .mov (.tmp 4)⟩,
    ⟨(some 23), none, false, .mov (.tmp 4)⟩,
    ⟨(some 24), none, false, .lens false (.tmp 23)⟩,
    ⟨(some 25), none, false, .bin .sub (.tmp 24) (.const (.int .i64 4))⟩,
    ⟨(some 26), none, false, .sll (.tmp 22) (some (.tmp 25)) none none 1⟩,
    ⟨(some 27), none, false, .call num_Unfix [(.tmp 26)]⟩,
    ⟨(some 21), none, false, .mov (.tmp 27)⟩,
    ⟨(some 28), none, false, .ext (.tmp 21) 0⟩,
    ⟨(some 29), none, false, .ext (.tmp 21) 1⟩,
    ⟨(some 6), none, false, .mov (.tmp 28)⟩,
    ⟨(some 5), none, false, .mov (.tmp 29)⟩]) (.seq (.seq (.ops [
    ⟨(some 30), none, false, .mov (.tmp 5)⟩,
    ⟨(some 31), none, false, .bin .neq (.tmp 30) (.const (.int .i64 0))⟩,
    ⟨(some 32), none, false, .mov (.tmp 31)⟩,
    ⟨(some 33), (some (32, false)), false, .mov (.tmp 6)⟩,
    ⟨(some 34), (some (32, false)), false, .mov (.tmp 4)⟩,
    ⟨(some 35), (some (32, false)), false, .lens false (.tmp 34)⟩,
    ⟨(some 36), (some (32, false)), false, .bin .gtr (.tmp 33) (.tmp 35)⟩,
    ⟨(some 37), none, false, .pick (.tmp 32) (.const (.bool true)) (.tmp 36)⟩]) (.cond (.tmp 37) (.seq (.ops [
    ⟨(some 2), none, false, .mov (.const (.pointer none))⟩,
    ⟨(some 3), none, false, .mov (.const (.int .i64 5))⟩]) .ret) .skip)) (.seq (.ops [
    ⟨(some 39), none, false, .mov (.tmp 4)⟩,
    ⟨(some 40), none, false, .mov (.tmp 6)⟩,
    ⟨(some 41), none, false, .sll (.tmp 39) none (some (.tmp 40)) none 1⟩,
    ⟨(some 42), none, false, .call frame_Scan [(.tmp 41)]⟩,
    ⟨(some 38), none, false, .mov (.tmp 42)⟩,
    ⟨(some 43), none, false, .ext (.tmp 38) 0⟩,
    ⟨(some 44), none, false, .ext (.tmp 38) 1⟩,
    ⟨(some 7), none, false, .mov (.tmp 43)⟩,
    ⟨(some 8), none, false, .mov (.tmp 44)⟩]) (.seq (.ops [
    ⟨(some 46), none, false, .mov (.tmp 7)⟩,
    ⟨(some 47), none, false, .call segment_Put [(.tmp 46)]⟩,
    ⟨(some 45), none, false, .mov (.tmp 47)⟩,
    ⟨(some 48), none, false, .ext (.tmp 45) 0⟩,
    ⟨(some 49), none, false, .ext (.tmp 45) 1⟩,
    ⟨(some 9), none, false, .mov (.tmp 48)⟩,
    ⟨(some 5), none, false, .mov (.tmp 49)⟩]) (.seq (.seq (.ops [
    ⟨(some 50), none, false, .mov (.tmp 5)⟩,
    ⟨(some 51), none, false, .bin .neq (.tmp 50) (.const (.int .i64 0))⟩,
    ⟨(some 52), none, false, .mov (.tmp 51)⟩,
    ⟨(some 53), (some (52, false)), false, .mov (.tmp 9)⟩,
    ⟨(some 54), (some (52, false)), false, .mov (.tmp 0)⟩,
    ⟨(some 55), (some (52, false)), false, .call slices_Equal_byte_byte [(.tmp 53), (.tmp 54)]⟩,
    ⟨(some 56), (some (52, false)), false, .un .not (.tmp 55)⟩,
    ⟨(some 57), none, false, .pick (.tmp 52) (.const (.bool true)) (.tmp 56)⟩]) (.cond (.tmp 57) (.seq (.ops [
    ⟨(some 2), none, false, .mov (.const (.pointer none))⟩,
    ⟨(some 3), none, false, .mov (.const (.int .i64 5))⟩]) .ret) .skip)) (.seq (.ops [
    ⟨(some 58), none, false, .mov (.tmp 7)⟩,
    ⟨(some 59), none, false, .call segment_sorted [(.tmp 58)]⟩,
    ⟨(some 60), none, false, .call segment_table [(.tmp 59)]⟩,
    ⟨(some 2), none, false, .mov (.tmp 60)⟩,
    ⟨(some 3), none, false, .mov (.const (.int .i64 0))⟩]) .ret))))))))))
theorem fits_segment_Get : Fits Tryd.prog 1 segment_Get ic_segment_Get [.tmp 2, .tmp 3] 1 :=
  ⟨Tryd.f11, Tryd.func11, by decide, by kernel_rfl, by kernel_rfl⟩

/-- chantry/segment.Size -/
noncomputable def ic_segment_Size : IC :=
  (.seq (.ops [
    ⟨(some 2), none, false, .mov (.const (.int .i64 0))⟩]) (.seq (.seq (.ops [
    ⟨(some 7), none, false, .mov (.tmp 0)⟩,
    ⟨(some 8), none, false, .lens false (.tmp 7)⟩,
    ⟨(some 9), none, false, .bin .eql (.tmp 8) (.const (.int .i64 0))⟩,
    ⟨(some 10), none, false, .mov (.tmp 9)⟩,
    ⟨(some 11), (some (10, false)), false, .mov (.tmp 0)⟩,
    ⟨(some 12), (some (10, false)), false, .lens false (.tmp 11)⟩,
    ⟨(some 13), (some (10, false)), false, .bin .gtr (.tmp 12) (.const (.int .i64 4096))⟩,
    ⟨(some 14), none, false, .pick (.tmp 10) (.const (.bool true)) (.tmp 13)⟩]) (.cond (.tmp 14) (.seq (.ops [
    ⟨(some 2), none, false, .mov (.const (.int .i64 0))⟩]) .ret) .skip)) (.seq (.ops [
    ⟨(some 3), none, false, .mov (.const (.int .i64 12))⟩]) (.seq (.seq (.ops [
    ⟨(some 15), none, false, .mov (.tmp 0)⟩,
    ⟨(some 16), none, false, .lens false (.tmp 15)⟩,
    ⟨(some 17), none, false, .mov (.const (.int .i64 0))⟩]) (.block 0 (.loop (.seq (.ops [
    ⟨(some 18), none, false, .bin .lss (.tmp 17) (.tmp 16)⟩]) (.seq (.cond (.tmp 18) .skip (.exit 0)) (.seq (.block 1 (.seq (.ops [
    ⟨(some 19), none, false, .iaddr (.tmp 15) (.tmp 17) 1⟩,
    ⟨(some 20), none, false, .load1 (.tmp 19)⟩,
    ⟨(some 5), none, false, .mov (.tmp 20)⟩]) (.seq (.ops [
    ⟨(some 21), none, false, .mov (.tmp 5)⟩,
    ⟨(some 22), none, false, .call frame_Size [(.tmp 21)]⟩,
    ⟨(some 6), none, false, .mov (.tmp 22)⟩]) (.seq (.ops [
    ⟨(some 23), none, false, .mov (.tmp 3)⟩,
    ⟨(some 24), none, false, .mov (.tmp 6)⟩,
    ⟨(some 25), none, false, .bin .add (.tmp 24) (.const (.int .i64 36))⟩,
    ⟨(some 26), none, false, .bin .add (.tmp 25) (.const (.int .i64 1))⟩,
    ⟨(some 27), none, false, .bin .add (.tmp 23) (.tmp 26)⟩,
    ⟨(some 3), none, false, .mov (.tmp 27)⟩]) (.seq (.ops [
    ⟨(some 28), none, false, .mov (.tmp 6)⟩,
    ⟨(some 29), none, false, .bin .eql (.tmp 28) (.const (.int .i64 0))⟩,
    ⟨(some 30), none, false, .mov (.tmp 29)⟩,
    ⟨(some 31), (some (30, false)), false, .mov (.tmp 3)⟩,
    ⟨(some 32), (some (30, false)), false, .bin .gtr (.tmp 31) (.const (.int .i64 262144))⟩,
    ⟨(some 33), none, false, .pick (.tmp 30) (.const (.bool true)) (.tmp 32)⟩]) (.cond (.tmp 33) (.seq (.ops [
    ⟨(some 2), none, false, .mov (.const (.int .i64 0))⟩]) .ret) .skip)))))) (.ops [
    ⟨(some 34), none, false, .bin .add (.tmp 17) (.const (.int .i64 1))⟩,
    ⟨(some 17), none, false, .mov (.tmp 34)⟩]))))))) (.seq (.ops [
    ⟨(some 35), none, false, .mov (.tmp 3)⟩,
    ⟨(some 2), none, false, .mov (.tmp 35)⟩]) .ret)))))
theorem fits_segment_Size : Fits Tryd.prog 1 segment_Size ic_segment_Size [.tmp 2] 1 :=
  ⟨Tryd.f14, Tryd.func14, by decide, by kernel_rfl, by kernel_rfl⟩

/-- (*chantry/segment.Table).Texts -/
noncomputable def ic_segment_Table_Texts : IC :=
  (.seq (.ops [
    ⟨(some 2), none, false, .mov (.const (.slice none 0 0))⟩]) (.seq (.ops [
    ⟨(some 3), none, false, .mov (.const (.slice none 0 0))⟩]) (.seq (.seq (.ops [
    ⟨(some 6), none, false, .mov (.tmp 0)⟩,
    ⟨(some 7), none, false, .isnil (.pointer 66) (.tmp 6) false⟩]) (.cond (.tmp 7) (.seq (.ops [
    ⟨(some 8), none, false, .mov (.tmp 3)⟩,
    ⟨(some 2), none, false, .mov (.tmp 8)⟩]) .ret) .skip)) (.seq (.seq (.ops [
    ⟨(some 9), none, false, .mov (.tmp 0)⟩,
    ⟨(some 10), none, false, .nilc (.tmp 9)⟩,
    ⟨(some 11), none, false, .faddr (.tmp 10) 0⟩,
    ⟨(some 12), none, false, .load1 (.tmp 11)⟩,
    ⟨(some 13), none, false, .lens false (.tmp 12)⟩,
    ⟨(some 14), none, false, .mov (.const (.int .i64 0))⟩]) (.block 0 (.loop (.seq (.ops [
    ⟨(some 15), none, false, .bin .lss (.tmp 14) (.tmp 13)⟩]) (.seq (.cond (.tmp 15) .skip (.exit 0)) (.seq (.block 1 (.seq (.ops [
    ⟨(some 16), none, false, .iaddr (.tmp 12) (.tmp 14) 2⟩,
    ⟨(some 17), none, false, .loadn (.tmp 16) 2⟩,
    ⟨(some 5), none, false, .new [.string ⟨#[]⟩, .int .i64 0]⟩,
    ⟨none, none, false, .store (.tmp 5) (.tmp 17) 2⟩]) (.ops [
    ⟨(some 18), none, false, .mov (.tmp 3)⟩,
    ⟨(some 19), none, false, .mov (.tmp 0)⟩,
    ⟨(some 20), none, false, .loadn (.tmp 5) 2⟩,
    ⟨(some 21), none, false, .call segment_Table_text [(.tmp 19), (.tmp 20)]⟩,
    ⟨(some 22), none, false, .lit [.slice none 0 0] 1 1 [(0, 1, (.tmp 21))]⟩,
    ⟨(some 23), none, false, .app (.tmp 18) (.tmp 22) 1 24⟩,
    ⟨(some 3), none, false, .mov (.tmp 23)⟩]))) (.ops [
    ⟨(some 24), none, false, .bin .add (.tmp 14) (.const (.int .i64 1))⟩,
    ⟨(some 14), none, false, .mov (.tmp 24)⟩]))))))) (.seq (.ops [
    ⟨(some 25), none, false, .mov (.tmp 3)⟩,
    ⟨(some 2), none, false, .mov (.tmp 25)⟩]) .ret)))))
theorem fits_segment_Table_Texts : Fits Tryd.prog 1 segment_Table_Texts ic_segment_Table_Texts [.tmp 2] 1 :=
  ⟨Tryd.f16, Tryd.func16, by decide, by kernel_rfl, by kernel_rfl⟩

/-- (*chantry/segment.Table).Find -/
noncomputable def ic_segment_Table_Find : IC :=
  (.seq (.ops [
    ⟨(some 4), none, false, .mov (.const (.slice none 0 0))⟩,
    ⟨(some 5), none, false, .mov (.const (.bool false))⟩]) (.seq (.seq (.ops [
    ⟨(some 8), none, false, .mov (.tmp 0)⟩,
    ⟨(some 9), none, false, .isnil (.pointer 66) (.tmp 8) false⟩,
    ⟨(some 10), none, false, .mov (.tmp 9)⟩,
    ⟨(some 11), (some (10, false)), false, .mov (.tmp 0)⟩,
    ⟨(some 12), (some (10, false)), false, .nilc (.tmp 11)⟩,
    ⟨(some 13), (some (10, false)), false, .faddr (.tmp 12) 2⟩,
    ⟨(some 14), (some (10, false)), false, .load1 (.tmp 13)⟩,
    ⟨(some 15), (some (10, false)), false, .mov (.tmp 1)⟩,
    ⟨(some 16), (some (10, false)), false, .call fence_Has [(.tmp 14), (.tmp 15)]⟩,
    ⟨(some 17), (some (10, false)), false, .un .not (.tmp 16)⟩,
    ⟨(some 18), none, false, .pick (.tmp 10) (.const (.bool true)) (.tmp 17)⟩]) (.cond (.tmp 18) (.seq (.ops [
    ⟨(some 4), none, false, .mov (.const (.slice none 0 0))⟩,
    ⟨(some 5), none, false, .mov (.const (.bool false))⟩]) .ret) .skip)) (.seq (.ops [
    ⟨(some 20), none, false, .mov (.tmp 0)⟩,
    ⟨(some 21), none, false, .nilc (.tmp 20)⟩,
    ⟨(some 22), none, false, .faddr (.tmp 21) 0⟩,
    ⟨(some 23), none, false, .load1 (.tmp 22)⟩,
    ⟨(some 24), none, false, .mov (.tmp 1)⟩,
    ⟨(some 25), none, false, .call segment_row_string [(.tmp 23), (.tmp 24), (.func 44)]⟩,
    ⟨(some 19), none, false, .mov (.tmp 25)⟩,
    ⟨(some 26), none, false, .ext (.tmp 19) 0⟩,
    ⟨(some 27), none, false, .ext (.tmp 19) 1⟩,
    ⟨(some 6), none, false, .mov (.tmp 26)⟩,
    ⟨(some 7), none, false, .mov (.tmp 27)⟩]) (.seq (.seq (.ops [
    ⟨(some 28), none, false, .mov (.tmp 7)⟩,
    ⟨(some 29), none, false, .un .not (.tmp 28)⟩]) (.cond (.tmp 29) (.seq (.ops [
    ⟨(some 4), none, false, .mov (.const (.slice none 0 0))⟩,
    ⟨(some 5), none, false, .mov (.const (.bool false))⟩]) .ret) .skip)) (.seq (.ops [
    ⟨(some 30), none, false, .mov (.tmp 0)⟩,
    ⟨(some 31), none, false, .mov (.tmp 0)⟩,
    ⟨(some 32), none, false, .nilc (.tmp 31)⟩,
    ⟨(some 33), none, false, .faddr (.tmp 32) 0⟩,
    ⟨(some 34), none, false, .load1 (.tmp 33)⟩,
    ⟨(some 35), none, false, .mov (.tmp 6)⟩,
    ⟨(some 36), none, false, .iaddr (.tmp 34) (.tmp 35) 2⟩,
    ⟨(some 37), none, false, .loadn (.tmp 36) 2⟩,
    ⟨(some 38), none, false, .call segment_Table_text [(.tmp 30), (.tmp 37)]⟩,
    ⟨(some 4), none, false, .mov (.tmp 38)⟩,
    ⟨(some 5), none, false, .mov (.const (.bool true))⟩]) .ret)))))
theorem fits_segment_Table_Find : Fits Tryd.prog 1 segment_Table_Find ic_segment_Table_Find [.tmp 4, .tmp 5] 2 :=
  ⟨Tryd.f17, Tryd.func17, by decide, by kernel_rfl, by kernel_rfl⟩

/-- chantry/segment.Rescue -/
noncomputable def ic_segment_Rescue : IC :=
  (.seq (.ops [
    ⟨(some 2), none, false, .mov (.const (.slice none 0 0))⟩]) (.seq (.ops [
    ⟨(some 6), none, false, .mov (.tmp 0)⟩,
    ⟨(some 7), none, false, .call frame_Scan [(.tmp 6)]⟩,
    ⟨(some 5), none, false, .mov (.tmp 7)⟩,
    ⟨(some 8), none, false, .ext (.tmp 5) 0⟩,
    ⟨(some 9), none, false, .ext (.tmp 5) 1⟩,
    ⟨(some 3), none, false, .mov (.tmp 8)⟩,
    ⟨(some 4), none, false, .mov (.tmp 9)⟩]) (.seq (.ops [
    ⟨(some 10), none, false, .mov (.tmp 3)⟩,
    ⟨(some 2), none, false, .mov (.tmp 10)⟩]) .ret)))
theorem fits_segment_Rescue : Fits Tryd.prog 1 segment_Rescue ic_segment_Rescue [.tmp 2] 1 :=
  ⟨Tryd.f20, Tryd.func20, by decide, by kernel_rfl, by kernel_rfl⟩

/-- chantry/chantryref26.Size -/
noncomputable def ic_chantryref26_Size : IC :=
  (.seq (.ops [
    ⟨(some 2), none, false, .mov (.const (.int .i64 0))⟩]) (.seq (.seq (.ops [
    ⟨(some 3), none, false, .mov (.tmp 0)⟩,
    ⟨(some 4), none, false, .bin .lss (.tmp 3) (.const (.int .i64 1))⟩,
    ⟨(some 5), none, false, .mov (.tmp 4)⟩,
    ⟨(some 6), (some (5, false)), false, .mov (.tmp 0)⟩,
    ⟨(some 7), (some (5, false)), false, .bin .gtr (.tmp 6) (.const (.int .i64 65535))⟩,
    ⟨(some 8), none, false, .pick (.tmp 5) (.const (.bool true)) (.tmp 7)⟩]) (.cond (.tmp 8) (.seq (.ops [
    ⟨(some 2), none, false, .mov (.const (.int .i64 0))⟩]) .ret) .skip)) (.seq (.ops [
    ⟨(some 9), none, false, .mov (.tmp 0)⟩,
    ⟨(some 10), none, false, .bin .add (.tmp 9) (.const (.int .i64 6))⟩,
    ⟨(some 2), none, false, .mov (.tmp 10)⟩]) .ret)))
theorem fits_chantryref26_Size : Fits Tryd.prog 1 chantryref26_Size ic_chantryref26_Size [.tmp 2] 1 :=
  ⟨Tryd.f21, Tryd.func21, by decide, by kernel_rfl, by kernel_rfl⟩

/-- chantry/chantryref28.Size -/
noncomputable def ic_chantryref28_Size : IC :=
  (.seq (.ops [
    ⟨(some 2), none, false, .mov (.const (.int .i64 0))⟩]) (.seq (.ops [
    ⟨(some 3), none, false, .mov (.const (.int .i64 0))⟩]) (.seq (.seq (.ops [
    ⟨(some 4), none, false, .mov (.const (.int .i64 0))⟩]) (.block 0 (.loop (.seq (.seq (.ops [
    ⟨(some 6), none, false, .mov (.tmp 4)⟩,
    ⟨(some 7), none, false, .mov (.tmp 0)⟩,
    ⟨(some 8), none, false, .lens false (.tmp 7)⟩,
    ⟨(some 9), none, false, .bin .lss (.tmp 6) (.tmp 8)⟩]) (.cond (.tmp 9) .skip (.exit 0))) (.seq (.block 1 (.seq (.ops [
    ⟨(some 12), none, false, .mov (.tmp 0)⟩,
    ⟨(some 13), none, false, .mov (.tmp 4)⟩,
    ⟨(some 14), none, false, .iaddr (.tmp 12) (.tmp 13) 1⟩,
    ⟨(some 15), none, false, .load1 (.tmp 14)⟩,
    ⟨(some 16), none, false, .call chantryref26_Size [(.tmp 15)]⟩,
    ⟨(some 5), none, false, .mov (.tmp 16)⟩]) (.seq (.seq (.ops [
    ⟨(some 17), none, false, .mov (.tmp 5)⟩,
    ⟨(some 18), none, false, .bin .eql (.tmp 17) (.const (.int .i64 0))⟩,
    ⟨(some 19), none, false, .mov (.tmp 18)⟩,
    ⟨(some 20), (some (19, false)), false, .mov (.tmp 4)⟩,
    ⟨(some 21), (some (19, false)), false, .bin .geq (.tmp 20) (.const (.int .i64 4096))⟩,
    ⟨(some 22), none, false, .pick (.tmp 19) (.const (.bool true)) (.tmp 21)⟩]) (.cond (.tmp 22) (.seq (.ops [
    ⟨(some 2), none, false, .mov (.const (.int .i64 0))⟩]) .ret) .skip)) (.ops [
    ⟨(some 23), none, false, .mov (.tmp 3)⟩,
    ⟨(some 24), none, false, .mov (.tmp 5)⟩,
    ⟨(some 25), none, false, .bin .add (.tmp 23) (.tmp 24)⟩,
    ⟨(some 26), none, false, .bin .add (.tmp 25) (.const (.int .i64 37))⟩,
    ⟨(some 3), none, false, .mov (.tmp 26)⟩])))) (.ops [
    ⟨(some 10), none, false, .mov (.tmp 4)⟩,
    ⟨(some 11), none, false, .bin .add (.tmp 10) (.const (.int .i64 1))⟩,
    ⟨(some 4), none, false, .mov (.tmp 11)⟩])))))) (.seq (.seq (.ops [
    ⟨(some 27), none, false, .mov (.tmp 3)⟩,
    ⟨(some 28), none, false, .bin .eql (.tmp 27) (.const (.int .i64 0))⟩,
    ⟨(some 29), none, false, .mov (.tmp 28)⟩,
    ⟨(some 30), (some (29, false)), false, .mov (.tmp 3)⟩,
    ⟨(some 31), (some (29, false)), false, .bin .add (.tmp 30) (.const (.int .i64 12))⟩,
    ⟨(some 32), (some (29, false)), false, .bin .gtr (.tmp 31) (.const (.int .i64 262144))⟩,
    ⟨(some 33), none, false, .pick (.tmp 29) (.const (.bool true)) (.tmp 32)⟩]) (.cond (.tmp 33) (.seq (.ops [
    ⟨(some 2), none, false, .mov (.const (.int .i64 0))⟩]) .ret) .skip)) (.seq (.ops [
    ⟨(some 34), none, false, .mov (.tmp 3)⟩,
    ⟨(some 35), none, false, .bin .add (.tmp 34) (.const (.int .i64 12))⟩,
    ⟨(some 2), none, false, .mov (.tmp 35)⟩]) .ret)))))
theorem fits_chantryref28_Size : Fits Tryd.prog 1 chantryref28_Size ic_chantryref28_Size [.tmp 2] 1 :=
  ⟨Tryd.f22, Tryd.func22, by decide, by kernel_rfl, by kernel_rfl⟩

/-- (*chantry/segment.Table).IDs -/
noncomputable def ic_segment_Table_IDs : IC :=
  (.seq (.ops [
    ⟨(some 2), none, false, .mov (.const (.slice none 0 0))⟩]) (.seq (.ops [
    ⟨(some 3), none, false, .mov (.const (.slice none 0 0))⟩]) (.seq (.seq (.ops [
    ⟨(some 6), none, false, .mov (.tmp 0)⟩,
    ⟨(some 7), none, false, .isnil (.pointer 66) (.tmp 6) false⟩]) (.cond (.tmp 7) (.seq (.ops [
    ⟨(some 8), none, false, .mov (.tmp 3)⟩,
    ⟨(some 2), none, false, .mov (.tmp 8)⟩]) .ret) .skip)) (.seq (.seq (.ops [
    ⟨(some 9), none, false, .mov (.tmp 0)⟩,
    ⟨(some 10), none, false, .nilc (.tmp 9)⟩,
    ⟨(some 11), none, false, .faddr (.tmp 10) 0⟩,
    ⟨(some 12), none, false, .load1 (.tmp 11)⟩,
    ⟨(some 13), none, false, .lens false (.tmp 12)⟩,
    ⟨(some 14), none, false, .mov (.const (.int .i64 0))⟩]) (.block 0 (.loop (.seq (.ops [
    ⟨(some 15), none, false, .bin .lss (.tmp 14) (.tmp 13)⟩]) (.seq (.cond (.tmp 15) .skip (.exit 0)) (.seq (.block 1 (.seq (.ops [
    ⟨(some 16), none, false, .iaddr (.tmp 12) (.tmp 14) 2⟩,
    ⟨(some 17), none, false, .loadn (.tmp 16) 2⟩,
    ⟨(some 5), none, false, .new [.string ⟨#[]⟩, .int .i64 0]⟩,
    ⟨none, none, false, .store (.tmp 5) (.tmp 17) 2⟩]) (.ops [
    ⟨(some 18), none, false, .mov (.tmp 3)⟩,
    ⟨(some 19), none, false, .faddr (.tmp 5) 0⟩,
    ⟨(some 20), none, false, .load1 (.tmp 19)⟩,
    ⟨(some 21), none, false, .lit [.string ⟨#[]⟩] 1 1 [(0, 1, (.tmp 20))]⟩,
    ⟨(some 22), none, false, .app (.tmp 18) (.tmp 21) 1 16⟩,
    ⟨(some 3), none, false, .mov (.tmp 22)⟩]))) (.ops [
    ⟨(some 23), none, false, .bin .add (.tmp 14) (.const (.int .i64 1))⟩,
    ⟨(some 14), none, false, .mov (.tmp 23)⟩]))))))) (.seq (.ops [
    ⟨(some 24), none, false, .mov (.tmp 3)⟩,
    ⟨(some 2), none, false, .mov (.tmp 24)⟩]) .ret)))))
theorem fits_segment_Table_IDs : Fits Tryd.prog 1 segment_Table_IDs ic_segment_Table_IDs [.tmp 2] 1 :=
  ⟨Tryd.f23, Tryd.func23, by decide, by kernel_rfl, by kernel_rfl⟩

/-- chantry/chantryref03.ID -/
noncomputable def ic_chantryref03_ID : IC :=
  (.seq (.ops [
    ⟨(some 2), none, false, .mov (.const (.string ⟨#[]⟩))⟩]) (.seq (.ops [
    ⟨(some 10), none, false, .lit [.int .u8 0] 1 0 []⟩,
    ⟨(some 11), none, false, .mov (.tmp 0)⟩,
    ⟨(some 12), none, false, .app (.tmp 10) (.tmp 11) 1 1⟩,
    ⟨(some 3), none, false, .mov (.tmp 12)⟩]) (.seq (.ops [
    ⟨(some 13), none, false, .mov (.tmp 3)⟩,
    ⟨(some 14), none, false, .lit [.int .u8 0] 1 1 [(0, 1, (.const (.int .u8 128)))]⟩,
    ⟨(some 15), none, false, .app (.tmp 13) (.tmp 14) 1 1⟩,
    ⟨(some 3), none, false, .mov (.tmp 15)⟩]) (.seq (.block 0 (.loop (.seq (.seq (.ops [
    ⟨(some 16), none, false, .mov (.tmp 3)⟩,
    ⟨(some 17), none, false, .lens false (.tmp 16)⟩,
    ⟨(some 18), none, false, .bin .rem (.tmp 17) (.const (.int .i64 64))⟩,
    ⟨(some 19), none, false, .bin .neq (.tmp 18) (.const (.int .i64 56))⟩]) (.cond (.tmp 19) .skip (.exit 0))) (.block 1 (.ops [
    ⟨(some 20), none, false, .mov (.tmp 3)⟩,
    ⟨(some 21), none, false, .lit [.int .u8 0] 1 1 [(0, 1, (.const (.int .u8 0)))]⟩,
    ⟨(some 22), none, false, .app (.tmp 20) (.tmp 21) 1 1⟩,
    ⟨(some 3), none, false, .mov (.tmp 22)⟩]))))) (.seq (.ops [
    ⟨(some 23), none, false, .mov (.tmp 0)⟩,
    ⟨(some 24), none, false, .lens false (.tmp 23)⟩,
    ⟨(some 25), none, false, .bin .mul (.const (.int .i64 8)) (.tmp 24)⟩,
    ⟨(some 4), none, false, .mov (.tmp 25)⟩]) (.seq (.ops [
    ⟨(some 26), none, false, .mov (.tmp 3)⟩,
    ⟨(some 27), none, false, .mov (.tmp 4)⟩,
    ⟨(some 28), none, false, .bin .shr (.tmp 27) (.const (.int .u64 32))⟩,
    ⟨(some 29), none, false, .conv .u8 (.tmp 28)⟩,
    ⟨(some 30), none, false, .mov (.tmp 4)⟩,
    ⟨(some 31), none, false, .bin .shr (.tmp 30) (.const (.int .u64 24))⟩,
    ⟨(some 32), none, false, .conv .u8 (.tmp 31)⟩,
    ⟨(some 33), none, false, .mov (.tmp 4)⟩,
    ⟨(some 34), none, false, .bin .shr (.tmp 33) (.const (.int .u64 16))⟩,
    ⟨(some 35), none, false, .conv .u8 (.tmp 34)⟩,
    ⟨(some 36), none, false, .mov (.tmp 4)⟩,
    ⟨(some 37), none, false, .bin .shr (.tmp 36) (.const (.int .u64 8))⟩,
    ⟨(some 38), none, false, .conv .u8 (.tmp 37)⟩,
    ⟨(some 39), none, false, .mov (.tmp 4)⟩,
    ⟨(some 40), none, false, .conv .u8 (.tmp 39)⟩,
    ⟨(some 41), none, false, .lit [.int .u8 0] 1 8 [(0, 1, (.const (.int .u8 0))), (1, 1, (.const (.int .u8 0))), (2, 1, (.const (.int .u8 0))), (3, 1, (.tmp 29)), (4, 1, (.tmp 32)), (5, 1, (.tmp 35)), (6, 1, (.tmp 38)), (7, 1, (.tmp 40))]⟩,
    ⟨(some 42), none, false, .app (.tmp 26) (.tmp 41) 1 1⟩,
    ⟨(some 3), none, false, .mov (.tmp 42)⟩]) (.seq (.ops [
    ⟨(some 43), none, false, .lit [.int .u32 0] 1 8 [(0, 1, (.const (.int .u32 1779033703))), (1, 1, (.const (.int .u32 3144134277))), (2, 1, (.const (.int .u32 1013904242))), (3, 1, (.const (.int .u32 2773480762))), (4, 1, (.const (.int .u32 1359893119))), (5, 1, (.const (.int .u32 2600822924))), (6, 1, (.const (.int .u32 528734635))), (7, 1, (.const (.int .u32 1541459225)))]⟩,
    ⟨(some 5), none, false, .mov (.tmp 43)⟩]) (.seq (.ops [
    ⟨(some 44), none, false, .call chantryref03_rounds []⟩,
    ⟨(some 6), none, false, .mov (.tmp 44)⟩]) (.seq (.seq (.ops [
    ⟨(some 7), none, false, .mov (.const (.int .i64 0))⟩]) (.block 2 (.loop (.seq (.seq (.ops [
    ⟨(some 45), none, false, .mov (.tmp 7)⟩,
    ⟨(some 46), none, false, .mov (.tmp 3)⟩,
    ⟨(some 47), none, false, .lens false (.tmp 46)⟩,
    ⟨(some 48), none, false, .bin .lss (.tmp 45) (.tmp 47)⟩]) (.cond (.tmp 48) .skip (.exit 2))) (.seq (.block 3 (.ops [
    ⟨(some 51), none, false, .mov (.tmp 5)⟩,
    ⟨(some 52), none, false, .mov (.tmp 3)⟩,
    ⟨(some 53), none, false, .mov (.tmp 7)⟩,
    ⟨(some 54), none, false, .mov (.tmp 7)⟩,
    ⟨(some 55), none, false, .bin .add (.tmp 54) (.const (.int .i64 64))⟩,
    ⟨(some 56), none, false, .sll (.tmp 52) (some (.tmp 53)) (some (.tmp 55)) none 1⟩,
    ⟨(some 57), none, false, .mov (.tmp 6)⟩,
    ⟨(some 58), none, false, .call chantryref03_block [(.tmp 51), (.tmp 56), (.tmp 57)]⟩,
    ⟨(some 5), none, false, .mov (.tmp 58)⟩])) (.ops [
    ⟨(some 49), none, false, .mov (.tmp 7)⟩,
    ⟨(some 50), none, false, .bin .add (.tmp 49) (.const (.int .i64 64))⟩,
    ⟨(some 7), none, false, .mov (.tmp 50)⟩])))))) (.seq (.ops [
    ⟨(some 8), none, false, .mov (.const (.slice none 0 0))⟩]) (.seq (.seq (.ops [
    ⟨(some 9), none, false, .mov (.const (.int .i64 0))⟩]) (.block 4 (.loop (.seq (.seq (.ops [
    ⟨(some 59), none, false, .mov (.tmp 9)⟩,
    ⟨(some 60), none, false, .bin .lss (.tmp 59) (.const (.int .i64 8))⟩]) (.cond (.tmp 60) .skip (.exit 4))) (.seq (.block 5 (.draw [
    ⟨(some 63), none, false, .mov (.tmp 8)⟩,
    ⟨(some 64), none, false, .mov (.tmp 5)⟩,
    ⟨(some 65), none, false, .mov (.tmp 9)⟩,
    ⟨(some 66), none, false, .iaddr (.tmp 64) (.tmp 65) 1⟩,
    ⟨(some 67), none, false, .load1 (.tmp 66)⟩,
    ⟨(some 68), none, false, .bin .shr (.tmp 67) (.const (.int .u64 24))⟩,
    ⟨(some 69), none, false, .conv .u8 (.tmp 68)⟩,
    ⟨(some 70), none, false, .mov (.tmp 5)⟩,
    ⟨(some 71), none, false, .mov (.tmp 9)⟩,
    ⟨(some 72), none, false, .iaddr (.tmp 70) (.tmp 71) 1⟩,
    ⟨(some 73), none, false, .load1 (.tmp 72)⟩,
    ⟨(some 74), none, false, .bin .shr (.tmp 73) (.const (.int .u64 16))⟩,
    ⟨(some 75), none, false, .conv .u8 (.tmp 74)⟩,
    ⟨(some 76), none, false, .mov (.tmp 5)⟩,
    ⟨(some 77), none, false, .mov (.tmp 9)⟩,
    ⟨(some 78), none, false, .iaddr (.tmp 76) (.tmp 77) 1⟩,
    ⟨(some 79), none, false, .load1 (.tmp 78)⟩,
    ⟨(some 80), none, false, .bin .shr (.tmp 79) (.const (.int .u64 8))⟩,
    ⟨(some 81), none, false, .conv .u8 (.tmp 80)⟩,
    ⟨(some 82), none, false, .mov (.tmp 5)⟩,
    ⟨(some 83), none, false, .mov (.tmp 9)⟩,
    ⟨(some 84), none, false, .iaddr (.tmp 82) (.tmp 83) 1⟩,
    ⟨(some 85), none, false, .load1 (.tmp 84)⟩,
    ⟨(some 86), none, false, .conv .u8 (.tmp 85)⟩,
    ⟨(some 87), none, false, .lit [.int .u8 0] 1 4 [(0, 1, (.tmp 69)), (1, 1, (.tmp 75)), (2, 1, (.tmp 81)), (3, 1, (.tmp 86))]⟩,
    ⟨(some 88), none, false, .app (.tmp 63) (.tmp 87) 1 1⟩,
    ⟨(some 8), none, false, .mov (.tmp 88)⟩])) (.ops [
    ⟨(some 61), none, false, .mov (.tmp 9)⟩,
    ⟨(some 62), none, false, .bin .add (.tmp 61) (.const (.int .i64 1))⟩,
    ⟨(some 9), none, false, .mov (.tmp 62)⟩])))))) (.seq (.ops [
    ⟨(some 89), none, false, .mov (.tmp 8)⟩,
    ⟨(some 90), none, false, .b2s (.tmp 89)⟩,
    ⟨(some 2), none, false, .mov (.tmp 90)⟩]) .ret))))))))))))
theorem fits_chantryref03_ID : Fits Tryd.prog 1 chantryref03_ID ic_chantryref03_ID [.tmp 2] 1 :=
  ⟨Tryd.f24, Tryd.func24, by decide, by kernel_rfl, by kernel_rfl⟩

/-- chantry/frame.Put -/
noncomputable def ic_frame_Put : IC :=
  (.seq (.ops [
    ⟨(some 2), none, false, .mov (.const (.slice none 0 0))⟩,
    ⟨(some 3), none, false, .mov (.const (.int .i64 0))⟩]) (.seq (.block 0 (.seq (.ops [
    ⟨(some 7), none, false, .mov (.tmp 0)⟩,
    ⟨(some 8), none, false, .lens false (.tmp 7)⟩,
    ⟨(some 9), none, false, .bin .eql (.tmp 8) (.const (.int .i64 0))⟩,
    ⟨(some 6), none, false, .mov (.tmp 9)⟩]) (.cond (.tmp 6) (.seq (.ops [
    ⟨(some 2), none, false, .mov (.const (.slice none 0 0))⟩,
    ⟨(some 3), none, false, .mov (.const (.int .i64 1))⟩]) .ret) (.seq (.ops [
    ⟨(some 11), none, false, .mov (.tmp 0)⟩,
    ⟨(some 12), none, false, .lens false (.tmp 11)⟩,
    ⟨(some 13), none, false, .bin .gtr (.tmp 12) (.const (.int .i64 65535))⟩,
    ⟨(some 10), none, false, .mov (.tmp 13)⟩]) (.cond (.tmp 10) (.seq (.ops [
    ⟨(some 2), none, false, .mov (.const (.slice none 0 0))⟩,
    ⟨(some 3), none, false, .mov (.const (.int .i64 3))⟩]) .ret) .skip))))) (.seq (.ops [
    ⟨(some 15), none, false, .mov (.tmp 0)⟩,
    ⟨(some 16), none, false, .lens false (.tmp 15)⟩,
    ⟨(some 17), none, false, .call num_Fix [(.tmp 16), (.const (.int .i64 2))]⟩,
    ⟨(some 14), none, false, .mov (.tmp 17)⟩,
    ⟨(some 18), none, false, .ext (.tmp 14) 0⟩,
    ⟨(some 19), none, false, .ext (.tmp 14) 1⟩,
    ⟨(some 4), none, false, .mov (.tmp 18)⟩,
    ⟨(some 5), none, false, .mov (.tmp 19)⟩]) (.seq (.seq (.ops [
    ⟨(some 20), none, false, .mov (.tmp 5)⟩,
    ⟨(some 21), none, false, .bin .neq (.tmp 20) (.const (.int .i64 0))⟩]) (.cond (.tmp 21) (.seq (.ops [
    ⟨(some 22), none, false, .mov (.tmp 5)⟩,
    ⟨(some 2), none, false, .mov (.const (.slice none 0 0))⟩,
    ⟨(some 3), none, false, .mov (.tmp 22)⟩]) .ret) .skip)) (.seq (.ops [
    ⟨(some 23), none, false, .mov (.tmp 4)⟩,
    ⟨(some 24), none, false, .mov (.tmp 0)⟩,
    ⟨(some 25), none, false, .app (.tmp 23) (.tmp 24) 1 1⟩,
    ⟨(some 26), none, false, .call crc_Seal [(.tmp 25)]⟩,
    ⟨(some 2), none, false, .mov (.tmp 26)⟩,
    ⟨(some 3), none, false, .mov (.const (.int .i64 0))⟩]) .ret)))))
theorem fits_frame_Put : Fits Tryd.prog 1 frame_Put ic_frame_Put [.tmp 2, .tmp 3] 1 :=
  ⟨Tryd.f25, Tryd.func25, by decide, by kernel_rfl, by kernel_rfl⟩

/-- chantry/segment.sorted -/
noncomputable def ic_segment_sorted : IC :=
  (.seq (.ops [
    ⟨(some 2), none, false, .mov (.const (.slice none 0 0))⟩]) (.seq (.ops [
    ⟨(some 3), none, false, .mov (.const (.slice none 0 0))⟩]) (.seq (.seq (.ops [
    ⟨(some 6), none, false, .mov (.tmp 0)⟩,
    ⟨(some 7), none, false, .lens false (.tmp 6)⟩,
    ⟨(some 8), none, false, .mov (.const (.int .i64 0))⟩]) (.block 0 (.loop (.seq (.ops [
    ⟨(some 9), none, false, .bin .lss (.tmp 8) (.tmp 7)⟩]) (.seq (.cond (.tmp 9) .skip (.exit 0)) (.seq (.block 1 (.seq (.ops [
    ⟨(some 10), none, false, .iaddr (.tmp 6) (.tmp 8) 1⟩,
    ⟨(some 11), none, false, .load1 (.tmp 10)⟩,
    ⟨(some 5), none, false, .mov (.tmp 11)⟩]) (.ops [
    ⟨(some 12), none, false, .mov (.tmp 3)⟩,
    ⟨(some 13), none, false, .mov (.tmp 5)⟩,
    ⟨(some 14), none, false, .call sha_ID [(.tmp 13)]⟩,
    ⟨(some 15), none, false, .mov (.tmp 5)⟩,
    ⟨(some 16), none, false, .build [.string ⟨#[]⟩, .slice none 0 0] [(0, 1, (.tmp 14)), (1, 1, (.tmp 15))]⟩,
    ⟨(some 17), none, false, .lit [.string ⟨#[]⟩, .slice none 0 0] 2 1 [(0, 2, (.tmp 16))]⟩,
    ⟨(some 18), none, false, .app (.tmp 12) (.tmp 17) 2 40⟩,
    ⟨(some 3), none, false, .mov (.tmp 18)⟩]))) (.ops [
    ⟨(some 19), none, false, .bin .add (.tmp 8) (.const (.int .i64 1))⟩,
    ⟨(some 8), none, false, .mov (.tmp 19)⟩]))))))) (.seq (.ops [
    ⟨(some 20), none, false, .mov (.tmp 3)⟩,
    ⟨(some 21), none, false, .call api_Item [(.tmp 20), (.func 52)]⟩]) (.seq (.ops [
    ⟨(some 22), none, false, .mov (.tmp 3)⟩,
    ⟨(some 23), none, false, .call api_Item_53 [(.tmp 22), (.func 54)]⟩,
    ⟨(some 2), none, false, .mov (.tmp 23)⟩]) .ret)))))
theorem fits_segment_sorted : Fits Tryd.prog 1 segment_sorted ic_segment_sorted [.tmp 2] 1 :=
  ⟨Tryd.f26, Tryd.func26, by decide, by kernel_rfl, by kernel_rfl⟩

/-- chantry/segment.table -/
noncomputable def ic_segment_table : IC :=
  (.seq (.ops [
    ⟨(some 2), none, false, .mov (.const (.pointer none))⟩]) (.seq (.ops [
    ⟨(some 8), none, false, .build [.slice none 0 0, .slice none 0 0, .slice none 0 0] []⟩,
    ⟨(some 9), none, false, .box (.tmp 8)⟩,
    ⟨(some 3), none, false, .mov (.tmp 9)⟩]) (.seq (.seq (.ops [
    ⟨(some 10), none, false, .mov (.tmp 0)⟩,
    ⟨(some 11), none, false, .lens false (.tmp 10)⟩,
    ⟨(some 12), none, false, .mov (.const (.int .i64 0))⟩]) (.block 0 (.loop (.seq (.ops [
    ⟨(some 13), none, false, .bin .lss (.tmp 12) (.tmp 11)⟩]) (.seq (.cond (.tmp 13) .skip (.exit 0)) (.seq (.block 1 (.seq (.ops [
    ⟨(some 14), none, false, .iaddr (.tmp 10) (.tmp 12) 2⟩,
    ⟨(some 15), none, false, .loadn (.tmp 14) 2⟩,
    ⟨(some 5), none, false, .new [.string ⟨#[]⟩, .slice none 0 0]⟩,
    ⟨none, none, false, .store (.tmp 5) (.tmp 15) 2⟩]) (.seq (.draw [
    ⟨(some 16), none, false, .mov (.tmp 3)⟩,
    ⟨(some 17), none, false, .mov (.tmp 3)⟩,
    ⟨(some 18), none, false, .nilc (.tmp 17)⟩,
    ⟨(some 19), none, false, .faddr (.tmp 18) 0⟩,
    ⟨(some 20), none, true, .load1 (.tmp 19)⟩,
    ⟨(some 21), none, false, .faddr (.tmp 5) 0⟩,
    ⟨(some 22), none, false, .load1 (.tmp 21)⟩,
    ⟨(some 23), none, false, .mov (.tmp 3)⟩,
    ⟨(some 24), none, false, .nilc (.tmp 23)⟩,
    ⟨(some 25), none, false, .faddr (.tmp 24) 1⟩,
    ⟨(some 26), none, false, .load1 (.tmp 25)⟩,
    ⟨(some 27), none, false, .lens false (.tmp 26)⟩,
    ⟨(some 28), none, false, .build [.string ⟨#[]⟩, .int .i64 0] [(0, 1, (.tmp 22)), (1, 1, (.tmp 27))]⟩,
    ⟨(some 29), none, true, .lit [.string ⟨#[]⟩, .int .i64 0] 2 1 [(0, 2, (.tmp 28))]⟩,
    ⟨(some 30), none, false, .app (.tmp 20) (.tmp 29) 2 24⟩,
    ⟨(some 31), none, false, .nilc (.tmp 16)⟩,
    ⟨(some 32), none, false, .faddr (.tmp 31) 0⟩,
    ⟨none, none, false, .store (.tmp 32) (.tmp 30) 1⟩]) (.seq (.ops [
    ⟨(some 34), none, false, .faddr (.tmp 5) 1⟩,
    ⟨(some 35), none, false, .load1 (.tmp 34)⟩,
    ⟨(some 36), none, false, .call frame_Put [(.tmp 35)]⟩,
    ⟨(some 33), none, false, .mov (.tmp 36)⟩,
    ⟨(some 37), none, false, .ext (.tmp 33) 0⟩,
    ⟨(some 38), none, false, .ext (.tmp 33) 1⟩,
    ⟨(some 6), none, false, .mov (.tmp 37)⟩,
    ⟨(some 7), none, false, .mov (.tmp 38)⟩]) (.ops [
    ⟨(some 39), none, false, .mov (.tmp 3)⟩,
    ⟨(some 40), none, false, .mov (.tmp 3)⟩,
    ⟨(some 41), none, false, .nilc (.tmp 40)⟩,
    ⟨(some 42), none, false, .faddr (.tmp 41) 1⟩,
    ⟨(some 43), none, false, .load1 (.tmp 42)⟩,
    ⟨(some 44), none, false, .mov (.tmp 6)⟩,
    ⟨(some 45), none, false, .app (.tmp 43) (.tmp 44) 1 1⟩,
    ⟨(some 46), none, false, .nilc (.tmp 39)⟩,
    ⟨(some 47), none, false, .faddr (.tmp 46) 1⟩,
    ⟨none, none, false, .store (.tmp 47) (.tmp 45) 1⟩]))))) (.ops [
    ⟨(some 48), none, false, .bin .add (.tmp 12) (.const (.int .i64 1))⟩,
    ⟨(some 12), none, false, .mov (.tmp 48)⟩]))))))) (.seq (.ops [
    ⟨(some 50), none, false, .mov (.tmp 3)⟩,
    ⟨(some 51), none, false, .mov (.tmp 3)⟩,
    ⟨(some 52), none, false, .call segment_Table_IDs [(.tmp 51)]⟩,
    ⟨(some 53), none, false, .mov (.tmp 0)⟩,
    ⟨(some 54), none, false, .lens false (.tmp 53)⟩,
    ⟨(some 55), none, false, .bin .mul (.const (.int .i64 1)) (.tmp 54)⟩,
    ⟨(some 56), none, false, .call fence_Make [(.tmp 52), (.tmp 55)]⟩,
    ⟨(some 49), none, false, .mov (.tmp 56)⟩,
    ⟨(some 57), none, false, .ext (.tmp 49) 0⟩,
    ⟨(some 58), none, false, .ext (.tmp 49) 1⟩,
    ⟨(some 59), none, false, .nilc (.tmp 50)⟩,
    ⟨(some 60), none, false, .faddr (.tmp 59) 2⟩,
    ⟨none, none, false, .store (.tmp 60) (.tmp 57) 1⟩]) (.seq (.ops [
    ⟨(some 61), none, false, .mov (.tmp 3)⟩,
    ⟨(some 2), none, false, .mov (.tmp 61)⟩]) .ret)))))
theorem fits_segment_table : Fits Tryd.prog 1 segment_table ic_segment_table [.tmp 2] 1 :=
  ⟨Tryd.f27, Tryd.func27, by decide, by kernel_rfl, by kernel_rfl⟩

/-- (*chantry/segment.Table).bytes -/
noncomputable def ic_segment_Table_bytes : IC :=
  (.seq (.ops [
    ⟨(some 2), none, false, .mov (.const (.slice none 0 0))⟩]) (.seq (.ops [
    ⟨(some 6), none, false, .mov (.tmp 0)⟩,
    ⟨(some 7), none, false, .nilc (.tmp 6)⟩,
    ⟨(some 8), none, false, .faddr (.tmp 7) 1⟩,
    ⟨(some 9), none, false, .load1 (.tmp 8)⟩,
    ⟨(some 10), none, false, .call slices_Clone_byte_byte [(.tmp 9)]⟩,
    ⟨(some 3), none, false, .mov (.tmp 10)⟩]) (.seq (.seq (.ops [
    ⟨(some 11), none, false, .mov (.tmp 0)⟩,
    ⟨(some 12), none, false, .nilc (.tmp 11)⟩,
    ⟨(some 13), none, false, .faddr (.tmp 12) 0⟩,
    ⟨(some 14), none, false, .load1 (.tmp 13)⟩,
    ⟨(some 15), none, false, .lens false (.tmp 14)⟩,
    ⟨(some 16), none, false, .mov (.const (.int .i64 0))⟩]) (.block 0 (.loop (.seq (.ops [
    ⟨(some 17), none, false, .bin .lss (.tmp 16) (.tmp 15)⟩]) (.seq (.cond (.tmp 17) .skip (.exit 0)) (.seq (.block 1 (.seq (.ops [
    ⟨(some 18), none, false, .iaddr (.tmp 14) (.tmp 16) 2⟩,
    ⟨(some 19), none, false, .loadn (.tmp 18) 2⟩,
    ⟨(some 5), none, false, .new [.string ⟨#[]⟩, .int .i64 0]⟩,
    ⟨none, none, false, .store (.tmp 5) (.tmp 19) 2⟩]) (.draw [
    ⟨(some 20), none, false, .mov (.tmp 3)⟩,
    ⟨(some 21), none, false, .faddr (.tmp 5) 0⟩,
    ⟨(some 22), none, false, .load1 (.tmp 21)⟩,
    ⟨(some 24), none, false, .faddr (.tmp 5) 1⟩,
    ⟨(some 25), none, true, .load1 (.tmp 24)⟩,
    ⟨(some 23), none, true, .apps (.tmp 20) (.tmp 22) 1⟩,
    ⟨(some 26), none, false, .call segment_fix [(.tmp 25)]⟩,
    ⟨(some 27), none, false, .app (.tmp 23) (.tmp 26) 1 1⟩,
    ⟨(some 3), none, false, .mov (.tmp 27)⟩]))) (.ops [
    ⟨(some 28), none, false, .bin .add (.tmp 16) (.const (.int .i64 1))⟩,
    ⟨(some 16), none, false, .mov (.tmp 28)⟩]))))))) (.seq (.draw [
    ⟨(some 29), none, false, .mov (.tmp 3)⟩,
    ⟨(some 30), none, false, .mov (.tmp 0)⟩,
    ⟨(some 31), none, false, .nilc (.tmp 30)⟩,
    ⟨(some 32), none, false, .faddr (.tmp 31) 2⟩,
    ⟨(some 33), none, true, .load1 (.tmp 32)⟩,
    ⟨(some 34), none, false, .mov (.tmp 0)⟩,
    ⟨(some 35), none, false, .nilc (.tmp 34)⟩,
    ⟨(some 36), none, false, .faddr (.tmp 35) 0⟩,
    ⟨(some 37), none, false, .load1 (.tmp 36)⟩,
    ⟨(some 38), none, false, .lens false (.tmp 37)⟩,
    ⟨(some 40), none, false, .mov (.tmp 0)⟩,
    ⟨(some 41), none, false, .nilc (.tmp 40)⟩,
    ⟨(some 42), none, false, .faddr (.tmp 41) 1⟩,
    ⟨(some 43), none, true, .load1 (.tmp 42)⟩,
    ⟨(some 44), none, false, .lens false (.tmp 43)⟩,
    ⟨(some 39), none, true, .call segment_fix [(.tmp 38)]⟩,
    ⟨(some 45), none, true, .call segment_fix [(.tmp 44)]⟩,
    ⟨(some 46), none, false, .lit [.slice none 0 0] 1 4 [(0, 1, (.tmp 29)), (1, 1, (.tmp 33)), (2, 1, (.tmp 39)), (3, 1, (.tmp 45))]⟩,
    ⟨(some 47), none, false, .call slices_Concat_byte_byte [(.tmp 46)]⟩,
    ⟨(some 2), none, false, .mov (.tmp 47)⟩]) .ret))))
theorem fits_segment_Table_bytes : Fits Tryd.prog 1 segment_Table_bytes ic_segment_Table_bytes [.tmp 2] 1 :=
  ⟨Tryd.f28, Tryd.func28, by decide, by kernel_rfl, by kernel_rfl⟩

/-- chantry/crc.Seal -/
noncomputable def ic_crc_Seal : IC :=
  (.seq (.ops [
    ⟨(some 2), none, false, .mov (.const (.slice none 0 0))⟩]) (.seq (.ops [
    ⟨(some 3), none, false, .mov (.tmp 0)⟩,
    ⟨(some 4), none, false, .mov (.tmp 0)⟩,
    ⟨(some 5), none, false, .call crc_Sum [(.tmp 4)]⟩,
    ⟨(some 6), none, false, .call crc_tail [(.tmp 5)]⟩,
    ⟨(some 7), none, false, .lit [.slice none 0 0] 1 2 [(0, 1, (.tmp 3)), (1, 1, (.tmp 6))]⟩,
    ⟨(some 8), none, false, .call slices_Concat_byte_byte [(.tmp 7)]⟩,
    ⟨(some 2), none, false, .mov (.tmp 8)⟩]) .ret))
theorem fits_crc_Seal : Fits Tryd.prog 1 crc_Seal ic_crc_Seal [.tmp 2] 1 :=
  ⟨Tryd.f29, Tryd.func29, by decide, by kernel_rfl, by kernel_rfl⟩

/-- chantry/crc.Open -/
noncomputable def ic_crc_Open : IC :=
  (.seq (.ops [
    ⟨(some 2), none, false, .mov (.const (.slice none 0 0))⟩,
    ⟨(some 3), none, false, .mov (.const (.int .i64 0))⟩]) (.seq (.ops [
    ⟨(some 5), none, false, .mov (.tmp 0)⟩,
    ⟨(some 6), none, false, .lens false (.tmp 5)⟩,
    ⟨(some 7), none, false, .bin .sub (.tmp 6) (.const (.int .i64 4))⟩,
    ⟨(some 4), none, false, .mov (.tmp 7)⟩]) (.seq (.seq (.draw [
    ⟨(some 8), none, false, .mov (.tmp 4)⟩,
    ⟨(some 9), none, false, .bin .lss (.tmp 8) (.const (.int .i64 0))⟩,
    ⟨(some 10), none, false, .mov (.tmp 9)⟩,
    ⟨(some 11), (some (10, false)), false, .mov (.tmp 0)⟩,
    ⟨(some 12), (some (10, false)), false, .mov (.tmp 4)⟩,
    ⟨(some 13), (some (10, false)), true, .sll (.tmp 11) (some (.tmp 12)) none none 1⟩,
    ⟨(some 14), (some (10, false)), false, .mov (.tmp 0)⟩,
    ⟨(some 15), (some (10, false)), false, .mov (.tmp 4)⟩,
    ⟨(some 16), (some (10, false)), false, .sll (.tmp 14) none (some (.tmp 15)) none 1⟩,
    ⟨(some 17), (some (10, false)), true, .call crc_Sum [(.tmp 16)]⟩,
    ⟨(some 18), (some (10, false)), true, .call crc_tail [(.tmp 17)]⟩,
    ⟨(some 19), (some (10, false)), false, .call slices_Equal_byte_byte [(.tmp 13), (.tmp 18)]⟩,
    ⟨(some 20), (some (10, false)), false, .un .not (.tmp 19)⟩,
    ⟨(some 21), none, false, .pick (.tmp 10) (.const (.bool true)) (.tmp 20)⟩]) (.cond (.tmp 21) (.seq (.ops [
    ⟨(some 2), none, false, .mov (.const (.slice none 0 0))⟩,
    ⟨(some 3), none, false, .mov (.const (.int .i64 12))⟩]) .ret) .skip)) (.seq (.ops [
    ⟨(some 22), none, false, .mov (.tmp 0)⟩,
    ⟨(some 23), none, false, .mov (.tmp 4)⟩,
    ⟨(some 24), none, false, .sll (.tmp 22) none (some (.tmp 23)) none 1⟩,
    ⟨(some 25), none, false, .call slices_Clone_byte_byte [(.tmp 24)]⟩,
    ⟨(some 2), none, false, .mov (.tmp 25)⟩,
    ⟨(some 3), none, false, .mov (.const (.int .i64 0))⟩]) .ret))))
theorem fits_crc_Open : Fits Tryd.prog 1 crc_Open ic_crc_Open [.tmp 2, .tmp 3] 1 :=
  ⟨Tryd.f34, Tryd.func34, by decide, by kernel_rfl, by kernel_rfl⟩

/-- chantry/num.Unfix -/
noncomputable def ic_num_Unfix : IC :=
  (.seq (.ops [
    ⟨(some 2), none, false, .mov (.const (.int .i64 0))⟩,
    ⟨(some 3), none, false, .mov (.const (.int .i64 0))⟩]) (.seq (.seq (.ops [
    ⟨(some 7), none, false, .mov (.tmp 0)⟩,
    ⟨(some 8), none, false, .lens false (.tmp 7)⟩,
    ⟨(some 9), none, false, .bin .lss (.tmp 8) (.const (.int .i64 1))⟩,
    ⟨(some 10), none, false, .mov (.tmp 9)⟩,
    ⟨(some 11), (some (10, false)), false, .mov (.tmp 0)⟩,
    ⟨(some 12), (some (10, false)), false, .lens false (.tmp 11)⟩,
    ⟨(some 13), (some (10, false)), false, .bin .gtr (.tmp 12) (.const (.int .i64 4))⟩,
    ⟨(some 14), none, false, .pick (.tmp 10) (.const (.bool true)) (.tmp 13)⟩]) (.cond (.tmp 14) (.seq (.ops [
    ⟨(some 2), none, false, .mov (.const (.int .i64 0))⟩,
    ⟨(some 3), none, false, .mov (.const (.int .i64 1))⟩]) .ret) .skip)) (.seq (.ops [
    ⟨(some 4), none, false, .mov (.const (.int .i64 0))⟩]) (.seq (.seq (.ops [
    ⟨(some 15), none, false, .mov (.tmp 0)⟩,
    ⟨(some 16), none, false, .lens false (.tmp 15)⟩,
    ⟨(some 17), none, false, .mov (.const (.int .i64 0))⟩]) (.block 0 (.loop (.seq (.ops [
    ⟨(some 18), none, false, .bin .lss (.tmp 17) (.tmp 16)⟩]) (.seq (.cond (.tmp 18) .skip (.exit 0)) (.seq (.block 1 (.seq (.ops [
    ⟨(some 19), none, false, .mov (.tmp 17)⟩,
    ⟨(some 20), none, false, .iaddr (.tmp 15) (.tmp 17) 1⟩,
    ⟨(some 21), none, false, .load1 (.tmp 20)⟩,
    ⟨(some 5), none, false, .mov (.tmp 19)⟩,
    ⟨(some 6), none, false, .mov (.tmp 21)⟩]) (.ops [
    ⟨(some 22), none, false, .mov (.tmp 4)⟩,
    ⟨(some 23), none, false, .mov (.tmp 6)⟩,
    ⟨(some 24), none, false, .conv .i64 (.tmp 23)⟩,
    ⟨(some 25), none, false, .mov (.tmp 5)⟩,
    ⟨(some 26), none, false, .bin .mul (.const (.int .i64 8)) (.tmp 25)⟩,
    ⟨(some 27), none, false, .bin .shl (.tmp 24) (.tmp 26)⟩,
    ⟨(some 28), none, false, .bin .or (.tmp 22) (.tmp 27)⟩,
    ⟨(some 4), none, false, .mov (.tmp 28)⟩]))) (.ops [
    ⟨(some 29), none, false, .bin .add (.tmp 17) (.const (.int .i64 1))⟩,
    ⟨(some 17), none, false, .mov (.tmp 29)⟩]))))))) (.seq (.seq (.ops [
    ⟨(some 30), none, false, .mov (.tmp 4)⟩,
    ⟨(some 31), none, false, .call num_is [(.tmp 30)]⟩,
    ⟨(some 32), none, false, .un .not (.tmp 31)⟩]) (.cond (.tmp 32) (.seq (.ops [
    ⟨(some 2), none, false, .mov (.const (.int .i64 0))⟩,
    ⟨(some 3), none, false, .mov (.const (.int .i64 5))⟩]) .ret) .skip)) (.seq (.ops [
    ⟨(some 33), none, false, .mov (.tmp 4)⟩,
    ⟨(some 2), none, false, .mov (.tmp 33)⟩,
    ⟨(some 3), none, false, .mov (.const (.int .i64 0))⟩]) .ret))))))
theorem fits_num_Unfix : Fits Tryd.prog 1 num_Unfix ic_num_Unfix [.tmp 2, .tmp 3] 1 :=
  ⟨Tryd.f35, Tryd.func35, by decide, by kernel_rfl, by kernel_rfl⟩

/-- chantry/frame.Scan -/
noncomputable def ic_frame_Scan : IC :=
  (.seq (.ops [
    ⟨(some 2), none, false, .mov (.const (.slice none 0 0))⟩,
    ⟨(some 3), none, false, .mov (.const (.int .i64 0))⟩]) (.scope (.seq (.ops [
    ⟨(some 4), none, false, .mov (.const (.slice none 0 0))⟩]) (.seq (.ops [
    ⟨(some 5), none, false, .mov (.const (.int .i64 0))⟩]) (.seq .skip (.seq (.block 0 (.loop (.seq (.seq (.ops [
    ⟨(some 9), none, false, .mov (.tmp 5)⟩,
    ⟨(some 10), none, false, .mov (.tmp 0)⟩,
    ⟨(some 11), none, false, .lens false (.tmp 10)⟩,
    ⟨(some 12), none, false, .bin .lss (.tmp 9) (.tmp 11)⟩]) (.cond (.tmp 12) .skip (.exit 0))) (.block 1 (.seq (.ops [
    ⟨(some 14), none, false, .mov (.tmp 0)⟩,
    ⟨(some 15), none, false, .mov (.tmp 5)⟩,
    ⟨(some 16), none, false, .sll (.tmp 14) (some (.tmp 15)) none none 1⟩,
    ⟨(some 17), none, false, .call frame_Next [(.tmp 16)]⟩,
    ⟨(some 13), none, false, .mov (.tmp 17)⟩,
    ⟨(some 18), none, false, .ext (.tmp 13) 0⟩,
    ⟨(some 19), none, false, .ext (.tmp 13) 1⟩,
    ⟨(some 20), none, false, .ext (.tmp 13) 2⟩,
    ⟨(some 6), none, false, .mov (.tmp 18)⟩,
    ⟨(some 7), none, false, .mov (.tmp 19)⟩,
    ⟨(some 8), none, false, .mov (.tmp 20)⟩]) (.seq (.seq (.ops [
    ⟨(some 21), none, false, .mov (.tmp 8)⟩]) (.block 2 (.seq (.ops [
    ⟨(some 23), none, false, .bin .eql (.tmp 21) (.const (.int .i64 0))⟩,
    ⟨(some 22), none, false, .mov (.tmp 23)⟩]) (.cond (.tmp 22) (.seq (.ops [
    ⟨(some 24), none, false, .mov (.tmp 4)⟩,
    ⟨(some 25), none, false, .mov (.tmp 6)⟩,
    ⟨(some 26), none, false, .lit [.slice none 0 0] 1 1 [(0, 1, (.tmp 25))]⟩,
    ⟨(some 27), none, false, .app (.tmp 24) (.tmp 26) 1 24⟩,
    ⟨(some 4), none, false, .mov (.tmp 27)⟩]) (.seq (.ops [
    ⟨(some 28), none, false, .mov (.tmp 5)⟩,
    ⟨(some 29), none, false, .mov (.tmp 7)⟩,
    ⟨(some 30), none, false, .bin .add (.tmp 28) (.tmp 29)⟩,
    ⟨(some 5), none, false, .mov (.tmp 30)⟩]) (.exit 1))) .skip)))) (.exit 0))))))) (.seq (.ops [
    ⟨(some 31), none, false, .mov (.tmp 4)⟩,
    ⟨(some 32), none, false, .mov (.tmp 5)⟩,
    ⟨(some 2), none, false, .mov (.tmp 31)⟩,
    ⟨(some 3), none, false, .mov (.tmp 32)⟩]) .ret)))))))
theorem fits_frame_Scan : Fits Tryd.prog 1 frame_Scan ic_frame_Scan [.tmp 2, .tmp 3] 1 :=
  ⟨Tryd.f36, Tryd.func36, by decide, by kernel_rfl, by kernel_rfl⟩

/-- slices.Equal[[]byte,byte] -/
noncomputable def ic_slices_Equal_byte_byte : IC :=
  (.seq (.ops [
    ⟨(some 4), none, false, .mov (.const (.bool false))⟩]) (.seq (.seq (.ops [
    ⟨(some 6), none, false, .mov (.tmp 0)⟩,
    ⟨(some 7), none, false, .lens false (.tmp 6)⟩,
    ⟨(some 8), none, false, .mov (.tmp 1)⟩,
    ⟨(some 9), none, false, .lens false (.tmp 8)⟩,
    ⟨(some 10), none, false, .bin .neq (.tmp 7) (.tmp 9)⟩]) (.cond (.tmp 10) (.seq (.ops [
    ⟨(some 4), none, false, .mov (.const (.bool false))⟩]) .ret) .skip)) (.seq (.seq (.ops [
    ⟨(some 11), none, false, .mov (.tmp 0)⟩,
    ⟨(some 12), none, false, .lens false (.tmp 11)⟩,
    ⟨(some 13), none, false, .mov (.const (.int .i64 0))⟩]) (.block 0 (.loop (.seq (.ops [
    ⟨(some 14), none, false, .bin .lss (.tmp 13) (.tmp 12)⟩]) (.seq (.cond (.tmp 14) .skip (.exit 0)) (.seq (.block 1 (.seq (.ops [
    ⟨(some 15), none, false, .mov (.tmp 13)⟩,
    ⟨(some 5), none, false, .mov (.tmp 15)⟩]) (.seq (.draw [
    ⟨(some 16), none, false, .mov (.tmp 0)⟩,
    ⟨(some 17), none, false, .mov (.tmp 5)⟩,
    ⟨(some 18), none, false, .iaddr (.tmp 16) (.tmp 17) 1⟩,
    ⟨(some 19), none, false, .load1 (.tmp 18)⟩,
    ⟨(some 20), none, false, .mov (.tmp 1)⟩,
    ⟨(some 21), none, false, .mov (.tmp 5)⟩,
    ⟨(some 22), none, false, .iaddr (.tmp 20) (.tmp 21) 1⟩,
    ⟨(some 23), none, false, .load1 (.tmp 22)⟩,
    ⟨(some 24), none, false, .bin .neq (.tmp 19) (.tmp 23)⟩]) (.cond (.tmp 24) (.seq (.ops [
    ⟨(some 4), none, false, .mov (.const (.bool false))⟩]) .ret) .skip)))) (.ops [
    ⟨(some 25), none, false, .bin .add (.tmp 13) (.const (.int .i64 1))⟩,
    ⟨(some 13), none, false, .mov (.tmp 25)⟩]))))))) (.seq (.ops [
    ⟨(some 4), none, false, .mov (.const (.bool true))⟩]) .ret))))
theorem fits_slices_Equal_byte_byte : Fits Tryd.prog 1 slices_Equal_byte_byte ic_slices_Equal_byte_byte [.tmp 4] 2 :=
  ⟨Tryd.f37, Tryd.func37, by decide, by kernel_rfl, by kernel_rfl⟩

/-- chantry/frame.Size -/
noncomputable def ic_frame_Size : IC :=
  (.seq (.ops [
    ⟨(some 2), none, false, .mov (.const (.int .i64 0))⟩]) (.seq (.seq (.ops [
    ⟨(some 3), none, false, .mov (.tmp 0)⟩,
    ⟨(some 4), none, false, .bin .lss (.tmp 3) (.const (.int .i64 1))⟩,
    ⟨(some 5), none, false, .mov (.tmp 4)⟩,
    ⟨(some 6), (some (5, false)), false, .mov (.tmp 0)⟩,
    ⟨(some 7), (some (5, false)), false, .bin .gtr (.tmp 6) (.const (.int .i64 65535))⟩,
    ⟨(some 8), none, false, .pick (.tmp 5) (.const (.bool true)) (.tmp 7)⟩]) (.cond (.tmp 8) (.seq (.ops [
    ⟨(some 2), none, false, .mov (.const (.int .i64 0))⟩]) .ret) .skip)) (.seq (.ops [
    ⟨(some 9), none, false, .mov (.tmp 0)⟩,
    ⟨(some 10), none, false, .bin .add (.const (.int .i64 2)) (.tmp 9)⟩,
    ⟨(some 11), none, false, .bin .add (.tmp 10) (.const (.int .i64 4))⟩,
    ⟨(some 2), none, false, .mov (.tmp 11)⟩]) .ret)))
theorem fits_frame_Size : Fits Tryd.prog 1 frame_Size ic_frame_Size [.tmp 2] 1 :=
  ⟨Tryd.f38, Tryd.func38, by decide, by kernel_rfl, by kernel_rfl⟩

/-- (*chantry/segment.Table).text -/
noncomputable def ic_segment_Table_text : IC :=
  (.seq (.ops [
    ⟨(some 3), none, false, .box (.tmp 1)⟩,
    ⟨(some 4), none, false, .mov (.const (.slice none 0 0))⟩]) (.seq (.draw [
    ⟨(some 9), none, false, .mov (.tmp 0)⟩,
    ⟨(some 10), none, false, .nilc (.tmp 9)⟩,
    ⟨(some 11), none, false, .faddr (.tmp 10) 1⟩,
    ⟨(some 12), none, false, .load1 (.tmp 11)⟩,
    ⟨(some 13), none, false, .faddr (.tmp 3) 1⟩,
    ⟨(some 14), none, false, .load1 (.tmp 13)⟩,
    ⟨(some 15), none, false, .sll (.tmp 12) (some (.tmp 14)) none none 1⟩,
    ⟨(some 16), none, false, .call frame_Next [(.tmp 15)]⟩,
    ⟨(some 8), none, false, .mov (.tmp 16)⟩,
    ⟨(some 17), none, false, .ext (.tmp 8) 0⟩,
    ⟨(some 18), none, false, .ext (.tmp 8) 1⟩,
    ⟨(some 19), none, false, .ext (.tmp 8) 2⟩,
    ⟨(some 5), none, false, .mov (.tmp 17)⟩,
    ⟨(some 6), none, false, .mov (.tmp 18)⟩,
    ⟨(some 7), none, false, .mov (.tmp 19)⟩]) (.seq (.ops [
    ⟨(some 20), none, false, .mov (.tmp 5)⟩,
    ⟨(some 4), none, false, .mov (.tmp 20)⟩]) .ret)))
theorem fits_segment_Table_text : Fits Tryd.prog 1 segment_Table_text ic_segment_Table_text [.tmp 4] 2 :=
  ⟨Tryd.f41, Tryd.func41, by decide, by kernel_rfl, by kernel_rfl⟩

/-- chantry/fence.Has -/
noncomputable def ic_fence_Has : IC :=
  (.seq (.ops [
    ⟨(some 4), none, false, .mov (.const (.bool false))⟩]) (.seq (.seq (.ops [
    ⟨(some 7), none, false, .mov (.tmp 0)⟩,
    ⟨(some 8), none, false, .lens false (.tmp 7)⟩,
    ⟨(some 9), none, false, .call fence_may [(.tmp 8)]⟩,
    ⟨(some 10), none, false, .un .not (.tmp 9)⟩,
    ⟨(some 11), none, false, .mov (.tmp 10)⟩,
    ⟨(some 12), (some (11, false)), false, .mov (.tmp 1)⟩,
    ⟨(some 13), (some (11, false)), false, .call ids_Right [(.tmp 12)]⟩,
    ⟨(some 14), (some (11, false)), false, .un .not (.tmp 13)⟩,
    ⟨(some 15), none, false, .pick (.tmp 11) (.const (.bool true)) (.tmp 14)⟩]) (.cond (.tmp 15) (.seq (.ops [
    ⟨(some 4), none, false, .mov (.const (.bool false))⟩]) .ret) .skip)) (.seq (.seq (.ops [
    ⟨(some 16), none, false, .mov (.tmp 0)⟩,
    ⟨(some 17), none, false, .lens false (.tmp 16)⟩,
    ⟨(some 18), none, false, .mov (.tmp 1)⟩,
    ⟨(some 19), none, false, .call fence_marks [(.tmp 17), (.tmp 18)]⟩,
    ⟨(some 20), none, false, .mov (.const (.int .i64 0))⟩]) (.block 0 (.loop (.seq (.ops [
    ⟨(some 21), none, false, .bin .lss (.tmp 20) (.const (.int .i64 3))⟩]) (.seq (.cond (.tmp 21) .skip (.exit 0)) (.seq (.block 1 (.seq (.ops [
    ⟨(some 22), none, false, .idxa1 (.tmp 19) (.tmp 20) 3⟩,
    ⟨(some 6), none, false, .mov (.tmp 22)⟩]) (.seq (.ops [
    ⟨(some 23), none, false, .mov (.tmp 0)⟩,
    ⟨(some 24), none, false, .mov (.tmp 6)⟩,
    ⟨(some 25), none, false, .bin .quo (.tmp 24) (.const (.int .i64 8))⟩,
    ⟨(some 26), none, false, .iaddr (.tmp 23) (.tmp 25) 1⟩,
    ⟨(some 27), none, false, .load1 (.tmp 26)⟩,
    ⟨(some 28), none, false, .mov (.tmp 6)⟩,
    ⟨(some 29), none, false, .bin .rem (.tmp 28) (.const (.int .i64 8))⟩,
    ⟨(some 30), none, false, .bin .shr (.tmp 27) (.tmp 29)⟩,
    ⟨(some 31), none, false, .bin .and (.tmp 30) (.const (.int .u8 1))⟩,
    ⟨(some 32), none, false, .bin .eql (.tmp 31) (.const (.int .u8 0))⟩]) (.cond (.tmp 32) (.seq (.ops [
    ⟨(some 4), none, false, .mov (.const (.bool false))⟩]) .ret) .skip)))) (.ops [
    ⟨(some 33), none, false, .bin .add (.tmp 20) (.const (.int .i64 1))⟩,
    ⟨(some 20), none, false, .mov (.tmp 33)⟩]))))))) (.seq (.ops [
    ⟨(some 4), none, false, .mov (.const (.bool true))⟩]) .ret))))
theorem fits_fence_Has : Fits Tryd.prog 1 fence_Has ic_fence_Has [.tmp 4] 2 :=
  ⟨Tryd.f42, Tryd.func42, by decide, by kernel_rfl, by kernel_rfl⟩

/-- slices.BinarySearchFunc[[]chantry/segment.row,chantry/segment.row,string] -/
noncomputable def ic_segment_row_string : IC :=
  (.seq (.ops [
    ⟨(some 6), none, false, .mov (.const (.int .i64 0))⟩,
    ⟨(some 7), none, false, .mov (.const (.bool false))⟩]) (.seq (.ops [
    ⟨(some 12), none, false, .mov (.tmp 0)⟩,
    ⟨(some 13), none, false, .lens false (.tmp 12)⟩,
    ⟨(some 8), none, false, .mov (.tmp 13)⟩]) (.seq (.ops [
    ⟨(some 14), none, false, .mov (.tmp 8)⟩,
    ⟨(some 9), none, false, .mov (.const (.int .i64 0))⟩,
    ⟨(some 10), none, false, .mov (.tmp 14)⟩]) (.seq (.block 0 (.loop (.seq (.seq (.ops [
    ⟨(some 15), none, false, .mov (.tmp 9)⟩,
    ⟨(some 16), none, false, .mov (.tmp 10)⟩,
    ⟨(some 17), none, false, .bin .lss (.tmp 15) (.tmp 16)⟩]) (.cond (.tmp 17) .skip (.exit 0))) (.block 1 (.seq (.ops [
    ⟨(some 18), none, false, .mov (.tmp 9)⟩,
    ⟨(some 19), none, false, .mov (.tmp 10)⟩,
    ⟨(some 20), none, false, .bin .add (.tmp 18) (.tmp 19)⟩,
    ⟨(some 21), none, false, .conv .u64 (.tmp 20)⟩,
    ⟨(some 22), none, false, .bin .shr (.tmp 21) (.const (.int .u64 1))⟩,
    ⟨(some 23), none, false, .conv .i64 (.tmp 22)⟩,
    ⟨(some 11), none, false, .mov (.tmp 23)⟩]) (.seq (.ops [
    ⟨(some 24), none, false, .mov (.tmp 2)⟩,
    ⟨(some 25), none, false, .mov (.tmp 0)⟩,
    ⟨(some 26), none, false, .mov (.tmp 11)⟩,
    ⟨(some 27), none, false, .iaddr (.tmp 25) (.tmp 26) 2⟩,
    ⟨(some 28), none, false, .loadn (.tmp 27) 2⟩,
    ⟨(some 29), none, false, .mov (.tmp 1)⟩,
    ⟨(some 30), none, false, .calld (.tmp 24) [(.tmp 28), (.tmp 29)]⟩,
    ⟨(some 31), none, false, .bin .lss (.tmp 30) (.const (.int .i64 0))⟩]) (.cond (.tmp 31) (.ops [
    ⟨(some 32), none, false, .mov (.tmp 11)⟩,
    ⟨(some 33), none, false, .bin .add (.tmp 32) (.const (.int .i64 1))⟩,
    ⟨(some 9), none, false, .mov (.tmp 33)⟩]) (.ops [
    ⟨(some 34), none, false, .mov (.tmp 11)⟩,
    ⟨(some 10), none, false, .mov (.tmp 34)⟩])))))))) (.seq (.ops [
    ⟨(some 35), none, false, .mov (.tmp 9)⟩,
    ⟨(some 36), none, false, .mov (.tmp 9)⟩,
    ⟨(some 37), none, false, .mov (.tmp 8)⟩,
    ⟨(some 38), none, false, .bin .lss (.tmp 36) (.tmp 37)⟩,
    ⟨(some 39), none, false, .mov (.tmp 38)⟩,
    ⟨(some 40), (some (39, true)), false, .mov (.tmp 2)⟩,
    ⟨(some 41), (some (39, true)), false, .mov (.tmp 0)⟩,
    ⟨(some 42), (some (39, true)), false, .mov (.tmp 9)⟩,
    ⟨(some 43), (some (39, true)), false, .iaddr (.tmp 41) (.tmp 42) 2⟩,
    ⟨(some 44), (some (39, true)), false, .loadn (.tmp 43) 2⟩,
    ⟨(some 45), (some (39, true)), false, .mov (.tmp 1)⟩,
    ⟨(some 46), (some (39, true)), false, .calld (.tmp 40) [(.tmp 44), (.tmp 45)]⟩,
    ⟨(some 47), (some (39, true)), false, .bin .eql (.tmp 46) (.const (.int .i64 0))⟩,
    ⟨(some 48), none, false, .pick (.tmp 39) (.tmp 47) (.const (.bool false))⟩,
    ⟨(some 6), none, false, .mov (.tmp 35)⟩,
    ⟨(some 7), none, false, .mov (.tmp 48)⟩]) .ret)))))
theorem fits_segment_row_string : Fits Tryd.prog 1 segment_row_string ic_segment_row_string [.tmp 6, .tmp 7] 3 :=
  ⟨Tryd.f43, Tryd.func43, by decide, by kernel_rfl, by kernel_rfl⟩

/-- (*chantry/segment.Table).Find$1 -/
noncomputable def ic_segment_Table_Find_1 : IC :=
  (.seq (.ops [
    ⟨(some 2), none, false, .box (.tmp 0)⟩,
    ⟨(some 4), none, false, .mov (.const (.int .i64 0))⟩]) (.seq (.ops [
    ⟨(some 5), none, false, .faddr (.tmp 2) 0⟩,
    ⟨(some 6), none, false, .load1 (.tmp 5)⟩,
    ⟨(some 7), none, false, .mov (.tmp 1)⟩,
    ⟨(some 8), none, false, .call cmp_Compare_string [(.tmp 6), (.tmp 7)]⟩,
    ⟨(some 4), none, false, .mov (.tmp 8)⟩]) .ret))
theorem fits_segment_Table_Find_1 : Fits Tryd.prog 1 segment_Table_Find_1 ic_segment_Table_Find_1 [.tmp 4] 2 :=
  ⟨Tryd.f44, Tryd.func44, by decide, by kernel_rfl, by kernel_rfl⟩

/-- cmp.Compare[string] -/
noncomputable def ic_cmp_Compare_string : IC :=
  (.seq (.ops [
    ⟨(some 4), none, false, .mov (.const (.int .i64 0))⟩]) (.seq (.ops [
    ⟨(some 7), none, false, .mov (.tmp 0)⟩,
    ⟨(some 8), none, false, .call cmp_isNaN_string [(.tmp 7)]⟩,
    ⟨(some 5), none, false, .mov (.tmp 8)⟩]) (.seq (.ops [
    ⟨(some 9), none, false, .mov (.tmp 1)⟩,
    ⟨(some 10), none, false, .call cmp_isNaN_string [(.tmp 9)]⟩,
    ⟨(some 6), none, false, .mov (.tmp 10)⟩]) (.seq (.seq (.ops [
    ⟨(some 11), none, false, .mov (.tmp 5)⟩]) (.cond (.tmp 11) (.seq (.seq (.ops [
    ⟨(some 12), none, false, .mov (.tmp 6)⟩]) (.cond (.tmp 12) (.seq (.ops [
    ⟨(some 4), none, false, .mov (.const (.int .i64 0))⟩]) .ret) .skip)) (.seq (.ops [
    ⟨(some 4), none, false, .mov (.const (.int .i64 (-1)))⟩]) .ret)) .skip)) (.seq (.seq (.ops [
    ⟨(some 13), none, false, .mov (.tmp 6)⟩]) (.cond (.tmp 13) (.seq (.ops [
    ⟨(some 4), none, false, .mov (.const (.int .i64 1))⟩]) .ret) .skip)) (.seq (.seq (.ops [
    ⟨(some 14), none, false, .mov (.tmp 0)⟩,
    ⟨(some 15), none, false, .mov (.tmp 1)⟩,
    ⟨(some 16), none, false, .bin .lss (.tmp 14) (.tmp 15)⟩]) (.cond (.tmp 16) (.seq (.ops [
    ⟨(some 4), none, false, .mov (.const (.int .i64 (-1)))⟩]) .ret) .skip)) (.seq (.seq (.ops [
    ⟨(some 17), none, false, .mov (.tmp 0)⟩,
    ⟨(some 18), none, false, .mov (.tmp 1)⟩,
    ⟨(some 19), none, false, .bin .gtr (.tmp 17) (.tmp 18)⟩]) (.cond (.tmp 19) (.seq (.ops [
    ⟨(some 4), none, false, .mov (.const (.int .i64 1))⟩]) .ret) .skip)) (.seq (.ops [
    ⟨(some 4), none, false, .mov (.const (.int .i64 0))⟩]) .ret))))))))
theorem fits_cmp_Compare_string : Fits Tryd.prog 1 cmp_Compare_string ic_cmp_Compare_string [.tmp 4] 2 :=
  ⟨Tryd.f45, Tryd.func45, by decide, by kernel_rfl, by kernel_rfl⟩

/-- chantry/chantryref03.rounds -/
noncomputable def ic_chantryref03_rounds : IC :=
  (.seq (.ops [
    ⟨(some 0), none, false, .mov (.const (.slice none 0 0))⟩]) (.seq (.ops [
    ⟨(some 1), none, false, .lit [.int .u32 0] 1 64 [(0, 1, (.const (.int .u32 1116352408))), (1, 1, (.const (.int .u32 1899447441))), (2, 1, (.const (.int .u32 3049323471))), (3, 1, (.const (.int .u32 3921009573))), (4, 1, (.const (.int .u32 961987163))), (5, 1, (.const (.int .u32 1508970993))), (6, 1, (.const (.int .u32 2453635748))), (7, 1, (.const (.int .u32 2870763221))), (8, 1, (.const (.int .u32 3624381080))), (9, 1, (.const (.int .u32 310598401))), (10, 1, (.const (.int .u32 607225278))), (11, 1, (.const (.int .u32 1426881987))), (12, 1, (.const (.int .u32 1925078388))), (13, 1, (.const (.int .u32 2162078206))), (14, 1, (.const (.int .u32 2614888103))), (15, 1, (.const (.int .u32 3248222580))), (16, 1, (.const (.int .u32 3835390401))), (17, 1, (.const (.int .u32 4022224774))), (18, 1, (.const (.int .u32 264347078))), (19, 1, (.const (.int .u32 604807628))), (20, 1, (.const (.int .u32 770255983))), (21, 1, (.const (.int .u32 1249150122))), (22, 1, (.const (.int .u32 1555081692))), (23, 1, (.const (.int .u32 1996064986))), (24, 1, (.const (.int .u32 2554220882))), (25, 1, (.const (.int .u32 2821834349))), (26, 1, (.const (.int .u32 2952996808))), (27, 1, (.const (.int .u32 3210313671))), (28, 1, (.const (.int .u32 3336571891))), (29, 1, (.const (.int .u32 3584528711))), (30, 1, (.const (.int .u32 113926993))), (31, 1, (.const (.int .u32 338241895))), (32, 1, (.const (.int .u32 666307205))), (33, 1, (.const (.int .u32 773529912))), (34, 1, (.const (.int .u32 1294757372))), (35, 1, (.const (.int .u32 1396182291))), (36, 1, (.const (.int .u32 1695183700))), (37, 1, (.const (.int .u32 1986661051))), (38, 1, (.const (.int .u32 2177026350))), (39, 1, (.const (.int .u32 2456956037))), (40, 1, (.const (.int .u32 2730485921))), (41, 1, (.const (.int .u32 2820302411))), (42, 1, (.const (.int .u32 3259730800))), (43, 1, (.const (.int .u32 3345764771))), (44, 1, (.const (.int .u32 3516065817))), (45, 1, (.const (.int .u32 3600352804))), (46, 1, (.const (.int .u32 4094571909))), (47, 1, (.const (.int .u32 275423344))), (48, 1, (.const (.int .u32 430227734))), (49, 1, (.const (.int .u32 506948616))), (50, 1, (.const (.int .u32 659060556))), (51, 1, (.const (.int .u32 883997877))), (52, 1, (.const (.int .u32 958139571))), (53, 1, (.const (.int .u32 1322822218))), (54, 1, (.const (.int .u32 1537002063))), (55, 1, (.const (.int .u32 1747873779))), (56, 1, (.const (.int .u32 1955562222))), (57, 1, (.const (.int .u32 2024104815))), (58, 1, (.const (.int .u32 2227730452))), (59, 1, (.const (.int .u32 2361852424))), (60, 1, (.const (.int .u32 2428436474))), (61, 1, (.const (.int .u32 2756734187))), (62, 1, (.const (.int .u32 3204031479))), (63, 1, (.const (.int .u32 3329325298)))]⟩,
    ⟨(some 0), none, false, .mov (.tmp 1)⟩]) .ret))
theorem fits_chantryref03_rounds : Fits Tryd.prog 1 chantryref03_rounds ic_chantryref03_rounds [.tmp 0] 0 :=
  ⟨Tryd.f47, Tryd.func47, by decide, by kernel_rfl, by kernel_rfl⟩

/-- chantry/chantryref03.block -/
noncomputable def ic_chantryref03_block : IC :=
  (.seq (.ops [
    ⟨(some 6), none, false, .mov (.const (.slice none 0 0))⟩]) (.seq (.ops [
    ⟨(some 21), none, false, .mov (.tmp 1)⟩,
    ⟨(some 22), none, false, .call chantryref03_schedule [(.tmp 21)]⟩,
    ⟨(some 7), none, false, .mov (.tmp 22)⟩]) (.seq (.draw [
    ⟨(some 23), none, false, .mov (.tmp 0)⟩,
    ⟨(some 24), none, false, .iaddr (.tmp 23) (.const (.int .i64 0)) 1⟩,
    ⟨(some 25), none, false, .load1 (.tmp 24)⟩,
    ⟨(some 26), none, false, .mov (.tmp 0)⟩,
    ⟨(some 27), none, false, .iaddr (.tmp 26) (.const (.int .i64 1)) 1⟩,
    ⟨(some 28), none, false, .load1 (.tmp 27)⟩,
    ⟨(some 29), none, false, .mov (.tmp 0)⟩,
    ⟨(some 30), none, false, .iaddr (.tmp 29) (.const (.int .i64 2)) 1⟩,
    ⟨(some 31), none, false, .load1 (.tmp 30)⟩,
    ⟨(some 32), none, false, .mov (.tmp 0)⟩,
    ⟨(some 33), none, false, .iaddr (.tmp 32) (.const (.int .i64 3)) 1⟩,
    ⟨(some 34), none, false, .load1 (.tmp 33)⟩,
    ⟨(some 35), none, false, .mov (.tmp 0)⟩,
    ⟨(some 36), none, false, .iaddr (.tmp 35) (.const (.int .i64 4)) 1⟩,
    ⟨(some 37), none, false, .load1 (.tmp 36)⟩,
    ⟨(some 38), none, false, .mov (.tmp 0)⟩,
    ⟨(some 39), none, false, .iaddr (.tmp 38) (.const (.int .i64 5)) 1⟩,
    ⟨(some 40), none, false, .load1 (.tmp 39)⟩,
    ⟨(some 41), none, false, .mov (.tmp 0)⟩,
    ⟨(some 42), none, false, .iaddr (.tmp 41) (.const (.int .i64 6)) 1⟩,
    ⟨(some 43), none, false, .load1 (.tmp 42)⟩,
    ⟨(some 44), none, false, .mov (.tmp 0)⟩,
    ⟨(some 45), none, false, .iaddr (.tmp 44) (.const (.int .i64 7)) 1⟩,
    ⟨(some 46), none, false, .load1 (.tmp 45)⟩,
    ⟨(some 8), none, false, .mov (.tmp 25)⟩,
    ⟨(some 9), none, false, .mov (.tmp 28)⟩,
    ⟨(some 10), none, false, .mov (.tmp 31)⟩,
    ⟨(some 11), none, false, .mov (.tmp 34)⟩,
    ⟨(some 12), none, false, .mov (.tmp 37)⟩,
    ⟨(some 13), none, false, .mov (.tmp 40)⟩,
    ⟨(some 14), none, false, .mov (.tmp 43)⟩,
    ⟨(some 15), none, false, .mov (.tmp 46)⟩]) (.seq (.seq (.ops [
    ⟨(some 16), none, false, .mov (.const (.int .i64 0))⟩]) (.block 0 (.loop (.seq (.seq (.ops [
    ⟨(some 47), none, false, .mov (.tmp 16)⟩,
    ⟨(some 48), none, false, .bin .lss (.tmp 47) (.const (.int .i64 64))⟩]) (.cond (.tmp 48) .skip (.exit 0))) (.seq (.block 1 (.seq (.ops [
    ⟨(some 51), none, false, .mov (.tmp 12)⟩,
    ⟨(some 52), none, false, .call chantryref03_turn [(.tmp 51), (.const (.int .u32 6))]⟩,
    ⟨(some 53), none, false, .mov (.tmp 12)⟩,
    ⟨(some 54), none, false, .call chantryref03_turn [(.tmp 53), (.const (.int .u32 11))]⟩,
    ⟨(some 55), none, false, .bin .xor (.tmp 52) (.tmp 54)⟩,
    ⟨(some 56), none, false, .mov (.tmp 12)⟩,
    ⟨(some 57), none, false, .call chantryref03_turn [(.tmp 56), (.const (.int .u32 25))]⟩,
    ⟨(some 58), none, false, .bin .xor (.tmp 55) (.tmp 57)⟩,
    ⟨(some 17), none, false, .mov (.tmp 58)⟩]) (.seq (.draw [
    ⟨(some 59), none, false, .mov (.tmp 15)⟩,
    ⟨(some 60), none, false, .mov (.tmp 17)⟩,
    ⟨(some 61), none, false, .bin .add (.tmp 59) (.tmp 60)⟩,
    ⟨(some 62), none, false, .mov (.tmp 12)⟩,
    ⟨(some 63), none, false, .mov (.tmp 13)⟩,
    ⟨(some 64), none, false, .bin .and (.tmp 62) (.tmp 63)⟩,
    ⟨(some 65), none, false, .mov (.tmp 12)⟩,
    ⟨(some 66), none, false, .bin .xor (.tmp 65) (.const (.int .u32 4294967295))⟩,
    ⟨(some 67), none, false, .mov (.tmp 14)⟩,
    ⟨(some 68), none, false, .bin .and (.tmp 66) (.tmp 67)⟩,
    ⟨(some 69), none, false, .bin .xor (.tmp 64) (.tmp 68)⟩,
    ⟨(some 70), none, false, .bin .add (.tmp 61) (.tmp 69)⟩,
    ⟨(some 71), none, false, .mov (.tmp 2)⟩,
    ⟨(some 72), none, false, .mov (.tmp 16)⟩,
    ⟨(some 73), none, false, .iaddr (.tmp 71) (.tmp 72) 1⟩,
    ⟨(some 74), none, false, .load1 (.tmp 73)⟩,
    ⟨(some 75), none, false, .bin .add (.tmp 70) (.tmp 74)⟩,
    ⟨(some 76), none, false, .mov (.tmp 7)⟩,
    ⟨(some 77), none, false, .mov (.tmp 16)⟩,
    ⟨(some 78), none, false, .iaddr (.tmp 76) (.tmp 77) 1⟩,
    ⟨(some 79), none, false, .load1 (.tmp 78)⟩,
    ⟨(some 80), none, false, .bin .add (.tmp 75) (.tmp 79)⟩,
    ⟨(some 18), none, false, .mov (.tmp 80)⟩]) (.seq (.ops [
    ⟨(some 81), none, false, .mov (.tmp 8)⟩,
    ⟨(some 82), none, false, .call chantryref03_turn [(.tmp 81), (.const (.int .u32 2))]⟩,
    ⟨(some 83), none, false, .mov (.tmp 8)⟩,
    ⟨(some 84), none, false, .call chantryref03_turn [(.tmp 83), (.const (.int .u32 13))]⟩,
    ⟨(some 85), none, false, .bin .xor (.tmp 82) (.tmp 84)⟩,
    ⟨(some 86), none, false, .mov (.tmp 8)⟩,
    ⟨(some 87), none, false, .call chantryref03_turn [(.tmp 86), (.const (.int .u32 22))]⟩,
    ⟨(some 88), none, false, .bin .xor (.tmp 85) (.tmp 87)⟩,
    ⟨(some 19), none, false, .mov (.tmp 88)⟩]) (.seq (.ops [
    ⟨(some 89), none, false, .mov (.tmp 19)⟩,
    ⟨(some 90), none, false, .mov (.tmp 8)⟩,
    ⟨(some 91), none, false, .mov (.tmp 9)⟩,
    ⟨(some 92), none, false, .bin .and (.tmp 90) (.tmp 91)⟩,
    ⟨(some 93), none, false, .mov (.tmp 8)⟩,
    ⟨(some 94), none, false, .mov (.tmp 10)⟩,
    ⟨(some 95), none, false, .bin .and (.tmp 93) (.tmp 94)⟩,
    ⟨(some 96), none, false, .bin .xor (.tmp 92) (.tmp 95)⟩,
    ⟨(some 97), none, false, .mov (.tmp 9)⟩,
    ⟨(some 98), none, false, .mov (.tmp 10)⟩,
    ⟨(some 99), none, false, .bin .and (.tmp 97) (.tmp 98)⟩,
    ⟨(some 100), none, false, .bin .xor (.tmp 96) (.tmp 99)⟩,
    ⟨(some 101), none, false, .bin .add (.tmp 89) (.tmp 100)⟩,
    ⟨(some 20), none, false, .mov (.tmp 101)⟩]) (.ops [
    ⟨(some 102), none, false, .mov (.tmp 14)⟩,
    ⟨(some 103), none, false, .mov (.tmp 13)⟩,
    ⟨(some 104), none, false, .mov (.tmp 12)⟩,
    ⟨(some 105), none, false, .mov (.tmp 11)⟩,
    ⟨(some 106), none, false, .mov (.tmp 18)⟩,
    ⟨(some 107), none, false, .bin .add (.tmp 105) (.tmp 106)⟩,
    ⟨(some 108), none, false, .mov (.tmp 10)⟩,
    ⟨(some 109), none, false, .mov (.tmp 9)⟩,
    ⟨(some 110), none, false, .mov (.tmp 8)⟩,
    ⟨(some 111), none, false, .mov (.tmp 18)⟩,
    ⟨(some 112), none, false, .mov (.tmp 20)⟩,
    ⟨(some 113), none, false, .bin .add (.tmp 111) (.tmp 112)⟩,
    ⟨(some 15), none, false, .mov (.tmp 102)⟩,
    ⟨(some 14), none, false, .mov (.tmp 103)⟩,
    ⟨(some 13), none, false, .mov (.tmp 104)⟩,
    ⟨(some 12), none, false, .mov (.tmp 107)⟩,
    ⟨(some 11), none, false, .mov (.tmp 108)⟩,
    ⟨(some 10), none, false, .mov (.tmp 109)⟩,
    ⟨(some 9), none, false, .mov (.tmp 110)⟩,
    ⟨(some 8), none, false, .mov (.tmp 113)⟩])))))) (.ops [
    ⟨(some 49), none, false, .mov (.tmp 16)⟩,
    ⟨(some 50), none, false, .bin .add (.tmp 49) (.const (.int .i64 1))⟩,
    ⟨(some 16), none, false, .mov (.tmp 50)⟩])))))) (.seq (.draw [
    ⟨(some 114), none, false, .mov (.tmp 0)⟩,
    ⟨(some 115), none, false, .iaddr (.tmp 114) (.const (.int .i64 0)) 1⟩,
    ⟨(some 116), none, false, .load1 (.tmp 115)⟩,
    ⟨(some 117), none, false, .mov (.tmp 8)⟩,
    ⟨(some 118), none, false, .bin .add (.tmp 116) (.tmp 117)⟩,
    ⟨(some 119), none, false, .mov (.tmp 0)⟩,
    ⟨(some 120), none, false, .iaddr (.tmp 119) (.const (.int .i64 1)) 1⟩,
    ⟨(some 121), none, false, .load1 (.tmp 120)⟩,
    ⟨(some 122), none, false, .mov (.tmp 9)⟩,
    ⟨(some 123), none, false, .bin .add (.tmp 121) (.tmp 122)⟩,
    ⟨(some 124), none, false, .mov (.tmp 0)⟩,
    ⟨(some 125), none, false, .iaddr (.tmp 124) (.const (.int .i64 2)) 1⟩,
    ⟨(some 126), none, false, .load1 (.tmp 125)⟩,
    ⟨(some 127), none, false, .mov (.tmp 10)⟩,
    ⟨(some 128), none, false, .bin .add (.tmp 126) (.tmp 127)⟩,
    ⟨(some 129), none, false, .mov (.tmp 0)⟩,
    ⟨(some 130), none, false, .iaddr (.tmp 129) (.const (.int .i64 3)) 1⟩,
    ⟨(some 131), none, false, .load1 (.tmp 130)⟩,
    ⟨(some 132), none, false, .mov (.tmp 11)⟩,
    ⟨(some 133), none, false, .bin .add (.tmp 131) (.tmp 132)⟩,
    ⟨(some 134), none, false, .mov (.tmp 0)⟩,
    ⟨(some 135), none, false, .iaddr (.tmp 134) (.const (.int .i64 4)) 1⟩,
    ⟨(some 136), none, false, .load1 (.tmp 135)⟩,
    ⟨(some 137), none, false, .mov (.tmp 12)⟩,
    ⟨(some 138), none, false, .bin .add (.tmp 136) (.tmp 137)⟩,
    ⟨(some 139), none, false, .mov (.tmp 0)⟩,
    ⟨(some 140), none, false, .iaddr (.tmp 139) (.const (.int .i64 5)) 1⟩,
    ⟨(some 141), none, false, .load1 (.tmp 140)⟩,
    ⟨(some 142), none, false, .mov (.tmp 13)⟩,
    ⟨(some 143), none, false, .bin .add (.tmp 141) (.tmp 142)⟩,
    ⟨(some 144), none, false, .mov (.tmp 0)⟩,
    ⟨(some 145), none, false, .iaddr (.tmp 144) (.const (.int .i64 6)) 1⟩,
    ⟨(some 146), none, false, .load1 (.tmp 145)⟩,
    ⟨(some 147), none, false, .mov (.tmp 14)⟩,
    ⟨(some 148), none, false, .bin .add (.tmp 146) (.tmp 147)⟩,
    ⟨(some 149), none, false, .mov (.tmp 0)⟩,
    ⟨(some 150), none, false, .iaddr (.tmp 149) (.const (.int .i64 7)) 1⟩,
    ⟨(some 151), none, false, .load1 (.tmp 150)⟩,
    ⟨(some 152), none, false, .mov (.tmp 15)⟩,
    ⟨(some 153), none, false, .bin .add (.tmp 151) (.tmp 152)⟩,
    ⟨(some 154), none, false, .lit [.int .u32 0] 1 8 [(0, 1, (.tmp 118)), (1, 1, (.tmp 123)), (2, 1, (.tmp 128)), (3, 1, (.tmp 133)), (4, 1, (.tmp 138)), (5, 1, (.tmp 143)), (6, 1, (.tmp 148)), (7, 1, (.tmp 153))]⟩,
    ⟨(some 6), none, false, .mov (.tmp 154)⟩]) .ret)))))
theorem fits_chantryref03_block : Fits Tryd.prog 1 chantryref03_block ic_chantryref03_block [.tmp 6] 3 :=
  ⟨Tryd.f48, Tryd.func48, by decide, by kernel_rfl, by kernel_rfl⟩

/-- chantry/num.Fix -/
noncomputable def ic_num_Fix : IC :=
  (.seq (.ops [
    ⟨(some 4), none, false, .mov (.const (.slice none 0 0))⟩,
    ⟨(some 5), none, false, .mov (.const (.int .i64 0))⟩]) (.seq (.seq (.ops [
    ⟨(some 8), none, false, .mov (.tmp 1)⟩,
    ⟨(some 9), none, false, .bin .lss (.tmp 8) (.const (.int .i64 1))⟩,
    ⟨(some 10), none, false, .mov (.tmp 9)⟩,
    ⟨(some 11), (some (10, false)), false, .mov (.tmp 1)⟩,
    ⟨(some 12), (some (10, false)), false, .bin .gtr (.tmp 11) (.const (.int .i64 4))⟩,
    ⟨(some 13), none, false, .pick (.tmp 10) (.const (.bool true)) (.tmp 12)⟩,
    ⟨(some 14), none, false, .mov (.tmp 13)⟩,
    ⟨(some 15), (some (14, false)), false, .mov (.tmp 0)⟩,
    ⟨(some 16), (some (14, false)), false, .call num_is [(.tmp 15)]⟩,
    ⟨(some 17), (some (14, false)), false, .un .not (.tmp 16)⟩,
    ⟨(some 18), none, false, .pick (.tmp 14) (.const (.bool true)) (.tmp 17)⟩,
    ⟨(some 19), none, false, .mov (.tmp 18)⟩,
    ⟨(some 20), (some (19, false)), false, .mov (.tmp 0)⟩,
    ⟨(some 21), (some (19, false)), false, .mov (.tmp 1)⟩,
    ⟨(some 22), (some (19, false)), false, .bin .mul (.const (.int .i64 8)) (.tmp 21)⟩,
    ⟨(some 23), (some (19, false)), false, .bin .shr (.tmp 20) (.tmp 22)⟩,
    ⟨(some 24), (some (19, false)), false, .bin .gtr (.tmp 23) (.const (.int .i64 0))⟩,
    ⟨(some 25), none, false, .pick (.tmp 19) (.const (.bool true)) (.tmp 24)⟩]) (.cond (.tmp 25) (.seq (.ops [
    ⟨(some 4), none, false, .mov (.const (.slice none 0 0))⟩,
    ⟨(some 5), none, false, .mov (.const (.int .i64 1))⟩]) .ret) .skip)) (.seq (.ops [
    ⟨(some 26), none, false, .mov (.tmp 1)⟩,
    ⟨(some 27), none, false, .mk [.int .u8 0] 1 (.tmp 26) (.tmp 26)⟩,
    ⟨(some 6), none, false, .mov (.tmp 27)⟩]) (.seq (.seq (.ops [
    ⟨(some 28), none, false, .mov (.tmp 6)⟩,
    ⟨(some 29), none, false, .lens false (.tmp 28)⟩,
    ⟨(some 30), none, false, .mov (.const (.int .i64 0))⟩]) (.block 0 (.loop (.seq (.ops [
    ⟨(some 31), none, false, .bin .lss (.tmp 30) (.tmp 29)⟩]) (.seq (.cond (.tmp 31) .skip (.exit 0)) (.seq (.block 1 (.seq (.ops [
    ⟨(some 32), none, false, .mov (.tmp 30)⟩,
    ⟨(some 7), none, false, .mov (.tmp 32)⟩]) (.ops [
    ⟨(some 33), none, false, .mov (.tmp 6)⟩,
    ⟨(some 34), none, false, .mov (.tmp 7)⟩,
    ⟨(some 35), none, false, .mov (.tmp 0)⟩,
    ⟨(some 36), none, false, .mov (.tmp 7)⟩,
    ⟨(some 37), none, false, .bin .mul (.const (.int .i64 8)) (.tmp 36)⟩,
    ⟨(some 38), none, false, .bin .shr (.tmp 35) (.tmp 37)⟩,
    ⟨(some 39), none, false, .conv .u8 (.tmp 38)⟩,
    ⟨(some 40), none, false, .iaddr (.tmp 33) (.tmp 34) 1⟩,
    ⟨none, none, false, .store (.tmp 40) (.tmp 39) 1⟩]))) (.ops [
    ⟨(some 41), none, false, .bin .add (.tmp 30) (.const (.int .i64 1))⟩,
    ⟨(some 30), none, false, .mov (.tmp 41)⟩]))))))) (.seq (.ops [
    ⟨(some 42), none, false, .mov (.tmp 6)⟩,
    ⟨(some 4), none, false, .mov (.tmp 42)⟩,
    ⟨(some 5), none, false, .mov (.const (.int .i64 0))⟩]) .ret)))))
theorem fits_num_Fix : Fits Tryd.prog 1 num_Fix ic_num_Fix [.tmp 4, .tmp 5] 2 :=
  ⟨Tryd.f49, Tryd.func49, by decide, by kernel_rfl, by kernel_rfl⟩

/-- chantry/sha.ID -/
noncomputable def ic_sha_ID : IC :=
  (.seq (.ops [
    ⟨(some 2), none, false, .mov (.const (.string ⟨#[]⟩))⟩]) (.seq (.ops [
    ⟨(some 4), none, false, .call sha_Begin []⟩,
    ⟨(some 3), none, false, .mov (.tmp 4)⟩]) (.seq (.ops [
    ⟨(some 5), none, false, .mov (.tmp 3)⟩,
    ⟨(some 6), none, false, .mov (.tmp 0)⟩,
    ⟨(some 7), none, false, .call sha_Hash_Add [(.tmp 5), (.tmp 6)]⟩]) (.seq (.ops [
    ⟨(some 8), none, false, .mov (.tmp 3)⟩,
    ⟨(some 9), none, false, .call sha_Hash_Sum [(.tmp 8)]⟩,
    ⟨(some 2), none, false, .mov (.tmp 9)⟩]) .ret))))
theorem fits_sha_ID : Fits Tryd.prog 1 sha_ID ic_sha_ID [.tmp 2] 1 :=
  ⟨Tryd.f50, Tryd.func50, by decide, by kernel_rfl, by kernel_rfl⟩

/-- slices.SortStableFunc[[]chantry/api.Item,chantry/api.Item] -/
noncomputable def ic_api_Item : IC :=
  (.ops [
    ⟨(some 4), none, false, .mov (.tmp 0)⟩,
    ⟨(some 5), none, false, .mov (.tmp 0)⟩,
    ⟨(some 6), none, false, .lens false (.tmp 5)⟩,
    ⟨(some 7), none, false, .mov (.tmp 1)⟩,
    ⟨(some 8), none, false, .call api_Item_75 [(.tmp 4), (.tmp 6), (.tmp 7)]⟩])
theorem fits_api_Item : Fits Tryd.prog 1 api_Item ic_api_Item [] 2 :=
  ⟨Tryd.f51, Tryd.func51, by decide, by kernel_rfl, by kernel_rfl⟩

/-- chantry/segment.sorted$1 -/
noncomputable def ic_segment_sorted_1 : IC :=
  (.seq (.ops [
    ⟨(some 2), none, false, .box (.tmp 0)⟩,
    ⟨(some 3), none, false, .box (.tmp 1)⟩,
    ⟨(some 4), none, false, .mov (.const (.int .i64 0))⟩]) (.seq (.ops [
    ⟨(some 5), none, false, .faddr (.tmp 2) 0⟩,
    ⟨(some 6), none, false, .load1 (.tmp 5)⟩,
    ⟨(some 7), none, false, .faddr (.tmp 3) 0⟩,
    ⟨(some 8), none, false, .load1 (.tmp 7)⟩,
    ⟨(some 9), none, false, .call cmp_Compare_string [(.tmp 6), (.tmp 8)]⟩,
    ⟨(some 4), none, false, .mov (.tmp 9)⟩]) .ret))
theorem fits_segment_sorted_1 : Fits Tryd.prog 1 segment_sorted_1 ic_segment_sorted_1 [.tmp 4] 2 :=
  ⟨Tryd.f52, Tryd.func52, by decide, by kernel_rfl, by kernel_rfl⟩

/-- slices.CompactFunc[[]chantry/api.Item,chantry/api.Item] -/
noncomputable def ic_api_Item_53 : IC :=
  (.seq (.ops [
    ⟨(some 4), none, false, .mov (.const (.slice none 0 0))⟩]) (.seq (.seq (.ops [
    ⟨(some 8), none, false, .mov (.tmp 0)⟩,
    ⟨(some 9), none, false, .lens false (.tmp 8)⟩,
    ⟨(some 10), none, false, .bin .lss (.tmp 9) (.const (.int .i64 2))⟩]) (.cond (.tmp 10) (.seq (.ops [
    ⟨(some 11), none, false, .mov (.tmp 0)⟩,
    ⟨(some 4), none, false, .mov (.tmp 11)⟩]) .ret) .skip)) (.seq (.seq (.ops [
    ⟨(some 5), none, false, .mov (.const (.int .i64 1))⟩]) (.block 0 (.loop (.seq (.seq (.ops [
    ⟨(some 12), none, false, .mov (.tmp 5)⟩,
    ⟨(some 13), none, false, .mov (.tmp 0)⟩,
    ⟨(some 14), none, false, .lens false (.tmp 13)⟩,
    ⟨(some 15), none, false, .bin .lss (.tmp 12) (.tmp 14)⟩]) (.cond (.tmp 15) .skip (.exit 0))) (.seq (.block 1 (.seq (.draw [
    ⟨(some 18), none, false, .mov (.tmp 1)⟩,
    ⟨(some 19), none, false, .mov (.tmp 0)⟩,
    ⟨(some 20), none, false, .mov (.tmp 5)⟩,
    ⟨(some 21), none, false, .iaddr (.tmp 19) (.tmp 20) 2⟩,
    ⟨(some 22), none, false, .loadn (.tmp 21) 2⟩,
    ⟨(some 23), none, false, .mov (.tmp 0)⟩,
    ⟨(some 24), none, false, .mov (.tmp 5)⟩,
    ⟨(some 25), none, false, .bin .sub (.tmp 24) (.const (.int .i64 1))⟩,
    ⟨(some 26), none, false, .iaddr (.tmp 23) (.tmp 25) 2⟩,
    ⟨(some 27), none, false, .loadn (.tmp 26) 2⟩,
    ⟨(some 28), none, false, .calld (.tmp 18) [(.tmp 22), (.tmp 27)]⟩]) (.cond (.tmp 28) (.seq (.ops [
    ⟨(some 29), none, false, .mov (.tmp 0)⟩,
    ⟨(some 30), none, false, .mov (.tmp 5)⟩,
    ⟨(some 31), none, false, .sll (.tmp 29) (some (.tmp 30)) none none 2⟩,
    ⟨(some 6), none, false, .mov (.tmp 31)⟩]) (.seq (.seq (.ops [
    ⟨(some 7), none, false, .mov (.const (.int .i64 1))⟩]) (.block 2 (.loop (.seq (.seq (.ops [
    ⟨(some 32), none, false, .mov (.tmp 7)⟩,
    ⟨(some 33), none, false, .mov (.tmp 6)⟩,
    ⟨(some 34), none, false, .lens false (.tmp 33)⟩,
    ⟨(some 35), none, false, .bin .lss (.tmp 32) (.tmp 34)⟩]) (.cond (.tmp 35) .skip (.exit 2))) (.seq (.block 3 (.seq (.draw [
    ⟨(some 38), none, false, .mov (.tmp 1)⟩,
    ⟨(some 39), none, false, .mov (.tmp 6)⟩,
    ⟨(some 40), none, false, .mov (.tmp 7)⟩,
    ⟨(some 41), none, false, .iaddr (.tmp 39) (.tmp 40) 2⟩,
    ⟨(some 42), none, false, .loadn (.tmp 41) 2⟩,
    ⟨(some 43), none, false, .mov (.tmp 6)⟩,
    ⟨(some 44), none, false, .mov (.tmp 7)⟩,
    ⟨(some 45), none, false, .bin .sub (.tmp 44) (.const (.int .i64 1))⟩,
    ⟨(some 46), none, false, .iaddr (.tmp 43) (.tmp 45) 2⟩,
    ⟨(some 47), none, false, .loadn (.tmp 46) 2⟩,
    ⟨(some 48), none, false, .calld (.tmp 38) [(.tmp 42), (.tmp 47)]⟩,
    ⟨(some 49), none, false, .un .not (.tmp 48)⟩]) (.cond (.tmp 49) (.seq (.ops [
    ⟨(some 50), none, false, .mov (.tmp 0)⟩,
    ⟨(some 51), none, false, .mov (.tmp 5)⟩,
    ⟨(some 52), none, false, .mov (.tmp 6)⟩,
    ⟨(some 53), none, false, .mov (.tmp 7)⟩,
    ⟨(some 54), none, false, .iaddr (.tmp 52) (.tmp 53) 2⟩,
    ⟨(some 55), none, false, .loadn (.tmp 54) 2⟩,
    ⟨(some 56), none, false, .iaddr (.tmp 50) (.tmp 51) 2⟩,
    ⟨none, none, false, .store (.tmp 56) (.tmp 55) 2⟩]) (.ops [
    ⟨(some 57), none, false, .mov (.tmp 5)⟩,
    ⟨(some 58), none, false, .bin .add (.tmp 57) (.const (.int .i64 1))⟩,
    ⟨(some 5), none, false, .mov (.tmp 58)⟩])) .skip))) (.ops [
    ⟨(some 36), none, false, .mov (.tmp 7)⟩,
    ⟨(some 37), none, false, .bin .add (.tmp 36) (.const (.int .i64 1))⟩,
    ⟨(some 7), none, false, .mov (.tmp 37)⟩])))))) (.seq (.ops [
    ⟨(some 59), none, false, .mov (.tmp 0)⟩,
    ⟨(some 60), none, false, .mov (.tmp 5)⟩,
    ⟨(some 61), none, false, .sll (.tmp 59) (some (.tmp 60)) none none 2⟩,
    ⟨none, none, false, .clr (.tmp 61) [.string ⟨#[]⟩, .slice none 0 0]⟩]) (.seq (.ops [
    ⟨(some 62), none, false, .mov (.tmp 0)⟩,
    ⟨(some 63), none, false, .mov (.tmp 5)⟩,
    ⟨(some 64), none, false, .sll (.tmp 62) none (some (.tmp 63)) none 2⟩,
    ⟨(some 4), none, false, .mov (.tmp 64)⟩]) .ret)))) .skip))) (.ops [
    ⟨(some 16), none, false, .mov (.tmp 5)⟩,
    ⟨(some 17), none, false, .bin .add (.tmp 16) (.const (.int .i64 1))⟩,
    ⟨(some 5), none, false, .mov (.tmp 17)⟩])))))) (.seq (.ops [
    ⟨(some 65), none, false, .mov (.tmp 0)⟩,
    ⟨(some 4), none, false, .mov (.tmp 65)⟩]) .ret))))
theorem fits_api_Item_53 : Fits Tryd.prog 1 api_Item_53 ic_api_Item_53 [.tmp 4] 2 :=
  ⟨Tryd.f53, Tryd.func53, by decide, by kernel_rfl, by kernel_rfl⟩

/-- chantry/segment.sorted$2 -/
noncomputable def ic_segment_sorted_2 : IC :=
  (.seq (.ops [
    ⟨(some 2), none, false, .box (.tmp 0)⟩,
    ⟨(some 3), none, false, .box (.tmp 1)⟩,
    ⟨(some 4), none, false, .mov (.const (.bool false))⟩]) (.seq (.ops [
    ⟨(some 5), none, false, .faddr (.tmp 2) 0⟩,
    ⟨(some 6), none, false, .load1 (.tmp 5)⟩,
    ⟨(some 7), none, false, .faddr (.tmp 3) 0⟩,
    ⟨(some 8), none, false, .load1 (.tmp 7)⟩,
    ⟨(some 9), none, false, .bin .eql (.tmp 6) (.tmp 8)⟩,
    ⟨(some 4), none, false, .mov (.tmp 9)⟩]) .ret))
theorem fits_segment_sorted_2 : Fits Tryd.prog 1 segment_sorted_2 ic_segment_sorted_2 [.tmp 4] 2 :=
  ⟨Tryd.f54, Tryd.func54, by decide, by kernel_rfl, by kernel_rfl⟩

/-- chantry/fence.Make -/
noncomputable def ic_fence_Make : IC :=
  (.seq (.ops [
    ⟨(some 4), none, false, .mov (.const (.slice none 0 0))⟩,
    ⟨(some 5), none, false, .mov (.const (.int .i64 0))⟩]) (.seq (.seq (.ops [
    ⟨(some 10), none, false, .mov (.tmp 1)⟩,
    ⟨(some 11), none, false, .call fence_may [(.tmp 10)]⟩,
    ⟨(some 12), none, false, .un .not (.tmp 11)⟩,
    ⟨(some 13), none, false, .mov (.tmp 12)⟩,
    ⟨(some 14), (some (13, false)), false, .mov (.tmp 0)⟩,
    ⟨(some 15), (some (13, false)), false, .call slices_ContainsFunc_string_string [(.tmp 14), (.func 77)]⟩,
    ⟨(some 16), none, false, .pick (.tmp 13) (.const (.bool true)) (.tmp 15)⟩]) (.cond (.tmp 16) (.seq (.ops [
    ⟨(some 4), none, false, .mov (.const (.slice none 0 0))⟩,
    ⟨(some 5), none, false, .mov (.const (.int .i64 1))⟩]) .ret) .skip)) (.seq (.ops [
    ⟨(some 17), none, false, .mov (.tmp 1)⟩,
    ⟨(some 18), none, false, .mk [.int .u8 0] 1 (.tmp 17) (.tmp 17)⟩,
    ⟨(some 6), none, false, .mov (.tmp 18)⟩]) (.seq (.seq (.ops [
    ⟨(some 19), none, false, .mov (.tmp 0)⟩,
    ⟨(some 20), none, false, .lens false (.tmp 19)⟩,
    ⟨(some 21), none, false, .mov (.const (.int .i64 0))⟩]) (.block 0 (.loop (.seq (.ops [
    ⟨(some 22), none, false, .bin .lss (.tmp 21) (.tmp 20)⟩]) (.seq (.cond (.tmp 22) .skip (.exit 0)) (.seq (.block 1 (.seq (.ops [
    ⟨(some 23), none, false, .iaddr (.tmp 19) (.tmp 21) 1⟩,
    ⟨(some 24), none, false, .load1 (.tmp 23)⟩,
    ⟨(some 8), none, false, .mov (.tmp 24)⟩]) (.seq (.ops [
    ⟨(some 25), none, false, .mov (.tmp 1)⟩,
    ⟨(some 26), none, false, .mov (.tmp 8)⟩,
    ⟨(some 27), none, false, .call fence_marks [(.tmp 25), (.tmp 26)]⟩,
    ⟨(some 9), none, false, .new [.int .i64 0, .int .i64 0, .int .i64 0]⟩,
    ⟨none, none, false, .store (.tmp 9) (.tmp 27) 3⟩]) (.ops [
    ⟨(some 28), none, false, .mov (.tmp 6)⟩,
    ⟨(some 29), none, false, .sla (.tmp 9) none none none 3 1⟩,
    ⟨(some 30), none, false, .call fence_set [(.tmp 28), (.tmp 29)]⟩])))) (.ops [
    ⟨(some 31), none, false, .bin .add (.tmp 21) (.const (.int .i64 1))⟩,
    ⟨(some 21), none, false, .mov (.tmp 31)⟩]))))))) (.seq (.ops [
    ⟨(some 32), none, false, .mov (.tmp 6)⟩,
    ⟨(some 4), none, false, .mov (.tmp 32)⟩,
    ⟨(some 5), none, false, .mov (.const (.int .i64 0))⟩]) .ret)))))
theorem fits_fence_Make : Fits Tryd.prog 1 fence_Make ic_fence_Make [.tmp 4, .tmp 5] 2 :=
  ⟨Tryd.f55, Tryd.func55, by decide, by kernel_rfl, by kernel_rfl⟩

/-- slices.Clone[[]byte,byte] -/
noncomputable def ic_slices_Clone_byte_byte : IC :=
  (.seq (.ops [
    ⟨(some 2), none, false, .mov (.const (.slice none 0 0))⟩]) (.seq (.seq (.ops [
    ⟨(some 3), none, false, .mov (.tmp 0)⟩,
    ⟨(some 4), none, false, .isnil (.slice 5) (.tmp 3) false⟩]) (.cond (.tmp 4) (.seq (.ops [
    ⟨(some 2), none, false, .mov (.const (.slice none 0 0))⟩]) .ret) .skip)) (.seq (.ops [
    ⟨(some 5), none, false, .lit [.int .u8 0] 1 0 []⟩,
    ⟨(some 6), none, false, .mov (.tmp 0)⟩,
    ⟨(some 7), none, false, .app (.tmp 5) (.tmp 6) 1 1⟩,
    ⟨(some 2), none, false, .mov (.tmp 7)⟩]) .ret)))
theorem fits_slices_Clone_byte_byte : Fits Tryd.prog 1 slices_Clone_byte_byte ic_slices_Clone_byte_byte [.tmp 2] 1 :=
  ⟨Tryd.f56, Tryd.func56, by decide, by kernel_rfl, by kernel_rfl⟩

/-- chantry/segment.fix -/
noncomputable def ic_segment_fix : IC :=
  (.seq (.ops [
    ⟨(some 2), none, false, .mov (.const (.slice none 0 0))⟩]) (.seq (.ops [
    ⟨(some 6), none, false, .mov (.tmp 0)⟩,
    ⟨(some 7), none, false, .call num_Fix [(.tmp 6), (.const (.int .i64 4))]⟩,
    ⟨(some 5), none, false, .mov (.tmp 7)⟩,
    ⟨(some 8), none, false, .ext (.tmp 5) 0⟩,
    ⟨(some 9), none, false, .ext (.tmp 5) 1⟩,
    ⟨(some 3), none, false, .mov (.tmp 8)⟩,
    ⟨(some 4), none, false, .mov (.tmp 9)⟩]) (.seq (.ops [
    ⟨(some 10), none, false, .mov (.tmp 3)⟩,
    ⟨(some 2), none, false, .mov (.tmp 10)⟩]) .ret)))
theorem fits_segment_fix : Fits Tryd.prog 1 segment_fix ic_segment_fix [.tmp 2] 1 :=
  ⟨Tryd.f57, Tryd.func57, by decide, by kernel_rfl, by kernel_rfl⟩

/-- slices.Concat[[]byte,byte] -/
noncomputable def ic_slices_Concat_byte_byte : IC :=
  (.seq (.ops [
    ⟨(some 2), none, false, .mov (.const (.slice none 0 0))⟩]) (.seq (.ops [
    ⟨(some 3), none, false, .mov (.const (.int .i64 0))⟩]) (.seq (.seq (.ops [
    ⟨(some 9), none, false, .mov (.tmp 0)⟩,
    ⟨(some 10), none, false, .lens false (.tmp 9)⟩,
    ⟨(some 11), none, false, .mov (.const (.int .i64 0))⟩]) (.block 0 (.loop (.seq (.ops [
    ⟨(some 12), none, false, .bin .lss (.tmp 11) (.tmp 10)⟩]) (.seq (.cond (.tmp 12) .skip (.exit 0)) (.seq (.block 1 (.seq (.ops [
    ⟨(some 13), none, false, .iaddr (.tmp 9) (.tmp 11) 1⟩,
    ⟨(some 14), none, false, .load1 (.tmp 13)⟩,
    ⟨(some 5), none, false, .mov (.tmp 14)⟩]) (.seq (.ops [
    ⟨(some 15), none, false, .mov (.tmp 3)⟩,
    ⟨(some 16), none, false, .mov (.tmp 5)⟩,
    ⟨(some 17), none, false, .lens false (.tmp 16)⟩,
    ⟨(some 18), none, false, .bin .add (.tmp 15) (.tmp 17)⟩,
    ⟨(some 3), none, false, .mov (.tmp 18)⟩]) (.seq (.ops [
    ⟨(some 19), none, false, .mov (.tmp 3)⟩,
    ⟨(some 20), none, false, .bin .lss (.tmp 19) (.const (.int .i64 0))⟩]) (.cond (.tmp 20) (.ops [
    ⟨(some 21), none, false, .ifc 9 (.const (.string ⟨#[108, 101, 110, 32, 111, 117, 116, 32, 111, 102, 32, 114, 97, 110, 103, 101]⟩))⟩,
    ⟨none, none, false, .fail⟩]) .skip))))) (.ops [
    ⟨(some 22), none, false, .bin .add (.tmp 11) (.const (.int .i64 1))⟩,
    ⟨(some 11), none, false, .mov (.tmp 22)⟩]))))))) (.seq (.ops [
    ⟨(some 23), none, false, .mov (.tmp 3)⟩,
    ⟨(some 24), none, false, .call slices_Grow_byte_byte [(.const (.slice none 0 0)), (.tmp 23)]⟩,
    ⟨(some 6), none, false, .mov (.tmp 24)⟩]) (.seq (.seq (.ops [
    ⟨(some 25), none, false, .mov (.tmp 0)⟩,
    ⟨(some 26), none, false, .lens false (.tmp 25)⟩,
    ⟨(some 27), none, false, .mov (.const (.int .i64 0))⟩]) (.block 2 (.loop (.seq (.ops [
    ⟨(some 28), none, false, .bin .lss (.tmp 27) (.tmp 26)⟩]) (.seq (.cond (.tmp 28) .skip (.exit 2)) (.seq (.block 3 (.seq (.ops [
    ⟨(some 29), none, false, .iaddr (.tmp 25) (.tmp 27) 1⟩,
    ⟨(some 30), none, false, .load1 (.tmp 29)⟩,
    ⟨(some 8), none, false, .mov (.tmp 30)⟩]) (.ops [
    ⟨(some 31), none, false, .mov (.tmp 6)⟩,
    ⟨(some 32), none, false, .mov (.tmp 8)⟩,
    ⟨(some 33), none, false, .app (.tmp 31) (.tmp 32) 1 1⟩,
    ⟨(some 6), none, false, .mov (.tmp 33)⟩]))) (.ops [
    ⟨(some 34), none, false, .bin .add (.tmp 27) (.const (.int .i64 1))⟩,
    ⟨(some 27), none, false, .mov (.tmp 34)⟩]))))))) (.seq (.ops [
    ⟨(some 35), none, false, .mov (.tmp 6)⟩,
    ⟨(some 2), none, false, .mov (.tmp 35)⟩]) .ret))))))
theorem fits_slices_Concat_byte_byte : Fits Tryd.prog 1 slices_Concat_byte_byte ic_slices_Concat_byte_byte [.tmp 2] 1 :=
  ⟨Tryd.f58, Tryd.func58, by decide, by kernel_rfl, by kernel_rfl⟩

/-- chantry/crc.tail -/
noncomputable def ic_crc_tail : IC :=
  (.seq (.ops [
    ⟨(some 2), none, false, .mov (.const (.slice none 0 0))⟩]) (.seq (.ops [
    ⟨(some 8), none, false, .mov (.tmp 0)⟩,
    ⟨(some 9), none, false, .bin .and (.tmp 8) (.const (.int .u32 65535))⟩,
    ⟨(some 10), none, false, .conv .i64 (.tmp 9)⟩,
    ⟨(some 11), none, false, .call num_Fix [(.tmp 10), (.const (.int .i64 2))]⟩,
    ⟨(some 7), none, false, .mov (.tmp 11)⟩,
    ⟨(some 12), none, false, .ext (.tmp 7) 0⟩,
    ⟨(some 13), none, false, .ext (.tmp 7) 1⟩,
    ⟨(some 3), none, false, .mov (.tmp 12)⟩,
    ⟨(some 4), none, false, .mov (.tmp 13)⟩]) (.seq (.ops [
    ⟨(some 15), none, false, .mov (.tmp 0)⟩,
    ⟨(some 16), none, false, .bin .shr (.tmp 15) (.const (.int .u64 16))⟩,
    ⟨(some 17), none, false, .conv .i64 (.tmp 16)⟩,
    ⟨(some 18), none, false, .call num_Fix [(.tmp 17), (.const (.int .i64 2))]⟩,
    ⟨(some 14), none, false, .mov (.tmp 18)⟩,
    ⟨(some 19), none, false, .ext (.tmp 14) 0⟩,
    ⟨(some 20), none, false, .ext (.tmp 14) 1⟩,
    ⟨(some 5), none, false, .mov (.tmp 19)⟩,
    ⟨(some 6), none, false, .mov (.tmp 20)⟩]) (.seq (.ops [
    ⟨(some 21), none, false, .mov (.tmp 3)⟩,
    ⟨(some 22), none, false, .mov (.tmp 5)⟩,
    ⟨(some 23), none, false, .lit [.slice none 0 0] 1 2 [(0, 1, (.tmp 21)), (1, 1, (.tmp 22))]⟩,
    ⟨(some 24), none, false, .call slices_Concat_byte_byte [(.tmp 23)]⟩,
    ⟨(some 2), none, false, .mov (.tmp 24)⟩]) .ret))))
theorem fits_crc_tail : Fits Tryd.prog 1 crc_tail ic_crc_tail [.tmp 2] 1 :=
  ⟨Tryd.f59, Tryd.func59, by decide, by kernel_rfl, by kernel_rfl⟩

/-- chantry/crc.Sum -/
noncomputable def ic_crc_Sum : IC :=
  (.seq (.ops [
    ⟨(some 2), none, false, .mov (.const (.int .u32 0))⟩]) (.seq (.ops [
    ⟨(some 3), none, false, .mov (.tmp 0)⟩,
    ⟨(some 4), none, false, .call crc_More [(.const (.int .u32 0)), (.tmp 3)]⟩,
    ⟨(some 2), none, false, .mov (.tmp 4)⟩]) .ret))
theorem fits_crc_Sum : Fits Tryd.prog 1 crc_Sum ic_crc_Sum [.tmp 2] 1 :=
  ⟨Tryd.f60, Tryd.func60, by decide, by kernel_rfl, by kernel_rfl⟩

/-- chantry/num.is -/
noncomputable def ic_num_is : IC :=
  (.seq (.ops [
    ⟨(some 2), none, false, .mov (.const (.bool false))⟩]) (.seq (.ops [
    ⟨(some 3), none, false, .mov (.tmp 0)⟩,
    ⟨(some 4), none, false, .bin .geq (.tmp 3) (.const (.int .i64 0))⟩,
    ⟨(some 5), none, false, .mov (.tmp 4)⟩,
    ⟨(some 6), (some (5, true)), false, .mov (.tmp 0)⟩,
    ⟨(some 7), (some (5, true)), false, .bin .leq (.tmp 6) (.const (.int .i64 2147483647))⟩,
    ⟨(some 8), none, false, .pick (.tmp 5) (.tmp 7) (.const (.bool false))⟩,
    ⟨(some 2), none, false, .mov (.tmp 8)⟩]) .ret))
theorem fits_num_is : Fits Tryd.prog 1 num_is ic_num_is [.tmp 2] 1 :=
  ⟨Tryd.f64, Tryd.func64, by decide, by kernel_rfl, by kernel_rfl⟩

/-- chantry/frame.Next -/
noncomputable def ic_frame_Next : IC :=
  (.seq (.ops [
    ⟨(some 2), none, false, .mov (.const (.slice none 0 0))⟩,
    ⟨(some 3), none, false, .mov (.const (.int .i64 0))⟩,
    ⟨(some 4), none, false, .mov (.const (.int .i64 0))⟩]) (.seq (.seq (.ops [
    ⟨(some 10), none, false, .mov (.tmp 0)⟩,
    ⟨(some 11), none, false, .lens false (.tmp 10)⟩,
    ⟨(some 12), none, false, .bin .eql (.tmp 11) (.const (.int .i64 0))⟩]) (.cond (.tmp 12) (.seq (.ops [
    ⟨(some 2), none, false, .mov (.const (.slice none 0 0))⟩,
    ⟨(some 3), none, false, .mov (.const (.int .i64 0))⟩,
    ⟨(some 4), none, false, .mov (.const (.int .i64 6))⟩]) .ret) .skip)) (.seq (.ops [
    ⟨(some 14), none, false, .mov (.tmp 0)⟩,
    ⟨(some 15), none, false, .mov (.tmp 0)⟩,
    ⟨(some 16), none, false, .lens false (.tmp 15)⟩,
    ⟨(some 17), none, false, .mn (.const (.int .i64 2)) (.tmp 16)⟩,
    ⟨(some 18), none, false, .sll (.tmp 14) none (some (.tmp 17)) none 1⟩,
    ⟨(some 19), none, false, .call num_Unfix [(.tmp 18)]⟩,
    ⟨(some 13), none, false, .mov (.tmp 19)⟩,
    ⟨(some 20), none, false, .ext (.tmp 13) 0⟩,
    ⟨(some 21), none, false, .ext (.tmp 13) 1⟩,
    ⟨(some 5), none, false, .mov (.tmp 20)⟩,
    ⟨(some 6), none, false, .mov (.tmp 21)⟩]) (.seq (.ops [
    ⟨(some 22), none, false, .mov (.tmp 5)⟩,
    ⟨(some 23), none, false, .call frame_Size [(.tmp 22)]⟩,
    ⟨(some 7), none, false, .mov (.tmp 23)⟩]) (.seq (.seq (.ops [
    ⟨(some 24), none, false, .mov (.tmp 7)⟩,
    ⟨(some 25), none, false, .bin .eql (.tmp 24) (.const (.int .i64 0))⟩,
    ⟨(some 26), none, false, .mov (.tmp 25)⟩,
    ⟨(some 27), (some (26, false)), false, .mov (.tmp 7)⟩,
    ⟨(some 28), (some (26, false)), false, .mov (.tmp 0)⟩,
    ⟨(some 29), (some (26, false)), false, .lens false (.tmp 28)⟩,
    ⟨(some 30), (some (26, false)), false, .bin .gtr (.tmp 27) (.tmp 29)⟩,
    ⟨(some 31), none, false, .pick (.tmp 26) (.const (.bool true)) (.tmp 30)⟩]) (.cond (.tmp 31) (.seq (.ops [
    ⟨(some 2), none, false, .mov (.const (.slice none 0 0))⟩,
    ⟨(some 3), none, false, .mov (.const (.int .i64 0))⟩,
    ⟨(some 4), none, false, .mov (.const (.int .i64 5))⟩]) .ret) .skip)) (.seq (.ops [
    ⟨(some 33), none, false, .mov (.tmp 0)⟩,
    ⟨(some 34), none, false, .mov (.tmp 7)⟩,
    ⟨(some 35), none, false, .sll (.tmp 33) none (some (.tmp 34)) none 1⟩,
    ⟨(some 36), none, false, .call crc_Open [(.tmp 35)]⟩,
    ⟨(some 32), none, false, .mov (.tmp 36)⟩,
    ⟨(some 37), none, false, .ext (.tmp 32) 0⟩,
    ⟨(some 38), none, false, .ext (.tmp 32) 1⟩,
    ⟨(some 8), none, false, .mov (.tmp 37)⟩,
    ⟨(some 9), none, false, .mov (.tmp 38)⟩]) (.seq (.seq (.ops [
    ⟨(some 39), none, false, .mov (.tmp 9)⟩,
    ⟨(some 40), none, false, .bin .neq (.tmp 39) (.const (.int .i64 0))⟩]) (.cond (.tmp 40) (.seq (.ops [
    ⟨(some 2), none, false, .mov (.const (.slice none 0 0))⟩,
    ⟨(some 3), none, false, .mov (.const (.int .i64 0))⟩,
    ⟨(some 4), none, false, .mov (.const (.int .i64 5))⟩]) .ret) .skip)) (.seq (.ops [
    ⟨(some 41), none, false, .mov (.tmp 8)⟩,
    ⟨(some 42), none, false, .sll (.tmp 41) (some (.const (.int .i64 2))) none none 1⟩,
    ⟨(some 43), none, false, .mov (.tmp 7)⟩,
    ⟨(some 2), none, false, .mov (.tmp 42)⟩,
    ⟨(some 3), none, false, .mov (.tmp 43)⟩,
    ⟨(some 4), none, false, .mov (.const (.int .i64 0))⟩]) .ret))))))))
theorem fits_frame_Next : Fits Tryd.prog 1 frame_Next ic_frame_Next [.tmp 2, .tmp 3, .tmp 4] 1 :=
  ⟨Tryd.f65, Tryd.func65, by decide, by kernel_rfl, by kernel_rfl⟩

/-- chantry/fence.may -/
noncomputable def ic_fence_may : IC :=
  (.seq (.ops [
    ⟨(some 2), none, false, .mov (.const (.bool false))⟩]) (.seq (.ops [
    ⟨(some 3), none, false, .mov (.tmp 0)⟩,
    ⟨(some 4), none, false, .bin .geq (.tmp 3) (.const (.int .i64 1))⟩,
    ⟨(some 5), none, false, .mov (.tmp 4)⟩,
    ⟨(some 6), (some (5, true)), false, .mov (.tmp 0)⟩,
    ⟨(some 7), (some (5, true)), false, .bin .leq (.tmp 6) (.const (.int .i64 4096))⟩,
    ⟨(some 8), none, false, .pick (.tmp 5) (.tmp 7) (.const (.bool false))⟩,
    ⟨(some 2), none, false, .mov (.tmp 8)⟩]) .ret))
theorem fits_fence_may : Fits Tryd.prog 1 fence_may ic_fence_may [.tmp 2] 1 :=
  ⟨Tryd.f66, Tryd.func66, by decide, by kernel_rfl, by kernel_rfl⟩

/-- chantry/ids.Right -/
noncomputable def ic_ids_Right : IC :=
  (.seq (.ops [
    ⟨(some 2), none, false, .mov (.const (.bool false))⟩]) (.seq (.ops [
    ⟨(some 3), none, false, .mov (.tmp 0)⟩,
    ⟨(some 4), none, false, .lens true (.tmp 3)⟩,
    ⟨(some 5), none, false, .bin .eql (.tmp 4) (.const (.int .i64 32))⟩,
    ⟨(some 2), none, false, .mov (.tmp 5)⟩]) .ret))
theorem fits_ids_Right : Fits Tryd.prog 1 ids_Right ic_ids_Right [.tmp 2] 1 :=
  ⟨Tryd.f67, Tryd.func67, by decide, by kernel_rfl, by kernel_rfl⟩

/-- chantry/fence.marks -/
noncomputable def ic_fence_marks : IC :=
  (.seq (.ops [
    ⟨(some 4), none, false, .new [.int .i64 0, .int .i64 0, .int .i64 0]⟩]) (.seq (.ops [
    ⟨(some 5), none, false, .new [.int .i64 0, .int .i64 0, .int .i64 0]⟩]) (.seq (.seq (.ops [
    ⟨(some 9), none, false, .mov (.const (.int .i64 0))⟩]) (.block 0 (.loop (.seq (.ops [
    ⟨(some 10), none, false, .bin .lss (.tmp 9) (.const (.int .i64 3))⟩]) (.seq (.cond (.tmp 10) .skip (.exit 0)) (.seq (.block 1 (.seq (.ops [
    ⟨(some 11), none, false, .mov (.tmp 9)⟩,
    ⟨(some 6), none, false, .mov (.tmp 11)⟩]) (.seq (.ops [
    ⟨(some 13), none, false, .mov (.tmp 1)⟩,
    ⟨(some 14), none, false, .mov (.tmp 6)⟩,
    ⟨(some 15), none, false, .bin .mul (.const (.int .i64 3)) (.tmp 14)⟩,
    ⟨(some 16), none, false, .mov (.tmp 6)⟩,
    ⟨(some 17), none, false, .bin .add (.tmp 16) (.const (.int .i64 1))⟩,
    ⟨(some 18), none, false, .bin .mul (.const (.int .i64 3)) (.tmp 17)⟩,
    ⟨(some 19), none, false, .sls (.tmp 13) (some (.tmp 15)) (some (.tmp 18))⟩,
    ⟨(some 20), none, false, .s2b (.tmp 19)⟩,
    ⟨(some 21), none, false, .call num_Unfix [(.tmp 20)]⟩,
    ⟨(some 12), none, false, .mov (.tmp 21)⟩,
    ⟨(some 22), none, false, .ext (.tmp 12) 0⟩,
    ⟨(some 23), none, false, .ext (.tmp 12) 1⟩,
    ⟨(some 7), none, false, .mov (.tmp 22)⟩,
    ⟨(some 8), none, false, .mov (.tmp 23)⟩]) (.ops [
    ⟨(some 24), none, false, .mov (.tmp 6)⟩,
    ⟨(some 25), none, false, .mov (.tmp 7)⟩,
    ⟨(some 26), none, false, .mov (.tmp 0)⟩,
    ⟨(some 27), none, false, .bin .mul (.const (.int .i64 8)) (.tmp 26)⟩,
    ⟨(some 28), none, false, .bin .rem (.tmp 25) (.tmp 27)⟩,
    ⟨(some 29), none, false, .iarr (.tmp 5) (.tmp 24) 3 1⟩,
    ⟨none, none, false, .store (.tmp 29) (.tmp 28) 1⟩])))) (.ops [
    ⟨(some 30), none, false, .bin .add (.tmp 9) (.const (.int .i64 1))⟩,
    ⟨(some 9), none, false, .mov (.tmp 30)⟩]))))))) (.seq (.ops [
    ⟨(some 31), none, false, .loadn (.tmp 5) 3⟩,
    ⟨none, none, false, .store (.tmp 4) (.tmp 31) 3⟩]) .ret))))
theorem fits_fence_marks : Fits Tryd.prog 1 fence_marks ic_fence_marks [.many 4 3] 2 :=
  ⟨Tryd.f68, Tryd.func68, by decide, by kernel_rfl, by kernel_rfl⟩

/-- cmp.isNaN[string] -/
noncomputable def ic_cmp_isNaN_string : IC :=
  (.seq (.ops [
    ⟨(some 2), none, false, .mov (.const (.bool false))⟩]) (.seq (.ops [
    ⟨(some 3), none, false, .mov (.tmp 0)⟩,
    ⟨(some 4), none, false, .mov (.tmp 0)⟩,
    ⟨(some 5), none, false, .bin .neq (.tmp 3) (.tmp 4)⟩,
    ⟨(some 2), none, false, .mov (.tmp 5)⟩]) .ret))
theorem fits_cmp_isNaN_string : Fits Tryd.prog 1 cmp_isNaN_string ic_cmp_isNaN_string [.tmp 2] 1 :=
  ⟨Tryd.f69, Tryd.func69, by decide, by kernel_rfl, by kernel_rfl⟩

/-- chantry/chantryref03.schedule -/
noncomputable def ic_chantryref03_schedule : IC :=
  (.seq (.ops [
    ⟨(some 2), none, false, .mov (.const (.slice none 0 0))⟩]) (.seq (.ops [
    ⟨(some 3), none, false, .mov (.const (.slice none 0 0))⟩]) (.seq (.seq (.ops [
    ⟨(some 4), none, false, .mov (.const (.int .i64 0))⟩]) (.block 0 (.loop (.seq (.seq (.ops [
    ⟨(some 10), none, false, .mov (.tmp 4)⟩,
    ⟨(some 11), none, false, .bin .lss (.tmp 10) (.const (.int .i64 16))⟩]) (.cond (.tmp 11) .skip (.exit 0))) (.seq (.block 1 (.ops [
    ⟨(some 14), none, false, .mov (.tmp 3)⟩,
    ⟨(some 15), none, false, .mov (.tmp 0)⟩,
    ⟨(some 16), none, false, .mov (.tmp 4)⟩,
    ⟨(some 17), none, false, .bin .mul (.const (.int .i64 4)) (.tmp 16)⟩,
    ⟨(some 18), none, false, .sll (.tmp 15) (some (.tmp 17)) none none 1⟩,
    ⟨(some 19), none, false, .call chantryref03_word [(.tmp 18)]⟩,
    ⟨(some 20), none, false, .lit [.int .u32 0] 1 1 [(0, 1, (.tmp 19))]⟩,
    ⟨(some 21), none, false, .app (.tmp 14) (.tmp 20) 1 4⟩,
    ⟨(some 3), none, false, .mov (.tmp 21)⟩])) (.ops [
    ⟨(some 12), none, false, .mov (.tmp 4)⟩,
    ⟨(some 13), none, false, .bin .add (.tmp 12) (.const (.int .i64 1))⟩,
    ⟨(some 4), none, false, .mov (.tmp 13)⟩])))))) (.seq (.seq (.ops [
    ⟨(some 5), none, false, .mov (.const (.int .i64 16))⟩]) (.block 2 (.loop (.seq (.seq (.ops [
    ⟨(some 22), none, false, .mov (.tmp 5)⟩,
    ⟨(some 23), none, false, .bin .lss (.tmp 22) (.const (.int .i64 64))⟩]) (.cond (.tmp 23) .skip (.exit 2))) (.seq (.block 3 (.seq (.draw [
    ⟨(some 26), none, false, .mov (.tmp 3)⟩,
    ⟨(some 27), none, false, .mov (.tmp 5)⟩,
    ⟨(some 28), none, false, .bin .sub (.tmp 27) (.const (.int .i64 15))⟩,
    ⟨(some 29), none, false, .iaddr (.tmp 26) (.tmp 28) 1⟩,
    ⟨(some 30), none, false, .load1 (.tmp 29)⟩,
    ⟨(some 31), none, false, .mov (.tmp 3)⟩,
    ⟨(some 32), none, false, .mov (.tmp 5)⟩,
    ⟨(some 33), none, false, .bin .sub (.tmp 32) (.const (.int .i64 2))⟩,
    ⟨(some 34), none, false, .iaddr (.tmp 31) (.tmp 33) 1⟩,
    ⟨(some 35), none, false, .load1 (.tmp 34)⟩,
    ⟨(some 6), none, false, .mov (.tmp 30)⟩,
    ⟨(some 7), none, false, .mov (.tmp 35)⟩]) (.seq (.ops [
    ⟨(some 36), none, false, .mov (.tmp 6)⟩,
    ⟨(some 37), none, false, .call chantryref03_turn [(.tmp 36), (.const (.int .u32 7))]⟩,
    ⟨(some 38), none, false, .mov (.tmp 6)⟩,
    ⟨(some 39), none, false, .call chantryref03_turn [(.tmp 38), (.const (.int .u32 18))]⟩,
    ⟨(some 40), none, false, .bin .xor (.tmp 37) (.tmp 39)⟩,
    ⟨(some 41), none, false, .mov (.tmp 6)⟩,
    ⟨(some 42), none, false, .bin .shr (.tmp 41) (.const (.int .u64 3))⟩,
    ⟨(some 43), none, false, .bin .xor (.tmp 40) (.tmp 42)⟩,
    ⟨(some 8), none, false, .mov (.tmp 43)⟩]) (.seq (.ops [
    ⟨(some 44), none, false, .mov (.tmp 7)⟩,
    ⟨(some 45), none, false, .call chantryref03_turn [(.tmp 44), (.const (.int .u32 17))]⟩,
    ⟨(some 46), none, false, .mov (.tmp 7)⟩,
    ⟨(some 47), none, false, .call chantryref03_turn [(.tmp 46), (.const (.int .u32 19))]⟩,
    ⟨(some 48), none, false, .bin .xor (.tmp 45) (.tmp 47)⟩,
    ⟨(some 49), none, false, .mov (.tmp 7)⟩,
    ⟨(some 50), none, false, .bin .shr (.tmp 49) (.const (.int .u64 10))⟩,
    ⟨(some 51), none, false, .bin .xor (.tmp 48) (.tmp 50)⟩,
    ⟨(some 9), none, false, .mov (.tmp 51)⟩]) (.draw [
    ⟨(some 52), none, false, .mov (.tmp 3)⟩,
    ⟨(some 53), none, false, .mov (.tmp 3)⟩,
    ⟨(some 54), none, false, .mov (.tmp 5)⟩,
    ⟨(some 55), none, false, .bin .sub (.tmp 54) (.const (.int .i64 16))⟩,
    ⟨(some 56), none, false, .iaddr (.tmp 53) (.tmp 55) 1⟩,
    ⟨(some 57), none, false, .load1 (.tmp 56)⟩,
    ⟨(some 58), none, false, .mov (.tmp 8)⟩,
    ⟨(some 59), none, false, .bin .add (.tmp 57) (.tmp 58)⟩,
    ⟨(some 60), none, false, .mov (.tmp 3)⟩,
    ⟨(some 61), none, false, .mov (.tmp 5)⟩,
    ⟨(some 62), none, false, .bin .sub (.tmp 61) (.const (.int .i64 7))⟩,
    ⟨(some 63), none, false, .iaddr (.tmp 60) (.tmp 62) 1⟩,
    ⟨(some 64), none, false, .load1 (.tmp 63)⟩,
    ⟨(some 65), none, false, .bin .add (.tmp 59) (.tmp 64)⟩,
    ⟨(some 66), none, false, .mov (.tmp 9)⟩,
    ⟨(some 67), none, false, .bin .add (.tmp 65) (.tmp 66)⟩,
    ⟨(some 68), none, false, .lit [.int .u32 0] 1 1 [(0, 1, (.tmp 67))]⟩,
    ⟨(some 69), none, false, .app (.tmp 52) (.tmp 68) 1 4⟩,
    ⟨(some 3), none, false, .mov (.tmp 69)⟩]))))) (.ops [
    ⟨(some 24), none, false, .mov (.tmp 5)⟩,
    ⟨(some 25), none, false, .bin .add (.tmp 24) (.const (.int .i64 1))⟩,
    ⟨(some 5), none, false, .mov (.tmp 25)⟩])))))) (.seq (.ops [
    ⟨(some 70), none, false, .mov (.tmp 3)⟩,
    ⟨(some 2), none, false, .mov (.tmp 70)⟩]) .ret)))))
theorem fits_chantryref03_schedule : Fits Tryd.prog 1 chantryref03_schedule ic_chantryref03_schedule [.tmp 2] 1 :=
  ⟨Tryd.f70, Tryd.func70, by decide, by kernel_rfl, by kernel_rfl⟩

/-- chantry/chantryref03.turn -/
noncomputable def ic_chantryref03_turn : IC :=
  (.seq (.ops [
    ⟨(some 4), none, false, .mov (.const (.int .u32 0))⟩]) (.seq (.ops [
    ⟨(some 5), none, false, .mov (.tmp 0)⟩,
    ⟨(some 6), none, false, .mov (.tmp 1)⟩,
    ⟨(some 7), none, false, .bin .shr (.tmp 5) (.tmp 6)⟩,
    ⟨(some 8), none, false, .mov (.tmp 0)⟩,
    ⟨(some 9), none, false, .mov (.tmp 1)⟩,
    ⟨(some 10), none, false, .bin .sub (.const (.int .u32 32)) (.tmp 9)⟩,
    ⟨(some 11), none, false, .bin .shl (.tmp 8) (.tmp 10)⟩,
    ⟨(some 12), none, false, .bin .or (.tmp 7) (.tmp 11)⟩,
    ⟨(some 4), none, false, .mov (.tmp 12)⟩]) .ret))
theorem fits_chantryref03_turn : Fits Tryd.prog 1 chantryref03_turn ic_chantryref03_turn [.tmp 4] 2 :=
  ⟨Tryd.f71, Tryd.func71, by decide, by kernel_rfl, by kernel_rfl⟩

/-- chantry/sha.Begin -/
noncomputable def ic_sha_Begin : IC :=
  (.seq (.ops [
    ⟨(some 0), none, false, .mov (.const (.pointer none))⟩]) (.seq (.ops [
    ⟨(some 1), none, false, .build [.int .u32 0, .int .u32 0, .int .u32 0, .int .u32 0, .int .u32 0, .int .u32 0, .int .u32 0, .int .u32 0] [(0, 1, (.const (.int .u32 1779033703))), (1, 1, (.const (.int .u32 3144134277))), (2, 1, (.const (.int .u32 1013904242))), (3, 1, (.const (.int .u32 2773480762))), (4, 1, (.const (.int .u32 1359893119))), (5, 1, (.const (.int .u32 2600822924))), (6, 1, (.const (.int .u32 528734635))), (7, 1, (.const (.int .u32 1541459225)))]⟩,
    ⟨(some 2), none, false, .build [.int .u32 0, .int .u32 0, .int .u32 0, .int .u32 0, .int .u32 0, .int .u32 0, .int .u32 0, .int .u32 0, .slice none 0 0, .int .i64 0] [(0, 8, (.tmp 1))]⟩,
    ⟨(some 3), none, false, .box (.tmp 2)⟩,
    ⟨(some 0), none, false, .mov (.tmp 3)⟩]) .ret))
theorem fits_sha_Begin : Fits Tryd.prog 1 sha_Begin ic_sha_Begin [.tmp 0] 0 :=
  ⟨Tryd.f72, Tryd.func72, by decide, by kernel_rfl, by kernel_rfl⟩

/-- (*chantry/sha.Hash).Add -/
noncomputable def ic_sha_Hash_Add : IC :=
  (.seq (.seq (.ops [
    ⟨(some 5), none, false, .mov (.tmp 0)⟩,
    ⟨(some 6), none, false, .isnil (.pointer 107) (.tmp 5) false⟩]) (.cond (.tmp 6) .ret .skip)) (.seq (.ops [
    ⟨(some 7), none, false, .mov (.tmp 0)⟩,
    ⟨(some 8), none, false, .nilc (.tmp 7)⟩,
    ⟨(some 9), none, false, .faddr (.tmp 8) 9⟩,
    ⟨(some 10), none, false, .load1 (.tmp 9)⟩,
    ⟨(some 11), none, false, .mov (.tmp 1)⟩,
    ⟨(some 12), none, false, .lens false (.tmp 11)⟩,
    ⟨(some 13), none, false, .bin .add (.tmp 10) (.tmp 12)⟩,
    ⟨(some 14), none, false, .nilc (.tmp 7)⟩,
    ⟨(some 15), none, false, .faddr (.tmp 14) 9⟩,
    ⟨none, none, false, .store (.tmp 15) (.tmp 13) 1⟩]) (.seq (.ops [
    ⟨(some 16), none, false, .mov (.tmp 0)⟩,
    ⟨(some 17), none, false, .nilc (.tmp 16)⟩,
    ⟨(some 18), none, false, .faddr (.tmp 17) 8⟩,
    ⟨(some 19), none, false, .load1 (.tmp 18)⟩,
    ⟨(some 20), none, false, .mov (.tmp 1)⟩,
    ⟨(some 21), none, false, .lit [.slice none 0 0] 1 2 [(0, 1, (.tmp 19)), (1, 1, (.tmp 20))]⟩,
    ⟨(some 22), none, false, .call slices_Concat_byte_byte [(.tmp 21)]⟩,
    ⟨(some 4), none, false, .mov (.tmp 22)⟩]) (.seq (.block 0 (.loop (.seq (.seq (.ops [
    ⟨(some 23), none, false, .mov (.tmp 4)⟩,
    ⟨(some 24), none, false, .lens false (.tmp 23)⟩,
    ⟨(some 25), none, false, .bin .geq (.tmp 24) (.const (.int .i64 64))⟩]) (.cond (.tmp 25) .skip (.exit 0))) (.block 1 (.seq (.ops [
    ⟨(some 26), none, false, .mov (.tmp 0)⟩,
    ⟨(some 27), none, false, .mov (.tmp 4)⟩,
    ⟨(some 28), none, false, .sll (.tmp 27) none (some (.const (.int .i64 64))) none 1⟩,
    ⟨(some 29), none, false, .call sha_Hash_mix [(.tmp 26), (.tmp 28)]⟩]) (.ops [
    ⟨(some 30), none, false, .mov (.tmp 4)⟩,
    ⟨(some 31), none, false, .sll (.tmp 30) (some (.const (.int .i64 64))) none none 1⟩,
    ⟨(some 4), none, false, .mov (.tmp 31)⟩])))))) (.ops [
    ⟨(some 32), none, false, .mov (.tmp 0)⟩,
    ⟨(some 33), none, false, .mov (.tmp 4)⟩,
    ⟨(some 34), none, false, .call slices_Clone_byte_byte [(.tmp 33)]⟩,
    ⟨(some 35), none, false, .nilc (.tmp 32)⟩,
    ⟨(some 36), none, false, .faddr (.tmp 35) 8⟩,
    ⟨none, none, false, .store (.tmp 36) (.tmp 34) 1⟩])))))
theorem fits_sha_Hash_Add : Fits Tryd.prog 1 sha_Hash_Add ic_sha_Hash_Add [] 2 :=
  ⟨Tryd.f73, Tryd.func73, by decide, by kernel_rfl, by kernel_rfl⟩

/-- (*chantry/sha.Hash).Sum -/
noncomputable def ic_sha_Hash_Sum : IC :=
  (.seq (.ops [
    ⟨(some 2), none, false, .mov (.const (.string ⟨#[]⟩))⟩]) (.seq (.seq (.ops [
    ⟨(some 7), none, false, .mov (.tmp 0)⟩,
    ⟨(some 8), none, false, .isnil (.pointer 107) (.tmp 7) false⟩]) (.cond (.tmp 8) (.seq (.ops [
    ⟨(some 2), none, false, .mov (.const (.string ⟨#[]⟩))⟩]) .ret) .skip)) (.seq (.ops [
    ⟨(some 9), none, false, .mov (.tmp 0)⟩,
    ⟨(some 10), none, false, .nilc (.tmp 9)⟩,
    ⟨(some 11), none, false, .loadn (.tmp 10) 10⟩,
    ⟨(some 3), none, false, .new [.int .u32 0, .int .u32 0, .int .u32 0, .int .u32 0, .int .u32 0, .int .u32 0, .int .u32 0, .int .u32 0, .slice none 0 0, .int .i64 0]⟩,
    ⟨none, none, false, .store (.tmp 3) (.tmp 11) 10⟩]) (.seq (.ops [
    ⟨(some 12), none, false, .mov (.tmp 0)⟩,
    ⟨(some 13), none, false, .call sha_Hash_end [(.tmp 12)]⟩,
    ⟨(some 14), none, false, .call sha_Hash_Add [(.tmp 3), (.tmp 13)]⟩]) (.seq (.ops [
    ⟨(some 4), none, false, .mov (.const (.slice none 0 0))⟩]) (.seq (.seq (.ops [
    ⟨(some 15), none, false, .faddr (.tmp 3) 0⟩,
    ⟨(some 16), none, false, .loadn (.tmp 15) 8⟩,
    ⟨(some 17), none, false, .mov (.const (.int .i64 0))⟩]) (.block 0 (.loop (.seq (.ops [
    ⟨(some 18), none, false, .bin .lss (.tmp 17) (.const (.int .i64 8))⟩]) (.seq (.cond (.tmp 18) .skip (.exit 0)) (.seq (.block 1 (.seq (.ops [
    ⟨(some 19), none, false, .idxa1 (.tmp 16) (.tmp 17) 8⟩,
    ⟨(some 6), none, false, .mov (.tmp 19)⟩]) (.ops [
    ⟨(some 20), none, false, .mov (.tmp 4)⟩,
    ⟨(some 21), none, false, .mov (.tmp 6)⟩,
    ⟨(some 22), none, false, .bin .shr (.tmp 21) (.const (.int .u64 24))⟩,
    ⟨(some 23), none, false, .conv .u8 (.tmp 22)⟩,
    ⟨(some 24), none, false, .mov (.tmp 6)⟩,
    ⟨(some 25), none, false, .bin .shr (.tmp 24) (.const (.int .u64 16))⟩,
    ⟨(some 26), none, false, .conv .u8 (.tmp 25)⟩,
    ⟨(some 27), none, false, .mov (.tmp 6)⟩,
    ⟨(some 28), none, false, .bin .shr (.tmp 27) (.const (.int .u64 8))⟩,
    ⟨(some 29), none, false, .conv .u8 (.tmp 28)⟩,
    ⟨(some 30), none, false, .mov (.tmp 6)⟩,
    ⟨(some 31), none, false, .conv .u8 (.tmp 30)⟩,
    ⟨(some 32), none, false, .lit [.int .u8 0] 1 4 [(0, 1, (.tmp 23)), (1, 1, (.tmp 26)), (2, 1, (.tmp 29)), (3, 1, (.tmp 31))]⟩,
    ⟨(some 33), none, false, .app (.tmp 20) (.tmp 32) 1 1⟩,
    ⟨(some 4), none, false, .mov (.tmp 33)⟩]))) (.ops [
    ⟨(some 34), none, false, .bin .add (.tmp 17) (.const (.int .i64 1))⟩,
    ⟨(some 17), none, false, .mov (.tmp 34)⟩]))))))) (.seq (.ops [
    ⟨(some 35), none, false, .mov (.tmp 4)⟩,
    ⟨(some 36), none, false, .b2s (.tmp 35)⟩,
    ⟨(some 2), none, false, .mov (.tmp 36)⟩]) .ret)))))))
theorem fits_sha_Hash_Sum : Fits Tryd.prog 1 sha_Hash_Sum ic_sha_Hash_Sum [.tmp 2] 1 :=
  ⟨Tryd.f74, Tryd.func74, by decide, by kernel_rfl, by kernel_rfl⟩

/-- slices.stableCmpFunc[chantry/api.Item] -/
noncomputable def ic_api_Item_75 : IC :=
  (.seq (.ops [
    ⟨(some 6), none, false, .mov (.const (.int .i64 20))⟩]) (.seq (.ops [
    ⟨(some 10), none, false, .mov (.tmp 6)⟩,
    ⟨(some 7), none, false, .mov (.const (.int .i64 0))⟩,
    ⟨(some 8), none, false, .mov (.tmp 10)⟩]) (.seq (.block 0 (.loop (.seq (.seq (.ops [
    ⟨(some 11), none, false, .mov (.tmp 8)⟩,
    ⟨(some 12), none, false, .mov (.tmp 1)⟩,
    ⟨(some 13), none, false, .bin .leq (.tmp 11) (.tmp 12)⟩]) (.cond (.tmp 13) .skip (.exit 0))) (.block 1 (.seq (.ops [
    ⟨(some 14), none, false, .mov (.tmp 0)⟩,
    ⟨(some 15), none, false, .mov (.tmp 7)⟩,
    ⟨(some 16), none, false, .mov (.tmp 8)⟩,
    ⟨(some 17), none, false, .mov (.tmp 2)⟩,
    ⟨(some 18), none, false, .call api_Item_85 [(.tmp 14), (.tmp 15), (.tmp 16), (.tmp 17)]⟩]) (.seq (.ops [
    ⟨(some 19), none, false, .mov (.tmp 8)⟩,
    ⟨(some 7), none, false, .mov (.tmp 19)⟩]) (.ops [
    ⟨(some 20), none, false, .mov (.tmp 8)⟩,
    ⟨(some 21), none, false, .mov (.tmp 6)⟩,
    ⟨(some 22), none, false, .bin .add (.tmp 20) (.tmp 21)⟩,
    ⟨(some 8), none, false, .mov (.tmp 22)⟩]))))))) (.seq (.ops [
    ⟨(some 23), none, false, .mov (.tmp 0)⟩,
    ⟨(some 24), none, false, .mov (.tmp 7)⟩,
    ⟨(some 25), none, false, .mov (.tmp 1)⟩,
    ⟨(some 26), none, false, .mov (.tmp 2)⟩,
    ⟨(some 27), none, false, .call api_Item_85 [(.tmp 23), (.tmp 24), (.tmp 25), (.tmp 26)]⟩]) (.block 2 (.loop (.seq (.seq (.ops [
    ⟨(some 28), none, false, .mov (.tmp 6)⟩,
    ⟨(some 29), none, false, .mov (.tmp 1)⟩,
    ⟨(some 30), none, false, .bin .lss (.tmp 28) (.tmp 29)⟩]) (.cond (.tmp 30) .skip (.exit 2))) (.block 3 (.seq (.ops [
    ⟨(some 31), none, false, .mov (.tmp 6)⟩,
    ⟨(some 32), none, false, .bin .mul (.const (.int .i64 2)) (.tmp 31)⟩,
    ⟨(some 7), none, false, .mov (.const (.int .i64 0))⟩,
    ⟨(some 8), none, false, .mov (.tmp 32)⟩]) (.seq (.block 4 (.loop (.seq (.seq (.ops [
    ⟨(some 33), none, false, .mov (.tmp 8)⟩,
    ⟨(some 34), none, false, .mov (.tmp 1)⟩,
    ⟨(some 35), none, false, .bin .leq (.tmp 33) (.tmp 34)⟩]) (.cond (.tmp 35) .skip (.exit 4))) (.block 5 (.seq (.ops [
    ⟨(some 36), none, false, .mov (.tmp 0)⟩,
    ⟨(some 37), none, false, .mov (.tmp 7)⟩,
    ⟨(some 38), none, false, .mov (.tmp 7)⟩,
    ⟨(some 39), none, false, .mov (.tmp 6)⟩,
    ⟨(some 40), none, false, .bin .add (.tmp 38) (.tmp 39)⟩,
    ⟨(some 41), none, false, .mov (.tmp 8)⟩,
    ⟨(some 42), none, false, .mov (.tmp 2)⟩,
    ⟨(some 43), none, false, .call api_Item_86 [(.tmp 36), (.tmp 37), (.tmp 40), (.tmp 41), (.tmp 42)]⟩]) (.seq (.ops [
    ⟨(some 44), none, false, .mov (.tmp 8)⟩,
    ⟨(some 7), none, false, .mov (.tmp 44)⟩]) (.ops [
    ⟨(some 45), none, false, .mov (.tmp 8)⟩,
    ⟨(some 46), none, false, .mov (.tmp 6)⟩,
    ⟨(some 47), none, false, .bin .mul (.const (.int .i64 2)) (.tmp 46)⟩,
    ⟨(some 48), none, false, .bin .add (.tmp 45) (.tmp 47)⟩,
    ⟨(some 8), none, false, .mov (.tmp 48)⟩]))))))) (.seq (.seq (.ops [
    ⟨(some 49), none, false, .mov (.tmp 7)⟩,
    ⟨(some 50), none, false, .mov (.tmp 6)⟩,
    ⟨(some 51), none, false, .bin .add (.tmp 49) (.tmp 50)⟩,
    ⟨(some 9), none, false, .mov (.tmp 51)⟩]) (.seq (.ops [
    ⟨(some 52), none, false, .mov (.tmp 9)⟩,
    ⟨(some 53), none, false, .mov (.tmp 1)⟩,
    ⟨(some 54), none, false, .bin .lss (.tmp 52) (.tmp 53)⟩]) (.cond (.tmp 54) (.ops [
    ⟨(some 55), none, false, .mov (.tmp 0)⟩,
    ⟨(some 56), none, false, .mov (.tmp 7)⟩,
    ⟨(some 57), none, false, .mov (.tmp 9)⟩,
    ⟨(some 58), none, false, .mov (.tmp 1)⟩,
    ⟨(some 59), none, false, .mov (.tmp 2)⟩,
    ⟨(some 60), none, false, .call api_Item_86 [(.tmp 55), (.tmp 56), (.tmp 57), (.tmp 58), (.tmp 59)]⟩]) .skip))) (.ops [
    ⟨(some 61), none, false, .mov (.tmp 6)⟩,
    ⟨(some 62), none, false, .bin .mul (.tmp 61) (.const (.int .i64 2))⟩,
    ⟨(some 6), none, false, .mov (.tmp 62)⟩]))))))))))))
theorem fits_api_Item_75 : Fits Tryd.prog 1 api_Item_75 ic_api_Item_75 [] 3 :=
  ⟨Tryd.f75, Tryd.func75, by decide, by kernel_rfl, by kernel_rfl⟩

/-- slices.ContainsFunc[[]string,string] -/
noncomputable def ic_slices_ContainsFunc_string_string : IC :=
  (.seq (.ops [
    ⟨(some 4), none, false, .mov (.const (.bool false))⟩]) (.seq (.ops [
    ⟨(some 5), none, false, .mov (.tmp 0)⟩,
    ⟨(some 6), none, false, .mov (.tmp 1)⟩,
    ⟨(some 7), none, false, .call slices_IndexFunc_string_string [(.tmp 5), (.tmp 6)]⟩,
    ⟨(some 8), none, false, .bin .geq (.tmp 7) (.const (.int .i64 0))⟩,
    ⟨(some 4), none, false, .mov (.tmp 8)⟩]) .ret))
theorem fits_slices_ContainsFunc_string_string : Fits Tryd.prog 1 slices_ContainsFunc_string_string ic_slices_ContainsFunc_string_string [.tmp 4] 2 :=
  ⟨Tryd.f76, Tryd.func76, by decide, by kernel_rfl, by kernel_rfl⟩

/-- chantry/fence.Make$1 -/
noncomputable def ic_fence_Make_1 : IC :=
  (.seq (.ops [
    ⟨(some 2), none, false, .mov (.const (.bool false))⟩]) (.seq (.ops [
    ⟨(some 3), none, false, .mov (.tmp 0)⟩,
    ⟨(some 4), none, false, .call ids_Right [(.tmp 3)]⟩,
    ⟨(some 5), none, false, .un .not (.tmp 4)⟩,
    ⟨(some 2), none, false, .mov (.tmp 5)⟩]) .ret))
theorem fits_fence_Make_1 : Fits Tryd.prog 1 fence_Make_1 ic_fence_Make_1 [.tmp 2] 1 :=
  ⟨Tryd.f77, Tryd.func77, by decide, by kernel_rfl, by kernel_rfl⟩

/-- chantry/fence.set -/
noncomputable def ic_fence_set : IC :=
  (.seq (.ops [
    ⟨(some 6), none, false, .mov (.tmp 1)⟩,
    ⟨(some 7), none, false, .lens false (.tmp 6)⟩,
    ⟨(some 8), none, false, .mov (.const (.int .i64 0))⟩]) (.block 0 (.loop (.seq (.ops [
    ⟨(some 9), none, false, .bin .lss (.tmp 8) (.tmp 7)⟩]) (.seq (.cond (.tmp 9) .skip (.exit 0)) (.seq (.block 1 (.seq (.ops [
    ⟨(some 10), none, false, .iaddr (.tmp 6) (.tmp 8) 1⟩,
    ⟨(some 11), none, false, .load1 (.tmp 10)⟩,
    ⟨(some 5), none, false, .mov (.tmp 11)⟩]) (.draw [
    ⟨(some 12), none, false, .mov (.tmp 0)⟩,
    ⟨(some 13), none, false, .mov (.tmp 5)⟩,
    ⟨(some 14), none, false, .bin .quo (.tmp 13) (.const (.int .i64 8))⟩,
    ⟨(some 15), none, false, .iaddr (.tmp 12) (.tmp 14) 1⟩,
    ⟨(some 16), none, false, .load1 (.tmp 15)⟩,
    ⟨(some 17), none, false, .mov (.tmp 5)⟩,
    ⟨(some 18), none, false, .bin .rem (.tmp 17) (.const (.int .i64 8))⟩,
    ⟨(some 19), none, false, .bin .shl (.const (.int .u8 1)) (.tmp 18)⟩,
    ⟨(some 20), none, false, .bin .or (.tmp 16) (.tmp 19)⟩,
    ⟨(some 21), none, false, .iaddr (.tmp 12) (.tmp 14) 1⟩,
    ⟨none, none, false, .store (.tmp 21) (.tmp 20) 1⟩]))) (.ops [
    ⟨(some 22), none, false, .bin .add (.tmp 8) (.const (.int .i64 1))⟩,
    ⟨(some 8), none, false, .mov (.tmp 22)⟩])))))))
theorem fits_fence_set : Fits Tryd.prog 1 fence_set ic_fence_set [] 2 :=
  ⟨Tryd.f78, Tryd.func78, by decide, by kernel_rfl, by kernel_rfl⟩

/-- slices.Grow[[]byte,byte] -/
noncomputable def ic_slices_Grow_byte_byte : IC :=
  (.seq (.ops [
    ⟨(some 4), none, false, .mov (.const (.slice none 0 0))⟩]) (.seq (.seq (.ops [
    ⟨(some 5), none, false, .mov (.tmp 1)⟩,
    ⟨(some 6), none, false, .bin .lss (.tmp 5) (.const (.int .i64 0))⟩]) (.cond (.tmp 6) (.ops [
    ⟨(some 7), none, false, .ifc 9 (.const (.string ⟨#[99, 97, 110, 110, 111, 116, 32, 98, 101, 32, 110, 101, 103, 97, 116, 105, 118, 101]⟩))⟩,
    ⟨none, none, false, .fail⟩]) .skip)) (.seq (.seq (.ops [
    ⟨(some 8), none, false, .mov (.tmp 1)⟩,
    ⟨(some 9), none, false, .mov (.tmp 0)⟩,
    ⟨(some 10), none, false, .capn (.tmp 9)⟩,
    ⟨(some 11), none, false, .mov (.tmp 0)⟩,
    ⟨(some 12), none, false, .lens false (.tmp 11)⟩,
    ⟨(some 13), none, false, .bin .sub (.tmp 10) (.tmp 12)⟩,
    ⟨(some 14), none, false, .bin .sub (.tmp 8) (.tmp 13)⟩,
    ⟨(some 1), none, false, .mov (.tmp 14)⟩]) (.seq (.ops [
    ⟨(some 15), none, false, .mov (.tmp 1)⟩,
    ⟨(some 16), none, false, .bin .gtr (.tmp 15) (.const (.int .i64 0))⟩]) (.cond (.tmp 16) (.ops [
    ⟨(some 17), none, false, .mov (.tmp 0)⟩,
    ⟨(some 18), none, false, .mov (.tmp 0)⟩,
    ⟨(some 19), none, false, .capn (.tmp 18)⟩,
    ⟨(some 20), none, false, .sll (.tmp 17) none (some (.tmp 19)) none 1⟩,
    ⟨(some 21), none, false, .mov (.tmp 1)⟩,
    ⟨(some 22), none, false, .appz (.tmp 20) (.tmp 21) [.int .u8 0] 1⟩,
    ⟨(some 23), none, false, .mov (.tmp 0)⟩,
    ⟨(some 24), none, false, .lens false (.tmp 23)⟩,
    ⟨(some 25), none, false, .sll (.tmp 22) none (some (.tmp 24)) none 1⟩,
    ⟨(some 0), none, false, .mov (.tmp 25)⟩]) .skip))) (.seq (.ops [
    ⟨(some 26), none, false, .mov (.tmp 0)⟩,
    ⟨(some 4), none, false, .mov (.tmp 26)⟩]) .ret))))
theorem fits_slices_Grow_byte_byte : Fits Tryd.prog 1 slices_Grow_byte_byte ic_slices_Grow_byte_byte [.tmp 4] 2 :=
  ⟨Tryd.f79, Tryd.func79, by decide, by kernel_rfl, by kernel_rfl⟩

/-- chantry/crc.More -/
noncomputable def ic_crc_More : IC :=
  (.seq (.ops [
    ⟨(some 4), none, false, .mov (.const (.int .u32 0))⟩]) (.seq (.ops [
    ⟨(some 8), none, false, .mov (.tmp 0)⟩,
    ⟨(some 9), none, false, .un .xor (.tmp 8)⟩,
    ⟨(some 5), none, false, .mov (.tmp 9)⟩]) (.seq (.seq (.ops [
    ⟨(some 10), none, false, .mov (.tmp 1)⟩,
    ⟨(some 11), none, false, .lens false (.tmp 10)⟩,
    ⟨(some 12), none, false, .mov (.const (.int .i64 0))⟩]) (.block 0 (.loop (.seq (.ops [
    ⟨(some 13), none, false, .bin .lss (.tmp 12) (.tmp 11)⟩]) (.seq (.cond (.tmp 13) .skip (.exit 0)) (.seq (.block 1 (.seq (.ops [
    ⟨(some 14), none, false, .iaddr (.tmp 10) (.tmp 12) 1⟩,
    ⟨(some 15), none, false, .load1 (.tmp 14)⟩,
    ⟨(some 7), none, false, .mov (.tmp 15)⟩]) (.seq (.ops [
    ⟨(some 16), none, false, .mov (.tmp 5)⟩,
    ⟨(some 17), none, false, .mov (.tmp 7)⟩,
    ⟨(some 18), none, false, .conv .u32 (.tmp 17)⟩,
    ⟨(some 19), none, false, .bin .xor (.tmp 16) (.tmp 18)⟩,
    ⟨(some 5), none, false, .mov (.tmp 19)⟩]) (.seq (.ops [
    ⟨(some 20), none, false, .mov (.const (.int .i64 0))⟩]) (.block 2 (.loop (.seq (.ops [
    ⟨(some 21), none, false, .bin .lss (.tmp 20) (.const (.int .i64 8))⟩]) (.seq (.cond (.tmp 21) .skip (.exit 2)) (.seq (.block 3 (.ops [
    ⟨(some 22), none, false, .mov (.tmp 5)⟩,
    ⟨(some 23), none, false, .bin .shr (.tmp 22) (.const (.int .u64 1))⟩,
    ⟨(some 24), none, false, .mov (.tmp 5)⟩,
    ⟨(some 25), none, false, .bin .and (.tmp 24) (.const (.int .u32 1))⟩,
    ⟨(some 26), none, false, .un .neg (.tmp 25)⟩,
    ⟨(some 27), none, false, .bin .and (.const (.int .u32 2197175160)) (.tmp 26)⟩,
    ⟨(some 28), none, false, .bin .xor (.tmp 23) (.tmp 27)⟩,
    ⟨(some 5), none, false, .mov (.tmp 28)⟩])) (.ops [
    ⟨(some 29), none, false, .bin .add (.tmp 20) (.const (.int .i64 1))⟩,
    ⟨(some 20), none, false, .mov (.tmp 29)⟩])))))))))) (.ops [
    ⟨(some 30), none, false, .bin .add (.tmp 12) (.const (.int .i64 1))⟩,
    ⟨(some 12), none, false, .mov (.tmp 30)⟩]))))))) (.seq (.ops [
    ⟨(some 31), none, false, .mov (.tmp 5)⟩,
    ⟨(some 32), none, false, .un .xor (.tmp 31)⟩,
    ⟨(some 4), none, false, .mov (.tmp 32)⟩]) .ret))))
theorem fits_crc_More : Fits Tryd.prog 1 crc_More ic_crc_More [.tmp 4] 2 :=
  ⟨Tryd.f80, Tryd.func80, by decide, by kernel_rfl, by kernel_rfl⟩

/-- chantry/chantryref03.word -/
noncomputable def ic_chantryref03_word : IC :=
  (.seq (.ops [
    ⟨(some 2), none, false, .mov (.const (.int .u32 0))⟩]) (.seq (.draw [
    ⟨(some 3), none, false, .mov (.tmp 0)⟩,
    ⟨(some 4), none, false, .iaddr (.tmp 3) (.const (.int .i64 0)) 1⟩,
    ⟨(some 5), none, false, .load1 (.tmp 4)⟩,
    ⟨(some 6), none, false, .conv .u32 (.tmp 5)⟩,
    ⟨(some 7), none, false, .bin .shl (.tmp 6) (.const (.int .u64 24))⟩,
    ⟨(some 8), none, false, .mov (.tmp 0)⟩,
    ⟨(some 9), none, false, .iaddr (.tmp 8) (.const (.int .i64 1)) 1⟩,
    ⟨(some 10), none, false, .load1 (.tmp 9)⟩,
    ⟨(some 11), none, false, .conv .u32 (.tmp 10)⟩,
    ⟨(some 12), none, false, .bin .shl (.tmp 11) (.const (.int .u64 16))⟩,
    ⟨(some 13), none, false, .bin .or (.tmp 7) (.tmp 12)⟩,
    ⟨(some 14), none, false, .mov (.tmp 0)⟩,
    ⟨(some 15), none, false, .iaddr (.tmp 14) (.const (.int .i64 2)) 1⟩,
    ⟨(some 16), none, false, .load1 (.tmp 15)⟩,
    ⟨(some 17), none, false, .conv .u32 (.tmp 16)⟩,
    ⟨(some 18), none, false, .bin .shl (.tmp 17) (.const (.int .u64 8))⟩,
    ⟨(some 19), none, false, .bin .or (.tmp 13) (.tmp 18)⟩,
    ⟨(some 20), none, false, .mov (.tmp 0)⟩,
    ⟨(some 21), none, false, .iaddr (.tmp 20) (.const (.int .i64 3)) 1⟩,
    ⟨(some 22), none, false, .load1 (.tmp 21)⟩,
    ⟨(some 23), none, false, .conv .u32 (.tmp 22)⟩,
    ⟨(some 24), none, false, .bin .or (.tmp 19) (.tmp 23)⟩,
    ⟨(some 2), none, false, .mov (.tmp 24)⟩]) .ret))
theorem fits_chantryref03_word : Fits Tryd.prog 1 chantryref03_word ic_chantryref03_word [.tmp 2] 1 :=
  ⟨Tryd.f82, Tryd.func82, by decide, by kernel_rfl, by kernel_rfl⟩

/-- (*chantry/sha.Hash).mix -/
noncomputable def ic_sha_Hash_mix : IC :=
  (.seq (.ops [
    ⟨(some 10), none, false, .mov (.tmp 0)⟩,
    ⟨(some 11), none, false, .nilc (.tmp 10)⟩,
    ⟨(some 12), none, false, .faddr (.tmp 11) 0⟩,
    ⟨(some 13), none, false, .loadn (.tmp 12) 8⟩,
    ⟨(some 4), none, false, .new [.int .u32 0, .int .u32 0, .int .u32 0, .int .u32 0, .int .u32 0, .int .u32 0, .int .u32 0, .int .u32 0]⟩,
    ⟨none, none, false, .store (.tmp 4) (.tmp 13) 8⟩]) (.seq (.seq (.ops [
    ⟨(some 14), none, false, .mov (.tmp 1)⟩,
    ⟨(some 15), none, false, .call sha_schedule [(.tmp 14)]⟩,
    ⟨(some 16), none, false, .mov (.const (.int .i64 0))⟩]) (.block 0 (.loop (.seq (.ops [
    ⟨(some 17), none, false, .bin .lss (.tmp 16) (.const (.int .i64 64))⟩]) (.seq (.cond (.tmp 17) .skip (.exit 0)) (.seq (.block 1 (.seq (.ops [
    ⟨(some 18), none, false, .mov (.tmp 16)⟩,
    ⟨(some 19), none, false, .idxa1 (.tmp 15) (.tmp 16) 64⟩,
    ⟨(some 5), none, false, .mov (.tmp 18)⟩,
    ⟨(some 6), none, false, .mov (.tmp 19)⟩]) (.seq (.draw [
    ⟨(some 20), none, false, .iarr (.tmp 4) (.const (.int .i64 7)) 8 1⟩,
    ⟨(some 21), none, true, .load1 (.tmp 20)⟩,
    ⟨(some 22), none, false, .iarr (.tmp 4) (.const (.int .i64 4)) 8 1⟩,
    ⟨(some 23), none, false, .load1 (.tmp 22)⟩,
    ⟨(some 25), none, false, .iarr (.tmp 4) (.const (.int .i64 4)) 8 1⟩,
    ⟨(some 26), none, true, .load1 (.tmp 25)⟩,
    ⟨(some 29), none, false, .iarr (.tmp 4) (.const (.int .i64 4)) 8 1⟩,
    ⟨(some 30), none, true, .load1 (.tmp 29)⟩,
    ⟨(some 34), none, false, .iarr (.tmp 4) (.const (.int .i64 4)) 8 1⟩,
    ⟨(some 35), none, true, .load1 (.tmp 34)⟩,
    ⟨(some 36), none, false, .iarr (.tmp 4) (.const (.int .i64 5)) 8 1⟩,
    ⟨(some 37), none, true, .load1 (.tmp 36)⟩,
    ⟨(some 38), none, false, .bin .and (.tmp 35) (.tmp 37)⟩,
    ⟨(some 39), none, false, .iarr (.tmp 4) (.const (.int .i64 4)) 8 1⟩,
    ⟨(some 40), none, true, .load1 (.tmp 39)⟩,
    ⟨(some 41), none, false, .un .xor (.tmp 40)⟩,
    ⟨(some 42), none, false, .iarr (.tmp 4) (.const (.int .i64 6)) 8 1⟩,
    ⟨(some 43), none, true, .load1 (.tmp 42)⟩,
    ⟨(some 44), none, false, .bin .and (.tmp 41) (.tmp 43)⟩,
    ⟨(some 45), none, false, .bin .xor (.tmp 38) (.tmp 44)⟩,
    ⟨(some 47), none, false, .mov (.tmp 5)⟩,
    ⟨(some 48), none, false, .iarr (.global 0) (.tmp 47) 64 1⟩,
    ⟨(some 49), none, true, .load1 (.tmp 48)⟩,
    ⟨(some 51), none, false, .mov (.tmp 6)⟩,
    ⟨(some 24), none, true, .call sha_right [(.tmp 23), (.const (.int .i64 6))]⟩,
    ⟨(some 27), none, true, .call sha_right [(.tmp 26), (.const (.int .i64 11))]⟩,
    ⟨(some 28), none, false, .bin .xor (.tmp 24) (.tmp 27)⟩,
    ⟨(some 31), none, true, .call sha_right [(.tmp 30), (.const (.int .i64 25))]⟩,
    ⟨(some 32), none, false, .bin .xor (.tmp 28) (.tmp 31)⟩,
    ⟨(some 33), none, false, .bin .add (.tmp 21) (.tmp 32)⟩,
    ⟨(some 46), none, false, .bin .add (.tmp 33) (.tmp 45)⟩,
    ⟨(some 50), none, false, .bin .add (.tmp 46) (.tmp 49)⟩,
    ⟨(some 52), none, false, .bin .add (.tmp 50) (.tmp 51)⟩,
    ⟨(some 7), none, false, .mov (.tmp 52)⟩]) (.seq (.draw [
    ⟨(some 53), none, false, .iarr (.tmp 4) (.const (.int .i64 0)) 8 1⟩,
    ⟨(some 54), none, false, .load1 (.tmp 53)⟩,
    ⟨(some 56), none, false, .iarr (.tmp 4) (.const (.int .i64 0)) 8 1⟩,
    ⟨(some 57), none, true, .load1 (.tmp 56)⟩,
    ⟨(some 60), none, false, .iarr (.tmp 4) (.const (.int .i64 0)) 8 1⟩,
    ⟨(some 61), none, true, .load1 (.tmp 60)⟩,
    ⟨(some 64), none, false, .iarr (.tmp 4) (.const (.int .i64 0)) 8 1⟩,
    ⟨(some 65), none, true, .load1 (.tmp 64)⟩,
    ⟨(some 66), none, false, .iarr (.tmp 4) (.const (.int .i64 1)) 8 1⟩,
    ⟨(some 67), none, true, .load1 (.tmp 66)⟩,
    ⟨(some 68), none, false, .bin .and (.tmp 65) (.tmp 67)⟩,
    ⟨(some 69), none, false, .iarr (.tmp 4) (.const (.int .i64 0)) 8 1⟩,
    ⟨(some 70), none, true, .load1 (.tmp 69)⟩,
    ⟨(some 71), none, false, .iarr (.tmp 4) (.const (.int .i64 2)) 8 1⟩,
    ⟨(some 72), none, true, .load1 (.tmp 71)⟩,
    ⟨(some 73), none, false, .bin .and (.tmp 70) (.tmp 72)⟩,
    ⟨(some 74), none, false, .bin .xor (.tmp 68) (.tmp 73)⟩,
    ⟨(some 75), none, false, .iarr (.tmp 4) (.const (.int .i64 1)) 8 1⟩,
    ⟨(some 76), none, true, .load1 (.tmp 75)⟩,
    ⟨(some 77), none, false, .iarr (.tmp 4) (.const (.int .i64 2)) 8 1⟩,
    ⟨(some 78), none, true, .load1 (.tmp 77)⟩,
    ⟨(some 79), none, false, .bin .and (.tmp 76) (.tmp 78)⟩,
    ⟨(some 80), none, false, .bin .xor (.tmp 74) (.tmp 79)⟩,
    ⟨(some 55), none, true, .call sha_right [(.tmp 54), (.const (.int .i64 2))]⟩,
    ⟨(some 58), none, true, .call sha_right [(.tmp 57), (.const (.int .i64 13))]⟩,
    ⟨(some 59), none, false, .bin .xor (.tmp 55) (.tmp 58)⟩,
    ⟨(some 62), none, true, .call sha_right [(.tmp 61), (.const (.int .i64 22))]⟩,
    ⟨(some 63), none, false, .bin .xor (.tmp 59) (.tmp 62)⟩,
    ⟨(some 81), none, false, .bin .add (.tmp 63) (.tmp 80)⟩,
    ⟨(some 8), none, false, .mov (.tmp 81)⟩]) (.ops [
    ⟨(some 82), none, false, .mov (.tmp 7)⟩,
    ⟨(some 83), none, false, .mov (.tmp 8)⟩,
    ⟨(some 84), none, false, .bin .add (.tmp 82) (.tmp 83)⟩,
    ⟨(some 85), none, false, .iarr (.tmp 4) (.const (.int .i64 0)) 8 1⟩,
    ⟨(some 86), none, false, .load1 (.tmp 85)⟩,
    ⟨(some 87), none, false, .iarr (.tmp 4) (.const (.int .i64 1)) 8 1⟩,
    ⟨(some 88), none, false, .load1 (.tmp 87)⟩,
    ⟨(some 89), none, false, .iarr (.tmp 4) (.const (.int .i64 2)) 8 1⟩,
    ⟨(some 90), none, false, .load1 (.tmp 89)⟩,
    ⟨(some 91), none, false, .iarr (.tmp 4) (.const (.int .i64 3)) 8 1⟩,
    ⟨(some 92), none, false, .load1 (.tmp 91)⟩,
    ⟨(some 93), none, false, .mov (.tmp 7)⟩,
    ⟨(some 94), none, false, .bin .add (.tmp 92) (.tmp 93)⟩,
    ⟨(some 95), none, false, .iarr (.tmp 4) (.const (.int .i64 4)) 8 1⟩,
    ⟨(some 96), none, false, .load1 (.tmp 95)⟩,
    ⟨(some 97), none, false, .iarr (.tmp 4) (.const (.int .i64 5)) 8 1⟩,
    ⟨(some 98), none, false, .load1 (.tmp 97)⟩,
    ⟨(some 99), none, false, .iarr (.tmp 4) (.const (.int .i64 6)) 8 1⟩,
    ⟨(some 100), none, false, .load1 (.tmp 99)⟩,
    ⟨(some 101), none, false, .build [.int .u32 0, .int .u32 0, .int .u32 0, .int .u32 0, .int .u32 0, .int .u32 0, .int .u32 0, .int .u32 0] [(0, 1, (.tmp 84)), (1, 1, (.tmp 86)), (2, 1, (.tmp 88)), (3, 1, (.tmp 90)), (4, 1, (.tmp 94)), (5, 1, (.tmp 96)), (6, 1, (.tmp 98)), (7, 1, (.tmp 100))]⟩,
    ⟨none, none, false, .store (.tmp 4) (.tmp 101) 8⟩]))))) (.ops [
    ⟨(some 102), none, false, .bin .add (.tmp 16) (.const (.int .i64 1))⟩,
    ⟨(some 16), none, false, .mov (.tmp 102)⟩]))))))) (.seq (.ops [
    ⟨(some 103), none, false, .mov (.const (.int .i64 0))⟩]) (.block 2 (.loop (.seq (.ops [
    ⟨(some 104), none, false, .bin .lss (.tmp 103) (.const (.int .i64 8))⟩]) (.seq (.cond (.tmp 104) .skip (.exit 2)) (.seq (.block 3 (.seq (.ops [
    ⟨(some 105), none, false, .mov (.tmp 103)⟩,
    ⟨(some 9), none, false, .mov (.tmp 105)⟩]) (.draw [
    ⟨(some 106), none, false, .mov (.tmp 0)⟩,
    ⟨(some 107), none, false, .mov (.tmp 9)⟩,
    ⟨(some 108), none, false, .nilc (.tmp 106)⟩,
    ⟨(some 109), none, false, .faddr (.tmp 108) 0⟩,
    ⟨(some 110), none, false, .iarr (.tmp 109) (.tmp 107) 8 1⟩,
    ⟨(some 111), none, false, .load1 (.tmp 110)⟩,
    ⟨(some 112), none, false, .mov (.tmp 9)⟩,
    ⟨(some 113), none, false, .iarr (.tmp 4) (.tmp 112) 8 1⟩,
    ⟨(some 114), none, false, .load1 (.tmp 113)⟩,
    ⟨(some 115), none, false, .bin .add (.tmp 111) (.tmp 114)⟩,
    ⟨(some 116), none, false, .nilc (.tmp 106)⟩,
    ⟨(some 117), none, false, .faddr (.tmp 116) 0⟩,
    ⟨(some 118), none, false, .iarr (.tmp 117) (.tmp 107) 8 1⟩,
    ⟨none, none, false, .store (.tmp 118) (.tmp 115) 1⟩]))) (.ops [
    ⟨(some 119), none, false, .bin .add (.tmp 103) (.const (.int .i64 1))⟩,
    ⟨(some 103), none, false, .mov (.tmp 119)⟩])))))))))
theorem fits_sha_Hash_mix : Fits Tryd.prog 1 sha_Hash_mix ic_sha_Hash_mix [] 2 :=
  ⟨Tryd.f83, Tryd.func83, by decide, by kernel_rfl, by kernel_rfl⟩

/-- (*chantry/sha.Hash).end -/
noncomputable def ic_sha_Hash_end : IC :=
  (.seq (.ops [
    ⟨(some 2), none, false, .mov (.const (.slice none 0 0))⟩]) (.seq (.ops [
    ⟨(some 5), none, false, .lit [.int .u8 0] 1 1 [(0, 1, (.const (.int .u8 128)))]⟩,
    ⟨(some 3), none, false, .mov (.tmp 5)⟩]) (.seq (.block 0 (.loop (.seq (.seq (.ops [
    ⟨(some 6), none, false, .mov (.tmp 0)⟩,
    ⟨(some 7), none, false, .nilc (.tmp 6)⟩,
    ⟨(some 8), none, false, .faddr (.tmp 7) 9⟩,
    ⟨(some 9), none, false, .load1 (.tmp 8)⟩,
    ⟨(some 10), none, false, .mov (.tmp 3)⟩,
    ⟨(some 11), none, false, .lens false (.tmp 10)⟩,
    ⟨(some 12), none, false, .bin .add (.tmp 9) (.tmp 11)⟩,
    ⟨(some 13), none, false, .bin .add (.tmp 12) (.const (.int .i64 8))⟩,
    ⟨(some 14), none, false, .bin .rem (.tmp 13) (.const (.int .i64 64))⟩,
    ⟨(some 15), none, false, .bin .neq (.tmp 14) (.const (.int .i64 0))⟩]) (.cond (.tmp 15) .skip (.exit 0))) (.block 1 (.ops [
    ⟨(some 16), none, false, .mov (.tmp 3)⟩,
    ⟨(some 17), none, false, .lit [.int .u8 0] 1 1 [(0, 1, (.const (.int .u8 0)))]⟩,
    ⟨(some 18), none, false, .app (.tmp 16) (.tmp 17) 1 1⟩,
    ⟨(some 3), none, false, .mov (.tmp 18)⟩]))))) (.seq (.seq (.ops [
    ⟨(some 4), none, false, .mov (.const (.int .i64 7))⟩]) (.block 2 (.loop (.seq (.seq (.ops [
    ⟨(some 19), none, false, .mov (.tmp 4)⟩,
    ⟨(some 20), none, false, .bin .geq (.tmp 19) (.const (.int .i64 0))⟩]) (.cond (.tmp 20) .skip (.exit 2))) (.seq (.block 3 (.ops [
    ⟨(some 23), none, false, .mov (.tmp 3)⟩,
    ⟨(some 24), none, false, .mov (.tmp 0)⟩,
    ⟨(some 25), none, false, .nilc (.tmp 24)⟩,
    ⟨(some 26), none, false, .faddr (.tmp 25) 9⟩,
    ⟨(some 27), none, false, .load1 (.tmp 26)⟩,
    ⟨(some 28), none, false, .bin .mul (.tmp 27) (.const (.int .i64 8))⟩,
    ⟨(some 29), none, false, .mov (.tmp 4)⟩,
    ⟨(some 30), none, false, .bin .mul (.const (.int .i64 8)) (.tmp 29)⟩,
    ⟨(some 31), none, false, .bin .shr (.tmp 28) (.tmp 30)⟩,
    ⟨(some 32), none, false, .conv .u8 (.tmp 31)⟩,
    ⟨(some 33), none, false, .lit [.int .u8 0] 1 1 [(0, 1, (.tmp 32))]⟩,
    ⟨(some 34), none, false, .app (.tmp 23) (.tmp 33) 1 1⟩,
    ⟨(some 3), none, false, .mov (.tmp 34)⟩])) (.ops [
    ⟨(some 21), none, false, .mov (.tmp 4)⟩,
    ⟨(some 22), none, false, .bin .sub (.tmp 21) (.const (.int .i64 1))⟩,
    ⟨(some 4), none, false, .mov (.tmp 22)⟩])))))) (.seq (.ops [
    ⟨(some 35), none, false, .mov (.tmp 3)⟩,
    ⟨(some 2), none, false, .mov (.tmp 35)⟩]) .ret)))))
theorem fits_sha_Hash_end : Fits Tryd.prog 1 sha_Hash_end ic_sha_Hash_end [.tmp 2] 1 :=
  ⟨Tryd.f84, Tryd.func84, by decide, by kernel_rfl, by kernel_rfl⟩

/-- slices.insertionSortCmpFunc[chantry/api.Item] -/
noncomputable def ic_api_Item_85 : IC :=
  (.seq (.ops [
    ⟨(some 10), none, false, .mov (.tmp 1)⟩,
    ⟨(some 11), none, false, .bin .add (.tmp 10) (.const (.int .i64 1))⟩,
    ⟨(some 8), none, false, .mov (.tmp 11)⟩]) (.block 0 (.loop (.seq (.seq (.ops [
    ⟨(some 12), none, false, .mov (.tmp 8)⟩,
    ⟨(some 13), none, false, .mov (.tmp 2)⟩,
    ⟨(some 14), none, false, .bin .lss (.tmp 12) (.tmp 13)⟩]) (.cond (.tmp 14) .skip (.exit 0))) (.seq (.block 1 (.seq (.ops [
    ⟨(some 17), none, false, .mov (.tmp 8)⟩,
    ⟨(some 9), none, false, .mov (.tmp 17)⟩]) (.block 2 (.loop (.seq (.seq (.draw [
    ⟨(some 18), none, false, .mov (.tmp 9)⟩,
    ⟨(some 19), none, false, .mov (.tmp 1)⟩,
    ⟨(some 20), none, false, .bin .gtr (.tmp 18) (.tmp 19)⟩,
    ⟨(some 21), none, false, .mov (.tmp 20)⟩,
    ⟨(some 22), (some (21, true)), false, .mov (.tmp 3)⟩,
    ⟨(some 23), (some (21, true)), false, .mov (.tmp 0)⟩,
    ⟨(some 24), (some (21, true)), false, .mov (.tmp 9)⟩,
    ⟨(some 25), (some (21, true)), false, .iaddr (.tmp 23) (.tmp 24) 2⟩,
    ⟨(some 26), (some (21, true)), false, .loadn (.tmp 25) 2⟩,
    ⟨(some 27), (some (21, true)), false, .mov (.tmp 0)⟩,
    ⟨(some 28), (some (21, true)), false, .mov (.tmp 9)⟩,
    ⟨(some 29), (some (21, true)), false, .bin .sub (.tmp 28) (.const (.int .i64 1))⟩,
    ⟨(some 30), (some (21, true)), false, .iaddr (.tmp 27) (.tmp 29) 2⟩,
    ⟨(some 31), (some (21, true)), false, .loadn (.tmp 30) 2⟩,
    ⟨(some 32), (some (21, true)), false, .calld (.tmp 22) [(.tmp 26), (.tmp 31)]⟩,
    ⟨(some 33), (some (21, true)), false, .bin .lss (.tmp 32) (.const (.int .i64 0))⟩,
    ⟨(some 34), none, false, .pick (.tmp 21) (.tmp 33) (.const (.bool false))⟩]) (.cond (.tmp 34) .skip (.exit 2))) (.seq (.block 3 (.draw [
    ⟨(some 37), none, false, .mov (.tmp 0)⟩,
    ⟨(some 38), none, false, .mov (.tmp 9)⟩,
    ⟨(some 39), none, false, .mov (.tmp 0)⟩,
    ⟨(some 40), none, false, .mov (.tmp 9)⟩,
    ⟨(some 41), none, false, .bin .sub (.tmp 40) (.const (.int .i64 1))⟩,
    ⟨(some 42), none, false, .mov (.tmp 0)⟩,
    ⟨(some 43), none, false, .mov (.tmp 9)⟩,
    ⟨(some 44), none, false, .bin .sub (.tmp 43) (.const (.int .i64 1))⟩,
    ⟨(some 45), none, false, .iaddr (.tmp 42) (.tmp 44) 2⟩,
    ⟨(some 46), none, false, .loadn (.tmp 45) 2⟩,
    ⟨(some 47), none, false, .mov (.tmp 0)⟩,
    ⟨(some 48), none, false, .mov (.tmp 9)⟩,
    ⟨(some 49), none, false, .iaddr (.tmp 47) (.tmp 48) 2⟩,
    ⟨(some 50), none, false, .loadn (.tmp 49) 2⟩,
    ⟨(some 51), none, false, .iaddr (.tmp 37) (.tmp 38) 2⟩,
    ⟨none, none, false, .store (.tmp 51) (.tmp 46) 2⟩,
    ⟨(some 52), none, false, .iaddr (.tmp 39) (.tmp 41) 2⟩,
    ⟨none, none, false, .store (.tmp 52) (.tmp 50) 2⟩])) (.ops [
    ⟨(some 35), none, false, .mov (.tmp 9)⟩,
    ⟨(some 36), none, false, .bin .sub (.tmp 35) (.const (.int .i64 1))⟩,
    ⟨(some 9), none, false, .mov (.tmp 36)⟩]))))))) (.ops [
    ⟨(some 15), none, false, .mov (.tmp 8)⟩,
    ⟨(some 16), none, false, .bin .add (.tmp 15) (.const (.int .i64 1))⟩,
    ⟨(some 8), none, false, .mov (.tmp 16)⟩]))))))
theorem fits_api_Item_85 : Fits Tryd.prog 1 api_Item_85 ic_api_Item_85 [] 4 :=
  ⟨Tryd.f85, Tryd.func85, by decide, by kernel_rfl, by kernel_rfl⟩

/-- slices.symMergeCmpFunc[chantry/api.Item] -/
noncomputable def ic_api_Item_86 : IC :=
  (.seq (.seq (.ops [
    ⟨(some 25), none, false, .mov (.tmp 2)⟩,
    ⟨(some 26), none, false, .mov (.tmp 1)⟩,
    ⟨(some 27), none, false, .bin .sub (.tmp 25) (.tmp 26)⟩,
    ⟨(some 28), none, false, .bin .eql (.tmp 27) (.const (.int .i64 1))⟩]) (.cond (.tmp 28) (.seq (.ops [
    ⟨(some 29), none, false, .mov (.tmp 2)⟩,
    ⟨(some 10), none, false, .mov (.tmp 29)⟩]) (.seq (.ops [
    ⟨(some 30), none, false, .mov (.tmp 3)⟩,
    ⟨(some 11), none, false, .mov (.tmp 30)⟩]) (.seq (.block 0 (.loop (.seq (.seq (.ops [
    ⟨(some 31), none, false, .mov (.tmp 10)⟩,
    ⟨(some 32), none, false, .mov (.tmp 11)⟩,
    ⟨(some 33), none, false, .bin .lss (.tmp 31) (.tmp 32)⟩]) (.cond (.tmp 33) .skip (.exit 0))) (.block 1 (.seq (.ops [
    ⟨(some 34), none, false, .mov (.tmp 10)⟩,
    ⟨(some 35), none, false, .mov (.tmp 11)⟩,
    ⟨(some 36), none, false, .bin .add (.tmp 34) (.tmp 35)⟩,
    ⟨(some 37), none, false, .conv .u64 (.tmp 36)⟩,
    ⟨(some 38), none, false, .bin .shr (.tmp 37) (.const (.int .u64 1))⟩,
    ⟨(some 39), none, false, .conv .i64 (.tmp 38)⟩,
    ⟨(some 12), none, false, .mov (.tmp 39)⟩]) (.seq (.draw [
    ⟨(some 40), none, false, .mov (.tmp 4)⟩,
    ⟨(some 41), none, false, .mov (.tmp 0)⟩,
    ⟨(some 42), none, false, .mov (.tmp 12)⟩,
    ⟨(some 43), none, false, .iaddr (.tmp 41) (.tmp 42) 2⟩,
    ⟨(some 44), none, false, .loadn (.tmp 43) 2⟩,
    ⟨(some 45), none, false, .mov (.tmp 0)⟩,
    ⟨(some 46), none, false, .mov (.tmp 1)⟩,
    ⟨(some 47), none, false, .iaddr (.tmp 45) (.tmp 46) 2⟩,
    ⟨(some 48), none, false, .loadn (.tmp 47) 2⟩,
    ⟨(some 49), none, false, .calld (.tmp 40) [(.tmp 44), (.tmp 48)]⟩,
    ⟨(some 50), none, false, .bin .lss (.tmp 49) (.const (.int .i64 0))⟩]) (.cond (.tmp 50) (.ops [
    ⟨(some 51), none, false, .mov (.tmp 12)⟩,
    ⟨(some 52), none, false, .bin .add (.tmp 51) (.const (.int .i64 1))⟩,
    ⟨(some 10), none, false, .mov (.tmp 52)⟩]) (.ops [
    ⟨(some 53), none, false, .mov (.tmp 12)⟩,
    ⟨(some 11), none, false, .mov (.tmp 53)⟩])))))))) (.seq (.seq (.ops [
    ⟨(some 54), none, false, .mov (.tmp 1)⟩,
    ⟨(some 13), none, false, .mov (.tmp 54)⟩]) (.block 2 (.loop (.seq (.seq (.ops [
    ⟨(some 55), none, false, .mov (.tmp 13)⟩,
    ⟨(some 56), none, false, .mov (.tmp 10)⟩,
    ⟨(some 57), none, false, .bin .sub (.tmp 56) (.const (.int .i64 1))⟩,
    ⟨(some 58), none, false, .bin .lss (.tmp 55) (.tmp 57)⟩]) (.cond (.tmp 58) .skip (.exit 2))) (.seq (.block 3 (.draw [
    ⟨(some 61), none, false, .mov (.tmp 0)⟩,
    ⟨(some 62), none, false, .mov (.tmp 13)⟩,
    ⟨(some 63), none, false, .mov (.tmp 0)⟩,
    ⟨(some 64), none, false, .mov (.tmp 13)⟩,
    ⟨(some 65), none, false, .bin .add (.tmp 64) (.const (.int .i64 1))⟩,
    ⟨(some 66), none, false, .mov (.tmp 0)⟩,
    ⟨(some 67), none, false, .mov (.tmp 13)⟩,
    ⟨(some 68), none, false, .bin .add (.tmp 67) (.const (.int .i64 1))⟩,
    ⟨(some 69), none, false, .iaddr (.tmp 66) (.tmp 68) 2⟩,
    ⟨(some 70), none, false, .loadn (.tmp 69) 2⟩,
    ⟨(some 71), none, false, .mov (.tmp 0)⟩,
    ⟨(some 72), none, false, .mov (.tmp 13)⟩,
    ⟨(some 73), none, false, .iaddr (.tmp 71) (.tmp 72) 2⟩,
    ⟨(some 74), none, false, .loadn (.tmp 73) 2⟩,
    ⟨(some 75), none, false, .iaddr (.tmp 61) (.tmp 62) 2⟩,
    ⟨none, none, false, .store (.tmp 75) (.tmp 70) 2⟩,
    ⟨(some 76), none, false, .iaddr (.tmp 63) (.tmp 65) 2⟩,
    ⟨none, none, false, .store (.tmp 76) (.tmp 74) 2⟩])) (.ops [
    ⟨(some 59), none, false, .mov (.tmp 13)⟩,
    ⟨(some 60), none, false, .bin .add (.tmp 59) (.const (.int .i64 1))⟩,
    ⟨(some 13), none, false, .mov (.tmp 60)⟩])))))) .ret)))) .skip)) (.seq (.seq (.ops [
    ⟨(some 77), none, false, .mov (.tmp 3)⟩,
    ⟨(some 78), none, false, .mov (.tmp 2)⟩,
    ⟨(some 79), none, false, .bin .sub (.tmp 77) (.tmp 78)⟩,
    ⟨(some 80), none, false, .bin .eql (.tmp 79) (.const (.int .i64 1))⟩]) (.cond (.tmp 80) (.seq (.ops [
    ⟨(some 81), none, false, .mov (.tmp 1)⟩,
    ⟨(some 14), none, false, .mov (.tmp 81)⟩]) (.seq (.ops [
    ⟨(some 82), none, false, .mov (.tmp 2)⟩,
    ⟨(some 15), none, false, .mov (.tmp 82)⟩]) (.seq (.block 4 (.loop (.seq (.seq (.ops [
    ⟨(some 83), none, false, .mov (.tmp 14)⟩,
    ⟨(some 84), none, false, .mov (.tmp 15)⟩,
    ⟨(some 85), none, false, .bin .lss (.tmp 83) (.tmp 84)⟩]) (.cond (.tmp 85) .skip (.exit 4))) (.block 5 (.seq (.ops [
    ⟨(some 86), none, false, .mov (.tmp 14)⟩,
    ⟨(some 87), none, false, .mov (.tmp 15)⟩,
    ⟨(some 88), none, false, .bin .add (.tmp 86) (.tmp 87)⟩,
    ⟨(some 89), none, false, .conv .u64 (.tmp 88)⟩,
    ⟨(some 90), none, false, .bin .shr (.tmp 89) (.const (.int .u64 1))⟩,
    ⟨(some 91), none, false, .conv .i64 (.tmp 90)⟩,
    ⟨(some 16), none, false, .mov (.tmp 91)⟩]) (.seq (.draw [
    ⟨(some 92), none, false, .mov (.tmp 4)⟩,
    ⟨(some 93), none, false, .mov (.tmp 0)⟩,
    ⟨(some 94), none, false, .mov (.tmp 2)⟩,
    ⟨(some 95), none, false, .iaddr (.tmp 93) (.tmp 94) 2⟩,
    ⟨(some 96), none, false, .loadn (.tmp 95) 2⟩,
    ⟨(some 97), none, false, .mov (.tmp 0)⟩,
    ⟨(some 98), none, false, .mov (.tmp 16)⟩,
    ⟨(some 99), none, false, .iaddr (.tmp 97) (.tmp 98) 2⟩,
    ⟨(some 100), none, false, .loadn (.tmp 99) 2⟩,
    ⟨(some 101), none, false, .calld (.tmp 92) [(.tmp 96), (.tmp 100)]⟩,
    ⟨(some 102), none, false, .bin .lss (.tmp 101) (.const (.int .i64 0))⟩,
    ⟨(some 103), none, false, .un .not (.tmp 102)⟩]) (.cond (.tmp 103) (.ops [
    ⟨(some 104), none, false, .mov (.tmp 16)⟩,
    ⟨(some 105), none, false, .bin .add (.tmp 104) (.const (.int .i64 1))⟩,
    ⟨(some 14), none, false, .mov (.tmp 105)⟩]) (.ops [
    ⟨(some 106), none, false, .mov (.tmp 16)⟩,
    ⟨(some 15), none, false, .mov (.tmp 106)⟩])))))))) (.seq (.seq (.ops [
    ⟨(some 107), none, false, .mov (.tmp 2)⟩,
    ⟨(some 17), none, false, .mov (.tmp 107)⟩]) (.block 6 (.loop (.seq (.seq (.ops [
    ⟨(some 108), none, false, .mov (.tmp 17)⟩,
    ⟨(some 109), none, false, .mov (.tmp 14)⟩,
    ⟨(some 110), none, false, .bin .gtr (.tmp 108) (.tmp 109)⟩]) (.cond (.tmp 110) .skip (.exit 6))) (.seq (.block 7 (.draw [
    ⟨(some 113), none, false, .mov (.tmp 0)⟩,
    ⟨(some 114), none, false, .mov (.tmp 17)⟩,
    ⟨(some 115), none, false, .mov (.tmp 0)⟩,
    ⟨(some 116), none, false, .mov (.tmp 17)⟩,
    ⟨(some 117), none, false, .bin .sub (.tmp 116) (.const (.int .i64 1))⟩,
    ⟨(some 118), none, false, .mov (.tmp 0)⟩,
    ⟨(some 119), none, false, .mov (.tmp 17)⟩,
    ⟨(some 120), none, false, .bin .sub (.tmp 119) (.const (.int .i64 1))⟩,
    ⟨(some 121), none, false, .iaddr (.tmp 118) (.tmp 120) 2⟩,
    ⟨(some 122), none, false, .loadn (.tmp 121) 2⟩,
    ⟨(some 123), none, false, .mov (.tmp 0)⟩,
    ⟨(some 124), none, false, .mov (.tmp 17)⟩,
    ⟨(some 125), none, false, .iaddr (.tmp 123) (.tmp 124) 2⟩,
    ⟨(some 126), none, false, .loadn (.tmp 125) 2⟩,
    ⟨(some 127), none, false, .iaddr (.tmp 113) (.tmp 114) 2⟩,
    ⟨none, none, false, .store (.tmp 127) (.tmp 122) 2⟩,
    ⟨(some 128), none, false, .iaddr (.tmp 115) (.tmp 117) 2⟩,
    ⟨none, none, false, .store (.tmp 128) (.tmp 126) 2⟩])) (.ops [
    ⟨(some 111), none, false, .mov (.tmp 17)⟩,
    ⟨(some 112), none, false, .bin .sub (.tmp 111) (.const (.int .i64 1))⟩,
    ⟨(some 17), none, false, .mov (.tmp 112)⟩])))))) .ret)))) .skip)) (.seq (.ops [
    ⟨(some 129), none, false, .mov (.tmp 1)⟩,
    ⟨(some 130), none, false, .mov (.tmp 3)⟩,
    ⟨(some 131), none, false, .bin .add (.tmp 129) (.tmp 130)⟩,
    ⟨(some 132), none, false, .conv .u64 (.tmp 131)⟩,
    ⟨(some 133), none, false, .bin .shr (.tmp 132) (.const (.int .u64 1))⟩,
    ⟨(some 134), none, false, .conv .i64 (.tmp 133)⟩,
    ⟨(some 18), none, false, .mov (.tmp 134)⟩]) (.seq (.ops [
    ⟨(some 135), none, false, .mov (.tmp 18)⟩,
    ⟨(some 136), none, false, .mov (.tmp 2)⟩,
    ⟨(some 137), none, false, .bin .add (.tmp 135) (.tmp 136)⟩,
    ⟨(some 19), none, false, .mov (.tmp 137)⟩]) (.seq (.ops [
    ⟨(some 20), none, false, .mov (.const (.int .i64 0))⟩,
    ⟨(some 21), none, false, .mov (.const (.int .i64 0))⟩]) (.seq (.seq (.ops [
    ⟨(some 138), none, false, .mov (.tmp 2)⟩,
    ⟨(some 139), none, false, .mov (.tmp 18)⟩,
    ⟨(some 140), none, false, .bin .gtr (.tmp 138) (.tmp 139)⟩]) (.cond (.tmp 140) (.seq (.ops [
    ⟨(some 141), none, false, .mov (.tmp 19)⟩,
    ⟨(some 142), none, false, .mov (.tmp 3)⟩,
    ⟨(some 143), none, false, .bin .sub (.tmp 141) (.tmp 142)⟩,
    ⟨(some 20), none, false, .mov (.tmp 143)⟩]) (.ops [
    ⟨(some 144), none, false, .mov (.tmp 18)⟩,
    ⟨(some 21), none, false, .mov (.tmp 144)⟩])) (.seq (.ops [
    ⟨(some 145), none, false, .mov (.tmp 1)⟩,
    ⟨(some 20), none, false, .mov (.tmp 145)⟩]) (.ops [
    ⟨(some 146), none, false, .mov (.tmp 2)⟩,
    ⟨(some 21), none, false, .mov (.tmp 146)⟩])))) (.seq (.ops [
    ⟨(some 147), none, false, .mov (.tmp 19)⟩,
    ⟨(some 148), none, false, .bin .sub (.tmp 147) (.const (.int .i64 1))⟩,
    ⟨(some 22), none, false, .mov (.tmp 148)⟩]) (.seq (.block 8 (.loop (.seq (.seq (.ops [
    ⟨(some 149), none, false, .mov (.tmp 20)⟩,
    ⟨(some 150), none, false, .mov (.tmp 21)⟩,
    ⟨(some 151), none, false, .bin .lss (.tmp 149) (.tmp 150)⟩]) (.cond (.tmp 151) .skip (.exit 8))) (.block 9 (.seq (.ops [
    ⟨(some 152), none, false, .mov (.tmp 20)⟩,
    ⟨(some 153), none, false, .mov (.tmp 21)⟩,
    ⟨(some 154), none, false, .bin .add (.tmp 152) (.tmp 153)⟩,
    ⟨(some 155), none, false, .conv .u64 (.tmp 154)⟩,
    ⟨(some 156), none, false, .bin .shr (.tmp 155) (.const (.int .u64 1))⟩,
    ⟨(some 157), none, false, .conv .i64 (.tmp 156)⟩,
    ⟨(some 23), none, false, .mov (.tmp 157)⟩]) (.seq (.draw [
    ⟨(some 158), none, false, .mov (.tmp 4)⟩,
    ⟨(some 159), none, false, .mov (.tmp 0)⟩,
    ⟨(some 160), none, false, .mov (.tmp 22)⟩,
    ⟨(some 161), none, false, .mov (.tmp 23)⟩,
    ⟨(some 162), none, false, .bin .sub (.tmp 160) (.tmp 161)⟩,
    ⟨(some 163), none, false, .iaddr (.tmp 159) (.tmp 162) 2⟩,
    ⟨(some 164), none, false, .loadn (.tmp 163) 2⟩,
    ⟨(some 165), none, false, .mov (.tmp 0)⟩,
    ⟨(some 166), none, false, .mov (.tmp 23)⟩,
    ⟨(some 167), none, false, .iaddr (.tmp 165) (.tmp 166) 2⟩,
    ⟨(some 168), none, false, .loadn (.tmp 167) 2⟩,
    ⟨(some 169), none, false, .calld (.tmp 158) [(.tmp 164), (.tmp 168)]⟩,
    ⟨(some 170), none, false, .bin .lss (.tmp 169) (.const (.int .i64 0))⟩,
    ⟨(some 171), none, false, .un .not (.tmp 170)⟩]) (.cond (.tmp 171) (.ops [
    ⟨(some 172), none, false, .mov (.tmp 23)⟩,
    ⟨(some 173), none, false, .bin .add (.tmp 172) (.const (.int .i64 1))⟩,
    ⟨(some 20), none, false, .mov (.tmp 173)⟩]) (.ops [
    ⟨(some 174), none, false, .mov (.tmp 23)⟩,
    ⟨(some 21), none, false, .mov (.tmp 174)⟩])))))))) (.seq (.ops [
    ⟨(some 175), none, false, .mov (.tmp 19)⟩,
    ⟨(some 176), none, false, .mov (.tmp 20)⟩,
    ⟨(some 177), none, false, .bin .sub (.tmp 175) (.tmp 176)⟩,
    ⟨(some 24), none, false, .mov (.tmp 177)⟩]) (.seq (.seq (.ops [
    ⟨(some 178), none, false, .mov (.tmp 20)⟩,
    ⟨(some 179), none, false, .mov (.tmp 2)⟩,
    ⟨(some 180), none, false, .bin .lss (.tmp 178) (.tmp 179)⟩,
    ⟨(some 181), none, false, .mov (.tmp 180)⟩,
    ⟨(some 182), (some (181, true)), false, .mov (.tmp 2)⟩,
    ⟨(some 183), (some (181, true)), false, .mov (.tmp 24)⟩,
    ⟨(some 184), (some (181, true)), false, .bin .lss (.tmp 182) (.tmp 183)⟩,
    ⟨(some 185), none, false, .pick (.tmp 181) (.tmp 184) (.const (.bool false))⟩]) (.cond (.tmp 185) (.ops [
    ⟨(some 186), none, false, .mov (.tmp 0)⟩,
    ⟨(some 187), none, false, .mov (.tmp 20)⟩,
    ⟨(some 188), none, false, .mov (.tmp 2)⟩,
    ⟨(some 189), none, false, .mov (.tmp 24)⟩,
    ⟨(some 190), none, false, .mov (.tmp 4)⟩,
    ⟨(some 191), none, false, .call api_Item_90 [(.tmp 186), (.tmp 187), (.tmp 188), (.tmp 189), (.tmp 190)]⟩]) .skip)) (.seq (.seq (.ops [
    ⟨(some 192), none, false, .mov (.tmp 1)⟩,
    ⟨(some 193), none, false, .mov (.tmp 20)⟩,
    ⟨(some 194), none, false, .bin .lss (.tmp 192) (.tmp 193)⟩,
    ⟨(some 195), none, false, .mov (.tmp 194)⟩,
    ⟨(some 196), (some (195, true)), false, .mov (.tmp 20)⟩,
    ⟨(some 197), (some (195, true)), false, .mov (.tmp 18)⟩,
    ⟨(some 198), (some (195, true)), false, .bin .lss (.tmp 196) (.tmp 197)⟩,
    ⟨(some 199), none, false, .pick (.tmp 195) (.tmp 198) (.const (.bool false))⟩]) (.cond (.tmp 199) (.ops [
    ⟨(some 200), none, false, .mov (.tmp 0)⟩,
    ⟨(some 201), none, false, .mov (.tmp 1)⟩,
    ⟨(some 202), none, false, .mov (.tmp 20)⟩,
    ⟨(some 203), none, false, .mov (.tmp 18)⟩,
    ⟨(some 204), none, false, .mov (.tmp 4)⟩,
    ⟨(some 205), none, false, .call api_Item_86 [(.tmp 200), (.tmp 201), (.tmp 202), (.tmp 203), (.tmp 204)]⟩]) .skip)) (.seq (.ops [
    ⟨(some 206), none, false, .mov (.tmp 18)⟩,
    ⟨(some 207), none, false, .mov (.tmp 24)⟩,
    ⟨(some 208), none, false, .bin .lss (.tmp 206) (.tmp 207)⟩,
    ⟨(some 209), none, false, .mov (.tmp 208)⟩,
    ⟨(some 210), (some (209, true)), false, .mov (.tmp 24)⟩,
    ⟨(some 211), (some (209, true)), false, .mov (.tmp 3)⟩,
    ⟨(some 212), (some (209, true)), false, .bin .lss (.tmp 210) (.tmp 211)⟩,
    ⟨(some 213), none, false, .pick (.tmp 209) (.tmp 212) (.const (.bool false))⟩]) (.cond (.tmp 213) (.ops [
    ⟨(some 214), none, false, .mov (.tmp 0)⟩,
    ⟨(some 215), none, false, .mov (.tmp 18)⟩,
    ⟨(some 216), none, false, .mov (.tmp 24)⟩,
    ⟨(some 217), none, false, .mov (.tmp 3)⟩,
    ⟨(some 218), none, false, .mov (.tmp 4)⟩,
    ⟨(some 219), none, false, .call api_Item_86 [(.tmp 214), (.tmp 215), (.tmp 216), (.tmp 217), (.tmp 218)]⟩]) .skip)))))))))))))
theorem fits_api_Item_86 : Fits Tryd.prog 1 api_Item_86 ic_api_Item_86 [] 5 :=
  ⟨Tryd.f86, Tryd.func86, by decide, by kernel_rfl, by kernel_rfl⟩

/-- slices.IndexFunc[[]string,string] -/
noncomputable def ic_slices_IndexFunc_string_string : IC :=
  (.seq (.ops [
    ⟨(some 4), none, false, .mov (.const (.int .i64 0))⟩]) (.seq (.seq (.ops [
    ⟨(some 6), none, false, .mov (.tmp 0)⟩,
    ⟨(some 7), none, false, .lens false (.tmp 6)⟩,
    ⟨(some 8), none, false, .mov (.const (.int .i64 0))⟩]) (.block 0 (.loop (.seq (.ops [
    ⟨(some 9), none, false, .bin .lss (.tmp 8) (.tmp 7)⟩]) (.seq (.cond (.tmp 9) .skip (.exit 0)) (.seq (.block 1 (.seq (.ops [
    ⟨(some 10), none, false, .mov (.tmp 8)⟩,
    ⟨(some 5), none, false, .mov (.tmp 10)⟩]) (.seq (.ops [
    ⟨(some 11), none, false, .mov (.tmp 1)⟩,
    ⟨(some 12), none, false, .mov (.tmp 0)⟩,
    ⟨(some 13), none, false, .mov (.tmp 5)⟩,
    ⟨(some 14), none, false, .iaddr (.tmp 12) (.tmp 13) 1⟩,
    ⟨(some 15), none, false, .load1 (.tmp 14)⟩,
    ⟨(some 16), none, false, .calld (.tmp 11) [(.tmp 15)]⟩]) (.cond (.tmp 16) (.seq (.ops [
    ⟨(some 17), none, false, .mov (.tmp 5)⟩,
    ⟨(some 4), none, false, .mov (.tmp 17)⟩]) .ret) .skip)))) (.ops [
    ⟨(some 18), none, false, .bin .add (.tmp 8) (.const (.int .i64 1))⟩,
    ⟨(some 8), none, false, .mov (.tmp 18)⟩]))))))) (.seq (.ops [
    ⟨(some 4), none, false, .mov (.const (.int .i64 (-1)))⟩]) .ret)))
theorem fits_slices_IndexFunc_string_string : Fits Tryd.prog 1 slices_IndexFunc_string_string ic_slices_IndexFunc_string_string [.tmp 4] 2 :=
  ⟨Tryd.f87, Tryd.func87, by decide, by kernel_rfl, by kernel_rfl⟩

/-- chantry/sha.schedule -/
noncomputable def ic_sha_schedule : IC :=
  (.seq (.ops [
    ⟨(some 2), none, false, .new [.int .u32 0, .int .u32 0, .int .u32 0, .int .u32 0, .int .u32 0, .int .u32 0, .int .u32 0, .int .u32 0, .int .u32 0, .int .u32 0, .int .u32 0, .int .u32 0, .int .u32 0, .int .u32 0, .int .u32 0, .int .u32 0, .int .u32 0, .int .u32 0, .int .u32 0, .int .u32 0, .int .u32 0, .int .u32 0, .int .u32 0, .int .u32 0, .int .u32 0, .int .u32 0, .int .u32 0, .int .u32 0, .int .u32 0, .int .u32 0, .int .u32 0, .int .u32 0, .int .u32 0, .int .u32 0, .int .u32 0, .int .u32 0, .int .u32 0, .int .u32 0, .int .u32 0, .int .u32 0, .int .u32 0, .int .u32 0, .int .u32 0, .int .u32 0, .int .u32 0, .int .u32 0, .int .u32 0, .int .u32 0, .int .u32 0, .int .u32 0, .int .u32 0, .int .u32 0, .int .u32 0, .int .u32 0, .int .u32 0, .int .u32 0, .int .u32 0, .int .u32 0, .int .u32 0, .int .u32 0, .int .u32 0, .int .u32 0, .int .u32 0, .int .u32 0]⟩]) (.seq (.ops [
    ⟨(some 3), none, false, .new [.int .u32 0, .int .u32 0, .int .u32 0, .int .u32 0, .int .u32 0, .int .u32 0, .int .u32 0, .int .u32 0, .int .u32 0, .int .u32 0, .int .u32 0, .int .u32 0, .int .u32 0, .int .u32 0, .int .u32 0, .int .u32 0, .int .u32 0, .int .u32 0, .int .u32 0, .int .u32 0, .int .u32 0, .int .u32 0, .int .u32 0, .int .u32 0, .int .u32 0, .int .u32 0, .int .u32 0, .int .u32 0, .int .u32 0, .int .u32 0, .int .u32 0, .int .u32 0, .int .u32 0, .int .u32 0, .int .u32 0, .int .u32 0, .int .u32 0, .int .u32 0, .int .u32 0, .int .u32 0, .int .u32 0, .int .u32 0, .int .u32 0, .int .u32 0, .int .u32 0, .int .u32 0, .int .u32 0, .int .u32 0, .int .u32 0, .int .u32 0, .int .u32 0, .int .u32 0, .int .u32 0, .int .u32 0, .int .u32 0, .int .u32 0, .int .u32 0, .int .u32 0, .int .u32 0, .int .u32 0, .int .u32 0, .int .u32 0, .int .u32 0, .int .u32 0]⟩]) (.seq (.seq (.ops [
    ⟨(some 7), none, false, .mov (.const (.int .i64 0))⟩]) (.block 0 (.loop (.seq (.ops [
    ⟨(some 8), none, false, .bin .lss (.tmp 7) (.const (.int .i64 64))⟩]) (.seq (.cond (.tmp 8) .skip (.exit 0)) (.seq (.block 1 (.seq (.ops [
    ⟨(some 9), none, false, .mov (.tmp 7)⟩,
    ⟨(some 4), none, false, .mov (.tmp 9)⟩]) (.seq (.seq (.ops [
    ⟨(some 10), none, false, .mov (.tmp 4)⟩,
    ⟨(some 11), none, false, .bin .lss (.tmp 10) (.const (.int .i64 16))⟩]) (.cond (.tmp 11) (.seq (.draw [
    ⟨(some 12), none, false, .mov (.tmp 4)⟩,
    ⟨(some 13), none, false, .mov (.tmp 0)⟩,
    ⟨(some 14), none, false, .mov (.tmp 4)⟩,
    ⟨(some 15), none, false, .bin .mul (.const (.int .i64 4)) (.tmp 14)⟩,
    ⟨(some 16), none, false, .iaddr (.tmp 13) (.tmp 15) 1⟩,
    ⟨(some 17), none, false, .load1 (.tmp 16)⟩,
    ⟨(some 18), none, false, .conv .u32 (.tmp 17)⟩,
    ⟨(some 19), none, false, .bin .shl (.tmp 18) (.const (.int .u64 24))⟩,
    ⟨(some 20), none, false, .mov (.tmp 0)⟩,
    ⟨(some 21), none, false, .mov (.tmp 4)⟩,
    ⟨(some 22), none, false, .bin .mul (.const (.int .i64 4)) (.tmp 21)⟩,
    ⟨(some 23), none, false, .bin .add (.tmp 22) (.const (.int .i64 1))⟩,
    ⟨(some 24), none, false, .iaddr (.tmp 20) (.tmp 23) 1⟩,
    ⟨(some 25), none, false, .load1 (.tmp 24)⟩,
    ⟨(some 26), none, false, .conv .u32 (.tmp 25)⟩,
    ⟨(some 27), none, false, .bin .shl (.tmp 26) (.const (.int .u64 16))⟩,
    ⟨(some 28), none, false, .bin .or (.tmp 19) (.tmp 27)⟩,
    ⟨(some 29), none, false, .mov (.tmp 0)⟩,
    ⟨(some 30), none, false, .mov (.tmp 4)⟩,
    ⟨(some 31), none, false, .bin .mul (.const (.int .i64 4)) (.tmp 30)⟩,
    ⟨(some 32), none, false, .bin .add (.tmp 31) (.const (.int .i64 2))⟩,
    ⟨(some 33), none, false, .iaddr (.tmp 29) (.tmp 32) 1⟩,
    ⟨(some 34), none, false, .load1 (.tmp 33)⟩,
    ⟨(some 35), none, false, .conv .u32 (.tmp 34)⟩,
    ⟨(some 36), none, false, .bin .shl (.tmp 35) (.const (.int .u64 8))⟩,
    ⟨(some 37), none, false, .bin .or (.tmp 28) (.tmp 36)⟩,
    ⟨(some 38), none, false, .mov (.tmp 0)⟩,
    ⟨(some 39), none, false, .mov (.tmp 4)⟩,
    ⟨(some 40), none, false, .bin .mul (.const (.int .i64 4)) (.tmp 39)⟩,
    ⟨(some 41), none, false, .bin .add (.tmp 40) (.const (.int .i64 3))⟩,
    ⟨(some 42), none, false, .iaddr (.tmp 38) (.tmp 41) 1⟩,
    ⟨(some 43), none, false, .load1 (.tmp 42)⟩,
    ⟨(some 44), none, false, .conv .u32 (.tmp 43)⟩,
    ⟨(some 45), none, false, .bin .or (.tmp 37) (.tmp 44)⟩,
    ⟨(some 46), none, false, .iarr (.tmp 3) (.tmp 12) 64 1⟩,
    ⟨none, none, false, .store (.tmp 46) (.tmp 45) 1⟩]) (.exit 1)) .skip)) (.seq (.draw [
    ⟨(some 47), none, false, .mov (.tmp 4)⟩,
    ⟨(some 48), none, false, .bin .sub (.tmp 47) (.const (.int .i64 15))⟩,
    ⟨(some 49), none, false, .iarr (.tmp 3) (.tmp 48) 64 1⟩,
    ⟨(some 50), none, false, .load1 (.tmp 49)⟩,
    ⟨(some 51), none, false, .mov (.tmp 4)⟩,
    ⟨(some 52), none, false, .bin .sub (.tmp 51) (.const (.int .i64 2))⟩,
    ⟨(some 53), none, false, .iarr (.tmp 3) (.tmp 52) 64 1⟩,
    ⟨(some 54), none, false, .load1 (.tmp 53)⟩,
    ⟨(some 5), none, false, .mov (.tmp 50)⟩,
    ⟨(some 6), none, false, .mov (.tmp 54)⟩]) (.draw [
    ⟨(some 55), none, false, .mov (.tmp 4)⟩,
    ⟨(some 56), none, false, .mov (.tmp 4)⟩,
    ⟨(some 57), none, false, .bin .sub (.tmp 56) (.const (.int .i64 16))⟩,
    ⟨(some 58), none, false, .iarr (.tmp 3) (.tmp 57) 64 1⟩,
    ⟨(some 59), none, true, .load1 (.tmp 58)⟩,
    ⟨(some 60), none, false, .mov (.tmp 4)⟩,
    ⟨(some 61), none, false, .bin .sub (.tmp 60) (.const (.int .i64 7))⟩,
    ⟨(some 62), none, false, .iarr (.tmp 3) (.tmp 61) 64 1⟩,
    ⟨(some 63), none, true, .load1 (.tmp 62)⟩,
    ⟨(some 64), none, false, .bin .add (.tmp 59) (.tmp 63)⟩,
    ⟨(some 65), none, false, .mov (.tmp 5)⟩,
    ⟨(some 67), none, false, .mov (.tmp 5)⟩,
    ⟨(some 70), none, false, .mov (.tmp 5)⟩,
    ⟨(some 71), none, false, .bin .shr (.tmp 70) (.const (.int .u64 3))⟩,
    ⟨(some 74), none, false, .mov (.tmp 6)⟩,
    ⟨(some 76), none, false, .mov (.tmp 6)⟩,
    ⟨(some 79), none, false, .mov (.tmp 6)⟩,
    ⟨(some 80), none, false, .bin .shr (.tmp 79) (.const (.int .u64 10))⟩,
    ⟨(some 66), none, true, .call sha_right [(.tmp 65), (.const (.int .i64 7))]⟩,
    ⟨(some 68), none, true, .call sha_right [(.tmp 67), (.const (.int .i64 18))]⟩,
    ⟨(some 69), none, false, .bin .xor (.tmp 66) (.tmp 68)⟩,
    ⟨(some 72), none, false, .bin .xor (.tmp 69) (.tmp 71)⟩,
    ⟨(some 73), none, false, .bin .add (.tmp 64) (.tmp 72)⟩,
    ⟨(some 75), none, true, .call sha_right [(.tmp 74), (.const (.int .i64 17))]⟩,
    ⟨(some 77), none, true, .call sha_right [(.tmp 76), (.const (.int .i64 19))]⟩,
    ⟨(some 78), none, false, .bin .xor (.tmp 75) (.tmp 77)⟩,
    ⟨(some 81), none, false, .bin .xor (.tmp 78) (.tmp 80)⟩,
    ⟨(some 82), none, false, .bin .add (.tmp 73) (.tmp 81)⟩,
    ⟨(some 83), none, false, .iarr (.tmp 3) (.tmp 55) 64 1⟩,
    ⟨none, none, false, .store (.tmp 83) (.tmp 82) 1⟩]))))) (.ops [
    ⟨(some 84), none, false, .bin .add (.tmp 7) (.const (.int .i64 1))⟩,
    ⟨(some 7), none, false, .mov (.tmp 84)⟩]))))))) (.seq (.ops [
    ⟨(some 85), none, false, .loadn (.tmp 3) 64⟩,
    ⟨none, none, false, .store (.tmp 2) (.tmp 85) 64⟩]) .ret))))
theorem fits_sha_schedule : Fits Tryd.prog 1 sha_schedule ic_sha_schedule [.many 2 64] 1 :=
  ⟨Tryd.f88, Tryd.func88, by decide, by kernel_rfl, by kernel_rfl⟩

/-- chantry/sha.right -/
noncomputable def ic_sha_right : IC :=
  (.seq (.ops [
    ⟨(some 4), none, false, .mov (.const (.int .u32 0))⟩]) (.seq (.draw [
    ⟨(some 5), none, false, .mov (.tmp 0)⟩,
    ⟨(some 6), none, false, .mov (.tmp 1)⟩,
    ⟨(some 7), none, false, .bin .shr (.tmp 5) (.tmp 6)⟩,
    ⟨(some 8), none, false, .mov (.tmp 0)⟩,
    ⟨(some 9), none, false, .mov (.tmp 1)⟩,
    ⟨(some 10), none, false, .bin .sub (.const (.int .i64 32)) (.tmp 9)⟩,
    ⟨(some 11), none, false, .bin .shl (.tmp 8) (.tmp 10)⟩,
    ⟨(some 12), none, false, .bin .or (.tmp 7) (.tmp 11)⟩,
    ⟨(some 4), none, false, .mov (.tmp 12)⟩]) .ret))
theorem fits_sha_right : Fits Tryd.prog 1 sha_right ic_sha_right [.tmp 4] 2 :=
  ⟨Tryd.f89, Tryd.func89, by decide, by kernel_rfl, by kernel_rfl⟩

/-- slices.rotateCmpFunc[chantry/api.Item] -/
noncomputable def ic_api_Item_90 : IC :=
  (.seq (.ops [
    ⟨(some 12), none, false, .mov (.tmp 2)⟩,
    ⟨(some 13), none, false, .mov (.tmp 1)⟩,
    ⟨(some 14), none, false, .bin .sub (.tmp 12) (.tmp 13)⟩,
    ⟨(some 10), none, false, .mov (.tmp 14)⟩]) (.seq (.ops [
    ⟨(some 15), none, false, .mov (.tmp 3)⟩,
    ⟨(some 16), none, false, .mov (.tmp 2)⟩,
    ⟨(some 17), none, false, .bin .sub (.tmp 15) (.tmp 16)⟩,
    ⟨(some 11), none, false, .mov (.tmp 17)⟩]) (.seq (.block 0 (.loop (.seq (.seq (.ops [
    ⟨(some 18), none, false, .mov (.tmp 10)⟩,
    ⟨(some 19), none, false, .mov (.tmp 11)⟩,
    ⟨(some 20), none, false, .bin .neq (.tmp 18) (.tmp 19)⟩]) (.cond (.tmp 20) .skip (.exit 0))) (.block 1 (.seq (.ops [
    ⟨(some 21), none, false, .mov (.tmp 10)⟩,
    ⟨(some 22), none, false, .mov (.tmp 11)⟩,
    ⟨(some 23), none, false, .bin .gtr (.tmp 21) (.tmp 22)⟩]) (.cond (.tmp 23) (.seq (.ops [
    ⟨(some 24), none, false, .mov (.tmp 0)⟩,
    ⟨(some 25), none, false, .mov (.tmp 2)⟩,
    ⟨(some 26), none, false, .mov (.tmp 10)⟩,
    ⟨(some 27), none, false, .bin .sub (.tmp 25) (.tmp 26)⟩,
    ⟨(some 28), none, false, .mov (.tmp 2)⟩,
    ⟨(some 29), none, false, .mov (.tmp 11)⟩,
    ⟨(some 30), none, false, .mov (.tmp 4)⟩,
    ⟨(some 31), none, false, .call api_Item_91 [(.tmp 24), (.tmp 27), (.tmp 28), (.tmp 29), (.tmp 30)]⟩]) (.ops [
    ⟨(some 32), none, false, .mov (.tmp 10)⟩,
    ⟨(some 33), none, false, .mov (.tmp 11)⟩,
    ⟨(some 34), none, false, .bin .sub (.tmp 32) (.tmp 33)⟩,
    ⟨(some 10), none, false, .mov (.tmp 34)⟩])) (.seq (.ops [
    ⟨(some 35), none, false, .mov (.tmp 0)⟩,
    ⟨(some 36), none, false, .mov (.tmp 2)⟩,
    ⟨(some 37), none, false, .mov (.tmp 10)⟩,
    ⟨(some 38), none, false, .bin .sub (.tmp 36) (.tmp 37)⟩,
    ⟨(some 39), none, false, .mov (.tmp 2)⟩,
    ⟨(some 40), none, false, .mov (.tmp 11)⟩,
    ⟨(some 41), none, false, .bin .add (.tmp 39) (.tmp 40)⟩,
    ⟨(some 42), none, false, .mov (.tmp 10)⟩,
    ⟨(some 43), none, false, .bin .sub (.tmp 41) (.tmp 42)⟩,
    ⟨(some 44), none, false, .mov (.tmp 10)⟩,
    ⟨(some 45), none, false, .mov (.tmp 4)⟩,
    ⟨(some 46), none, false, .call api_Item_91 [(.tmp 35), (.tmp 38), (.tmp 43), (.tmp 44), (.tmp 45)]⟩]) (.ops [
    ⟨(some 47), none, false, .mov (.tmp 11)⟩,
    ⟨(some 48), none, false, .mov (.tmp 10)⟩,
    ⟨(some 49), none, false, .bin .sub (.tmp 47) (.tmp 48)⟩,
    ⟨(some 11), none, false, .mov (.tmp 49)⟩])))))))) (.ops [
    ⟨(some 50), none, false, .mov (.tmp 0)⟩,
    ⟨(some 51), none, false, .mov (.tmp 2)⟩,
    ⟨(some 52), none, false, .mov (.tmp 10)⟩,
    ⟨(some 53), none, false, .bin .sub (.tmp 51) (.tmp 52)⟩,
    ⟨(some 54), none, false, .mov (.tmp 2)⟩,
    ⟨(some 55), none, false, .mov (.tmp 10)⟩,
    ⟨(some 56), none, false, .mov (.tmp 4)⟩,
    ⟨(some 57), none, false, .call api_Item_91 [(.tmp 50), (.tmp 53), (.tmp 54), (.tmp 55), (.tmp 56)]⟩]))))
theorem fits_api_Item_90 : Fits Tryd.prog 1 api_Item_90 ic_api_Item_90 [] 5 :=
  ⟨Tryd.f90, Tryd.func90, by decide, by kernel_rfl, by kernel_rfl⟩

/-- slices.swapRangeCmpFunc[chantry/api.Item] -/
noncomputable def ic_api_Item_91 : IC :=
  (.seq (.ops [
    ⟨(some 10), none, false, .mov (.const (.int .i64 0))⟩]) (.block 0 (.loop (.seq (.seq (.ops [
    ⟨(some 11), none, false, .mov (.tmp 10)⟩,
    ⟨(some 12), none, false, .mov (.tmp 3)⟩,
    ⟨(some 13), none, false, .bin .lss (.tmp 11) (.tmp 12)⟩]) (.cond (.tmp 13) .skip (.exit 0))) (.seq (.block 1 (.draw [
    ⟨(some 16), none, false, .mov (.tmp 0)⟩,
    ⟨(some 17), none, false, .mov (.tmp 1)⟩,
    ⟨(some 18), none, false, .mov (.tmp 10)⟩,
    ⟨(some 19), none, false, .bin .add (.tmp 17) (.tmp 18)⟩,
    ⟨(some 20), none, false, .mov (.tmp 0)⟩,
    ⟨(some 21), none, false, .mov (.tmp 2)⟩,
    ⟨(some 22), none, false, .mov (.tmp 10)⟩,
    ⟨(some 23), none, false, .bin .add (.tmp 21) (.tmp 22)⟩,
    ⟨(some 24), none, false, .mov (.tmp 0)⟩,
    ⟨(some 25), none, false, .mov (.tmp 2)⟩,
    ⟨(some 26), none, false, .mov (.tmp 10)⟩,
    ⟨(some 27), none, false, .bin .add (.tmp 25) (.tmp 26)⟩,
    ⟨(some 28), none, false, .iaddr (.tmp 24) (.tmp 27) 2⟩,
    ⟨(some 29), none, false, .loadn (.tmp 28) 2⟩,
    ⟨(some 30), none, false, .mov (.tmp 0)⟩,
    ⟨(some 31), none, false, .mov (.tmp 1)⟩,
    ⟨(some 32), none, false, .mov (.tmp 10)⟩,
    ⟨(some 33), none, false, .bin .add (.tmp 31) (.tmp 32)⟩,
    ⟨(some 34), none, false, .iaddr (.tmp 30) (.tmp 33) 2⟩,
    ⟨(some 35), none, false, .loadn (.tmp 34) 2⟩,
    ⟨(some 36), none, false, .iaddr (.tmp 16) (.tmp 19) 2⟩,
    ⟨none, none, false, .store (.tmp 36) (.tmp 29) 2⟩,
    ⟨(some 37), none, false, .iaddr (.tmp 20) (.tmp 23) 2⟩,
    ⟨none, none, false, .store (.tmp 37) (.tmp 35) 2⟩])) (.ops [
    ⟨(some 14), none, false, .mov (.tmp 10)⟩,
    ⟨(some 15), none, false, .bin .add (.tmp 14) (.const (.int .i64 1))⟩,
    ⟨(some 10), none, false, .mov (.tmp 15)⟩]))))))
theorem fits_api_Item_91 : Fits Tryd.prog 1 api_Item_91 ic_api_Item_91 [] 5 :=
  ⟨Tryd.f91, Tryd.func91, by decide, by kernel_rfl, by kernel_rfl⟩

end Go.AS.C


namespace Go.AS.C
open Go Go.Proofs
set_option linter.unusedVariables false
set_option linter.unusedSimpArgs false
set_option maxRecDepth 10000

theorem mixed : Tryd.prog.follows .mixedOrders = true := by kernel_rfl

end Go.AS.C


namespace Go.AS.C
open Go Go.Proofs
set_option linter.unusedVariables false
set_option linter.unusedSimpArgs false
set_option maxRecDepth 10000

theorem cmp_isNaN_spec {A : AH} {a : ByteArray} {Q : Value → AH → Prop} (hq : Q (.bool false) A) : ACalls 1 Tryd.prog cmp_isNaN_string [.string a] Q A := by
  refine ACalls.of_fits mixed fits_cmp_isNaN_string rfl ?_
  unfold ic_cmp_isNaN_string
  have i0 : initA [.string a] 0 = .string a := rfl
  generalize initA [.string a] = r at i0
  simp (maxSteps := 1000000) (disch := omega) only [stepS, reduceIte, Nat.reduceBEq, Nat.reduceEqDiff, tupleOf, stepT, i0]
  exact hq
theorem cmp_Compare_spec {A : AH} {a b : ByteArray} {Q : Value → AH → Prop} (hq : ∀ n, (n < 0 ↔ bl a < bl b) → (n = 0 ↔ a = b) → (0 < n ↔ bl b < bl a) → Q (ii n) A) : ACalls 1 Tryd.prog cmp_Compare_string [.string a, .string b] Q A := by
  refine ACalls.of_fits mixed fits_cmp_Compare_string rfl ?_
  unfold ic_cmp_Compare_string
  have i0 : initA [.string a, .string b] 0 = .string a := rfl
  have i1 : initA [.string a, .string b] 1 = .string b := rfl
  generalize initA [.string a, .string b] = r at i0 i1
  simp (maxSteps := 1000000) (disch := omega) only [stepS, reduceIte, Nat.reduceBEq, Nat.reduceEqDiff, tupleOf, stepT, i0, i1]
  refine cmp_isNaN_spec ?_
  simp (maxSteps := 1000000) (disch := omega) only [stepS, reduceIte, Nat.reduceBEq, Nat.reduceEqDiff, tupleOf, stepT, i0, i1]
  refine cmp_isNaN_spec ?_
  by_cases h1 : bl a < bl b
  · have d1 : decide (bl a < bl b) = true := decide_eq_true h1
    simp (maxSteps := 1000000) (disch := omega) only [stepS, reduceIte, Nat.reduceBEq, Nat.reduceEqDiff, tupleOf, stepT, i0, i1, ltS, d1]
    refine hq (-1) ⟨fun _ => h1, (fun _ => by decide)⟩ ⟨(fun h => by cases h), fun h => by subst h; exact absurd h1 (kl_irr _)⟩ ⟨fun h => absurd h (by decide), fun h => absurd h (kl_asym h1)⟩
  · have d1 : decide (bl a < bl b) = false := decide_eq_false h1
    by_cases h2 : bl b < bl a
    · have d2 : decide (bl b < bl a) = true := decide_eq_true h2
      simp (maxSteps := 1000000) (disch := omega) only [stepS, reduceIte, Nat.reduceBEq, Nat.reduceEqDiff, tupleOf, stepT, i0, i1, ltS, gtS, d1, d2]
      refine hq 1 ⟨fun h => absurd h (by decide), fun h => absurd h h1⟩ ⟨(fun h => by cases h), fun h => by subst h; exact absurd h2 (kl_irr _)⟩ ⟨fun _ => h2, fun _ => by decide⟩
    · have d2 : decide (bl b < bl a) = false := decide_eq_false h2
      have he : a = b := by
        rcases kl_tri (bl a) (bl b) with h | h | h
        · exact absurd h h1
        · exact bl_inj.1 h
        · exact absurd h h2
      simp (maxSteps := 1000000) (disch := omega) only [stepS, reduceIte, Nat.reduceBEq, Nat.reduceEqDiff, tupleOf, stepT, i0, i1, ltS, gtS, d1, d2]
      refine hq 0 ⟨fun h => absurd h (by decide), fun h => absurd h h1⟩ ⟨fun _ => he, fun _ => rfl⟩ ⟨fun h => absurd h (by decide), fun h => absurd h h2⟩
end Go.AS.C


namespace Go.AS.C
open Go
set_option linter.unusedVariables false
set_option linter.unusedSimpArgs false
set_option maxRecDepth 10000

/-- One bit's turn. -/
def bit1 (c : BitVec 32) : BitVec 32 := (c >>> 1) ^^^ (2197175160#32 &&& -(c &&& 1#32))

def bitsN : Nat → BitVec 32 → BitVec 32
  | 0, c => c
  | n + 1, c => bit1 (bitsN n c)

def byte1 (c : BitVec 32) (b : UInt8) : BitVec 32 := bitsN 8 (c ^^^ BitVec.ofNat 32 b.toNat)

def more (s : BitVec 32) (bs : List UInt8) : BitVec 32 := ~~~ (bs.foldl byte1 (~~~ s))

theorem hpoly : (Value.int .u32 2197175160) = u32 2197175160#32 := rfl

theorem shr1 (a : BitVec 32) : binA .shr (u32 a) (.int .u64 1) = some (u32 (a >>> 1)) := binA_shr32 a .u64 1 (by omega)

theorem hone32 : (Value.int .u32 1) = u32 1#32 := rfl

theorem hones32 : (Value.int .u32 4294967295) = u32 4294967295#32 := rfl

theorem xor_ones (c : BitVec 32) : c ^^^ 4294967295#32 = ~~~ c := by
  have : (4294967295#32) = BitVec.allOnes 32 := by decide
  rw [this, BitVec.xor_allOnes]

theorem hzero32 : (Value.int .u32 0) = u32 0#32 := rfl

/-- n as w bytes, the lowest first. -/
def leB (n w : Nat) : List UInt8 := (List.range w).map fun j => UInt8.ofNat (n / 2 ^ (8 * j))

theorem leB_length (n w : Nat) : (leB n w).length = w := by simp [leB]

theorem flat_take_le {α : Type} (l : List (List α)) (k : Nat) : (l.take k).flatten.length ≤ l.flatten.length := by
  conv => rhs; rw [← List.take_append_drop k l, List.flatten_append, List.length_append]
  omega

theorem flat_take_succ {α : Type} (l : List (List α)) {k : Nat} {x : List α} (h : l[k]? = some x) : (l.take (k + 1)).flatten = (l.take k).flatten ++ x := by
  rw [List.take_add_one, h]
  simp

theorem leB4 (s : BitVec 32) : leB (s &&& 65535#32).toNat 2 ++ leB (s >>> 16).toNat 2 = leB s.toNat 4 := by
  have h := s.isLt
  have e1 : (s &&& 65535#32).toNat = s.toNat % 65536 := by
    rw [BitVec.toNat_and]
    exact Nat.and_two_pow_sub_one_eq_mod s.toNat 16
  have e2 : (s >>> 16).toNat = s.toNat / 65536 := by
    rw [BitVec.toNat_ushiftRight, Nat.shiftRight_eq_div_pow]
  rw [e1, e2]
  have r2 : List.range 2 = [0, 1] := by decide
  have r4 : List.range 4 = [0, 1, 2, 3] := by decide
  unfold leB
  rw [r2, r4]
  simp only [List.map_cons, List.map_nil, List.cons_append, List.nil_append]
  simp only [List.cons.injEq, and_true]
  exact ⟨u8eq (by omega), u8eq (by omega), u8eq (by omega), u8eq (by omega)⟩

theorem h65535 : (Value.int .u32 65535) = u32 65535#32 := rfl

theorem shr16 (a : BitVec 32) : binA .shr (u32 a) (.int .u64 16) = some (u32 (a >>> 16)) := binA_shr32 a .u64 16 (by omega)

/-- What seals bytes. -/
def sealB (bs : List UInt8) : List UInt8 := bs ++ leB (more 0#32 bs).toNat 4

theorem sealB_length (bs : List UInt8) : (sealB bs).length = bs.length + 4 := by simp [sealB, leB_length]

/-- What was sealed is these bytes. -/
def openB (bs : List UInt8) : Option (List UInt8) :=
  if 4 ≤ bs.length ∧ bs.drop (bs.length - 4) = leB (more 0#32 (bs.take (bs.length - 4))).toNat 4 then some (bs.take (bs.length - 4)) else none

theorem openB_sealB (bs : List UInt8) : openB (sealB bs) = some bs := by
  unfold openB
  have e : (sealB bs).length - 4 = bs.length := by rw [sealB_length]; omega
  have h1 : (sealB bs).take bs.length = bs := by unfold sealB; simp
  have h2 : (sealB bs).drop bs.length = leB (more 0#32 bs).toNat 4 := by unfold sealB; simp
  rw [e, h1, h2, if_pos ⟨by rw [sealB_length]; omega, rfl⟩]

theorem h256 : (Value.int .u32 256) = u32 256#32 := rfl

end Go.AS.C


namespace Go.AS.C
open Go
set_option linter.unusedVariables false
set_option linter.unusedSimpArgs false

/-- Bytes as a number, the lowest first. -/
def leN : List UInt8 → Nat
  | [] => 0
  | b :: r => b.toNat + 256 * leN r
theorem leN_append : ∀ (a b : List UInt8), leN (a ++ b) = leN a + 256 ^ a.length * leN b
  | [], b => by simp [leN]
  | x :: a, b => by
    simp only [List.cons_append, leN, leN_append a b, List.length_cons, Nat.pow_succ, Nat.mul_add, ← Nat.mul_assoc]
    rw [Nat.mul_comm 256 (256 ^ a.length)]
    omega
theorem leN_lt : ∀ a : List UInt8, leN a < 256 ^ a.length
  | [] => by simp [leN]
  | x :: a => by
    have h1 := leN_lt a
    have h2 := x.toNat_lt
    simp only [leN, List.length_cons, Nat.pow_succ]
    omega
theorem pow256 (k : Nat) : 2 ^ (8 * k) = 256 ^ k := by rw [Nat.pow_mul]

/-- What num.Unfix gives: the number, and the error. -/
def unfixN (bs : List UInt8) : Nat × Nat := if bs.length < 1 ∨ 4 < bs.length then (0, 1) else if leN bs ≤ 2147483647 then (leN bs, 0) else (0, 5)

theorem wrap_i64_nat (n : Nat) (h : n < 2 ^ 62) : IntKind.i64.wrap (n : Int) = n := wrap_i64 _ (by omega) (by omega)
theorem toNat_i64 (n : Nat) (h : n < 2 ^ 62) : (BitVec.ofInt 64 (n : Int)).toNat = n := by
  rw [BitVec.ofInt_natCast, BitVec.toNat_ofNat, Nat.mod_eq_of_lt (by omega)]
theorem or_ii (a b : Nat) (ha : a < 2 ^ 62) (hb : b < 2 ^ 62) : binA .or (ii a) (ii b) = some (ii ((a ||| b : Nat) : Int)) := by
  show (if IntKind.i64 = IntKind.i64 then some (Value.int .i64 (IntKind.i64.wrap ((BitVec.ofInt 64 (a : Int) ||| BitVec.ofInt 64 (b : Int)).toNat : Int))) else none) = _
  rw [if_pos rfl, BitVec.toNat_or, toNat_i64 a ha, toNat_i64 b hb, wrap_i64_nat _ (Nat.or_lt_two_pow ha hb)]
theorem shl_ii (a : Nat) (k : IntKind) (m : Nat) (hm : m ≤ 64) (h : a * 2 ^ m < 2 ^ 62) : binA .shl (ii a) (.int k m) = some (ii ((a * 2 ^ m : Nat) : Int)) := by
  simp only [binA]
  have hn : ¬ ((m : Int) < 0) := by omega
  rw [if_neg hn]
  have : min ((m : Int).toNat) IntKind.i64.bits = m := by
    show min ((m : Int).toNat) 64 = m
    simp; omega
  rw [this, show ((2 : Int) ^ m) = ((2 ^ m : Nat) : Int) by simp, ← Int.natCast_mul, wrap_i64_nat _ h]
theorem or_low (a b k : Nat) (h : a < 2 ^ k) : a ||| (b * 2 ^ k) = a + b * 2 ^ k := by
  rw [Nat.mul_comm, Nat.or_comm, ← Nat.two_pow_add_eq_or_of_lt h, Nat.add_comm]
theorem div_ii (a b : Nat) (hb : b ≠ 0) (ha : a < 2 ^ 62) : binA .quo (ii a) (ii b) = some (ii ((a / b : Nat) : Int)) := by
  simp only [binA, ii]
  have hb2 : True ∧ (b : Int) ≠ 0 := ⟨trivial, by omega⟩
  rw [if_pos hb2, Int.tdiv_eq_ediv_of_nonneg (by omega), ← Int.natCast_ediv, wrap_i64_nat _ (Nat.lt_of_le_of_lt (Nat.div_le_self _ _) ha)]
theorem rem_ii (a b : Nat) (hb : b ≠ 0) : binA .rem (ii a) (ii b) = some (ii ((a % b : Nat) : Int)) := by
  simp only [binA, ii]
  have hb2 : True ∧ (b : Int) ≠ 0 := ⟨trivial, by omega⟩
  rw [if_pos hb2, Int.tmod_eq_emod_of_nonneg (by omega), ← Int.natCast_emod]
end Go.AS.C


namespace Go.AS.C
open Go
set_option linter.unusedVariables false
set_option linter.unusedSimpArgs false

theorem binA_or8 (a b : UInt8) : binA .or (by8 a) (by8 b) = some (by8 (a ||| b)) := by
  show (if IntKind.u8 = IntKind.u8 then some (Value.int .u8 (IntKind.u8.wrap ((BitVec.ofInt 8 (a.toNat : Int) ||| BitVec.ofInt 8 (b.toNat : Int)).toNat : Int))) else none) = _
  rw [if_pos rfl, ofInt_u8, ofInt_u8]
  have h1 : (a.toBitVec ||| b.toBitVec).toNat = (a ||| b).toNat := by simp
  rw [h1, wrap_u8 _ (a ||| b).toNat_lt]
  rfl
theorem binA_and8 (a b : UInt8) : binA .and (by8 a) (by8 b) = some (by8 (a &&& b)) := by
  show (if IntKind.u8 = IntKind.u8 then some (Value.int .u8 (IntKind.u8.wrap ((BitVec.ofInt 8 (a.toNat : Int) &&& BitVec.ofInt 8 (b.toNat : Int)).toNat : Int))) else none) = _
  rw [if_pos rfl, ofInt_u8, ofInt_u8]
  have h1 : (a.toBitVec &&& b.toBitVec).toNat = (a &&& b).toNat := by simp
  rw [h1, wrap_u8 _ (a &&& b).toNat_lt]
  rfl
theorem binA_shr8 (a : UInt8) (k : IntKind) (n : Nat) (h : n ≤ 8) : binA .shr (by8 a) (.int k n) = some (by8 (UInt8.ofNat (a.toNat / 2 ^ n))) := by
  simp only [binA, by8]
  have hn : ¬ ((n : Int) < 0) := by omega
  rw [if_neg hn]
  have : min ((n : Int).toNat) IntKind.u8.bits = n := by
    show min ((n : Int).toNat) 8 = n
    simp; omega
  rw [this, show ((2 : Int) ^ n) = ((2 ^ n : Nat) : Int) by simp, Int.fdiv_eq_ediv_of_nonneg _ (Int.natCast_nonneg _)]
  congr 2
  have hlt : a.toNat / 2 ^ n < 256 := Nat.lt_of_le_of_lt (Nat.div_le_self _ _) a.toNat_lt
  rw [UInt8.toNat_ofNat', Nat.mod_eq_of_lt hlt, Int.natCast_ediv]
theorem b8_0 : (Value.int .u8 0) = by8 0 := rfl
theorem b8_1 : (Value.int .u8 1) = by8 1 := rfl

end Go.AS.C


namespace Go.AS.C
open Go
set_option linter.unusedVariables false
set_option linter.unusedSimpArgs false

theorem ext_bytes (s : ByteArray) (l h : Nat) : (s.extract l h).data.toList = (s.data.toList.drop l).take (h - l) := by
  rw [ByteArray.data_extract, Array.toList_extract, List.extract_eq_take_drop]
theorem size_bytes (s : ByteArray) : s.size = s.data.toList.length := by rw [Array.length_toList]; rfl
theorem sls_both {A : AH} {s : ByteArray} {l h : Nat} (h1 : l ≤ h) (h2 : h ≤ s.size) : sSls A (.string s) (some (ii l)) (some (ii h)) = some (.string (s.extract l h), A) := by
  unfold sSls
  simp only [bnd_both h1 h2]
  rfl
theorem s2b_row (A : AH) (s : ByteArray) : sS2b A (.string s) = some (.slice (some ⟨A.length, 0, none⟩) s.size s.size, A ++ [.row (s.data.toList.map by8) .own 1 false]) := id rfl
theorem s2b_byt (A : AH) (s : ByteArray) : OwnB A.length (A ++ [.row (s.data.toList.map by8) .own 1 false]) (.slice (some ⟨A.length, 0, none⟩) s.size s.size) s.data.toList :=
  own_row (get_last _ _) (size_bytes s) (Nat.le_refl _) (Nat.le_refl _)
theorem lens_str {A : AH} {s : ByteArray} : sLens A true (.string s) = some (ii s.size, A) := id rfl
end Go.AS.C


namespace Go.AS.C
open Go
set_option linter.unusedVariables false
set_option linter.unusedSimpArgs false
set_option maxRecDepth 10000

/-- What Fix gives. -/
def fixF (n w : Int) : Option (List UInt8) := if (1 ≤ w ∧ w ≤ 4) ∧ (0 ≤ n ∧ n ≤ 2147483647) ∧ n.toNat / 256 ^ w.toNat = 0 then some (leB n.toNat w.toNat) else none
theorem leN_leB (w : Nat) : ∀ n, n < 256 ^ w → leN (leB n w) = n := by
  induction w with
  | zero => intro n h; simp at h; subst h; rfl
  | succ w ih =>
    intro n h
    have e : leB n (w + 1) = UInt8.ofNat n :: leB (n / 256) w := by
      unfold leB
      rw [List.range_succ_eq_map, List.map_cons, List.map_map]
      congr 1
      · simp
      apply List.map_congr_left
      intro k _
      show UInt8.ofNat (n / 2 ^ (8 * (k + 1))) = UInt8.ofNat (n / 256 / 2 ^ (8 * k))
      rw [Nat.div_div_eq_div_mul, show 2 ^ (8 * (k + 1)) = 256 * 2 ^ (8 * k) by rw [Nat.mul_add, Nat.pow_add, Nat.mul_comm]]
    rw [e]
    unfold leN
    rw [ih (n / 256) (by rw [Nat.div_lt_iff_lt_mul (by omega)]; rw [Nat.pow_succ] at h; exact h), UInt8.toNat_ofNat']
    omega
end Go.AS.C


namespace Go.AS.C
open Go
set_option linter.unusedVariables false
set_option linter.unusedSimpArgs false
set_option maxRecDepth 10000

/-- The numbers of the rounds. -/
def kN : List Nat := [0x428a2f98, 0x71374491, 0xb5c0fbcf, 0xe9b5dba5, 0x3956c25b, 0x59f111f1, 0x923f82a4, 0xab1c5ed5,
  0xd807aa98, 0x12835b01, 0x243185be, 0x550c7dc3, 0x72be5d74, 0x80deb1fe, 0x9bdc06a7, 0xc19bf174,
  0xe49b69c1, 0xefbe4786, 0x0fc19dc6, 0x240ca1cc, 0x2de92c6f, 0x4a7484aa, 0x5cb0a9dc, 0x76f988da,
  0x983e5152, 0xa831c66d, 0xb00327c8, 0xbf597fc7, 0xc6e00bf3, 0xd5a79147, 0x06ca6351, 0x14292967,
  0x27b70a85, 0x2e1b2138, 0x4d2c6dfc, 0x53380d13, 0x650a7354, 0x766a0abb, 0x81c2c92e, 0x92722c85,
  0xa2bfe8a1, 0xa81a664b, 0xc24b8b70, 0xc76c51a3, 0xd192e819, 0xd6990624, 0xf40e3585, 0x106aa070,
  0x19a4c116, 0x1e376c08, 0x2748774c, 0x34b0bcb5, 0x391c0cb3, 0x4ed8aa4a, 0x5b9cca4f, 0x682e6ff3,
  0x748f82ee, 0x78a5636f, 0x84c87814, 0x8cc70208, 0x90befffa, 0xa4506ceb, 0xbef9a3f7, 0xc67178f2]
def kV : List Value := kN.map fun n => .int .u32 (n : Nat)
/-- The same, as the laid variable reads. -/
def kI : List Int := kN.map fun (n : Nat) => (n : Int)
theorem kI_cells : (kI.map fun m => Value.int .u32 m) = kV := id rfl
theorem kI_flat : ∀ v ∈ kV, flatV v = true ∧ v.oneCell' = true := by
  intro v hv
  unfold kV at hv
  rw [List.mem_map] at hv
  obtain ⟨n, _, rfl⟩ := hv
  exact ⟨rfl, rfl⟩
/-- The block of the package variable. -/
def kB : Blk := .row kV .ro 0 false

abbrev W32 := BitVec 32
theorem add32 (a b : W32) : binA .add (u32 a) (u32 b) = some (u32 (a + b)) := by
  simp only [binA, u32, if_true]
  rw [← Int.natCast_add, wrap_u32_of, BitVec.toNat_ofNat, BitVec.toNat_add]
theorem shr32 (a : W32) (k : IntKind) (n : Int) (h0 : 0 ≤ n) (h : n ≤ 32) : binA .shr (u32 a) (.int k n) = some (u32 (a >>> n.toNat)) := by
  obtain ⟨m, rfl⟩ : ∃ m : Nat, n = m := ⟨n.toNat, by omega⟩
  exact binA_shr32 a k m (by omega)
theorem shl32 (a : W32) (k : IntKind) (n : Int) (h0 : 0 ≤ n) (h : n ≤ 32) : binA .shl (u32 a) (.int k n) = some (u32 (a <<< n.toNat)) := by
  obtain ⟨m, rfl⟩ : ∃ m : Nat, n = m := ⟨n.toNat, by omega⟩
  simp only [binA, u32]
  rw [if_neg (by omega)]
  have : min ((m : Int).toNat) IntKind.u32.bits = m := by
    show min ((m : Int).toNat) 32 = m
    simp; omega
  rw [this]
  congr 2
  have e : (a.toNat : Int) * 2 ^ m = ((a.toNat * 2 ^ m : Nat) : Int) := by simp
  rw [e, wrap_u32_of, Int.toNat_natCast, BitVec.toNat_shiftLeft, BitVec.toNat_ofNat, Nat.shiftLeft_eq]

def rotr (x : W32) (n : Nat) : W32 := x >>> n ||| x <<< (32 - n)
def sg0 (x : W32) : W32 := (rotr x 7 ^^^ rotr x 18) ^^^ x >>> 3
def sg1 (y : W32) : W32 := (rotr y 17 ^^^ rotr y 19) ^^^ y >>> 10
def b32 (b : UInt8) : W32 := BitVec.ofNat 32 b.toNat
def wordF (bs : List UInt8) (i : Nat) : W32 := ((b32 (bs.getD (4 * i) 0) <<< 24 ||| b32 (bs.getD (4 * i + 1) 0) <<< 16) ||| b32 (bs.getD (4 * i + 2) 0) <<< 8) ||| b32 (bs.getD (4 * i + 3) 0)
/-- The first n words of a block. -/
def schW (bs : List UInt8) : Nat → List W32
  | 0 => []
  | n + 1 => schW bs n ++ [if n < 16 then wordF bs n else ((schW bs n).getD (n - 16) 0 + (schW bs n).getD (n - 7) 0) + sg0 ((schW bs n).getD (n - 15) 0) + sg1 ((schW bs n).getD (n - 2) 0)]
theorem schW_length (bs : List UInt8) : ∀ n, (schW bs n).length = n
  | 0 => rfl
  | n + 1 => by simp [schW, schW_length bs n]
/-- A state: eight words. -/
structure S8 where
  a : W32
  b : W32
  c : W32
  d : W32
  e : W32
  f : W32
  g : W32
  h : W32
def S8.l (s : S8) : List W32 := [s.a, s.b, s.c, s.d, s.e, s.f, s.g, s.h]
def S8.cells (s : S8) : List Value := [u32 s.a, u32 s.b, u32 s.c, u32 s.d, u32 s.e, u32 s.f, u32 s.g, u32 s.h]
def upF (s : S8) (k w : W32) : W32 := (((s.h + ((rotr s.e 6 ^^^ rotr s.e 11) ^^^ rotr s.e 25)) + ((s.e &&& s.f) ^^^ (~~~ s.e &&& s.g))) + k) + w
def downF (s : S8) : W32 := ((rotr s.a 2 ^^^ rotr s.a 13) ^^^ rotr s.a 22) + (((s.a &&& s.b) ^^^ (s.a &&& s.c)) ^^^ (s.b &&& s.c))
def roundF (s : S8) (k w : W32) : S8 := ⟨upF s k w + downF s, s.a, s.b, s.c, s.d + upF s k w, s.e, s.f, s.g⟩
def kW (i : Nat) : W32 := BitVec.ofNat 32 (kN.getD i 0)
/-- The first n rounds. -/
def rounds (W : List W32) (s : S8) : Nat → S8
  | 0 => s
  | n + 1 => roundF (rounds W s n) (kW n) (W.getD n 0)
def S8.add (s t : S8) : S8 := ⟨s.a + t.a, s.b + t.b, s.c + t.c, s.d + t.d, s.e + t.e, s.f + t.f, s.g + t.g, s.h + t.h⟩
def mixF (s : S8) (bs : List UInt8) : S8 := s.add (rounds (schW bs 64) s 64)
/-- Whole blocks are taken in; what is left. -/
def eat : Nat → S8 → List UInt8 → S8 × List UInt8
  | 0, s, bs => (s, bs)
  | n + 1, s, bs => if 64 ≤ bs.length then eat n (mixF s (bs.take 64)) (bs.drop 64) else (s, bs)
def eatF (s : S8) (bs : List UInt8) : S8 × List UInt8 := eat bs.length s bs
theorem eat_more : ∀ (n : Nat) (s : S8) (bs : List UInt8), bs.length ≤ n → eat n s bs = eatF s bs
  | 0, s, bs, h => by
    have : bs = [] := by simpa using h
    subst this; rfl
  | n + 1, s, bs, h => by
    unfold eatF
    cases hl : bs.length with
    | zero => simp [eat, hl]
    | succ m =>
      simp only [eat, hl]
      split
      · rw [eat_more n _ _ (by simp; omega), eat_more m _ _ (by simp; omega)]
      · rfl
  termination_by n => n
theorem eatF_small {s : S8} {bs : List UInt8} (h : bs.length < 64) : eatF s bs = (s, bs) := by
  unfold eatF
  cases hl : bs.length with
  | zero => rfl
  | succ m => simp only [eat]; rw [if_neg (by omega)]
theorem eatF_big {s : S8} {bs : List UInt8} (h : 64 ≤ bs.length) : eatF s bs = eatF (mixF s (bs.take 64)) (bs.drop 64) := by
  rw [← eat_more (bs.length + 1) s bs (by omega)]
  simp only [eat]
  rw [if_pos h, eat_more _ _ _ (by simp)]
theorem eatF_append : ∀ (n : Nat) (s : S8) (x y : List UInt8), x.length ≤ n → eatF s (x ++ y) = eatF (eatF s x).1 ((eatF s x).2 ++ y)
  | 0, s, x, y, h => by
    have : x = [] := by simpa using h
    subst this
    rw [eatF_small (bs := []) (by simp)]
  | n + 1, s, x, y, h => by
    by_cases h64 : 64 ≤ x.length
    · rw [eatF_big (bs := x) h64, eatF_big (bs := x ++ y) (by simp; omega), List.take_append_of_le_length h64, List.drop_append_of_le_length h64]
      exact eatF_append n _ _ _ (by simp; omega)
    · rw [eatF_small (bs := x) (by omega)]
def init8 : S8 := ⟨0x6a09e667#32, 0xbb67ae85#32, 0x3c6ef372#32, 0xa54ff53a#32, 0x510e527f#32, 0x9b05688c#32, 0x1f83d9ab#32, 0x5be0cd19#32⟩
/-- How many zeros stand behind so many bytes and 128. -/
def zerosN (n : Nat) : Nat := (119 - n % 64) % 64
def bytes8 (n : Nat) : List UInt8 := (List.range 8).map fun j => UInt8.ofNat (n * 8 / 2 ^ (8 * (7 - j)))
def padF (n : Nat) : List UInt8 := 128 :: (List.replicate (zerosN n) 0 ++ bytes8 n)
def word4 (w : W32) : List UInt8 := [UInt8.ofNat (w >>> 24).toNat, UInt8.ofNat (w >>> 16).toNat, UInt8.ofNat (w >>> 8).toNat, UInt8.ofNat w.toNat]
def digest (s : S8) : List UInt8 := s.l.flatMap word4
def shaF (bs : List UInt8) : List UInt8 := digest (eatF init8 (bs ++ padF bs.length)).1
theorem digest_length (s : S8) : (digest s).length = 32 := rfl
theorem shaF_length (bs : List UInt8) : (shaF bs).length = 32 := rfl
end Go.AS.C


namespace Go.AS.C
open Go Go.Proofs
set_option linter.unusedVariables false
set_option linter.unusedSimpArgs false
set_option maxRecDepth 10000

/-! Items: an ID, and a text. -/
def idT (t : List UInt8) : ByteArray := ⟨(shaF t).toArray⟩
theorem bl_idT (t : List UInt8) : bl (idT t) = shaF t := by simp [bl, idT]
/-- An item's cells. -/
def domI (e : List Value) : Prop := ∃ (s : ByteArray) (p : Option Addr) (n c : Nat), e = [.string s, .slice p n c]
def keyI (e : List Value) : List UInt8 := match e with | .string s :: _ => bl s | _ => []
theorem keyI_at {s : ByteArray} {r : List Value} : keyI (.string s :: r) = bl s := rfl
theorem domI_len {e : List Value} (h : domI e) : e.length = 2 ∧ ones e = true := by
  obtain ⟨s, p, n, c, rfl⟩ := h
  exact ⟨rfl, rfl⟩
/-- Two items are held against each other by a function. -/
theorem cmp_items {A : AH} {s t : ByteArray} {p q : Option Addr} {n m c d : Nat} {A1 A2 : AH} (h1 : A1 = A ++ [.row [.string s, .slice p n c] .own 0 true]) (h2 : A2 = A1 ++ [.row [.string t, .slice q m d] .own 0 true]) :
    sBox A (.agg #[.string s, .slice p n c]) = some (.pointer (some ⟨A.length, 0, none⟩), A1) ∧ sBox A1 (.agg #[.string t, .slice q m d]) = some (.pointer (some ⟨A1.length, 0, none⟩), A2) ∧
    sLoad1 A2 (.pointer (some ⟨A.length, 0 + 0, none⟩)) = some (.string s, A2) ∧ sLoad1 A2 (.pointer (some ⟨A1.length, 0 + 0, none⟩)) = some (.string t, A2) ∧ Le A A2 := by
  subst h1 h2
  exact ⟨rfl, rfl, load_row (by rw [List.getElem?_append_left (by simp)]; exact get_snoc) (by decide) rfl, load_row get_snoc (by decide) rfl, (Le.push _ _).trans (Le.push _ _)⟩
end Go.AS.C


namespace Go.AS.C
open Go Go.Proofs
set_option linter.unusedVariables false
set_option linter.unusedSimpArgs false
set_option maxRecDepth 10000

theorem slices_Grow_nil {A : AH} {n : Nat} {Q : Value → AH → Prop} (hn : n ≤ 2 ^ 40) (hq : ∀ v A', Le A A' → OwnB A.length A' v [] → Q v A') : ACalls 1 Tryd.prog slices_Grow_byte_byte [.slice none 0 0, ii n] Q A := by
  refine ACalls.of_fits mixed fits_slices_Grow_byte_byte rfl ?_
  unfold ic_slices_Grow_byte_byte
  have i0 : initA [.slice none 0 0, ii n] 0 = .slice none 0 0 := rfl
  have i1 : initA [.slice none 0 0, ii n] 1 = ii n := rfl
  generalize initA [.slice none 0 0, ii n] = a at i0 i1
  have c1 : ((n : Int) < 0) = False := by simp
  have c2 : sCapn A (.slice none 0 0) = some (ii 0, A) := rfl
  have c3 : binA .sub (ii 0) (ii ((0 : Nat) : Int)) = some (ii 0) := by rw [binA_subi _ _ (by omega) (by omega)]; rfl
  have c4 : binA .sub (ii n) (ii 0) = some (ii n) := by rw [binA_subi _ _ (by omega) (by omega)]; simp
  by_cases h0 : n = 0
  · subst h0
    have c5 : (((0 : Nat) : Int) > 0) = False := by simp
    simp only [stepS, reduceIte, Nat.reduceBEq, Nat.reduceEqDiff, tupleOf, i0, i1, binA_lss, c1, c2, lens_sl, c3, c4, binA_gtr, c5]
    exact hq _ _ (.refl _) (OwnB.nil _ _)
  · have c5 : ((n : Int) > 0) = True := by simp; omega
    have c6 : sSll A (.slice none 0 0) none (some (ii 0)) none 1 = some (.slice none 0 0, A) := rfl
    obtain ⟨v', A', e1, e2, e3, _⟩ := app_own (A0 := A) (A := A) (v := .slice none 0 0) (new := (List.replicate n [Value.int .u8 0]).flatten) (k := n) (bytes := 1) (.refl _) (OwnS.nil A.length A 1) (by omega) (by omega) (by omega) (by simp) (by
      unfold ones
      rw [List.all_eq_true]
      intro x hx
      rw [List.mem_flatten] at hx
      obtain ⟨l, hl, hx⟩ := hx
      obtain rfl := List.eq_of_mem_replicate hl
      rw [List.mem_singleton] at hx
      subst hx; rfl)
    have c7 : sAppz A (.slice none 0 0) (ii n) [.int .u8 0] 1 = some (v', A') := by
      rw [appz_eq (by omega), Int.toNat_natCast]
      exact e1
    have c8 : ∃ u, sSll A' v' none (some (ii ((0 : Nat) : Int))) none 1 = some (u, A') ∧ OwnB A.length A' u [] := by
      obtain ⟨f0, f⟩ := e3
      rcases f with ⟨rfl, f⟩ | ⟨rfl, f⟩ | ⟨i, o, c, rc, ex, rfl, f1, f2, f3, f4, f5⟩
      · omega
      · omega
      · refine ⟨.slice (some ⟨i, o, none⟩) 0 c, ?_, ⟨by simp, .inr (.inr ⟨i, o, c, rc, ex, rfl, by simp, f2, f3, by simp; omega, fun j hj => by simp at hj⟩)⟩⟩
        unfold sSll boundsA rowSz
        simp only [f3]
        simp [asI]
    obtain ⟨u, c8, c9⟩ := c8
    simp only [stepS, reduceIte, Nat.reduceBEq, Nat.reduceEqDiff, tupleOf, i0, i1, binA_lss, c1, c2, lens_sl, c3, c4, binA_gtr, c5, c6, c7, c8]
    exact hq _ _ e2 c9

theorem slices_Concat_spec {A : AH} {v : Value} {vs : List Value} {bss : List (List UInt8)} {Q : Value → AH → Prop} (hv : Sl A 1 v vs.length vs) (hn : vs.length = bss.length)
    (hb : ∀ (j : Nat) x bs, vs[j]? = some x → bss[j]? = some bs → Byt A x bs) (hl : bss.flatten.length ≤ 2 ^ 40) (hc : bss.length ≤ 2 ^ 40) (hq : ∀ v A', Le A A' → OwnB A.length A' v bss.flatten → Q v A') :
    ACalls 1 Tryd.prog slices_Concat_byte_byte [v] Q A := by
  refine ACalls.of_fits mixed fits_slices_Concat_byte_byte rfl ?_
  unfold ic_slices_Concat_byte_byte
  have i0 : initA [v] 0 = v := rfl
  generalize initA [v] = a at i0
  simp only [stepS, reduceIte, Nat.reduceBEq, Nat.reduceEqDiff, tupleOf, i0, hv.len]
  refine W_loop (fun a' A' => A' = A ∧ ∃ k : Nat, k ≤ bss.length ∧ a' 0 = v ∧ a' 9 = v ∧ a' 10 = ii vs.length ∧ a' 11 = ii k ∧ a' 3 = ii (((bss.take k).flatten.length : Nat) : Int)) (fun a' _ => (bss.length - (iv (a' 11)).toNat)) ?_ ?_
  · refine ⟨rfl, 0, by omega, ?_⟩
    simp only [stepS, reduceIte, Nat.reduceBEq, Nat.reduceEqDiff, tupleOf, i0]
    simp
  · rintro a A' ⟨rfl, k, hk, g0, g9, g10, g11, g3⟩
    rcases Nat.lt_or_ge k bss.length with hlt | hge
    · have hc1 : ((k : Int) < (vs.length : Int)) = True := by simp; omega
      obtain ⟨x, hx⟩ : ∃ b, vs[k]? = some b := ⟨_, List.getElem?_eq_getElem (by omega)⟩
      obtain ⟨bs, hbs⟩ : ∃ b, bss[k]? = some b := ⟨_, List.getElem?_eq_getElem hlt⟩
      obtain ⟨p, hp1, hp2⟩ := hv.at1 hx
      have hle := flat_take_le bss (k + 1)
      have hsu := flat_take_succ bss hbs
      rw [hsu, List.length_append] at hle
      have hadd : binA .add (ii (((bss.take k).flatten.length : Nat) : Int)) (ii (bs.length : Nat)) = some (ii (((bss.take (k + 1)).flatten.length : Nat) : Int)) := by
        rw [binA_addi _ _ (by omega) (by omega), hsu, List.length_append]
        simp
      have hc2 : ((((bss.take (k + 1)).flatten.length : Nat) : Int) < 0) = False := by simp
      simp only [stepS, reduceIte, Nat.reduceBEq, Nat.reduceEqDiff, tupleOf, g0, g9, g10, g11, g3, binA_lss, hc1, hp1, hp2, (hb k x bs hx hbs).len, hadd, hc2, binA_add1 k (by omega)]
      exact ⟨⟨k + 1, by omega, rfl, rfl⟩, by omega⟩
    · have hc1 : ((k : Int) < (vs.length : Int)) = False := by simp; omega
      have hk : k = bss.length := by omega
      subst hk
      simp only [stepS, reduceIte, Nat.reduceBEq, Nat.reduceEqDiff, tupleOf, g0, g9, g10, g11, g3, binA_lss, hc1]
      rw [List.take_length]
      refine slices_Grow_nil hl fun u A1 hle1 hown => ?_
      simp only [stepS, reduceIte, Nat.reduceBEq, Nat.reduceEqDiff, tupleOf, g0, (hv.le hle1).len]
      refine W_loop (fun a' B => ∃ k : Nat, k ≤ bss.length ∧ Le A' B ∧ a' 25 = v ∧ a' 26 = ii vs.length ∧ a' 27 = ii k ∧ OwnB A'.length B (a' 6) (bss.take k).flatten) (fun a' _ => (bss.length - (iv (a' 27)).toNat)) ?_ ?_
      · refine ⟨0, by omega, hle1, ?_⟩
        simp only [stepS, reduceIte, Nat.reduceBEq, Nat.reduceEqDiff, tupleOf]
        simpa using hown
      · rintro a2 B ⟨k, hk, hle2, f25, f26, f27, f6⟩
        rcases Nat.lt_or_ge k bss.length with hlt | hge
        · have hc1 : ((k : Int) < (vs.length : Int)) = True := by simp; omega
          obtain ⟨x, hx⟩ : ∃ b, vs[k]? = some b := ⟨_, List.getElem?_eq_getElem (by omega)⟩
          obtain ⟨bs, hbs⟩ : ∃ b, bss[k]? = some b := ⟨_, List.getElem?_eq_getElem hlt⟩
          obtain ⟨p, hp1, hp2⟩ := (hv.le hle2).at1 hx
          have hle := flat_take_le bss (k + 1)
          have hsu := flat_take_succ bss hbs
          rw [hsu, List.length_append] at hle
          obtain ⟨v', B', q1, q2, q3, _⟩ := app_bytes hle2 f6 ((hb k x bs hx hbs).le hle2) (by omega)
          rw [← hsu] at q3
          simp only [stepS, reduceIte, Nat.reduceBEq, Nat.reduceEqDiff, tupleOf, f25, f26, f27, binA_lss, hc1, hp1, hp2, q1, binA_add1 k (by omega)]
          exact ⟨⟨k + 1, by omega, q2, rfl, q3⟩, by omega⟩
        · have hc1 : ((k : Int) < (vs.length : Int)) = False := by simp; omega
          have hk : k = bss.length := by omega
          subst hk
          simp only [stepS, reduceIte, Nat.reduceBEq, Nat.reduceEqDiff, tupleOf, f25, f26, f27, binA_lss, hc1]
          rw [List.take_length] at f6
          exact hq _ _ hle2 f6

end Go.AS.C


namespace Go.AS.C
open Go Go.Proofs
set_option linter.unusedVariables false
set_option linter.unusedSimpArgs false
set_option maxRecDepth 10000

theorem slices_Clone_spec {A : AH} {v : Value} {xs : List UInt8} {Q : Value → AH → Prop} (hv : Byt A v xs) (hl : xs.length ≤ 2 ^ 40) (hq : ∀ u A', Le A A' → OwnB A.length A' u xs → Q u A') :
    ACalls 1 Tryd.prog slices_Clone_byte_byte [v] Q A := by
  refine ACalls.of_fits mixed fits_slices_Clone_byte_byte rfl ?_
  unfold ic_slices_Clone_byte_byte
  have i0 : initA [v] 0 = v := rfl
  generalize initA [v] = a at i0
  obtain ⟨p, c, hs, hp⟩ := hv.shape
  cases p with
  | none =>
    have c1 : (if kindOf (.slice 5) v = true then sIsnil A v false else none) = some (.bool true, A) := by subst hs; rfl
    simp only [stepS, reduceIte, Nat.reduceBEq, Nat.reduceEqDiff, tupleOf, i0, c1]
    rw [hp rfl] at hq
    exact hq _ _ (.refl _) (OwnB.nil _ _)
  | some b =>
    have c1 : (if kindOf (.slice 5) v = true then sIsnil A v false else none) = some (.bool false, A) := by subst hs; rfl
    obtain ⟨v', A', q1, q2, q3, _⟩ := app_bytes (A0 := A) (A := A ++ [.row [] .own 1 true]) (v := .slice (some ⟨A.length, 0, none⟩) 0 0) (bs := []) (.push _ _) (own_lit_none (.refl _)) (hv.le (.push _ _)) (by simp; omega)
    simp only [stepS, reduceIte, Nat.reduceBEq, Nat.reduceEqDiff, tupleOf, i0, c1, lit_none, q1]
    exact hq _ _ q2 q3

end Go.AS.C
