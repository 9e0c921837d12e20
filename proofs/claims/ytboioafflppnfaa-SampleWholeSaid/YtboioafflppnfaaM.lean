/- The program's functions, resolved for the canonical machine. Conditions: none. Made by program. -/
import Derived.Test.YtboioafflppnfaaRows
import Derived.Test.YtboioafflppnfaaCm21
namespace Go.Proofs.Ytboioafflppnfaa
open Go.Cm
def c_law29_SampleShuffles_5 : MCode := .seq (.region [⟨(some 41), .mv (.tmp 7), none⟩,
   ⟨(some 42), .mv (.tmp 9), none⟩,
   ⟨(some 43), .call 11 [(.tmp 41), (.tmp 42)], none⟩,
   ⟨(some 44), .mv (.tmp 43), none⟩,
   ⟨(some 45), .mv (.tmp 8), (some (44, true))⟩,
   ⟨(some 46), .mv (.tmp 10), (some (44, true))⟩,
   ⟨(some 47), .ar .eql (.tmp 45) (.tmp 46), (some (44, true))⟩,
   ⟨(some 48), .pick (.tmp 44) (.tmp 47) (.const (.bool false)), none⟩,
   ⟨(some 49), .mv (.tmp 48), none⟩,
   ⟨(some 50), .mv (.tmp 11), (some (49, true))⟩,
   ⟨(some 51), .mv (.tmp 13), (some (49, true))⟩,
   ⟨(some 52), .call 11 [(.tmp 50), (.tmp 51)], (some (49, true))⟩,
   ⟨(some 53), .pick (.tmp 49) (.tmp 52) (.const (.bool false)), none⟩,
   ⟨(some 54), .mv (.tmp 53), none⟩,
   ⟨(some 55), .mv (.tmp 12), (some (54, true))⟩,
   ⟨(some 56), .mv (.tmp 14), (some (54, true))⟩,
   ⟨(some 57), .ar .eql (.tmp 55) (.tmp 56), (some (54, true))⟩,
   ⟨(some 58), .pick (.tmp 54) (.tmp 57) (.const (.bool false)), none⟩,
   ⟨(some 59), .mv (.tmp 58), none⟩,
   ⟨(some 60), .call 12 [], (some (59, true))⟩,
   ⟨(some 61), .pick (.tmp 59) (.tmp 60) (.const (.bool false)), none⟩,
   ⟨(some 6), .mv (.tmp 61), none⟩] []) .ret
def c_law29_SampleShuffles_4 : MCode := .seq (.region [⟨(some 35), .loadN 32 (.tmp 3), none⟩,
   ⟨(some 36), .mv (.tmp 1), none⟩,
   ⟨(some 37), .mv (.tmp 2), none⟩,
   ⟨(some 38), .call 10 [(.tmp 35), (.tmp 36), (.tmp 37)], none⟩,
   ⟨(some 34), .mv (.tmp 38), none⟩,
   ⟨(some 39), .ext (.tmp 34) 0, none⟩,
   ⟨(some 40), .ext (.tmp 34) 1, none⟩,
   ⟨(some 13), .mv (.tmp 39), none⟩,
   ⟨(some 14), .mv (.tmp 40), none⟩] []) c_law29_SampleShuffles_5
def c_law29_SampleShuffles_3 : MCode := .seq (.region [⟨(some 28), .loadN 32 (.tmp 3), none⟩,
   ⟨(some 29), .mv (.tmp 1), none⟩,
   ⟨(some 30), .mv (.tmp 2), none⟩,
   ⟨(some 31), .call 9 [(.tmp 28), (.tmp 29), (.tmp 30)], none⟩,
   ⟨(some 27), .mv (.tmp 31), none⟩,
   ⟨(some 32), .ext (.tmp 27) 0, none⟩,
   ⟨(some 33), .ext (.tmp 27) 1, none⟩,
   ⟨(some 11), .mv (.tmp 32), none⟩,
   ⟨(some 12), .mv (.tmp 33), none⟩] []) c_law29_SampleShuffles_4
def c_law29_SampleShuffles_2 : MCode := .seq (.region [⟨(some 22), .loadN 32 (.tmp 3), none⟩,
   ⟨(some 23), .mv (.tmp 1), none⟩,
   ⟨(some 24), .call 8 [(.tmp 22), (.tmp 23)], none⟩,
   ⟨(some 21), .mv (.tmp 24), none⟩,
   ⟨(some 25), .ext (.tmp 21) 0, none⟩,
   ⟨(some 26), .ext (.tmp 21) 1, none⟩,
   ⟨(some 9), .mv (.tmp 25), none⟩,
   ⟨(some 10), .mv (.tmp 26), none⟩] []) c_law29_SampleShuffles_3
def c_law29_SampleShuffles_1 : MCode := .seq (.region [⟨(some 16), .loadN 32 (.tmp 3), none⟩,
   ⟨(some 17), .mv (.tmp 1), none⟩,
   ⟨(some 18), .call 7 [(.tmp 16), (.tmp 17)], none⟩,
   ⟨(some 15), .mv (.tmp 18), none⟩,
   ⟨(some 19), .ext (.tmp 15) 0, none⟩,
   ⟨(some 20), .ext (.tmp 15) 1, none⟩,
   ⟨(some 7), .mv (.tmp 19), none⟩,
   ⟨(some 8), .mv (.tmp 20), none⟩] []) c_law29_SampleShuffles_2
def c_law29_SampleShuffles_0 : MCode := .seq (.region [⟨(some 3), .box (.tmp 0), none⟩,
   ⟨(some 6), .mv (.const (.bool false)), none⟩] []) c_law29_SampleShuffles_1
/-- trefoil/trefoillaw29.SampleShuffles -/
def M_law29_SampleShuffles : MFun := ⟨3, c_law29_SampleShuffles_0, [.tmp 6]⟩
abbrev F_law29_SampleShuffles : Nat := 3
set_option maxRecDepth 100000 in
theorem m_law29_SampleShuffles : InProg Try.prog 0 3 M_law29_SampleShuffles := ⟨Try.f3, [], Try.func3, by kernel_rfl⟩
def c_law29_SampleWhole_7 : MCode := .seq (.region [⟨(some 34), .mv (.tmp 9), none⟩,
   ⟨(some 35), .lenV (.tmp 34), none⟩,
   ⟨(some 36), .ar .eql (.tmp 35) (.const (.int .i64 0)), none⟩,
   ⟨(some 37), .mv (.tmp 36), none⟩,
   ⟨(some 38), .call 12 [], (some (37, true))⟩,
   ⟨(some 39), .pick (.tmp 37) (.tmp 38) (.const (.bool false)), none⟩,
   ⟨(some 6), .mv (.tmp 39), none⟩] []) .ret
def c_law29_SampleWhole_6 : MCode := .cond (.tmp 33) c_law29_SampleWhole_7 .skip
def c_law29_SampleWhole_5 : MCode := .seq (.region [⟨(some 32), .mv (.tmp 10), none⟩,
   ⟨(some 33), .ar .eql (.tmp 32) (.const (.int .i64 24)), none⟩] []) c_law29_SampleWhole_6
def c_law29_SampleWhole_12 : MCode := .seq (.region [⟨(some 6), .mv (.const (.bool false)), none⟩] []) .ret
def c_law29_SampleWhole_11 : MCode := .cond (.tmp 66) c_law29_SampleWhole_12 .skip
def c_law29_SampleWhole_10 : MCode := .seq (.region [⟨(some 46), .mv (.tmp 10), none⟩,
   ⟨(some 47), .ar .neq (.tmp 46) (.const (.int .i64 0)), none⟩,
   ⟨(some 48), .mv (.tmp 47), none⟩,
   ⟨(some 49), .mv (.tmp 12), (some (48, false))⟩,
   ⟨(some 50), .mv (.tmp 10), (some (48, false))⟩,
   ⟨(some 51), .ar .neq (.tmp 49) (.tmp 50), (some (48, false))⟩,
   ⟨(some 52), .pick (.tmp 48) (.const (.bool true)) (.tmp 51), none⟩,
   ⟨(some 53), .mv (.tmp 52), none⟩,
   ⟨(some 54), .mv (.tmp 9), (some (53, false))⟩,
   ⟨(some 55), .lenV (.tmp 54), (some (53, false))⟩,
   ⟨(some 56), .mv (.tmp 8), (some (53, false))⟩,
   ⟨(some 57), .ar .neq (.tmp 55) (.tmp 56), (some (53, false))⟩,
   ⟨(some 58), .pick (.tmp 53) (.const (.bool true)) (.tmp 57), none⟩,
   ⟨(some 59), .mv (.tmp 58), none⟩,
   ⟨(some 60), .mv (.tmp 11), (some (59, false))⟩,
   ⟨(some 61), .lenV (.tmp 60), (some (59, false))⟩,
   ⟨(some 62), .mv (.tmp 7), (some (59, false))⟩,
   ⟨(some 63), .mv (.tmp 8), (some (59, false))⟩,
   ⟨(some 64), .ar .sub (.tmp 62) (.tmp 63), (some (59, false))⟩,
   ⟨(some 65), .ar .neq (.tmp 61) (.tmp 64), (some (59, false))⟩,
   ⟨(some 66), .pick (.tmp 59) (.const (.bool true)) (.tmp 65), none⟩] []) c_law29_SampleWhole_11
def c_law29_SampleWhole_20 : MCode := .cond (.tmp 70) .skip (.exit 0)
def c_law29_SampleWhole_19 : MCode := .seq (.region [⟨(some 67), .mv (.tmp 14), none⟩,
   ⟨(some 68), .mv (.tmp 9), none⟩,
   ⟨(some 69), .lenV (.tmp 68), none⟩,
   ⟨(some 70), .ar .lss (.tmp 67) (.tmp 69), none⟩] []) c_law29_SampleWhole_20
def c_law29_SampleWhole_26 : MCode := .seq (.region [⟨(some 6), .mv (.const (.bool false)), none⟩] []) .ret
def c_law29_SampleWhole_25 : MCode := .cond (.tmp 101) c_law29_SampleWhole_26 .skip
def c_law29_SampleWhole_24 : MCode := .seq (.region [⟨(some 73), .mv (.tmp 9), none⟩,
   ⟨(some 74), .mv (.tmp 14), none⟩,
   ⟨(some 75), .ixV 1 (.tmp 73) (.tmp 74), none⟩,
   ⟨(some 76), .load1 (.tmp 75), none⟩,
   ⟨(some 77), .ar .lss (.tmp 76) (.const (.int .i64 0)), none⟩,
   ⟨(some 78), .mv (.tmp 77), none⟩,
   ⟨(some 79), .mv (.tmp 9), (some (78, false))⟩,
   ⟨(some 80), .mv (.tmp 14), (some (78, false))⟩,
   ⟨(some 81), .ixV 1 (.tmp 79) (.tmp 80), (some (78, false))⟩,
   ⟨(some 82), .load1 (.tmp 81), (some (78, false))⟩,
   ⟨(some 83), .mv (.tmp 7), (some (78, false))⟩,
   ⟨(some 84), .ar .geq (.tmp 82) (.tmp 83), (some (78, false))⟩,
   ⟨(some 85), .pick (.tmp 78) (.const (.bool true)) (.tmp 84), none⟩,
   ⟨(some 86), .mv (.tmp 85), none⟩,
   ⟨(some 87), .mv (.tmp 14), (some (86, false))⟩,
   ⟨(some 88), .ar .gtr (.tmp 87) (.const (.int .i64 0)), (some (86, false))⟩,
   ⟨(some 89), .mv (.tmp 88), (some (86, false))⟩,
   ⟨(some 90), .mv (.tmp 9), (some (89, true))⟩,
   ⟨(some 91), .mv (.tmp 14), (some (89, true))⟩,
   ⟨(some 92), .ixV 1 (.tmp 90) (.tmp 91), (some (89, true))⟩,
   ⟨(some 93), .load1 (.tmp 92), (some (89, true))⟩,
   ⟨(some 94), .mv (.tmp 9), (some (89, true))⟩,
   ⟨(some 95), .mv (.tmp 14), (some (89, true))⟩,
   ⟨(some 96), .ar .sub (.tmp 95) (.const (.int .i64 1)), (some (89, true))⟩,
   ⟨(some 97), .ixV 1 (.tmp 94) (.tmp 96), (some (89, true))⟩,
   ⟨(some 98), .load1 (.tmp 97), (some (89, true))⟩,
   ⟨(some 99), .ar .leq (.tmp 93) (.tmp 98), (some (89, true))⟩,
   ⟨(some 100), .pick (.tmp 89) (.tmp 99) (.const (.bool false)), (some (86, false))⟩,
   ⟨(some 101), .pick (.tmp 86) (.const (.bool true)) (.tmp 100), none⟩] []) c_law29_SampleWhole_25
def c_law29_SampleWhole_27 : MCode := (.region [⟨(some 102), .mv (.tmp 9), none⟩,
   ⟨(some 103), .mv (.tmp 14), none⟩,
   ⟨(some 104), .ixV 1 (.tmp 102) (.tmp 103), none⟩,
   ⟨(some 105), .load1 (.tmp 104), none⟩,
   ⟨(some 106), .ixA 1 25 (.tmp 13) (.tmp 105), none⟩,
   ⟨(some 107), .load1 (.tmp 106), none⟩,
   ⟨(some 108), .ar .add (.tmp 107) (.const (.int .i64 1)), none⟩,
   ⟨(some 109), .ixA 1 25 (.tmp 13) (.tmp 105), none⟩,
   ⟨none, .store 1 (.tmp 109) (.tmp 108), none⟩] [])
def c_law29_SampleWhole_23 : MCode := .seq c_law29_SampleWhole_24 c_law29_SampleWhole_27
def c_law29_SampleWhole_22 : MCode := .block 1 c_law29_SampleWhole_23
def c_law29_SampleWhole_28 : MCode := (.region [⟨(some 71), .mv (.tmp 14), none⟩,
   ⟨(some 72), .ar .add (.tmp 71) (.const (.int .i64 1)), none⟩,
   ⟨(some 14), .mv (.tmp 72), none⟩] [])
def c_law29_SampleWhole_21 : MCode := .seq c_law29_SampleWhole_22 c_law29_SampleWhole_28
def c_law29_SampleWhole_18 : MCode := .seq c_law29_SampleWhole_19 c_law29_SampleWhole_21
def c_law29_SampleWhole_17 : MCode := .loop [7, 9, 11, 13, 14] c_law29_SampleWhole_18
def c_law29_SampleWhole_16 : MCode := .block 0 c_law29_SampleWhole_17
def c_law29_SampleWhole_15 : MCode := .seq (.region [⟨(some 14), .mv (.const (.int .i64 0)), none⟩] []) c_law29_SampleWhole_16
def c_law29_SampleWhole_35 : MCode := .cond (.tmp 113) .skip (.exit 2)
def c_law29_SampleWhole_34 : MCode := .seq (.region [⟨(some 110), .mv (.tmp 15), none⟩,
   ⟨(some 111), .mv (.tmp 11), none⟩,
   ⟨(some 112), .lenV (.tmp 111), none⟩,
   ⟨(some 113), .ar .lss (.tmp 110) (.tmp 112), none⟩] []) c_law29_SampleWhole_35
def c_law29_SampleWhole_41 : MCode := .seq (.region [⟨(some 6), .mv (.const (.bool false)), none⟩] []) .ret
def c_law29_SampleWhole_40 : MCode := .cond (.tmp 128) c_law29_SampleWhole_41 .skip
def c_law29_SampleWhole_39 : MCode := .seq (.region [⟨(some 116), .mv (.tmp 11), none⟩,
   ⟨(some 117), .mv (.tmp 15), none⟩,
   ⟨(some 118), .ixV 1 (.tmp 116) (.tmp 117), none⟩,
   ⟨(some 119), .load1 (.tmp 118), none⟩,
   ⟨(some 120), .ar .lss (.tmp 119) (.const (.int .i64 0)), none⟩,
   ⟨(some 121), .mv (.tmp 120), none⟩,
   ⟨(some 122), .mv (.tmp 11), (some (121, false))⟩,
   ⟨(some 123), .mv (.tmp 15), (some (121, false))⟩,
   ⟨(some 124), .ixV 1 (.tmp 122) (.tmp 123), (some (121, false))⟩,
   ⟨(some 125), .load1 (.tmp 124), (some (121, false))⟩,
   ⟨(some 126), .mv (.tmp 7), (some (121, false))⟩,
   ⟨(some 127), .ar .geq (.tmp 125) (.tmp 126), (some (121, false))⟩,
   ⟨(some 128), .pick (.tmp 121) (.const (.bool true)) (.tmp 127), none⟩] []) c_law29_SampleWhole_40
def c_law29_SampleWhole_42 : MCode := (.region [⟨(some 129), .mv (.tmp 11), none⟩,
   ⟨(some 130), .mv (.tmp 15), none⟩,
   ⟨(some 131), .ixV 1 (.tmp 129) (.tmp 130), none⟩,
   ⟨(some 132), .load1 (.tmp 131), none⟩,
   ⟨(some 133), .ixA 1 25 (.tmp 13) (.tmp 132), none⟩,
   ⟨(some 134), .load1 (.tmp 133), none⟩,
   ⟨(some 135), .ar .add (.tmp 134) (.const (.int .i64 1)), none⟩,
   ⟨(some 136), .ixA 1 25 (.tmp 13) (.tmp 132), none⟩,
   ⟨none, .store 1 (.tmp 136) (.tmp 135), none⟩] [])
def c_law29_SampleWhole_38 : MCode := .seq c_law29_SampleWhole_39 c_law29_SampleWhole_42
def c_law29_SampleWhole_37 : MCode := .block 3 c_law29_SampleWhole_38
def c_law29_SampleWhole_43 : MCode := (.region [⟨(some 114), .mv (.tmp 15), none⟩,
   ⟨(some 115), .ar .add (.tmp 114) (.const (.int .i64 1)), none⟩,
   ⟨(some 15), .mv (.tmp 115), none⟩] [])
def c_law29_SampleWhole_36 : MCode := .seq c_law29_SampleWhole_37 c_law29_SampleWhole_43
def c_law29_SampleWhole_33 : MCode := .seq c_law29_SampleWhole_34 c_law29_SampleWhole_36
def c_law29_SampleWhole_32 : MCode := .loop [7, 11, 13, 15] c_law29_SampleWhole_33
def c_law29_SampleWhole_31 : MCode := .block 2 c_law29_SampleWhole_32
def c_law29_SampleWhole_30 : MCode := .seq (.region [⟨(some 15), .mv (.const (.int .i64 0)), none⟩] []) c_law29_SampleWhole_31
def c_law29_SampleWhole_50 : MCode := .cond (.tmp 139) .skip (.exit 4)
def c_law29_SampleWhole_49 : MCode := .seq (.region [⟨(some 137), .mv (.tmp 16), none⟩,
   ⟨(some 138), .mv (.tmp 7), none⟩,
   ⟨(some 139), .ar .lss (.tmp 137) (.tmp 138), none⟩] []) c_law29_SampleWhole_50
def c_law29_SampleWhole_55 : MCode := .seq (.region [⟨(some 6), .mv (.const (.bool false)), none⟩] []) .ret
def c_law29_SampleWhole_54 : MCode := .cond (.tmp 145) c_law29_SampleWhole_55 .skip
def c_law29_SampleWhole_53 : MCode := .seq (.region [⟨(some 142), .mv (.tmp 16), none⟩,
   ⟨(some 143), .ixA 1 25 (.tmp 13) (.tmp 142), none⟩,
   ⟨(some 144), .load1 (.tmp 143), none⟩,
   ⟨(some 145), .ar .neq (.tmp 144) (.const (.int .i64 1)), none⟩] []) c_law29_SampleWhole_54
def c_law29_SampleWhole_52 : MCode := .block 5 c_law29_SampleWhole_53
def c_law29_SampleWhole_56 : MCode := (.region [⟨(some 140), .mv (.tmp 16), none⟩,
   ⟨(some 141), .ar .add (.tmp 140) (.const (.int .i64 1)), none⟩,
   ⟨(some 16), .mv (.tmp 141), none⟩] [])
def c_law29_SampleWhole_51 : MCode := .seq c_law29_SampleWhole_52 c_law29_SampleWhole_56
def c_law29_SampleWhole_48 : MCode := .seq c_law29_SampleWhole_49 c_law29_SampleWhole_51
def c_law29_SampleWhole_47 : MCode := .loop [7, 13, 16] c_law29_SampleWhole_48
def c_law29_SampleWhole_46 : MCode := .block 4 c_law29_SampleWhole_47
def c_law29_SampleWhole_45 : MCode := .seq (.region [⟨(some 16), .mv (.const (.int .i64 0)), none⟩] []) c_law29_SampleWhole_46
def c_law29_SampleWhole_57 : MCode := .seq (.region [⟨(some 146), .call 12 [], none⟩,
   ⟨(some 6), .mv (.tmp 146), none⟩] []) .ret
def c_law29_SampleWhole_44 : MCode := .seq c_law29_SampleWhole_45 c_law29_SampleWhole_57
def c_law29_SampleWhole_29 : MCode := .seq c_law29_SampleWhole_30 c_law29_SampleWhole_44
def c_law29_SampleWhole_14 : MCode := .seq c_law29_SampleWhole_15 c_law29_SampleWhole_29
def c_law29_SampleWhole_13 : MCode := .seq (.region [⟨(some 13), .new [(.int .i64 0), (.int .i64 0), (.int .i64 0), (.int .i64 0), (.int .i64 0), (.int .i64 0), (.int .i64 0), (.int .i64 0), (.int .i64 0), (.int .i64 0), (.int .i64 0), (.int .i64 0), (.int .i64 0), (.int .i64 0), (.int .i64 0), (.int .i64 0), (.int .i64 0), (.int .i64 0), (.int .i64 0), (.int .i64 0), (.int .i64 0), (.int .i64 0), (.int .i64 0), (.int .i64 0), (.int .i64 0)], none⟩] []) c_law29_SampleWhole_14
def c_law29_SampleWhole_9 : MCode := .seq c_law29_SampleWhole_10 c_law29_SampleWhole_13
def c_law29_SampleWhole_8 : MCode := .seq (.region [⟨(some 41), .mv (.tmp 7), none⟩,
   ⟨(some 42), .mv (.tmp 9), none⟩,
   ⟨(some 43), .call 13 [(.tmp 41), (.tmp 42)], none⟩,
   ⟨(some 40), .mv (.tmp 43), none⟩,
   ⟨(some 44), .ext (.tmp 40) 0, none⟩,
   ⟨(some 45), .ext (.tmp 40) 1, none⟩,
   ⟨(some 11), .mv (.tmp 44), none⟩,
   ⟨(some 12), .mv (.tmp 45), none⟩] []) c_law29_SampleWhole_9
def c_law29_SampleWhole_4 : MCode := .seq c_law29_SampleWhole_5 c_law29_SampleWhole_8
def c_law29_SampleWhole_3 : MCode := .seq (.region [⟨(some 26), .loadN 32 (.tmp 3), none⟩,
   ⟨(some 27), .mv (.tmp 7), none⟩,
   ⟨(some 28), .mv (.tmp 8), none⟩,
   ⟨(some 29), .call 9 [(.tmp 26), (.tmp 27), (.tmp 28)], none⟩,
   ⟨(some 25), .mv (.tmp 29), none⟩,
   ⟨(some 30), .ext (.tmp 25) 0, none⟩,
   ⟨(some 31), .ext (.tmp 25) 1, none⟩,
   ⟨(some 9), .mv (.tmp 30), none⟩,
   ⟨(some 10), .mv (.tmp 31), none⟩] []) c_law29_SampleWhole_4
def c_law29_SampleWhole_2 : MCode := .seq (.region [⟨(some 20), .mv (.tmp 2), none⟩,
   ⟨(some 21), .conv .i64 (.tmp 20), none⟩,
   ⟨(some 22), .mv (.tmp 7), none⟩,
   ⟨(some 23), .ar .add (.tmp 22) (.const (.int .i64 1)), none⟩,
   ⟨(some 24), .ar .rem (.tmp 21) (.tmp 23), none⟩,
   ⟨(some 8), .mv (.tmp 24), none⟩] []) c_law29_SampleWhole_3
def c_law29_SampleWhole_1 : MCode := .seq (.region [⟨(some 17), .mv (.tmp 1), none⟩,
   ⟨(some 18), .ar .rem (.tmp 17) (.const (.int .u8 25)), none⟩,
   ⟨(some 19), .conv .i64 (.tmp 18), none⟩,
   ⟨(some 7), .mv (.tmp 19), none⟩] []) c_law29_SampleWhole_2
def c_law29_SampleWhole_0 : MCode := .seq (.region [⟨(some 3), .box (.tmp 0), none⟩,
   ⟨(some 6), .mv (.const (.bool false)), none⟩] []) c_law29_SampleWhole_1
/-- trefoil/trefoillaw29.SampleWhole -/
def M_law29_SampleWhole : MFun := ⟨3, c_law29_SampleWhole_0, [.tmp 6]⟩
abbrev F_law29_SampleWhole : Nat := 4
set_option maxRecDepth 100000 in
theorem m_law29_SampleWhole : InProg Try.prog 0 4 M_law29_SampleWhole := ⟨Try.f4, [[7, 9, 11, 13, 14], [7, 11, 13, 15], [7, 13, 16]], Try.func4, by kernel_rfl⟩
def c_sample_Shuffle_4 : MCode := .seq (.region [⟨(some 4), .mv (.const (.slice none 0 0)), none⟩,
   ⟨(some 5), .mv (.const (.int .i64 2)), none⟩] []) .ret
def c_sample_Shuffle_3 : MCode := .cond (.tmp 17) c_sample_Shuffle_4 .skip
def c_sample_Shuffle_2 : MCode := .seq (.region [⟨(some 12), .mv (.tmp 1), none⟩,
   ⟨(some 13), .ar .lss (.tmp 12) (.const (.int .i64 0)), none⟩,
   ⟨(some 14), .mv (.tmp 13), none⟩,
   ⟨(some 15), .mv (.tmp 1), (some (14, false))⟩,
   ⟨(some 16), .ar .gtr (.tmp 15) (.const (.int .i64 24)), (some (14, false))⟩,
   ⟨(some 17), .pick (.tmp 14) (.const (.bool true)) (.tmp 16), none⟩] []) c_sample_Shuffle_3
def c_sample_Shuffle_12 : MCode := .cond (.tmp 23) .skip (.exit 0)
def c_sample_Shuffle_16 : MCode := (.region [⟨(some 25), .mv (.tmp 6), none⟩,
   ⟨(some 26), .mv (.tmp 7), none⟩,
   ⟨(some 27), .mv (.tmp 7), none⟩,
   ⟨(some 28), .ixV 1 (.tmp 25) (.tmp 26), none⟩,
   ⟨none, .store 1 (.tmp 28) (.tmp 27), none⟩] [])
def c_sample_Shuffle_15 : MCode := .seq (.region [⟨(some 24), .mv (.tmp 22), none⟩,
   ⟨(some 7), .mv (.tmp 24), none⟩] []) c_sample_Shuffle_16
def c_sample_Shuffle_14 : MCode := .block 1 c_sample_Shuffle_15
def c_sample_Shuffle_17 : MCode := (.region [⟨(some 29), .ar .add (.tmp 22) (.const (.int .i64 1)), none⟩,
   ⟨(some 22), .mv (.tmp 29), none⟩] [])
def c_sample_Shuffle_13 : MCode := .seq c_sample_Shuffle_14 c_sample_Shuffle_17
def c_sample_Shuffle_11 : MCode := .seq c_sample_Shuffle_12 c_sample_Shuffle_13
def c_sample_Shuffle_10 : MCode := .seq (.region [⟨(some 23), .ar .lss (.tmp 22) (.tmp 21), none⟩] []) c_sample_Shuffle_11
def c_sample_Shuffle_9 : MCode := .loop [1, 2, 6, 21, 22] c_sample_Shuffle_10
def c_sample_Shuffle_8 : MCode := .block 0 c_sample_Shuffle_9
def c_sample_Shuffle_7 : MCode := .seq (.region [⟨(some 20), .mv (.tmp 6), none⟩,
   ⟨(some 21), .lenV (.tmp 20), none⟩,
   ⟨(some 22), .mv (.const (.int .i64 0)), none⟩] []) c_sample_Shuffle_8
def c_sample_Shuffle_25 : MCode := .cond (.tmp 35) .skip (.exit 2)
def c_sample_Shuffle_24 : MCode := .seq (.region [⟨(some 34), .mv (.tmp 9), none⟩,
   ⟨(some 35), .ar .gtr (.tmp 34) (.const (.int .i64 0)), none⟩] []) c_sample_Shuffle_25
def c_sample_Shuffle_32 : MCode := .seq (.region [⟨(some 48), .mv (.tmp 11), none⟩,
   ⟨(some 4), .mv (.const (.slice none 0 0)), none⟩,
   ⟨(some 5), .mv (.tmp 48), none⟩] []) .ret
def c_sample_Shuffle_31 : MCode := .cond (.tmp 47) c_sample_Shuffle_32 .skip
def c_sample_Shuffle_30 : MCode := .seq (.region [⟨(some 46), .mv (.tmp 11), none⟩,
   ⟨(some 47), .ar .neq (.tmp 46) (.const (.int .i64 0)), none⟩] []) c_sample_Shuffle_31
def c_sample_Shuffle_33 : MCode := (.region [⟨(some 49), .mv (.tmp 6), none⟩,
   ⟨(some 50), .mv (.tmp 9), none⟩,
   ⟨(some 51), .mv (.tmp 6), none⟩,
   ⟨(some 52), .mv (.tmp 10), none⟩,
   ⟨(some 53), .mv (.tmp 6), none⟩,
   ⟨(some 54), .mv (.tmp 10), none⟩,
   ⟨(some 55), .ixV 1 (.tmp 53) (.tmp 54), none⟩,
   ⟨(some 56), .load1 (.tmp 55), none⟩,
   ⟨(some 57), .mv (.tmp 6), none⟩,
   ⟨(some 58), .mv (.tmp 9), none⟩,
   ⟨(some 59), .ixV 1 (.tmp 57) (.tmp 58), none⟩,
   ⟨(some 60), .load1 (.tmp 59), none⟩,
   ⟨(some 61), .ixV 1 (.tmp 49) (.tmp 50), none⟩,
   ⟨none, .store 1 (.tmp 61) (.tmp 56), none⟩,
   ⟨(some 62), .ixV 1 (.tmp 51) (.tmp 52), none⟩,
   ⟨none, .store 1 (.tmp 62) (.tmp 60), none⟩] [])
def c_sample_Shuffle_29 : MCode := .seq c_sample_Shuffle_30 c_sample_Shuffle_33
def c_sample_Shuffle_28 : MCode := .seq (.region [⟨(some 39), .mv (.tmp 8), none⟩,
   ⟨(some 40), .mv (.tmp 9), none⟩,
   ⟨(some 41), .ar .add (.tmp 40) (.const (.int .i64 1)), none⟩,
   ⟨(some 42), .conv .u64 (.tmp 41), none⟩,
   ⟨(some 43), .call 24 [(.tmp 39), (.tmp 42)], none⟩,
   ⟨(some 38), .mv (.tmp 43), none⟩,
   ⟨(some 44), .ext (.tmp 38) 0, none⟩,
   ⟨(some 45), .ext (.tmp 38) 1, none⟩,
   ⟨(some 10), .mv (.tmp 44), none⟩,
   ⟨(some 11), .mv (.tmp 45), none⟩] []) c_sample_Shuffle_29
def c_sample_Shuffle_27 : MCode := .block 3 c_sample_Shuffle_28
def c_sample_Shuffle_34 : MCode := (.region [⟨(some 36), .mv (.tmp 9), none⟩,
   ⟨(some 37), .ar .sub (.tmp 36) (.const (.int .i64 1)), none⟩,
   ⟨(some 9), .mv (.tmp 37), none⟩] [])
def c_sample_Shuffle_26 : MCode := .seq c_sample_Shuffle_27 c_sample_Shuffle_34
def c_sample_Shuffle_23 : MCode := .seq c_sample_Shuffle_24 c_sample_Shuffle_26
def c_sample_Shuffle_22 : MCode := .loop [6, 8, 9] c_sample_Shuffle_23
def c_sample_Shuffle_21 : MCode := .block 2 c_sample_Shuffle_22
def c_sample_Shuffle_20 : MCode := .seq (.region [⟨(some 32), .mv (.tmp 1), none⟩,
   ⟨(some 33), .ar .sub (.tmp 32) (.const (.int .i64 1)), none⟩,
   ⟨(some 9), .mv (.tmp 33), none⟩] []) c_sample_Shuffle_21
def c_sample_Shuffle_35 : MCode := .seq (.region [⟨(some 63), .mv (.tmp 6), none⟩,
   ⟨(some 4), .mv (.tmp 63), none⟩,
   ⟨(some 5), .mv (.const (.int .i64 0)), none⟩] []) .ret
def c_sample_Shuffle_19 : MCode := .seq c_sample_Shuffle_20 c_sample_Shuffle_35
def c_sample_Shuffle_18 : MCode := .seq (.region [⟨(some 30), .loadN 32 (.tmp 2), none⟩,
   ⟨(some 31), .call 23 [(.tmp 30), (.const (.int .u32 3))], none⟩,
   ⟨(some 8), .mv (.tmp 31), none⟩] []) c_sample_Shuffle_19
def c_sample_Shuffle_6 : MCode := .seq c_sample_Shuffle_7 c_sample_Shuffle_18
def c_sample_Shuffle_5 : MCode := .seq (.region [⟨(some 18), .mv (.tmp 1), none⟩,
   ⟨(some 19), .mkSl 8 [(.int .i64 0)] (.tmp 18) (.tmp 18), none⟩,
   ⟨(some 6), .mv (.tmp 19), none⟩] []) c_sample_Shuffle_6
def c_sample_Shuffle_1 : MCode := .seq c_sample_Shuffle_2 c_sample_Shuffle_5
def c_sample_Shuffle_0 : MCode := .seq (.region [⟨(some 2), .box (.tmp 0), none⟩,
   ⟨(some 4), .mv (.const (.slice none 0 0)), none⟩,
   ⟨(some 5), .mv (.const (.int .i64 0)), none⟩] []) c_sample_Shuffle_1
/-- trefoil/sample.Shuffle -/
def M_sample_Shuffle : MFun := ⟨2, c_sample_Shuffle_0, [.tmp 4, .tmp 5]⟩
abbrev F_sample_Shuffle : Nat := 7
set_option maxRecDepth 100000 in
theorem m_sample_Shuffle : InProg Try.prog 0 7 M_sample_Shuffle := ⟨Try.f7, [[1, 2, 6, 21, 22], [6, 8, 9]], Try.func7, by kernel_rfl⟩
def c_ref29_Shuffle_4 : MCode := .seq (.region [⟨(some 4), .mv (.const (.slice none 0 0)), none⟩,
   ⟨(some 5), .mv (.const (.int .i64 2)), none⟩] []) .ret
def c_ref29_Shuffle_3 : MCode := .cond (.tmp 20) c_ref29_Shuffle_4 .skip
def c_ref29_Shuffle_2 : MCode := .seq (.region [⟨(some 15), .mv (.tmp 1), none⟩,
   ⟨(some 16), .ar .lss (.tmp 15) (.const (.int .i64 0)), none⟩,
   ⟨(some 17), .mv (.tmp 16), none⟩,
   ⟨(some 18), .mv (.tmp 1), (some (17, false))⟩,
   ⟨(some 19), .ar .gtr (.tmp 18) (.const (.int .i64 24)), (some (17, false))⟩,
   ⟨(some 20), .pick (.tmp 17) (.const (.bool true)) (.tmp 19), none⟩] []) c_ref29_Shuffle_3
def c_ref29_Shuffle_12 : MCode := .cond (.tmp 23) .skip (.exit 0)
def c_ref29_Shuffle_11 : MCode := .seq (.region [⟨(some 21), .mv (.tmp 7), none⟩,
   ⟨(some 22), .mv (.tmp 1), none⟩,
   ⟨(some 23), .ar .lss (.tmp 21) (.tmp 22), none⟩] []) c_ref29_Shuffle_12
def c_ref29_Shuffle_15 : MCode := (.region [⟨(some 26), .mv (.tmp 6), none⟩,
   ⟨(some 27), .mv (.tmp 7), none⟩,
   ⟨(some 28), .buildSlice [(.int .i64 0)] 1 [(0, 1, (.tmp 27))], none⟩,
   ⟨(some 29), .app 1 8 (.tmp 26) (.tmp 28), none⟩,
   ⟨(some 6), .mv (.tmp 29), none⟩] [])
def c_ref29_Shuffle_14 : MCode := .block 1 c_ref29_Shuffle_15
def c_ref29_Shuffle_16 : MCode := (.region [⟨(some 24), .mv (.tmp 7), none⟩,
   ⟨(some 25), .ar .add (.tmp 24) (.const (.int .i64 1)), none⟩,
   ⟨(some 7), .mv (.tmp 25), none⟩] [])
def c_ref29_Shuffle_13 : MCode := .seq c_ref29_Shuffle_14 c_ref29_Shuffle_16
def c_ref29_Shuffle_10 : MCode := .seq c_ref29_Shuffle_11 c_ref29_Shuffle_13
def c_ref29_Shuffle_9 : MCode := .loop [1, 2, 6, 7] c_ref29_Shuffle_10
def c_ref29_Shuffle_8 : MCode := .block 0 c_ref29_Shuffle_9
def c_ref29_Shuffle_7 : MCode := .seq (.region [⟨(some 7), .mv (.const (.int .i64 0)), none⟩] []) c_ref29_Shuffle_8
def c_ref29_Shuffle_24 : MCode := .cond (.tmp 33) .skip (.exit 2)
def c_ref29_Shuffle_23 : MCode := .seq (.region [⟨(some 32), .mv (.tmp 9), none⟩,
   ⟨(some 33), .ar .gtr (.tmp 32) (.const (.int .i64 0)), none⟩] []) c_ref29_Shuffle_24
def c_ref29_Shuffle_31 : MCode := .seq (.region [⟨(some 48), .mv (.tmp 12), none⟩,
   ⟨(some 4), .mv (.const (.slice none 0 0)), none⟩,
   ⟨(some 5), .mv (.tmp 48), none⟩] []) .ret
def c_ref29_Shuffle_30 : MCode := .cond (.tmp 47) c_ref29_Shuffle_31 .skip
def c_ref29_Shuffle_29 : MCode := .seq (.region [⟨(some 46), .mv (.tmp 12), none⟩,
   ⟨(some 47), .ar .neq (.tmp 46) (.const (.int .i64 0)), none⟩] []) c_ref29_Shuffle_30
def c_ref29_Shuffle_35 : MCode := (.region [⟨(some 63), .mv (.tmp 6), none⟩,
   ⟨(some 64), .mv (.tmp 10), none⟩,
   ⟨(some 65), .conv .i64 (.tmp 64), none⟩,
   ⟨(some 66), .mv (.tmp 13), none⟩,
   ⟨(some 67), .ixV 1 (.tmp 63) (.tmp 65), none⟩,
   ⟨none, .store 1 (.tmp 67) (.tmp 66), none⟩] [])
def c_ref29_Shuffle_34 : MCode := .seq (.region [⟨(some 59), .mv (.tmp 6), none⟩,
   ⟨(some 60), .mv (.tmp 9), none⟩,
   ⟨(some 61), .mv (.tmp 14), none⟩,
   ⟨(some 62), .ixV 1 (.tmp 59) (.tmp 60), none⟩,
   ⟨none, .store 1 (.tmp 62) (.tmp 61), none⟩] []) c_ref29_Shuffle_35
def c_ref29_Shuffle_33 : MCode := .seq (.region [⟨(some 50), .mv (.tmp 6), none⟩,
   ⟨(some 51), .mv (.tmp 9), none⟩,
   ⟨(some 52), .ixV 1 (.tmp 50) (.tmp 51), none⟩,
   ⟨(some 53), .load1 (.tmp 52), none⟩,
   ⟨(some 54), .mv (.tmp 6), none⟩,
   ⟨(some 55), .mv (.tmp 10), none⟩,
   ⟨(some 56), .conv .i64 (.tmp 55), none⟩,
   ⟨(some 57), .ixV 1 (.tmp 54) (.tmp 56), none⟩,
   ⟨(some 58), .load1 (.tmp 57), none⟩,
   ⟨(some 13), .mv (.tmp 53), none⟩,
   ⟨(some 14), .mv (.tmp 58), none⟩] []) c_ref29_Shuffle_34
def c_ref29_Shuffle_32 : MCode := .seq (.region [⟨(some 49), .mv (.tmp 11), none⟩,
   ⟨(some 8), .mv (.tmp 49), none⟩] []) c_ref29_Shuffle_33
def c_ref29_Shuffle_28 : MCode := .seq c_ref29_Shuffle_29 c_ref29_Shuffle_32
def c_ref29_Shuffle_27 : MCode := .seq (.region [⟨(some 37), .loadN 32 (.tmp 2), none⟩,
   ⟨(some 38), .mv (.tmp 8), none⟩,
   ⟨(some 39), .mv (.tmp 9), none⟩,
   ⟨(some 40), .ar .add (.tmp 39) (.const (.int .i64 1)), none⟩,
   ⟨(some 41), .conv .u64 (.tmp 40), none⟩,
   ⟨(some 42), .call 25 [(.tmp 37), (.const (.int .u32 3)), (.tmp 38), (.tmp 41)], none⟩,
   ⟨(some 36), .mv (.tmp 42), none⟩,
   ⟨(some 43), .ext (.tmp 36) 0, none⟩,
   ⟨(some 44), .ext (.tmp 36) 1, none⟩,
   ⟨(some 45), .ext (.tmp 36) 2, none⟩,
   ⟨(some 10), .mv (.tmp 43), none⟩,
   ⟨(some 11), .mv (.tmp 44), none⟩,
   ⟨(some 12), .mv (.tmp 45), none⟩] []) c_ref29_Shuffle_28
def c_ref29_Shuffle_26 : MCode := .block 3 c_ref29_Shuffle_27
def c_ref29_Shuffle_36 : MCode := (.region [⟨(some 34), .mv (.tmp 9), none⟩,
   ⟨(some 35), .ar .sub (.tmp 34) (.const (.int .i64 1)), none⟩,
   ⟨(some 9), .mv (.tmp 35), none⟩] [])
def c_ref29_Shuffle_25 : MCode := .seq c_ref29_Shuffle_26 c_ref29_Shuffle_36
def c_ref29_Shuffle_22 : MCode := .seq c_ref29_Shuffle_23 c_ref29_Shuffle_25
def c_ref29_Shuffle_21 : MCode := .loop [2, 6, 8, 9] c_ref29_Shuffle_22
def c_ref29_Shuffle_20 : MCode := .block 2 c_ref29_Shuffle_21
def c_ref29_Shuffle_19 : MCode := .seq (.region [⟨(some 30), .mv (.tmp 1), none⟩,
   ⟨(some 31), .ar .sub (.tmp 30) (.const (.int .i64 1)), none⟩,
   ⟨(some 9), .mv (.tmp 31), none⟩] []) c_ref29_Shuffle_20
def c_ref29_Shuffle_37 : MCode := .seq (.region [⟨(some 68), .mv (.tmp 6), none⟩,
   ⟨(some 4), .mv (.tmp 68), none⟩,
   ⟨(some 5), .mv (.const (.int .i64 0)), none⟩] []) .ret
def c_ref29_Shuffle_18 : MCode := .seq c_ref29_Shuffle_19 c_ref29_Shuffle_37
def c_ref29_Shuffle_17 : MCode := .seq (.region [⟨(some 8), .mv (.const (.int .i64 0)), none⟩] []) c_ref29_Shuffle_18
def c_ref29_Shuffle_6 : MCode := .seq c_ref29_Shuffle_7 c_ref29_Shuffle_17
def c_ref29_Shuffle_5 : MCode := .seq (.region [⟨(some 6), .mv (.const (.slice none 0 0)), none⟩] []) c_ref29_Shuffle_6
def c_ref29_Shuffle_1 : MCode := .seq c_ref29_Shuffle_2 c_ref29_Shuffle_5
def c_ref29_Shuffle_0 : MCode := .seq (.region [⟨(some 2), .box (.tmp 0), none⟩,
   ⟨(some 4), .mv (.const (.slice none 0 0)), none⟩,
   ⟨(some 5), .mv (.const (.int .i64 0)), none⟩] []) c_ref29_Shuffle_1
/-- trefoil/trefoilref29.Shuffle -/
def M_ref29_Shuffle : MFun := ⟨2, c_ref29_Shuffle_0, [.tmp 4, .tmp 5]⟩
abbrev F_ref29_Shuffle : Nat := 8
set_option maxRecDepth 100000 in
theorem m_ref29_Shuffle : InProg Try.prog 0 8 M_ref29_Shuffle := ⟨Try.f8, [[1, 2, 6, 7], [2, 6, 8, 9]], Try.func8, by kernel_rfl⟩
def c_sample_Pick_4 : MCode := .seq (.region [⟨(some 6), .mv (.const (.slice none 0 0)), none⟩,
   ⟨(some 7), .mv (.const (.int .i64 1)), none⟩] []) .ret
def c_sample_Pick_3 : MCode := .cond (.tmp 16) c_sample_Pick_4 .skip
def c_sample_Pick_2 : MCode := .seq (.region [⟨(some 10), .mv (.tmp 2), none⟩,
   ⟨(some 11), .ar .lss (.tmp 10) (.const (.int .i64 0)), none⟩,
   ⟨(some 12), .mv (.tmp 11), none⟩,
   ⟨(some 13), .mv (.tmp 2), (some (12, false))⟩,
   ⟨(some 14), .mv (.tmp 1), (some (12, false))⟩,
   ⟨(some 15), .ar .gtr (.tmp 13) (.tmp 14), (some (12, false))⟩,
   ⟨(some 16), .pick (.tmp 12) (.const (.bool true)) (.tmp 15), none⟩] []) c_sample_Pick_3
def c_sample_Pick_9 : MCode := .seq (.region [⟨(some 25), .mv (.tmp 9), none⟩,
   ⟨(some 6), .mv (.const (.slice none 0 0)), none⟩,
   ⟨(some 7), .mv (.tmp 25), none⟩] []) .ret
def c_sample_Pick_8 : MCode := .cond (.tmp 24) c_sample_Pick_9 .skip
def c_sample_Pick_7 : MCode := .seq (.region [⟨(some 23), .mv (.tmp 9), none⟩,
   ⟨(some 24), .ar .neq (.tmp 23) (.const (.int .i64 0)), none⟩] []) c_sample_Pick_8
def c_sample_Pick_12 : MCode := .seq (.region [⟨(some 31), .mv (.tmp 8), none⟩,
   ⟨(some 32), .call 27 [(.tmp 31)], none⟩,
   ⟨(some 6), .mv (.tmp 32), none⟩,
   ⟨(some 7), .mv (.const (.int .i64 0)), none⟩] []) .ret
def c_sample_Pick_11 : MCode := .seq (.region [⟨(some 29), .mv (.tmp 8), none⟩,
   ⟨(some 30), .call 26 [(.tmp 29)], none⟩] []) c_sample_Pick_12
def c_sample_Pick_10 : MCode := .seq (.region [⟨(some 26), .mv (.tmp 8), none⟩,
   ⟨(some 27), .mv (.tmp 2), none⟩,
   ⟨(some 28), .slV 1 (.tmp 26) none (some (.tmp 27)) none, none⟩,
   ⟨(some 8), .mv (.tmp 28), none⟩] []) c_sample_Pick_11
def c_sample_Pick_6 : MCode := .seq c_sample_Pick_7 c_sample_Pick_10
def c_sample_Pick_5 : MCode := .seq (.region [⟨(some 18), .loadN 32 (.tmp 3), none⟩,
   ⟨(some 19), .mv (.tmp 1), none⟩,
   ⟨(some 20), .call 7 [(.tmp 18), (.tmp 19)], none⟩,
   ⟨(some 17), .mv (.tmp 20), none⟩,
   ⟨(some 21), .ext (.tmp 17) 0, none⟩,
   ⟨(some 22), .ext (.tmp 17) 1, none⟩,
   ⟨(some 8), .mv (.tmp 21), none⟩,
   ⟨(some 9), .mv (.tmp 22), none⟩] []) c_sample_Pick_6
def c_sample_Pick_1 : MCode := .seq c_sample_Pick_2 c_sample_Pick_5
def c_sample_Pick_0 : MCode := .seq (.region [⟨(some 3), .box (.tmp 0), none⟩,
   ⟨(some 6), .mv (.const (.slice none 0 0)), none⟩,
   ⟨(some 7), .mv (.const (.int .i64 0)), none⟩] []) c_sample_Pick_1
/-- trefoil/sample.Pick -/
def M_sample_Pick : MFun := ⟨3, c_sample_Pick_0, [.tmp 6, .tmp 7]⟩
abbrev F_sample_Pick : Nat := 9
set_option maxRecDepth 100000 in
theorem m_sample_Pick : InProg Try.prog 0 9 M_sample_Pick := ⟨Try.f9, [], Try.func9, by kernel_rfl⟩
def c_ref29_Pick_4 : MCode := .seq (.region [⟨(some 6), .mv (.const (.slice none 0 0)), none⟩,
   ⟨(some 7), .mv (.const (.int .i64 1)), none⟩] []) .ret
def c_ref29_Pick_3 : MCode := .cond (.tmp 19) c_ref29_Pick_4 .skip
def c_ref29_Pick_2 : MCode := .seq (.region [⟨(some 13), .mv (.tmp 2), none⟩,
   ⟨(some 14), .ar .lss (.tmp 13) (.const (.int .i64 0)), none⟩,
   ⟨(some 15), .mv (.tmp 14), none⟩,
   ⟨(some 16), .mv (.tmp 2), (some (15, false))⟩,
   ⟨(some 17), .mv (.tmp 1), (some (15, false))⟩,
   ⟨(some 18), .ar .gtr (.tmp 16) (.tmp 17), (some (15, false))⟩,
   ⟨(some 19), .pick (.tmp 15) (.const (.bool true)) (.tmp 18), none⟩] []) c_ref29_Pick_3
def c_ref29_Pick_9 : MCode := .seq (.region [⟨(some 28), .mv (.tmp 9), none⟩,
   ⟨(some 6), .mv (.const (.slice none 0 0)), none⟩,
   ⟨(some 7), .mv (.tmp 28), none⟩] []) .ret
def c_ref29_Pick_8 : MCode := .cond (.tmp 27) c_ref29_Pick_9 .skip
def c_ref29_Pick_7 : MCode := .seq (.region [⟨(some 26), .mv (.tmp 9), none⟩,
   ⟨(some 27), .ar .neq (.tmp 26) (.const (.int .i64 0)), none⟩] []) c_ref29_Pick_8
def c_ref29_Pick_17 : MCode := .cond (.tmp 31) .skip (.exit 0)
def c_ref29_Pick_16 : MCode := .seq (.region [⟨(some 29), .mv (.tmp 11), none⟩,
   ⟨(some 30), .mv (.tmp 1), none⟩,
   ⟨(some 31), .ar .lss (.tmp 29) (.tmp 30), none⟩] []) c_ref29_Pick_17
def c_ref29_Pick_25 : MCode := .cond (.tmp 36) .skip (.exit 2)
def c_ref29_Pick_24 : MCode := .seq (.region [⟨(some 34), .mv (.tmp 12), none⟩,
   ⟨(some 35), .mv (.tmp 2), none⟩,
   ⟨(some 36), .ar .lss (.tmp 34) (.tmp 35), none⟩] []) c_ref29_Pick_25
def c_ref29_Pick_30 : MCode := (.region [⟨(some 45), .mv (.tmp 10), none⟩,
   ⟨(some 46), .mv (.tmp 11), none⟩,
   ⟨(some 47), .buildSlice [(.int .i64 0)] 1 [(0, 1, (.tmp 46))], none⟩,
   ⟨(some 48), .app 1 8 (.tmp 45) (.tmp 47), none⟩,
   ⟨(some 10), .mv (.tmp 48), none⟩] [])
def c_ref29_Pick_29 : MCode := .cond (.tmp 44) c_ref29_Pick_30 .skip
def c_ref29_Pick_28 : MCode := .seq (.region [⟨(some 39), .mv (.tmp 8), none⟩,
   ⟨(some 40), .mv (.tmp 12), none⟩,
   ⟨(some 41), .ixV 1 (.tmp 39) (.tmp 40), none⟩,
   ⟨(some 42), .load1 (.tmp 41), none⟩,
   ⟨(some 43), .mv (.tmp 11), none⟩,
   ⟨(some 44), .ar .eql (.tmp 42) (.tmp 43), none⟩] []) c_ref29_Pick_29
def c_ref29_Pick_27 : MCode := .block 3 c_ref29_Pick_28
def c_ref29_Pick_31 : MCode := (.region [⟨(some 37), .mv (.tmp 12), none⟩,
   ⟨(some 38), .ar .add (.tmp 37) (.const (.int .i64 1)), none⟩,
   ⟨(some 12), .mv (.tmp 38), none⟩] [])
def c_ref29_Pick_26 : MCode := .seq c_ref29_Pick_27 c_ref29_Pick_31
def c_ref29_Pick_23 : MCode := .seq c_ref29_Pick_24 c_ref29_Pick_26
def c_ref29_Pick_22 : MCode := .loop [1, 2, 8, 10, 11, 12] c_ref29_Pick_23
def c_ref29_Pick_21 : MCode := .block 2 c_ref29_Pick_22
def c_ref29_Pick_20 : MCode := .seq (.region [⟨(some 12), .mv (.const (.int .i64 0)), none⟩] []) c_ref29_Pick_21
def c_ref29_Pick_19 : MCode := .block 1 c_ref29_Pick_20
def c_ref29_Pick_32 : MCode := (.region [⟨(some 32), .mv (.tmp 11), none⟩,
   ⟨(some 33), .ar .add (.tmp 32) (.const (.int .i64 1)), none⟩,
   ⟨(some 11), .mv (.tmp 33), none⟩] [])
def c_ref29_Pick_18 : MCode := .seq c_ref29_Pick_19 c_ref29_Pick_32
def c_ref29_Pick_15 : MCode := .seq c_ref29_Pick_16 c_ref29_Pick_18
def c_ref29_Pick_14 : MCode := .loop [1, 2, 8, 10, 11] c_ref29_Pick_15
def c_ref29_Pick_13 : MCode := .block 0 c_ref29_Pick_14
def c_ref29_Pick_12 : MCode := .seq (.region [⟨(some 11), .mv (.const (.int .i64 0)), none⟩] []) c_ref29_Pick_13
def c_ref29_Pick_33 : MCode := .seq (.region [⟨(some 49), .mv (.tmp 10), none⟩,
   ⟨(some 6), .mv (.tmp 49), none⟩,
   ⟨(some 7), .mv (.const (.int .i64 0)), none⟩] []) .ret
def c_ref29_Pick_11 : MCode := .seq c_ref29_Pick_12 c_ref29_Pick_33
def c_ref29_Pick_10 : MCode := .seq (.region [⟨(some 10), .mv (.const (.slice none 0 0)), none⟩] []) c_ref29_Pick_11
def c_ref29_Pick_6 : MCode := .seq c_ref29_Pick_7 c_ref29_Pick_10
def c_ref29_Pick_5 : MCode := .seq (.region [⟨(some 21), .loadN 32 (.tmp 3), none⟩,
   ⟨(some 22), .mv (.tmp 1), none⟩,
   ⟨(some 23), .call 8 [(.tmp 21), (.tmp 22)], none⟩,
   ⟨(some 20), .mv (.tmp 23), none⟩,
   ⟨(some 24), .ext (.tmp 20) 0, none⟩,
   ⟨(some 25), .ext (.tmp 20) 1, none⟩,
   ⟨(some 8), .mv (.tmp 24), none⟩,
   ⟨(some 9), .mv (.tmp 25), none⟩] []) c_ref29_Pick_6
def c_ref29_Pick_1 : MCode := .seq c_ref29_Pick_2 c_ref29_Pick_5
def c_ref29_Pick_0 : MCode := .seq (.region [⟨(some 3), .box (.tmp 0), none⟩,
   ⟨(some 6), .mv (.const (.slice none 0 0)), none⟩,
   ⟨(some 7), .mv (.const (.int .i64 0)), none⟩] []) c_ref29_Pick_1
/-- trefoil/trefoilref29.Pick -/
def M_ref29_Pick : MFun := ⟨3, c_ref29_Pick_0, [.tmp 6, .tmp 7]⟩
abbrev F_ref29_Pick : Nat := 10
set_option maxRecDepth 100000 in
theorem m_ref29_Pick : InProg Try.prog 0 10 M_ref29_Pick := ⟨Try.f10, [[1, 2, 8, 10, 11], [1, 2, 8, 10, 11, 12]], Try.func10, by kernel_rfl⟩
def c_ref01_Ints_4 : MCode := .seq (.region [⟨(some 4), .mv (.const (.bool false)), none⟩] []) .ret
def c_ref01_Ints_3 : MCode := .cond (.tmp 10) c_ref01_Ints_4 .skip
def c_ref01_Ints_2 : MCode := .seq (.region [⟨(some 6), .mv (.tmp 0), none⟩,
   ⟨(some 7), .lenV (.tmp 6), none⟩,
   ⟨(some 8), .mv (.tmp 1), none⟩,
   ⟨(some 9), .lenV (.tmp 8), none⟩,
   ⟨(some 10), .ar .neq (.tmp 7) (.tmp 9), none⟩] []) c_ref01_Ints_3
def c_ref01_Ints_11 : MCode := .cond (.tmp 14) .skip (.exit 0)
def c_ref01_Ints_10 : MCode := .seq (.region [⟨(some 11), .mv (.tmp 5), none⟩,
   ⟨(some 12), .mv (.tmp 0), none⟩,
   ⟨(some 13), .lenV (.tmp 12), none⟩,
   ⟨(some 14), .ar .lss (.tmp 11) (.tmp 13), none⟩] []) c_ref01_Ints_11
def c_ref01_Ints_16 : MCode := .seq (.region [⟨(some 4), .mv (.const (.bool false)), none⟩] []) .ret
def c_ref01_Ints_15 : MCode := .cond (.tmp 25) c_ref01_Ints_16 .skip
def c_ref01_Ints_14 : MCode := .seq (.region [⟨(some 17), .mv (.tmp 0), none⟩,
   ⟨(some 18), .mv (.tmp 5), none⟩,
   ⟨(some 19), .ixV 1 (.tmp 17) (.tmp 18), none⟩,
   ⟨(some 20), .load1 (.tmp 19), none⟩,
   ⟨(some 21), .mv (.tmp 1), none⟩,
   ⟨(some 22), .mv (.tmp 5), none⟩,
   ⟨(some 23), .ixV 1 (.tmp 21) (.tmp 22), none⟩,
   ⟨(some 24), .load1 (.tmp 23), none⟩,
   ⟨(some 25), .ar .neq (.tmp 20) (.tmp 24), none⟩] []) c_ref01_Ints_15
def c_ref01_Ints_13 : MCode := .block 1 c_ref01_Ints_14
def c_ref01_Ints_17 : MCode := (.region [⟨(some 15), .mv (.tmp 5), none⟩,
   ⟨(some 16), .ar .add (.tmp 15) (.const (.int .i64 1)), none⟩,
   ⟨(some 5), .mv (.tmp 16), none⟩] [])
def c_ref01_Ints_12 : MCode := .seq c_ref01_Ints_13 c_ref01_Ints_17
def c_ref01_Ints_9 : MCode := .seq c_ref01_Ints_10 c_ref01_Ints_12
def c_ref01_Ints_8 : MCode := .loop [0, 1, 5] c_ref01_Ints_9
def c_ref01_Ints_7 : MCode := .block 0 c_ref01_Ints_8
def c_ref01_Ints_6 : MCode := .seq (.region [⟨(some 5), .mv (.const (.int .i64 0)), none⟩] []) c_ref01_Ints_7
def c_ref01_Ints_18 : MCode := .seq (.region [⟨(some 4), .mv (.const (.bool true)), none⟩] []) .ret
def c_ref01_Ints_5 : MCode := .seq c_ref01_Ints_6 c_ref01_Ints_18
def c_ref01_Ints_1 : MCode := .seq c_ref01_Ints_2 c_ref01_Ints_5
def c_ref01_Ints_0 : MCode := .seq (.region [⟨(some 4), .mv (.const (.bool false)), none⟩] []) c_ref01_Ints_1
/-- trefoil/trefoilref01.Ints -/
def M_ref01_Ints : MFun := ⟨2, c_ref01_Ints_0, [.tmp 4]⟩
abbrev F_ref01_Ints : Nat := 11
set_option maxRecDepth 100000 in
theorem m_ref01_Ints : InProg Try.prog 0 11 M_ref01_Ints := ⟨Try.f11, [[0, 1, 5]], Try.func11, by kernel_rfl⟩
def c_law29_awake_2 : MCode := .seq (.region [⟨(some 8), .mv (.tmp 2), none⟩,
   ⟨(some 9), .ar .eql (.tmp 8) (.const (.int .i64 0)), none⟩,
   ⟨(some 10), .mv (.tmp 9), none⟩,
   ⟨(some 11), .mv (.tmp 1), (some (10, true))⟩,
   ⟨(some 12), .buildSlice [(.int .i64 0), (.int .i64 0)] 2 [(0, 1, (.const (.int .i64 0))), (1, 1, (.const (.int .i64 2)))], (some (10, true))⟩,
   ⟨(some 13), .call 11 [(.tmp 11), (.tmp 12)], (some (10, true))⟩,
   ⟨(some 14), .pick (.tmp 10) (.tmp 13) (.const (.bool false)), none⟩,
   ⟨(some 0), .mv (.tmp 14), none⟩] []) .ret
def c_law29_awake_1 : MCode := .seq (.region [⟨(some 4), .buildSlice [(.int .i64 0), (.int .i64 0)] 2 [(0, 1, (.const (.int .i64 1))), (1, 1, (.const (.int .i64 3)))], none⟩,
   ⟨(some 5), .call 13 [(.const (.int .i64 4)), (.tmp 4)], none⟩,
   ⟨(some 3), .mv (.tmp 5), none⟩,
   ⟨(some 6), .ext (.tmp 3) 0, none⟩,
   ⟨(some 7), .ext (.tmp 3) 1, none⟩,
   ⟨(some 1), .mv (.tmp 6), none⟩,
   ⟨(some 2), .mv (.tmp 7), none⟩] []) c_law29_awake_2
def c_law29_awake_0 : MCode := .seq (.region [⟨(some 0), .mv (.const (.bool false)), none⟩] []) c_law29_awake_1
/-- trefoil/trefoillaw29.awake -/
def M_law29_awake : MFun := ⟨0, c_law29_awake_0, [.tmp 0]⟩
abbrev F_law29_awake : Nat := 12
set_option maxRecDepth 100000 in
theorem m_law29_awake : InProg Try.prog 0 12 M_law29_awake := ⟨Try.f12, [], Try.func12, by kernel_rfl⟩
def c_sample_Rest_4 : MCode := .seq (.region [⟨(some 4), .mv (.const (.slice none 0 0)), none⟩,
   ⟨(some 5), .mv (.const (.int .i64 2)), none⟩] []) .ret
def c_sample_Rest_3 : MCode := .cond (.tmp 14) c_sample_Rest_4 .skip
def c_sample_Rest_2 : MCode := .seq (.region [⟨(some 9), .mv (.tmp 0), none⟩,
   ⟨(some 10), .ar .lss (.tmp 9) (.const (.int .i64 0)), none⟩,
   ⟨(some 11), .mv (.tmp 10), none⟩,
   ⟨(some 12), .mv (.tmp 0), (some (11, false))⟩,
   ⟨(some 13), .ar .gtr (.tmp 12) (.const (.int .i64 24)), (some (11, false))⟩,
   ⟨(some 14), .pick (.tmp 11) (.const (.bool true)) (.tmp 13), none⟩] []) c_sample_Rest_3
def c_sample_Rest_13 : MCode := .cond (.tmp 17) .skip (.exit 0)
def c_sample_Rest_20 : MCode := .seq (.region [⟨(some 31), .mv (.tmp 6), none⟩,
   ⟨(some 32), .ar .add (.tmp 31) (.const (.int .i64 1)), none⟩,
   ⟨(some 6), .mv (.tmp 32), none⟩] []) (.exit 1)
def c_sample_Rest_19 : MCode := .cond (.tmp 30) c_sample_Rest_20 .skip
def c_sample_Rest_18 : MCode := .seq (.region [⟨(some 19), .mv (.tmp 6), none⟩,
   ⟨(some 20), .mv (.tmp 1), none⟩,
   ⟨(some 21), .lenV (.tmp 20), none⟩,
   ⟨(some 22), .ar .lss (.tmp 19) (.tmp 21), none⟩,
   ⟨(some 23), .mv (.tmp 22), none⟩,
   ⟨(some 24), .mv (.tmp 1), (some (23, true))⟩,
   ⟨(some 25), .mv (.tmp 6), (some (23, true))⟩,
   ⟨(some 26), .ixV 1 (.tmp 24) (.tmp 25), (some (23, true))⟩,
   ⟨(some 27), .load1 (.tmp 26), (some (23, true))⟩,
   ⟨(some 28), .mv (.tmp 8), (some (23, true))⟩,
   ⟨(some 29), .ar .eql (.tmp 27) (.tmp 28), (some (23, true))⟩,
   ⟨(some 30), .pick (.tmp 23) (.tmp 29) (.const (.bool false)), none⟩] []) c_sample_Rest_19
def c_sample_Rest_21 : MCode := (.region [⟨(some 33), .mv (.tmp 7), none⟩,
   ⟨(some 34), .mv (.tmp 8), none⟩,
   ⟨(some 35), .buildSlice [(.int .i64 0)] 1 [(0, 1, (.tmp 34))], none⟩,
   ⟨(some 36), .app 1 8 (.tmp 33) (.tmp 35), none⟩,
   ⟨(some 7), .mv (.tmp 36), none⟩] [])
def c_sample_Rest_17 : MCode := .seq c_sample_Rest_18 c_sample_Rest_21
def c_sample_Rest_16 : MCode := .seq (.region [⟨(some 18), .mv (.tmp 16), none⟩,
   ⟨(some 8), .mv (.tmp 18), none⟩] []) c_sample_Rest_17
def c_sample_Rest_15 : MCode := .block 1 c_sample_Rest_16
def c_sample_Rest_22 : MCode := (.region [⟨(some 37), .ar .add (.tmp 16) (.const (.int .i64 1)), none⟩,
   ⟨(some 16), .mv (.tmp 37), none⟩] [])
def c_sample_Rest_14 : MCode := .seq c_sample_Rest_15 c_sample_Rest_22
def c_sample_Rest_12 : MCode := .seq c_sample_Rest_13 c_sample_Rest_14
def c_sample_Rest_11 : MCode := .seq (.region [⟨(some 17), .ar .lss (.tmp 16) (.tmp 15), none⟩] []) c_sample_Rest_12
def c_sample_Rest_10 : MCode := .loop [1, 6, 7, 15, 16] c_sample_Rest_11
def c_sample_Rest_9 : MCode := .block 0 c_sample_Rest_10
def c_sample_Rest_8 : MCode := .seq (.region [⟨(some 15), .mv (.tmp 0), none⟩,
   ⟨(some 16), .mv (.const (.int .i64 0)), none⟩] []) c_sample_Rest_9
def c_sample_Rest_26 : MCode := .seq (.region [⟨(some 4), .mv (.const (.slice none 0 0)), none⟩,
   ⟨(some 5), .mv (.const (.int .i64 1)), none⟩] []) .ret
def c_sample_Rest_25 : MCode := .cond (.tmp 41) c_sample_Rest_26 .skip
def c_sample_Rest_24 : MCode := .seq (.region [⟨(some 38), .mv (.tmp 6), none⟩,
   ⟨(some 39), .mv (.tmp 1), none⟩,
   ⟨(some 40), .lenV (.tmp 39), none⟩,
   ⟨(some 41), .ar .lss (.tmp 38) (.tmp 40), none⟩] []) c_sample_Rest_25
def c_sample_Rest_27 : MCode := .seq (.region [⟨(some 42), .mv (.tmp 7), none⟩,
   ⟨(some 4), .mv (.tmp 42), none⟩,
   ⟨(some 5), .mv (.const (.int .i64 0)), none⟩] []) .ret
def c_sample_Rest_23 : MCode := .seq c_sample_Rest_24 c_sample_Rest_27
def c_sample_Rest_7 : MCode := .seq c_sample_Rest_8 c_sample_Rest_23
def c_sample_Rest_6 : MCode := .seq (.region [⟨(some 7), .mv (.const (.slice none 0 0)), none⟩] []) c_sample_Rest_7
def c_sample_Rest_5 : MCode := .seq (.region [⟨(some 6), .mv (.const (.int .i64 0)), none⟩] []) c_sample_Rest_6
def c_sample_Rest_1 : MCode := .seq c_sample_Rest_2 c_sample_Rest_5
def c_sample_Rest_0 : MCode := .seq (.region [⟨(some 4), .mv (.const (.slice none 0 0)), none⟩,
   ⟨(some 5), .mv (.const (.int .i64 0)), none⟩] []) c_sample_Rest_1
/-- trefoil/sample.Rest -/
def M_sample_Rest : MFun := ⟨2, c_sample_Rest_0, [.tmp 4, .tmp 5]⟩
abbrev F_sample_Rest : Nat := 13
set_option maxRecDepth 100000 in
theorem m_sample_Rest : InProg Try.prog 0 13 M_sample_Rest := ⟨Try.f13, [[1, 6, 7, 15, 16]], Try.func13, by kernel_rfl⟩
def c_prg_New_1 : MCode := .seq (.region [⟨(some 5), .loadN 32 (.tmp 2), none⟩,
   ⟨(some 6), .mv (.tmp 1), none⟩,
   ⟨(some 7), .build [(.int .u8 0), (.int .u8 0), (.int .u8 0), (.int .u8 0), (.int .u8 0), (.int .u8 0), (.int .u8 0), (.int .u8 0), (.int .u8 0), (.int .u8 0), (.int .u8 0), (.int .u8 0), (.int .u8 0), (.int .u8 0), (.int .u8 0), (.int .u8 0), (.int .u8 0), (.int .u8 0), (.int .u8 0), (.int .u8 0), (.int .u8 0), (.int .u8 0), (.int .u8 0), (.int .u8 0), (.int .u8 0), (.int .u8 0), (.int .u8 0), (.int .u8 0), (.int .u8 0), (.int .u8 0), (.int .u8 0), (.int .u8 0), (.int .u32 0), (.int .i64 0), (.bool false)] [(0, 32, (.tmp 5)), (32, 1, (.tmp 6)), (34, 1, (.const (.bool true)))], none⟩,
   ⟨(some 8), .box (.tmp 7), none⟩,
   ⟨(some 4), .mv (.tmp 8), none⟩] []) .ret
def c_prg_New_0 : MCode := .seq (.region [⟨(some 2), .box (.tmp 0), none⟩,
   ⟨(some 4), .mv (.const (.pointer none)), none⟩] []) c_prg_New_1
/-- trefoil/prg.New -/
def M_prg_New : MFun := ⟨2, c_prg_New_0, [.tmp 4]⟩
abbrev F_prg_New : Nat := 23
set_option maxRecDepth 100000 in
theorem m_prg_New : InProg Try.prog 0 23 M_prg_New := ⟨Try.f23, [], Try.func23, by kernel_rfl⟩
def c_prg_Source_Below_4 : MCode := .seq (.region [⟨(some 4), .mv (.const (.int .u64 0)), none⟩,
   ⟨(some 5), .mv (.const (.int .i64 3)), none⟩] []) .ret
def c_prg_Source_Below_3 : MCode := .cond (.tmp 17) c_prg_Source_Below_4 .skip
def c_prg_Source_Below_2 : MCode := .seq (.region [⟨(some 9), .mv (.tmp 0), none⟩,
   ⟨(some 10), .eq false .ptr (.tmp 9) (.const (.pointer none)), none⟩,
   ⟨(some 11), .mv (.tmp 10), none⟩,
   ⟨(some 12), .mv (.tmp 0), (some (11, false))⟩,
   ⟨(some 13), .nilCheck (.tmp 12), (some (11, false))⟩,
   ⟨(some 14), .fld 34 (.tmp 13), (some (11, false))⟩,
   ⟨(some 15), .load1 (.tmp 14), (some (11, false))⟩,
   ⟨(some 16), .un .not (.tmp 15), (some (11, false))⟩,
   ⟨(some 17), .pick (.tmp 11) (.const (.bool true)) (.tmp 16), none⟩] []) c_prg_Source_Below_3
def c_prg_Source_Below_8 : MCode := .seq (.region [⟨(some 4), .mv (.const (.int .u64 0)), none⟩,
   ⟨(some 5), .mv (.const (.int .i64 1)), none⟩] []) .ret
def c_prg_Source_Below_7 : MCode := .cond (.tmp 19) c_prg_Source_Below_8 .skip
def c_prg_Source_Below_6 : MCode := .seq (.region [⟨(some 18), .mv (.tmp 1), none⟩,
   ⟨(some 19), .ar .eql (.tmp 18) (.const (.int .u64 0)), none⟩] []) c_prg_Source_Below_7
def c_prg_Source_Below_16 : MCode := .cond (.tmp 23) .skip (.exit 0)
def c_prg_Source_Below_23 : MCode := .seq (.region [⟨(some 31), .mv (.tmp 8), none⟩,
   ⟨(some 4), .mv (.const (.int .u64 0)), none⟩,
   ⟨(some 5), .mv (.tmp 31), none⟩] []) .ret
def c_prg_Source_Below_22 : MCode := .cond (.tmp 30) c_prg_Source_Below_23 .skip
def c_prg_Source_Below_21 : MCode := .seq (.region [⟨(some 29), .mv (.tmp 8), none⟩,
   ⟨(some 30), .ar .neq (.tmp 29) (.const (.int .i64 0)), none⟩] []) c_prg_Source_Below_22
def c_prg_Source_Below_26 : MCode := .seq (.region [⟨(some 39), .mv (.tmp 7), none⟩,
   ⟨(some 40), .mv (.tmp 1), none⟩,
   ⟨(some 41), .ar .rem (.tmp 39) (.tmp 40), none⟩,
   ⟨(some 4), .mv (.tmp 41), none⟩,
   ⟨(some 5), .mv (.const (.int .i64 0)), none⟩] []) .ret
def c_prg_Source_Below_25 : MCode := .cond (.tmp 38) c_prg_Source_Below_26 .skip
def c_prg_Source_Below_24 : MCode := .seq (.region [⟨(some 32), .mv (.tmp 6), none⟩,
   ⟨(some 33), .ar .eql (.tmp 32) (.const (.int .u64 0)), none⟩,
   ⟨(some 34), .mv (.tmp 33), none⟩,
   ⟨(some 35), .mv (.tmp 7), (some (34, false))⟩,
   ⟨(some 36), .mv (.tmp 6), (some (34, false))⟩,
   ⟨(some 37), .ar .lss (.tmp 35) (.tmp 36), (some (34, false))⟩,
   ⟨(some 38), .pick (.tmp 34) (.const (.bool true)) (.tmp 37), none⟩] []) c_prg_Source_Below_25
def c_prg_Source_Below_20 : MCode := .seq c_prg_Source_Below_21 c_prg_Source_Below_24
def c_prg_Source_Below_19 : MCode := .seq (.region [⟨(some 25), .mv (.tmp 0), none⟩,
   ⟨(some 26), .call 38 [(.tmp 25)], none⟩,
   ⟨(some 24), .mv (.tmp 26), none⟩,
   ⟨(some 27), .ext (.tmp 24) 0, none⟩,
   ⟨(some 28), .ext (.tmp 24) 1, none⟩,
   ⟨(some 7), .mv (.tmp 27), none⟩,
   ⟨(some 8), .mv (.tmp 28), none⟩] []) c_prg_Source_Below_20
def c_prg_Source_Below_18 : MCode := .block 1 c_prg_Source_Below_19
def c_prg_Source_Below_27 : MCode := (.region [⟨(some 42), .ar .add (.tmp 22) (.const (.int .i64 1)), none⟩,
   ⟨(some 22), .mv (.tmp 42), none⟩] [])
def c_prg_Source_Below_17 : MCode := .seq c_prg_Source_Below_18 c_prg_Source_Below_27
def c_prg_Source_Below_15 : MCode := .seq c_prg_Source_Below_16 c_prg_Source_Below_17
def c_prg_Source_Below_14 : MCode := .seq (.region [⟨(some 23), .ar .lss (.tmp 22) (.const (.int .i64 64)), none⟩] []) c_prg_Source_Below_15
def c_prg_Source_Below_13 : MCode := .loop [0, 1, 6, 22] c_prg_Source_Below_14
def c_prg_Source_Below_12 : MCode := .block 0 c_prg_Source_Below_13
def c_prg_Source_Below_11 : MCode := .seq (.region [⟨(some 22), .mv (.const (.int .i64 0)), none⟩] []) c_prg_Source_Below_12
def c_prg_Source_Below_28 : MCode := .seq (.region [⟨(some 4), .mv (.const (.int .u64 0)), none⟩,
   ⟨(some 5), .mv (.const (.int .i64 24)), none⟩] []) .ret
def c_prg_Source_Below_10 : MCode := .seq c_prg_Source_Below_11 c_prg_Source_Below_28
def c_prg_Source_Below_9 : MCode := .seq (.region [⟨(some 20), .mv (.tmp 1), none⟩,
   ⟨(some 21), .call 37 [(.tmp 20)], none⟩,
   ⟨(some 6), .mv (.tmp 21), none⟩] []) c_prg_Source_Below_10
def c_prg_Source_Below_5 : MCode := .seq c_prg_Source_Below_6 c_prg_Source_Below_9
def c_prg_Source_Below_1 : MCode := .seq c_prg_Source_Below_2 c_prg_Source_Below_5
def c_prg_Source_Below_0 : MCode := .seq (.region [⟨(some 4), .mv (.const (.int .u64 0)), none⟩,
   ⟨(some 5), .mv (.const (.int .i64 0)), none⟩] []) c_prg_Source_Below_1
/-- (*trefoil/prg.Source).Below -/
def M_prg_Source_Below : MFun := ⟨2, c_prg_Source_Below_0, [.tmp 4, .tmp 5]⟩
abbrev F_prg_Source_Below : Nat := 24
set_option maxRecDepth 100000 in
theorem m_prg_Source_Below : InProg Try.prog 0 24 M_prg_Source_Below := ⟨Try.f24, [[0, 1, 6, 22]], Try.func24, by kernel_rfl⟩
def c_ref07_Below_4 : MCode := .seq (.region [⟨(some 16), .mv (.tmp 2), none⟩,
   ⟨(some 8), .mv (.const (.int .u64 0)), none⟩,
   ⟨(some 9), .mv (.tmp 16), none⟩,
   ⟨(some 10), .mv (.const (.int .i64 1)), none⟩] []) .ret
def c_ref07_Below_3 : MCode := .cond (.tmp 15) c_ref07_Below_4 .skip
def c_ref07_Below_2 : MCode := .seq (.region [⟨(some 14), .mv (.tmp 3), none⟩,
   ⟨(some 15), .ar .eql (.tmp 14) (.const (.int .u64 0)), none⟩] []) c_ref07_Below_3
def c_ref07_Below_11 : MCode := .cond (.tmp 18) .skip (.exit 0)
def c_ref07_Below_10 : MCode := .seq (.region [⟨(some 17), .mv (.tmp 11), none⟩,
   ⟨(some 18), .ar .lss (.tmp 17) (.const (.int .i64 64)), none⟩] []) c_ref07_Below_11
def c_ref07_Below_18 : MCode := .seq (.region [⟨(some 30), .mv (.tmp 2), none⟩,
   ⟨(some 31), .mv (.tmp 13), none⟩,
   ⟨(some 8), .mv (.const (.int .u64 0)), none⟩,
   ⟨(some 9), .mv (.tmp 30), none⟩,
   ⟨(some 10), .mv (.tmp 31), none⟩] []) .ret
def c_ref07_Below_17 : MCode := .cond (.tmp 29) c_ref07_Below_18 .skip
def c_ref07_Below_16 : MCode := .seq (.region [⟨(some 28), .mv (.tmp 13), none⟩,
   ⟨(some 29), .ar .neq (.tmp 28) (.const (.int .i64 0)), none⟩] []) c_ref07_Below_17
def c_ref07_Below_22 : MCode := .seq (.region [⟨(some 45), .mv (.tmp 12), none⟩,
   ⟨(some 46), .ixV 1 (.tmp 45) (.const (.int .i64 0)), none⟩,
   ⟨(some 47), .load1 (.tmp 46), none⟩,
   ⟨(some 48), .mv (.tmp 3), none⟩,
   ⟨(some 49), .ar .rem (.tmp 47) (.tmp 48), none⟩,
   ⟨(some 50), .mv (.tmp 2), none⟩,
   ⟨(some 8), .mv (.tmp 49), none⟩,
   ⟨(some 9), .mv (.tmp 50), none⟩,
   ⟨(some 10), .mv (.const (.int .i64 0)), none⟩] []) .ret
def c_ref07_Below_21 : MCode := .cond (.tmp 44) c_ref07_Below_22 .skip
def c_ref07_Below_20 : MCode := .seq (.region [⟨(some 34), .mv (.tmp 3), none⟩,
   ⟨(some 35), .call 40 [(.tmp 34)], none⟩,
   ⟨(some 36), .ar .eql (.tmp 35) (.const (.int .u64 0)), none⟩,
   ⟨(some 37), .mv (.tmp 36), none⟩,
   ⟨(some 38), .mv (.tmp 12), (some (37, false))⟩,
   ⟨(some 39), .ixV 1 (.tmp 38) (.const (.int .i64 0)), (some (37, false))⟩,
   ⟨(some 40), .load1 (.tmp 39), (some (37, false))⟩,
   ⟨(some 41), .mv (.tmp 3), (some (37, false))⟩,
   ⟨(some 42), .call 40 [(.tmp 41)], (some (37, false))⟩,
   ⟨(some 43), .ar .lss (.tmp 40) (.tmp 42), (some (37, false))⟩,
   ⟨(some 44), .pick (.tmp 37) (.const (.bool true)) (.tmp 43), none⟩] [(6, 8)]) c_ref07_Below_21
def c_ref07_Below_19 : MCode := .seq (.region [⟨(some 32), .mv (.tmp 2), none⟩,
   ⟨(some 33), .ar .add (.tmp 32) (.const (.int .i64 1)), none⟩,
   ⟨(some 2), .mv (.tmp 33), none⟩] []) c_ref07_Below_20
def c_ref07_Below_15 : MCode := .seq c_ref07_Below_16 c_ref07_Below_19
def c_ref07_Below_14 : MCode := .seq (.region [⟨(some 22), .loadN 32 (.tmp 4), none⟩,
   ⟨(some 23), .mv (.tmp 1), none⟩,
   ⟨(some 24), .mv (.tmp 2), none⟩,
   ⟨(some 25), .call 39 [(.tmp 22), (.tmp 23), (.tmp 24), (.const (.int .i64 1))], none⟩,
   ⟨(some 21), .mv (.tmp 25), none⟩,
   ⟨(some 26), .ext (.tmp 21) 0, none⟩,
   ⟨(some 27), .ext (.tmp 21) 1, none⟩,
   ⟨(some 12), .mv (.tmp 26), none⟩,
   ⟨(some 13), .mv (.tmp 27), none⟩] []) c_ref07_Below_15
def c_ref07_Below_13 : MCode := .block 1 c_ref07_Below_14
def c_ref07_Below_23 : MCode := (.region [⟨(some 19), .mv (.tmp 11), none⟩,
   ⟨(some 20), .ar .add (.tmp 19) (.const (.int .i64 1)), none⟩,
   ⟨(some 11), .mv (.tmp 20), none⟩] [])
def c_ref07_Below_12 : MCode := .seq c_ref07_Below_13 c_ref07_Below_23
def c_ref07_Below_9 : MCode := .seq c_ref07_Below_10 c_ref07_Below_12
def c_ref07_Below_8 : MCode := .loop [1, 2, 3, 4, 11] c_ref07_Below_9
def c_ref07_Below_7 : MCode := .block 0 c_ref07_Below_8
def c_ref07_Below_6 : MCode := .seq (.region [⟨(some 11), .mv (.const (.int .i64 0)), none⟩] []) c_ref07_Below_7
def c_ref07_Below_24 : MCode := .seq (.region [⟨(some 51), .mv (.tmp 2), none⟩,
   ⟨(some 8), .mv (.const (.int .u64 0)), none⟩,
   ⟨(some 9), .mv (.tmp 51), none⟩,
   ⟨(some 10), .mv (.const (.int .i64 24)), none⟩] []) .ret
def c_ref07_Below_5 : MCode := .seq c_ref07_Below_6 c_ref07_Below_24
def c_ref07_Below_1 : MCode := .seq c_ref07_Below_2 c_ref07_Below_5
def c_ref07_Below_0 : MCode := .seq (.region [⟨(some 4), .box (.tmp 0), none⟩,
   ⟨(some 8), .mv (.const (.int .u64 0)), none⟩,
   ⟨(some 9), .mv (.const (.int .i64 0)), none⟩,
   ⟨(some 10), .mv (.const (.int .i64 0)), none⟩] []) c_ref07_Below_1
/-- trefoil/trefoilref07.Below -/
def M_ref07_Below : MFun := ⟨4, c_ref07_Below_0, [.tmp 8, .tmp 9, .tmp 10]⟩
abbrev F_ref07_Below : Nat := 25
set_option maxRecDepth 100000 in
theorem m_ref07_Below : InProg Try.prog 0 25 M_ref07_Below := ⟨Try.f25, [[1, 2, 3, 4, 11]], Try.func25, by kernel_rfl⟩
def c_slices_Clip_int_int_1 : MCode := .seq (.region [⟨(some 3), .mv (.tmp 0), none⟩,
   ⟨(some 4), .mv (.tmp 0), none⟩,
   ⟨(some 5), .lenV (.tmp 4), none⟩,
   ⟨(some 6), .mv (.tmp 0), none⟩,
   ⟨(some 7), .lenV (.tmp 6), none⟩,
   ⟨(some 8), .slV 1 (.tmp 3) none (some (.tmp 5)) (some (.tmp 7)), none⟩,
   ⟨(some 2), .mv (.tmp 8), none⟩] []) .ret
def c_slices_Clip_int_int_0 : MCode := .seq (.region [⟨(some 2), .mv (.const (.slice none 0 0)), none⟩] []) c_slices_Clip_int_int_1
/-- slices.Clip[[]int,int] -/
def M_slices_Clip_int_int : MFun := ⟨1, c_slices_Clip_int_int_0, [.tmp 2]⟩
abbrev F_slices_Clip_int_int : Nat := 27
set_option maxRecDepth 100000 in
theorem m_slices_Clip_int_int : InProg Try.prog 0 27 M_slices_Clip_int_int := ⟨Try.f27, [], Try.func27, by kernel_rfl⟩
def c_prg_Cut_4 : MCode := .seq (.region [⟨(some 2), .mv (.const (.int .u64 0)), none⟩] []) .ret
def c_prg_Cut_3 : MCode := .cond (.tmp 4) c_prg_Cut_4 .skip
def c_prg_Cut_2 : MCode := .seq (.region [⟨(some 3), .mv (.tmp 0), none⟩,
   ⟨(some 4), .ar .eql (.tmp 3) (.const (.int .u64 0)), none⟩] []) c_prg_Cut_3
def c_prg_Cut_5 : MCode := .seq (.region [⟨(some 5), .mv (.tmp 0), none⟩,
   ⟨(some 6), .un .neg (.tmp 5), none⟩,
   ⟨(some 7), .mv (.tmp 0), none⟩,
   ⟨(some 8), .ar .rem (.tmp 6) (.tmp 7), none⟩,
   ⟨(some 9), .un .neg (.tmp 8), none⟩,
   ⟨(some 2), .mv (.tmp 9), none⟩] []) .ret
def c_prg_Cut_1 : MCode := .seq c_prg_Cut_2 c_prg_Cut_5
def c_prg_Cut_0 : MCode := .seq (.region [⟨(some 2), .mv (.const (.int .u64 0)), none⟩] []) c_prg_Cut_1
/-- trefoil/prg.Cut -/
def M_prg_Cut : MFun := ⟨1, c_prg_Cut_0, [.tmp 2]⟩
abbrev F_prg_Cut : Nat := 37
set_option maxRecDepth 100000 in
theorem m_prg_Cut : InProg Try.prog 0 37 M_prg_Cut := ⟨Try.f37, [], Try.func37, by kernel_rfl⟩
def c_prg_Source_Next_4 : MCode := .seq (.region [⟨(some 2), .mv (.const (.int .u64 0)), none⟩,
   ⟨(some 3), .mv (.const (.int .i64 3)), none⟩] []) .ret
def c_prg_Source_Next_3 : MCode := .cond (.tmp 14) c_prg_Source_Next_4 .skip
def c_prg_Source_Next_2 : MCode := .seq (.region [⟨(some 6), .mv (.tmp 0), none⟩,
   ⟨(some 7), .eq false .ptr (.tmp 6) (.const (.pointer none)), none⟩,
   ⟨(some 8), .mv (.tmp 7), none⟩,
   ⟨(some 9), .mv (.tmp 0), (some (8, false))⟩,
   ⟨(some 10), .nilCheck (.tmp 9), (some (8, false))⟩,
   ⟨(some 11), .fld 34 (.tmp 10), (some (8, false))⟩,
   ⟨(some 12), .load1 (.tmp 11), (some (8, false))⟩,
   ⟨(some 13), .un .not (.tmp 12), (some (8, false))⟩,
   ⟨(some 14), .pick (.tmp 8) (.const (.bool true)) (.tmp 13), none⟩] []) c_prg_Source_Next_3
def c_prg_Source_Next_9 : MCode := .seq (.region [⟨(some 33), .mv (.tmp 5), none⟩,
   ⟨(some 2), .mv (.const (.int .u64 0)), none⟩,
   ⟨(some 3), .mv (.tmp 33), none⟩] []) .ret
def c_prg_Source_Next_8 : MCode := .cond (.tmp 32) c_prg_Source_Next_9 .skip
def c_prg_Source_Next_7 : MCode := .seq (.region [⟨(some 31), .mv (.tmp 5), none⟩,
   ⟨(some 32), .ar .neq (.tmp 31) (.const (.int .i64 0)), none⟩] []) c_prg_Source_Next_8
def c_prg_Source_Next_11 : MCode := .seq (.region [⟨(some 41), .mv (.tmp 4), none⟩,
   ⟨(some 42), .ixV 1 (.tmp 41) (.const (.int .i64 0)), none⟩,
   ⟨(some 43), .load1 (.tmp 42), none⟩,
   ⟨(some 2), .mv (.tmp 43), none⟩,
   ⟨(some 3), .mv (.const (.int .i64 0)), none⟩] []) .ret
def c_prg_Source_Next_10 : MCode := .seq (.region [⟨(some 34), .mv (.tmp 0), none⟩,
   ⟨(some 35), .nilCheck (.tmp 34), none⟩,
   ⟨(some 36), .fld 33 (.tmp 35), none⟩,
   ⟨(some 37), .load1 (.tmp 36), none⟩,
   ⟨(some 38), .ar .add (.tmp 37) (.const (.int .i64 1)), none⟩,
   ⟨(some 39), .nilCheck (.tmp 34), none⟩,
   ⟨(some 40), .fld 33 (.tmp 39), none⟩,
   ⟨none, .store 1 (.tmp 40) (.tmp 38), none⟩] []) c_prg_Source_Next_11
def c_prg_Source_Next_6 : MCode := .seq c_prg_Source_Next_7 c_prg_Source_Next_10
def c_prg_Source_Next_5 : MCode := .seq (.region [⟨(some 16), .mv (.tmp 0), none⟩,
   ⟨(some 17), .nilCheck (.tmp 16), none⟩,
   ⟨(some 18), .fld 0 (.tmp 17), none⟩,
   ⟨(some 19), .loadN 32 (.tmp 18), none⟩,
   ⟨(some 20), .mv (.tmp 0), none⟩,
   ⟨(some 21), .nilCheck (.tmp 20), none⟩,
   ⟨(some 22), .fld 32 (.tmp 21), none⟩,
   ⟨(some 23), .load1 (.tmp 22), none⟩,
   ⟨(some 24), .mv (.tmp 0), none⟩,
   ⟨(some 25), .nilCheck (.tmp 24), none⟩,
   ⟨(some 26), .fld 33 (.tmp 25), none⟩,
   ⟨(some 27), .load1 (.tmp 26), none⟩,
   ⟨(some 28), .call 60 [(.tmp 19), (.tmp 23), (.tmp 27), (.const (.int .i64 1))], none⟩,
   ⟨(some 15), .mv (.tmp 28), none⟩,
   ⟨(some 29), .ext (.tmp 15) 0, none⟩,
   ⟨(some 30), .ext (.tmp 15) 1, none⟩,
   ⟨(some 4), .mv (.tmp 29), none⟩,
   ⟨(some 5), .mv (.tmp 30), none⟩] []) c_prg_Source_Next_6
def c_prg_Source_Next_1 : MCode := .seq c_prg_Source_Next_2 c_prg_Source_Next_5
def c_prg_Source_Next_0 : MCode := .seq (.region [⟨(some 2), .mv (.const (.int .u64 0)), none⟩,
   ⟨(some 3), .mv (.const (.int .i64 0)), none⟩] []) c_prg_Source_Next_1
/-- (*trefoil/prg.Source).Next -/
def M_prg_Source_Next : MFun := ⟨1, c_prg_Source_Next_0, [.tmp 2, .tmp 3]⟩
abbrev F_prg_Source_Next : Nat := 38
set_option maxRecDepth 100000 in
theorem m_prg_Source_Next : InProg Try.prog 0 38 M_prg_Source_Next := ⟨Try.f38, [], Try.func38, by kernel_rfl⟩
def c_ref07_Words_4 : MCode := .seq (.region [⟨(some 8), .mv (.const (.slice none 0 0)), none⟩,
   ⟨(some 9), .mv (.const (.int .i64 2)), none⟩] []) .ret
def c_ref07_Words_3 : MCode := .cond (.tmp 29) c_ref07_Words_4 .skip
def c_ref07_Words_2 : MCode := .seq (.region [⟨(some 16), .mv (.tmp 2), none⟩,
   ⟨(some 17), .ar .lss (.tmp 16) (.const (.int .i64 0)), none⟩,
   ⟨(some 18), .mv (.tmp 17), none⟩,
   ⟨(some 19), .mv (.tmp 3), (some (18, false))⟩,
   ⟨(some 20), .ar .lss (.tmp 19) (.const (.int .i64 0)), (some (18, false))⟩,
   ⟨(some 21), .pick (.tmp 18) (.const (.bool true)) (.tmp 20), none⟩,
   ⟨(some 22), .mv (.tmp 21), none⟩,
   ⟨(some 23), .mv (.tmp 3), (some (22, false))⟩,
   ⟨(some 24), .ar .gtr (.tmp 23) (.const (.int .i64 4096)), (some (22, false))⟩,
   ⟨(some 25), .pick (.tmp 22) (.const (.bool true)) (.tmp 24), none⟩,
   ⟨(some 26), .mv (.tmp 25), none⟩,
   ⟨(some 27), .mv (.tmp 2), (some (26, false))⟩,
   ⟨(some 28), .ar .gtr (.tmp 27) (.const (.int .i64 134217728)), (some (26, false))⟩,
   ⟨(some 29), .pick (.tmp 26) (.const (.bool true)) (.tmp 28), none⟩] []) c_ref07_Words_3
def c_ref07_Words_9 : MCode := .seq (.region [⟨(some 42), .mv (.tmp 11), none⟩,
   ⟨(some 8), .mv (.const (.slice none 0 0)), none⟩,
   ⟨(some 9), .mv (.tmp 42), none⟩] []) .ret
def c_ref07_Words_8 : MCode := .cond (.tmp 41) c_ref07_Words_9 .skip
def c_ref07_Words_7 : MCode := .seq (.region [⟨(some 40), .mv (.tmp 11), none⟩,
   ⟨(some 41), .ar .neq (.tmp 40) (.const (.int .i64 0)), none⟩] []) c_ref07_Words_8
def c_ref07_Words_17 : MCode := .cond (.tmp 45) .skip (.exit 0)
def c_ref07_Words_16 : MCode := .seq (.region [⟨(some 43), .mv (.tmp 13), none⟩,
   ⟨(some 44), .mv (.tmp 3), none⟩,
   ⟨(some 45), .ar .lss (.tmp 43) (.tmp 44), none⟩] []) c_ref07_Words_17
def c_ref07_Words_27 : MCode := .cond (.tmp 49) .skip (.exit 2)
def c_ref07_Words_26 : MCode := .seq (.region [⟨(some 48), .mv (.tmp 15), none⟩,
   ⟨(some 49), .ar .geq (.tmp 48) (.const (.int .i64 0)), none⟩] []) c_ref07_Words_27
def c_ref07_Words_30 : MCode := (.region [⟨(some 52), .mv (.tmp 14), none⟩,
   ⟨(some 53), .ar .mul (.const (.int .u64 256)) (.tmp 52), none⟩,
   ⟨(some 54), .mv (.tmp 10), none⟩,
   ⟨(some 55), .mv (.tmp 13), none⟩,
   ⟨(some 56), .ar .mul (.const (.int .i64 8)) (.tmp 55), none⟩,
   ⟨(some 57), .mv (.tmp 15), none⟩,
   ⟨(some 58), .ar .add (.tmp 56) (.tmp 57), none⟩,
   ⟨(some 59), .ixS (.tmp 54) (.tmp 58), none⟩,
   ⟨(some 60), .conv .u64 (.tmp 59), none⟩,
   ⟨(some 61), .ar .add (.tmp 53) (.tmp 60), none⟩,
   ⟨(some 14), .mv (.tmp 61), none⟩] [])
def c_ref07_Words_29 : MCode := .block 3 c_ref07_Words_30
def c_ref07_Words_31 : MCode := (.region [⟨(some 50), .mv (.tmp 15), none⟩,
   ⟨(some 51), .ar .sub (.tmp 50) (.const (.int .i64 1)), none⟩,
   ⟨(some 15), .mv (.tmp 51), none⟩] [])
def c_ref07_Words_28 : MCode := .seq c_ref07_Words_29 c_ref07_Words_31
def c_ref07_Words_25 : MCode := .seq c_ref07_Words_26 c_ref07_Words_28
def c_ref07_Words_24 : MCode := .loop [3, 10, 12, 13, 14, 15] c_ref07_Words_25
def c_ref07_Words_23 : MCode := .block 2 c_ref07_Words_24
def c_ref07_Words_22 : MCode := .seq (.region [⟨(some 15), .mv (.const (.int .i64 7)), none⟩] []) c_ref07_Words_23
def c_ref07_Words_32 : MCode := (.region [⟨(some 62), .mv (.tmp 12), none⟩,
   ⟨(some 63), .mv (.tmp 14), none⟩,
   ⟨(some 64), .buildSlice [(.int .u64 0)] 1 [(0, 1, (.tmp 63))], none⟩,
   ⟨(some 65), .app 1 8 (.tmp 62) (.tmp 64), none⟩,
   ⟨(some 12), .mv (.tmp 65), none⟩] [])
def c_ref07_Words_21 : MCode := .seq c_ref07_Words_22 c_ref07_Words_32
def c_ref07_Words_20 : MCode := .seq (.region [⟨(some 14), .mv (.const (.int .u64 0)), none⟩] []) c_ref07_Words_21
def c_ref07_Words_19 : MCode := .block 1 c_ref07_Words_20
def c_ref07_Words_33 : MCode := (.region [⟨(some 46), .mv (.tmp 13), none⟩,
   ⟨(some 47), .ar .add (.tmp 46) (.const (.int .i64 1)), none⟩,
   ⟨(some 13), .mv (.tmp 47), none⟩] [])
def c_ref07_Words_18 : MCode := .seq c_ref07_Words_19 c_ref07_Words_33
def c_ref07_Words_15 : MCode := .seq c_ref07_Words_16 c_ref07_Words_18
def c_ref07_Words_14 : MCode := .loop [3, 10, 12, 13] c_ref07_Words_15
def c_ref07_Words_13 : MCode := .block 0 c_ref07_Words_14
def c_ref07_Words_12 : MCode := .seq (.region [⟨(some 13), .mv (.const (.int .i64 0)), none⟩] []) c_ref07_Words_13
def c_ref07_Words_34 : MCode := .seq (.region [⟨(some 66), .mv (.tmp 12), none⟩,
   ⟨(some 8), .mv (.tmp 66), none⟩,
   ⟨(some 9), .mv (.const (.int .i64 0)), none⟩] []) .ret
def c_ref07_Words_11 : MCode := .seq c_ref07_Words_12 c_ref07_Words_34
def c_ref07_Words_10 : MCode := .seq (.region [⟨(some 12), .mv (.const (.slice none 0 0)), none⟩] []) c_ref07_Words_11
def c_ref07_Words_6 : MCode := .seq c_ref07_Words_7 c_ref07_Words_10
def c_ref07_Words_5 : MCode := .seq (.region [⟨(some 31), .loadN 32 (.tmp 4), none⟩,
   ⟨(some 32), .mv (.tmp 1), none⟩,
   ⟨(some 33), .mv (.tmp 2), none⟩,
   ⟨(some 34), .ar .mul (.const (.int .i64 8)) (.tmp 33), none⟩,
   ⟨(some 35), .mv (.tmp 3), none⟩,
   ⟨(some 36), .ar .mul (.const (.int .i64 8)) (.tmp 35), none⟩,
   ⟨(some 37), .call 61 [(.tmp 31), (.tmp 32), (.tmp 34), (.tmp 36)], none⟩,
   ⟨(some 30), .mv (.tmp 37), none⟩,
   ⟨(some 38), .ext (.tmp 30) 0, none⟩,
   ⟨(some 39), .ext (.tmp 30) 1, none⟩,
   ⟨(some 10), .mv (.tmp 38), none⟩,
   ⟨(some 11), .mv (.tmp 39), none⟩] []) c_ref07_Words_6
def c_ref07_Words_1 : MCode := .seq c_ref07_Words_2 c_ref07_Words_5
def c_ref07_Words_0 : MCode := .seq (.region [⟨(some 4), .box (.tmp 0), none⟩,
   ⟨(some 8), .mv (.const (.slice none 0 0)), none⟩,
   ⟨(some 9), .mv (.const (.int .i64 0)), none⟩] []) c_ref07_Words_1
/-- trefoil/trefoilref07.Words -/
def M_ref07_Words : MFun := ⟨4, c_ref07_Words_0, [.tmp 8, .tmp 9]⟩
abbrev F_ref07_Words : Nat := 39
set_option maxRecDepth 100000 in
theorem m_ref07_Words : InProg Try.prog 0 39 M_ref07_Words := ⟨Try.f39, [[3, 10, 12, 13], [3, 10, 12, 13, 14, 15]], Try.func39, by kernel_rfl⟩
def c_ref07_Cut_4 : MCode := .seq (.region [⟨(some 2), .mv (.const (.int .u64 0)), none⟩] []) .ret
def c_ref07_Cut_3 : MCode := .cond (.tmp 5) c_ref07_Cut_4 .skip
def c_ref07_Cut_2 : MCode := .seq (.region [⟨(some 4), .mv (.tmp 0), none⟩,
   ⟨(some 5), .ar .eql (.tmp 4) (.const (.int .u64 0)), none⟩] []) c_ref07_Cut_3
def c_ref07_Cut_9 : MCode := .seq (.region [⟨(some 2), .mv (.const (.int .u64 0)), none⟩] []) .ret
def c_ref07_Cut_8 : MCode := .cond (.tmp 11) c_ref07_Cut_9 .skip
def c_ref07_Cut_7 : MCode := .seq (.region [⟨(some 9), .mv (.tmp 3), none⟩,
   ⟨(some 10), .mv (.tmp 0), none⟩,
   ⟨(some 11), .ar .eql (.tmp 9) (.tmp 10), none⟩] []) c_ref07_Cut_8
def c_ref07_Cut_10 : MCode := .seq (.region [⟨(some 12), .mv (.tmp 3), none⟩,
   ⟨(some 13), .ar .sub (.const (.int .u64 0)) (.tmp 12), none⟩,
   ⟨(some 2), .mv (.tmp 13), none⟩] []) .ret
def c_ref07_Cut_6 : MCode := .seq c_ref07_Cut_7 c_ref07_Cut_10
def c_ref07_Cut_5 : MCode := .seq (.region [⟨(some 6), .mv (.tmp 0), none⟩,
   ⟨(some 7), .ar .rem (.const (.int .u64 18446744073709551615)) (.tmp 6), none⟩,
   ⟨(some 8), .ar .add (.tmp 7) (.const (.int .u64 1)), none⟩,
   ⟨(some 3), .mv (.tmp 8), none⟩] []) c_ref07_Cut_6
def c_ref07_Cut_1 : MCode := .seq c_ref07_Cut_2 c_ref07_Cut_5
def c_ref07_Cut_0 : MCode := .seq (.region [⟨(some 2), .mv (.const (.int .u64 0)), none⟩] []) c_ref07_Cut_1
/-- trefoil/trefoilref07.Cut -/
def M_ref07_Cut : MFun := ⟨1, c_ref07_Cut_0, [.tmp 2]⟩
abbrev F_ref07_Cut : Nat := 40
set_option maxRecDepth 100000 in
theorem m_ref07_Cut : InProg Try.prog 0 40 M_ref07_Cut := ⟨Try.f40, [], Try.func40, by kernel_rfl⟩
def c_prg_Words_4 : MCode := .seq (.region [⟨(some 8), .mv (.const (.slice none 0 0)), none⟩,
   ⟨(some 9), .mv (.const (.int .i64 2)), none⟩] []) .ret
def c_prg_Words_3 : MCode := .cond (.tmp 28) c_prg_Words_4 .skip
def c_prg_Words_2 : MCode := .seq (.region [⟨(some 15), .mv (.tmp 2), none⟩,
   ⟨(some 16), .ar .lss (.tmp 15) (.const (.int .i64 0)), none⟩,
   ⟨(some 17), .mv (.tmp 16), none⟩,
   ⟨(some 18), .mv (.tmp 3), (some (17, false))⟩,
   ⟨(some 19), .ar .lss (.tmp 18) (.const (.int .i64 0)), (some (17, false))⟩,
   ⟨(some 20), .pick (.tmp 17) (.const (.bool true)) (.tmp 19), none⟩,
   ⟨(some 21), .mv (.tmp 20), none⟩,
   ⟨(some 22), .mv (.tmp 2), (some (21, false))⟩,
   ⟨(some 23), .ar .gtr (.tmp 22) (.const (.int .i64 134217728)), (some (21, false))⟩,
   ⟨(some 24), .pick (.tmp 21) (.const (.bool true)) (.tmp 23), none⟩,
   ⟨(some 25), .mv (.tmp 24), none⟩,
   ⟨(some 26), .mv (.tmp 3), (some (25, false))⟩,
   ⟨(some 27), .ar .gtr (.tmp 26) (.const (.int .i64 4096)), (some (25, false))⟩,
   ⟨(some 28), .pick (.tmp 25) (.const (.bool true)) (.tmp 27), none⟩] []) c_prg_Words_3
def c_prg_Words_9 : MCode := .seq (.region [⟨(some 41), .mv (.tmp 11), none⟩,
   ⟨(some 8), .mv (.const (.slice none 0 0)), none⟩,
   ⟨(some 9), .mv (.tmp 41), none⟩] []) .ret
def c_prg_Words_8 : MCode := .cond (.tmp 40) c_prg_Words_9 .skip
def c_prg_Words_7 : MCode := .seq (.region [⟨(some 39), .mv (.tmp 11), none⟩,
   ⟨(some 40), .ar .neq (.tmp 39) (.const (.int .i64 0)), none⟩] []) c_prg_Words_8
def c_prg_Words_17 : MCode := .cond (.tmp 47) .skip (.exit 0)
def c_prg_Words_26 : MCode := .cond (.tmp 50) .skip (.exit 2)
def c_prg_Words_30 : MCode := (.region [⟨(some 52), .mv (.tmp 12), none⟩,
   ⟨(some 53), .mv (.tmp 13), none⟩,
   ⟨(some 54), .ixV 1 (.tmp 52) (.tmp 53), none⟩,
   ⟨(some 55), .load1 (.tmp 54), none⟩,
   ⟨(some 56), .mv (.tmp 10), none⟩,
   ⟨(some 57), .mv (.tmp 13), none⟩,
   ⟨(some 58), .ar .mul (.const (.int .i64 8)) (.tmp 57), none⟩,
   ⟨(some 59), .mv (.tmp 14), none⟩,
   ⟨(some 60), .ar .add (.tmp 58) (.tmp 59), none⟩,
   ⟨(some 61), .ixS (.tmp 56) (.tmp 60), none⟩,
   ⟨(some 62), .conv .u64 (.tmp 61), none⟩,
   ⟨(some 63), .mv (.tmp 14), none⟩,
   ⟨(some 64), .ar .mul (.const (.int .i64 8)) (.tmp 63), none⟩,
   ⟨(some 65), .conv .u64 (.tmp 64), none⟩,
   ⟨(some 66), .ar .shl (.tmp 62) (.tmp 65), none⟩,
   ⟨(some 67), .ar .or (.tmp 55) (.tmp 66), none⟩,
   ⟨(some 68), .ixV 1 (.tmp 52) (.tmp 53), none⟩,
   ⟨none, .store 1 (.tmp 68) (.tmp 67), none⟩] [])
def c_prg_Words_29 : MCode := .seq (.region [⟨(some 51), .mv (.tmp 49), none⟩,
   ⟨(some 14), .mv (.tmp 51), none⟩] []) c_prg_Words_30
def c_prg_Words_28 : MCode := .block 3 c_prg_Words_29
def c_prg_Words_31 : MCode := (.region [⟨(some 69), .ar .add (.tmp 49) (.const (.int .i64 1)), none⟩,
   ⟨(some 49), .mv (.tmp 69), none⟩] [])
def c_prg_Words_27 : MCode := .seq c_prg_Words_28 c_prg_Words_31
def c_prg_Words_25 : MCode := .seq c_prg_Words_26 c_prg_Words_27
def c_prg_Words_24 : MCode := .seq (.region [⟨(some 50), .ar .lss (.tmp 49) (.const (.int .i64 8)), none⟩] []) c_prg_Words_25
def c_prg_Words_23 : MCode := .loop [10, 12, 13, 45, 46, 49] c_prg_Words_24
def c_prg_Words_22 : MCode := .block 2 c_prg_Words_23
def c_prg_Words_21 : MCode := .seq (.region [⟨(some 49), .mv (.const (.int .i64 0)), none⟩] []) c_prg_Words_22
def c_prg_Words_20 : MCode := .seq (.region [⟨(some 48), .mv (.tmp 46), none⟩,
   ⟨(some 13), .mv (.tmp 48), none⟩] []) c_prg_Words_21
def c_prg_Words_19 : MCode := .block 1 c_prg_Words_20
def c_prg_Words_32 : MCode := (.region [⟨(some 70), .ar .add (.tmp 46) (.const (.int .i64 1)), none⟩,
   ⟨(some 46), .mv (.tmp 70), none⟩] [])
def c_prg_Words_18 : MCode := .seq c_prg_Words_19 c_prg_Words_32
def c_prg_Words_16 : MCode := .seq c_prg_Words_17 c_prg_Words_18
def c_prg_Words_15 : MCode := .seq (.region [⟨(some 47), .ar .lss (.tmp 46) (.tmp 45), none⟩] []) c_prg_Words_16
def c_prg_Words_14 : MCode := .loop [10, 12, 45, 46] c_prg_Words_15
def c_prg_Words_13 : MCode := .block 0 c_prg_Words_14
def c_prg_Words_12 : MCode := .seq (.region [⟨(some 44), .mv (.tmp 12), none⟩,
   ⟨(some 45), .lenV (.tmp 44), none⟩,
   ⟨(some 46), .mv (.const (.int .i64 0)), none⟩] []) c_prg_Words_13
def c_prg_Words_33 : MCode := .seq (.region [⟨(some 71), .mv (.tmp 12), none⟩,
   ⟨(some 8), .mv (.tmp 71), none⟩,
   ⟨(some 9), .mv (.const (.int .i64 0)), none⟩] []) .ret
def c_prg_Words_11 : MCode := .seq c_prg_Words_12 c_prg_Words_33
def c_prg_Words_10 : MCode := .seq (.region [⟨(some 42), .mv (.tmp 3), none⟩,
   ⟨(some 43), .mkSl 8 [(.int .u64 0)] (.tmp 42) (.tmp 42), none⟩,
   ⟨(some 12), .mv (.tmp 43), none⟩] []) c_prg_Words_11
def c_prg_Words_6 : MCode := .seq c_prg_Words_7 c_prg_Words_10
def c_prg_Words_5 : MCode := .seq (.region [⟨(some 30), .loadN 32 (.tmp 4), none⟩,
   ⟨(some 31), .mv (.tmp 1), none⟩,
   ⟨(some 32), .mv (.tmp 2), none⟩,
   ⟨(some 33), .ar .mul (.const (.int .i64 8)) (.tmp 32), none⟩,
   ⟨(some 34), .mv (.tmp 3), none⟩,
   ⟨(some 35), .ar .mul (.const (.int .i64 8)) (.tmp 34), none⟩,
   ⟨(some 36), .call 83 [(.tmp 30), (.tmp 31), (.tmp 33), (.tmp 35)], none⟩,
   ⟨(some 29), .mv (.tmp 36), none⟩,
   ⟨(some 37), .ext (.tmp 29) 0, none⟩,
   ⟨(some 38), .ext (.tmp 29) 1, none⟩,
   ⟨(some 10), .mv (.tmp 37), none⟩,
   ⟨(some 11), .mv (.tmp 38), none⟩] []) c_prg_Words_6
def c_prg_Words_1 : MCode := .seq c_prg_Words_2 c_prg_Words_5
def c_prg_Words_0 : MCode := .seq (.region [⟨(some 4), .box (.tmp 0), none⟩,
   ⟨(some 8), .mv (.const (.slice none 0 0)), none⟩,
   ⟨(some 9), .mv (.const (.int .i64 0)), none⟩] []) c_prg_Words_1
/-- trefoil/prg.Words -/
def M_prg_Words : MFun := ⟨4, c_prg_Words_0, [.tmp 8, .tmp 9]⟩
abbrev F_prg_Words : Nat := 60
set_option maxRecDepth 100000 in
theorem m_prg_Words : InProg Try.prog 0 60 M_prg_Words := ⟨Try.f60, [[10, 12, 45, 46], [10, 12, 13, 45, 46, 49]], Try.func60, by kernel_rfl⟩
def c_ref07_Bytes_4 : MCode := .seq (.region [⟨(some 8), .mv (.const (.string ⟨#[]⟩)), none⟩,
   ⟨(some 9), .mv (.const (.int .i64 2)), none⟩] []) .ret
def c_ref07_Bytes_3 : MCode := .cond (.tmp 29) c_ref07_Bytes_4 .skip
def c_ref07_Bytes_2 : MCode := .seq (.region [⟨(some 14), .mv (.tmp 2), none⟩,
   ⟨(some 15), .ar .lss (.tmp 14) (.const (.int .i64 0)), none⟩,
   ⟨(some 16), .mv (.tmp 15), none⟩,
   ⟨(some 17), .mv (.tmp 3), (some (16, false))⟩,
   ⟨(some 18), .ar .lss (.tmp 17) (.const (.int .i64 0)), (some (16, false))⟩,
   ⟨(some 19), .pick (.tmp 16) (.const (.bool true)) (.tmp 18), none⟩,
   ⟨(some 20), .mv (.tmp 19), none⟩,
   ⟨(some 21), .mv (.tmp 3), (some (20, false))⟩,
   ⟨(some 22), .ar .gtr (.tmp 21) (.const (.int .i64 32768)), (some (20, false))⟩,
   ⟨(some 23), .pick (.tmp 20) (.const (.bool true)) (.tmp 22), none⟩,
   ⟨(some 24), .mv (.tmp 23), none⟩,
   ⟨(some 25), .mv (.tmp 2), (some (24, false))⟩,
   ⟨(some 26), .mv (.tmp 3), (some (24, false))⟩,
   ⟨(some 27), .ar .sub (.const (.int .i64 1073741824)) (.tmp 26), (some (24, false))⟩,
   ⟨(some 28), .ar .gtr (.tmp 25) (.tmp 27), (some (24, false))⟩,
   ⟨(some 29), .pick (.tmp 24) (.const (.bool true)) (.tmp 28), none⟩] []) c_ref07_Bytes_3
def c_ref07_Bytes_12 : MCode := .cond (.tmp 38) .skip (.exit 0)
def c_ref07_Bytes_11 : MCode := .seq (.region [⟨(some 32), .mv (.tmp 10), none⟩,
   ⟨(some 33), .lenS (.tmp 32), none⟩,
   ⟨(some 34), .mv (.tmp 2), none⟩,
   ⟨(some 35), .ar .rem (.tmp 34) (.const (.int .i64 64)), none⟩,
   ⟨(some 36), .mv (.tmp 3), none⟩,
   ⟨(some 37), .ar .add (.tmp 35) (.tmp 36), none⟩,
   ⟨(some 38), .ar .lss (.tmp 33) (.tmp 37), none⟩] []) c_ref07_Bytes_12
def c_ref07_Bytes_16 : MCode := (.region [⟨(some 50), .mv (.tmp 10), none⟩,
   ⟨(some 51), .mv (.tmp 12), none⟩,
   ⟨(some 52), .ar .add (.tmp 50) (.tmp 51), none⟩,
   ⟨(some 10), .mv (.tmp 52), none⟩] [])
def c_ref07_Bytes_15 : MCode := .seq (.region [⟨(some 42), .loadN 32 (.tmp 4), none⟩,
   ⟨(some 43), .mv (.tmp 1), none⟩,
   ⟨(some 44), .call 85 [(.tmp 43), (.const (.int .u64 0))], none⟩,
   ⟨(some 45), .mv (.tmp 11), none⟩,
   ⟨(some 46), .conv .u32 (.tmp 45), none⟩,
   ⟨(some 47), .call 84 [(.tmp 42), (.tmp 44), (.tmp 46)], none⟩,
   ⟨(some 41), .mv (.tmp 47), none⟩,
   ⟨(some 48), .ext (.tmp 41) 0, none⟩,
   ⟨(some 49), .ext (.tmp 41) 1, none⟩,
   ⟨(some 12), .mv (.tmp 48), none⟩,
   ⟨(some 13), .mv (.tmp 49), none⟩] [(0, 2)]) c_ref07_Bytes_16
def c_ref07_Bytes_14 : MCode := .block 1 c_ref07_Bytes_15
def c_ref07_Bytes_17 : MCode := (.region [⟨(some 39), .mv (.tmp 11), none⟩,
   ⟨(some 40), .ar .add (.tmp 39) (.const (.int .i64 1)), none⟩,
   ⟨(some 11), .mv (.tmp 40), none⟩] [])
def c_ref07_Bytes_13 : MCode := .seq c_ref07_Bytes_14 c_ref07_Bytes_17
def c_ref07_Bytes_10 : MCode := .seq c_ref07_Bytes_11 c_ref07_Bytes_13
def c_ref07_Bytes_9 : MCode := .loop [1, 2, 3, 4, 10, 11] c_ref07_Bytes_10
def c_ref07_Bytes_8 : MCode := .block 0 c_ref07_Bytes_9
def c_ref07_Bytes_7 : MCode := .seq (.region [⟨(some 30), .mv (.tmp 2), none⟩,
   ⟨(some 31), .ar .quo (.tmp 30) (.const (.int .i64 64)), none⟩,
   ⟨(some 11), .mv (.tmp 31), none⟩] []) c_ref07_Bytes_8
def c_ref07_Bytes_18 : MCode := .seq (.region [⟨(some 53), .mv (.tmp 10), none⟩,
   ⟨(some 54), .mv (.tmp 2), none⟩,
   ⟨(some 55), .ar .rem (.tmp 54) (.const (.int .i64 64)), none⟩,
   ⟨(some 56), .slS (.tmp 53) (some (.tmp 55)) none, none⟩,
   ⟨(some 57), .mv (.tmp 3), none⟩,
   ⟨(some 58), .slS (.tmp 56) none (some (.tmp 57)), none⟩,
   ⟨(some 8), .mv (.tmp 58), none⟩,
   ⟨(some 9), .mv (.const (.int .i64 0)), none⟩] []) .ret
def c_ref07_Bytes_6 : MCode := .seq c_ref07_Bytes_7 c_ref07_Bytes_18
def c_ref07_Bytes_5 : MCode := .seq (.region [⟨(some 10), .mv (.const (.string ⟨#[]⟩)), none⟩] []) c_ref07_Bytes_6
def c_ref07_Bytes_1 : MCode := .seq c_ref07_Bytes_2 c_ref07_Bytes_5
def c_ref07_Bytes_0 : MCode := .seq (.region [⟨(some 4), .box (.tmp 0), none⟩,
   ⟨(some 8), .mv (.const (.string ⟨#[]⟩)), none⟩,
   ⟨(some 9), .mv (.const (.int .i64 0)), none⟩] []) c_ref07_Bytes_1
/-- trefoil/trefoilref07.Bytes -/
def M_ref07_Bytes : MFun := ⟨4, c_ref07_Bytes_0, [.tmp 8, .tmp 9]⟩
abbrev F_ref07_Bytes : Nat := 61
set_option maxRecDepth 100000 in
theorem m_ref07_Bytes : InProg Try.prog 0 61 M_ref07_Bytes := ⟨Try.f61, [[1, 2, 3, 4, 10, 11]], Try.func61, by kernel_rfl⟩
def c_prg_Bytes_4 : MCode := .seq (.region [⟨(some 8), .mv (.const (.string ⟨#[]⟩)), none⟩,
   ⟨(some 9), .mv (.const (.int .i64 2)), none⟩] []) .ret
def c_prg_Bytes_3 : MCode := .cond (.tmp 28) c_prg_Bytes_4 .skip
def c_prg_Bytes_2 : MCode := .seq (.region [⟨(some 13), .mv (.tmp 2), none⟩,
   ⟨(some 14), .ar .lss (.tmp 13) (.const (.int .i64 0)), none⟩,
   ⟨(some 15), .mv (.tmp 14), none⟩,
   ⟨(some 16), .mv (.tmp 3), (some (15, false))⟩,
   ⟨(some 17), .ar .lss (.tmp 16) (.const (.int .i64 0)), (some (15, false))⟩,
   ⟨(some 18), .pick (.tmp 15) (.const (.bool true)) (.tmp 17), none⟩,
   ⟨(some 19), .mv (.tmp 18), none⟩,
   ⟨(some 20), .mv (.tmp 3), (some (19, false))⟩,
   ⟨(some 21), .ar .gtr (.tmp 20) (.const (.int .i64 32768)), (some (19, false))⟩,
   ⟨(some 22), .pick (.tmp 19) (.const (.bool true)) (.tmp 21), none⟩,
   ⟨(some 23), .mv (.tmp 22), none⟩,
   ⟨(some 24), .mv (.tmp 2), (some (23, false))⟩,
   ⟨(some 25), .mv (.tmp 3), (some (23, false))⟩,
   ⟨(some 26), .ar .sub (.const (.int .i64 1073741824)) (.tmp 25), (some (23, false))⟩,
   ⟨(some 27), .ar .gtr (.tmp 24) (.tmp 26), (some (23, false))⟩,
   ⟨(some 28), .pick (.tmp 23) (.const (.bool true)) (.tmp 27), none⟩] []) c_prg_Bytes_3
def c_prg_Bytes_10 : MCode := .seq (.region [⟨(some 46), .mv (.tmp 12), none⟩,
   ⟨(some 8), .mv (.const (.string ⟨#[]⟩)), none⟩,
   ⟨(some 9), .mv (.tmp 46), none⟩] []) .ret
def c_prg_Bytes_9 : MCode := .cond (.tmp 45) c_prg_Bytes_10 .skip
def c_prg_Bytes_8 : MCode := .seq (.region [⟨(some 44), .mv (.tmp 12), none⟩,
   ⟨(some 45), .ar .neq (.tmp 44) (.const (.int .i64 0)), none⟩] []) c_prg_Bytes_9
def c_prg_Bytes_11 : MCode := .seq (.region [⟨(some 47), .mv (.tmp 11), none⟩,
   ⟨(some 48), .mv (.tmp 10), none⟩,
   ⟨(some 49), .slS (.tmp 47) (some (.tmp 48)) none, none⟩,
   ⟨(some 8), .mv (.tmp 49), none⟩,
   ⟨(some 9), .mv (.const (.int .i64 0)), none⟩] []) .ret
def c_prg_Bytes_7 : MCode := .seq c_prg_Bytes_8 c_prg_Bytes_11
def c_prg_Bytes_6 : MCode := .seq (.region [⟨(some 32), .loadN 32 (.tmp 4), none⟩,
   ⟨(some 33), .mv (.tmp 1), none⟩,
   ⟨(some 34), .call 99 [(.tmp 33), (.const (.int .u64 0))], none⟩,
   ⟨(some 35), .mv (.tmp 2), none⟩,
   ⟨(some 36), .ar .quo (.tmp 35) (.const (.int .i64 64)), none⟩,
   ⟨(some 37), .conv .u32 (.tmp 36), none⟩,
   ⟨(some 38), .mv (.tmp 10), none⟩,
   ⟨(some 39), .mv (.tmp 3), none⟩,
   ⟨(some 40), .ar .add (.tmp 38) (.tmp 39), none⟩,
   ⟨(some 41), .call 98 [(.tmp 32), (.tmp 34), (.tmp 37), (.tmp 40)], none⟩,
   ⟨(some 31), .mv (.tmp 41), none⟩,
   ⟨(some 42), .ext (.tmp 31) 0, none⟩,
   ⟨(some 43), .ext (.tmp 31) 1, none⟩,
   ⟨(some 11), .mv (.tmp 42), none⟩,
   ⟨(some 12), .mv (.tmp 43), none⟩] [(0, 2)]) c_prg_Bytes_7
def c_prg_Bytes_5 : MCode := .seq (.region [⟨(some 29), .mv (.tmp 2), none⟩,
   ⟨(some 30), .ar .rem (.tmp 29) (.const (.int .i64 64)), none⟩,
   ⟨(some 10), .mv (.tmp 30), none⟩] []) c_prg_Bytes_6
def c_prg_Bytes_1 : MCode := .seq c_prg_Bytes_2 c_prg_Bytes_5
def c_prg_Bytes_0 : MCode := .seq (.region [⟨(some 4), .box (.tmp 0), none⟩,
   ⟨(some 8), .mv (.const (.string ⟨#[]⟩)), none⟩,
   ⟨(some 9), .mv (.const (.int .i64 0)), none⟩] []) c_prg_Bytes_1
/-- trefoil/prg.Bytes -/
def M_prg_Bytes : MFun := ⟨4, c_prg_Bytes_0, [.tmp 8, .tmp 9]⟩
abbrev F_prg_Bytes : Nat := 83
set_option maxRecDepth 100000 in
theorem m_prg_Bytes : InProg Try.prog 0 83 M_prg_Bytes := ⟨Try.f83, [], Try.func83, by kernel_rfl⟩
def c_ref05_Block_4 : MCode := .seq (.region [⟨(some 6), .mv (.const (.string ⟨#[]⟩)), none⟩,
   ⟨(some 7), .mv (.const (.int .i64 11)), none⟩] []) .ret
def c_ref05_Block_3 : MCode := .cond (.tmp 23) c_ref05_Block_4 .skip
def c_ref05_Block_2 : MCode := .seq (.region [⟨(some 21), .mv (.tmp 1), none⟩,
   ⟨(some 22), .lenS (.tmp 21), none⟩,
   ⟨(some 23), .ar .neq (.tmp 22) (.const (.int .i64 12)), none⟩] []) c_ref05_Block_3
def c_ref05_Block_13 : MCode := .cond (.tmp 28) .skip (.exit 0)
def c_ref05_Block_12 : MCode := .seq (.region [⟨(some 27), .mv (.tmp 10), none⟩,
   ⟨(some 28), .ar .lss (.tmp 27) (.const (.int .i64 8)), none⟩] []) c_ref05_Block_13
def c_ref05_Block_16 : MCode := (.region [⟨(some 31), .mv (.tmp 8), none⟩,
   ⟨(some 32), .mv (.tmp 9), none⟩,
   ⟨(some 33), .mv (.tmp 10), none⟩,
   ⟨(some 34), .ar .mul (.const (.int .i64 4)) (.tmp 33), none⟩,
   ⟨(some 35), .slS (.tmp 32) (some (.tmp 34)) none, none⟩,
   ⟨(some 36), .call 100 [(.tmp 35)], none⟩,
   ⟨(some 37), .buildSlice [(.int .u32 0)] 1 [(0, 1, (.tmp 36))], none⟩,
   ⟨(some 38), .app 1 4 (.tmp 31) (.tmp 37), none⟩,
   ⟨(some 8), .mv (.tmp 38), none⟩] [])
def c_ref05_Block_15 : MCode := .block 1 c_ref05_Block_16
def c_ref05_Block_17 : MCode := (.region [⟨(some 29), .mv (.tmp 10), none⟩,
   ⟨(some 30), .ar .add (.tmp 29) (.const (.int .i64 1)), none⟩,
   ⟨(some 10), .mv (.tmp 30), none⟩] [])
def c_ref05_Block_14 : MCode := .seq c_ref05_Block_15 c_ref05_Block_17
def c_ref05_Block_11 : MCode := .seq c_ref05_Block_12 c_ref05_Block_14
def c_ref05_Block_10 : MCode := .loop [1, 2, 8, 9, 10] c_ref05_Block_11
def c_ref05_Block_9 : MCode := .block 0 c_ref05_Block_10
def c_ref05_Block_8 : MCode := .seq (.region [⟨(some 10), .mv (.const (.int .i64 0)), none⟩] []) c_ref05_Block_9
def c_ref05_Block_26 : MCode := .cond (.tmp 55) .skip (.exit 2)
def c_ref05_Block_25 : MCode := .seq (.region [⟨(some 54), .mv (.tmp 12), none⟩,
   ⟨(some 55), .ar .lss (.tmp 54) (.const (.int .i64 20)), none⟩] []) c_ref05_Block_26
def c_ref05_Block_34 : MCode := .cond (.tmp 59) .skip (.exit 4)
def c_ref05_Block_33 : MCode := .seq (.region [⟨(some 58), .mv (.tmp 13), none⟩,
   ⟨(some 59), .ar .lss (.tmp 58) (.const (.int .i64 4)), none⟩] []) c_ref05_Block_34
def c_ref05_Block_45 : MCode := .cond (.tmp 109) .skip (.exit 6)
def c_ref05_Block_44 : MCode := .seq (.region [⟨(some 108), .mv (.tmp 17), none⟩,
   ⟨(some 109), .ar .lss (.tmp 108) (.const (.int .i64 4)), none⟩] []) c_ref05_Block_45
def c_ref05_Block_48 : MCode := (.region [⟨(some 112), .mv (.tmp 11), none⟩,
   ⟨(some 113), .mv (.tmp 15), none⟩,
   ⟨(some 114), .mv (.tmp 17), none⟩,
   ⟨(some 115), .ixV 1 (.tmp 113) (.tmp 114), none⟩,
   ⟨(some 116), .load1 (.tmp 115), none⟩,
   ⟨(some 117), .mv (.tmp 16), none⟩,
   ⟨(some 118), .mv (.tmp 17), none⟩,
   ⟨(some 119), .ixV 1 (.tmp 117) (.tmp 118), none⟩,
   ⟨(some 120), .load1 (.tmp 119), none⟩,
   ⟨(some 121), .ixV 1 (.tmp 112) (.tmp 116), none⟩,
   ⟨none, .store 1 (.tmp 121) (.tmp 120), none⟩] [])
def c_ref05_Block_47 : MCode := .block 7 c_ref05_Block_48
def c_ref05_Block_49 : MCode := (.region [⟨(some 110), .mv (.tmp 17), none⟩,
   ⟨(some 111), .ar .add (.tmp 110) (.const (.int .i64 1)), none⟩,
   ⟨(some 17), .mv (.tmp 111), none⟩] [])
def c_ref05_Block_46 : MCode := .seq c_ref05_Block_47 c_ref05_Block_49
def c_ref05_Block_43 : MCode := .seq c_ref05_Block_44 c_ref05_Block_46
def c_ref05_Block_42 : MCode := .loop [8, 11, 12, 13, 15, 16, 17] c_ref05_Block_43
def c_ref05_Block_41 : MCode := .block 6 c_ref05_Block_42
def c_ref05_Block_40 : MCode := .seq (.region [⟨(some 17), .mv (.const (.int .i64 0)), none⟩] []) c_ref05_Block_41
def c_ref05_Block_39 : MCode := .seq (.region [⟨(some 83), .mv (.tmp 11), none⟩,
   ⟨(some 84), .mv (.tmp 15), none⟩,
   ⟨(some 85), .ixV 1 (.tmp 84) (.const (.int .i64 0)), none⟩,
   ⟨(some 86), .load1 (.tmp 85), none⟩,
   ⟨(some 87), .ixV 1 (.tmp 83) (.tmp 86), none⟩,
   ⟨(some 88), .load1 (.tmp 87), none⟩,
   ⟨(some 89), .mv (.tmp 11), none⟩,
   ⟨(some 90), .mv (.tmp 15), none⟩,
   ⟨(some 91), .ixV 1 (.tmp 90) (.const (.int .i64 1)), none⟩,
   ⟨(some 92), .load1 (.tmp 91), none⟩,
   ⟨(some 93), .ixV 1 (.tmp 89) (.tmp 92), none⟩,
   ⟨(some 94), .load1 (.tmp 93), none⟩,
   ⟨(some 95), .mv (.tmp 11), none⟩,
   ⟨(some 96), .mv (.tmp 15), none⟩,
   ⟨(some 97), .ixV 1 (.tmp 96) (.const (.int .i64 2)), none⟩,
   ⟨(some 98), .load1 (.tmp 97), none⟩,
   ⟨(some 99), .ixV 1 (.tmp 95) (.tmp 98), none⟩,
   ⟨(some 100), .load1 (.tmp 99), none⟩,
   ⟨(some 101), .mv (.tmp 11), none⟩,
   ⟨(some 102), .mv (.tmp 15), none⟩,
   ⟨(some 103), .ixV 1 (.tmp 102) (.const (.int .i64 3)), none⟩,
   ⟨(some 104), .load1 (.tmp 103), none⟩,
   ⟨(some 105), .ixV 1 (.tmp 101) (.tmp 104), none⟩,
   ⟨(some 106), .load1 (.tmp 105), none⟩,
   ⟨(some 107), .call 101 [(.tmp 88), (.tmp 94), (.tmp 100), (.tmp 106)], none⟩,
   ⟨(some 16), .mv (.tmp 107), none⟩] []) c_ref05_Block_40
def c_ref05_Block_38 : MCode := .seq (.region [⟨(some 64), .mv (.tmp 13), none⟩,
   ⟨(some 65), .mv (.tmp 13), none⟩,
   ⟨(some 66), .mv (.tmp 14), none⟩,
   ⟨(some 67), .ar .add (.tmp 65) (.tmp 66), none⟩,
   ⟨(some 68), .ar .rem (.tmp 67) (.const (.int .i64 4)), none⟩,
   ⟨(some 69), .ar .add (.const (.int .i64 4)) (.tmp 68), none⟩,
   ⟨(some 70), .mv (.tmp 13), none⟩,
   ⟨(some 71), .mv (.tmp 14), none⟩,
   ⟨(some 72), .ar .mul (.const (.int .i64 2)) (.tmp 71), none⟩,
   ⟨(some 73), .ar .add (.tmp 70) (.tmp 72), none⟩,
   ⟨(some 74), .ar .rem (.tmp 73) (.const (.int .i64 4)), none⟩,
   ⟨(some 75), .ar .add (.const (.int .i64 8)) (.tmp 74), none⟩,
   ⟨(some 76), .mv (.tmp 13), none⟩,
   ⟨(some 77), .mv (.tmp 14), none⟩,
   ⟨(some 78), .ar .mul (.const (.int .i64 3)) (.tmp 77), none⟩,
   ⟨(some 79), .ar .add (.tmp 76) (.tmp 78), none⟩,
   ⟨(some 80), .ar .rem (.tmp 79) (.const (.int .i64 4)), none⟩,
   ⟨(some 81), .ar .add (.const (.int .i64 12)) (.tmp 80), none⟩,
   ⟨(some 82), .buildSlice [(.int .i64 0), (.int .i64 0), (.int .i64 0), (.int .i64 0)] 4 [(0, 1, (.tmp 64)), (1, 1, (.tmp 69)), (2, 1, (.tmp 75)), (3, 1, (.tmp 81))], none⟩,
   ⟨(some 15), .mv (.tmp 82), none⟩] []) c_ref05_Block_39
def c_ref05_Block_37 : MCode := .seq (.region [⟨(some 62), .mv (.tmp 12), none⟩,
   ⟨(some 63), .ar .rem (.tmp 62) (.const (.int .i64 2)), none⟩,
   ⟨(some 14), .mv (.tmp 63), none⟩] []) c_ref05_Block_38
def c_ref05_Block_36 : MCode := .block 5 c_ref05_Block_37
def c_ref05_Block_50 : MCode := (.region [⟨(some 60), .mv (.tmp 13), none⟩,
   ⟨(some 61), .ar .add (.tmp 60) (.const (.int .i64 1)), none⟩,
   ⟨(some 13), .mv (.tmp 61), none⟩] [])
def c_ref05_Block_35 : MCode := .seq c_ref05_Block_36 c_ref05_Block_50
def c_ref05_Block_32 : MCode := .seq c_ref05_Block_33 c_ref05_Block_35
def c_ref05_Block_31 : MCode := .loop [8, 11, 12, 13] c_ref05_Block_32
def c_ref05_Block_30 : MCode := .block 4 c_ref05_Block_31
def c_ref05_Block_29 : MCode := .seq (.region [⟨(some 13), .mv (.const (.int .i64 0)), none⟩] []) c_ref05_Block_30
def c_ref05_Block_28 : MCode := .block 3 c_ref05_Block_29
def c_ref05_Block_51 : MCode := (.region [⟨(some 56), .mv (.tmp 12), none⟩,
   ⟨(some 57), .ar .add (.tmp 56) (.const (.int .i64 1)), none⟩,
   ⟨(some 12), .mv (.tmp 57), none⟩] [])
def c_ref05_Block_27 : MCode := .seq c_ref05_Block_28 c_ref05_Block_51
def c_ref05_Block_24 : MCode := .seq c_ref05_Block_25 c_ref05_Block_27
def c_ref05_Block_23 : MCode := .loop [8, 11, 12] c_ref05_Block_24
def c_ref05_Block_22 : MCode := .block 2 c_ref05_Block_23
def c_ref05_Block_21 : MCode := .seq (.region [⟨(some 12), .mv (.const (.int .i64 0)), none⟩] []) c_ref05_Block_22
def c_ref05_Block_59 : MCode := .cond (.tmp 123) .skip (.exit 8)
def c_ref05_Block_58 : MCode := .seq (.region [⟨(some 122), .mv (.tmp 19), none⟩,
   ⟨(some 123), .ar .lss (.tmp 122) (.const (.int .i64 16)), none⟩] []) c_ref05_Block_59
def c_ref05_Block_63 : MCode := (.region [⟨(some 135), .mv (.tmp 18), none⟩,
   ⟨(some 136), .mv (.tmp 20), none⟩,
   ⟨(some 137), .conv .u8 (.tmp 136), none⟩,
   ⟨(some 138), .mv (.tmp 20), none⟩,
   ⟨(some 139), .ar .quo (.tmp 138) (.const (.int .u32 256)), none⟩,
   ⟨(some 140), .conv .u8 (.tmp 139), none⟩,
   ⟨(some 141), .mv (.tmp 20), none⟩,
   ⟨(some 142), .ar .quo (.tmp 141) (.const (.int .u32 65536)), none⟩,
   ⟨(some 143), .conv .u8 (.tmp 142), none⟩,
   ⟨(some 144), .mv (.tmp 20), none⟩,
   ⟨(some 145), .ar .quo (.tmp 144) (.const (.int .u32 16777216)), none⟩,
   ⟨(some 146), .conv .u8 (.tmp 145), none⟩,
   ⟨(some 147), .buildSlice [(.int .u8 0), (.int .u8 0), (.int .u8 0), (.int .u8 0)] 4 [(0, 1, (.tmp 137)), (1, 1, (.tmp 140)), (2, 1, (.tmp 143)), (3, 1, (.tmp 146))], none⟩,
   ⟨(some 148), .app 1 1 (.tmp 135) (.tmp 147), none⟩,
   ⟨(some 18), .mv (.tmp 148), none⟩] [])
def c_ref05_Block_62 : MCode := .seq (.region [⟨(some 126), .mv (.tmp 11), none⟩,
   ⟨(some 127), .mv (.tmp 19), none⟩,
   ⟨(some 128), .ixV 1 (.tmp 126) (.tmp 127), none⟩,
   ⟨(some 129), .load1 (.tmp 128), none⟩,
   ⟨(some 130), .mv (.tmp 8), none⟩,
   ⟨(some 131), .mv (.tmp 19), none⟩,
   ⟨(some 132), .ixV 1 (.tmp 130) (.tmp 131), none⟩,
   ⟨(some 133), .load1 (.tmp 132), none⟩,
   ⟨(some 134), .ar .add (.tmp 129) (.tmp 133), none⟩,
   ⟨(some 20), .mv (.tmp 134), none⟩] []) c_ref05_Block_63
def c_ref05_Block_61 : MCode := .block 9 c_ref05_Block_62
def c_ref05_Block_64 : MCode := (.region [⟨(some 124), .mv (.tmp 19), none⟩,
   ⟨(some 125), .ar .add (.tmp 124) (.const (.int .i64 1)), none⟩,
   ⟨(some 19), .mv (.tmp 125), none⟩] [])
def c_ref05_Block_60 : MCode := .seq c_ref05_Block_61 c_ref05_Block_64
def c_ref05_Block_57 : MCode := .seq c_ref05_Block_58 c_ref05_Block_60
def c_ref05_Block_56 : MCode := .loop [8, 11, 18, 19] c_ref05_Block_57
def c_ref05_Block_55 : MCode := .block 8 c_ref05_Block_56
def c_ref05_Block_54 : MCode := .seq (.region [⟨(some 19), .mv (.const (.int .i64 0)), none⟩] []) c_ref05_Block_55
def c_ref05_Block_65 : MCode := .seq (.region [⟨(some 149), .mv (.tmp 18), none⟩,
   ⟨(some 150), .convBS (.tmp 149), none⟩,
   ⟨(some 6), .mv (.tmp 150), none⟩,
   ⟨(some 7), .mv (.const (.int .i64 0)), none⟩] []) .ret
def c_ref05_Block_53 : MCode := .seq c_ref05_Block_54 c_ref05_Block_65
def c_ref05_Block_52 : MCode := .seq (.region [⟨(some 18), .mv (.const (.slice none 0 0)), none⟩] []) c_ref05_Block_53
def c_ref05_Block_20 : MCode := .seq c_ref05_Block_21 c_ref05_Block_52
def c_ref05_Block_19 : MCode := .seq (.region [⟨(some 51), .buildSlice [] 0 [], none⟩,
   ⟨(some 52), .mv (.tmp 8), none⟩,
   ⟨(some 53), .app 1 4 (.tmp 51) (.tmp 52), none⟩,
   ⟨(some 11), .mv (.tmp 53), none⟩] []) c_ref05_Block_20
def c_ref05_Block_18 : MCode := .seq (.region [⟨(some 39), .mv (.tmp 8), none⟩,
   ⟨(some 40), .mv (.tmp 2), none⟩,
   ⟨(some 41), .mv (.tmp 1), none⟩,
   ⟨(some 42), .call 100 [(.tmp 41)], none⟩,
   ⟨(some 43), .mv (.tmp 1), none⟩,
   ⟨(some 44), .slS (.tmp 43) (some (.const (.int .i64 4))) none, none⟩,
   ⟨(some 45), .call 100 [(.tmp 44)], none⟩,
   ⟨(some 46), .mv (.tmp 1), none⟩,
   ⟨(some 47), .slS (.tmp 46) (some (.const (.int .i64 8))) none, none⟩,
   ⟨(some 48), .call 100 [(.tmp 47)], none⟩,
   ⟨(some 49), .buildSlice [(.int .u32 0), (.int .u32 0), (.int .u32 0), (.int .u32 0)] 4 [(0, 1, (.tmp 40)), (1, 1, (.tmp 42)), (2, 1, (.tmp 45)), (3, 1, (.tmp 48))], none⟩,
   ⟨(some 50), .app 1 4 (.tmp 39) (.tmp 49), none⟩,
   ⟨(some 8), .mv (.tmp 50), none⟩] []) c_ref05_Block_19
def c_ref05_Block_7 : MCode := .seq c_ref05_Block_8 c_ref05_Block_18
def c_ref05_Block_6 : MCode := .seq (.region [⟨(some 25), .slA 1 32 (.tmp 3) none none, none⟩,
   ⟨(some 26), .convBS (.tmp 25), none⟩,
   ⟨(some 9), .mv (.tmp 26), none⟩] []) c_ref05_Block_7
def c_ref05_Block_5 : MCode := .seq (.region [⟨(some 24), .buildSlice [(.int .u32 0), (.int .u32 0), (.int .u32 0), (.int .u32 0)] 4 [(0, 1, (.const (.int .u32 1634760805))), (1, 1, (.const (.int .u32 857760878))), (2, 1, (.const (.int .u32 2036477234))), (3, 1, (.const (.int .u32 1797285236)))], none⟩,
   ⟨(some 8), .mv (.tmp 24), none⟩] []) c_ref05_Block_6
def c_ref05_Block_1 : MCode := .seq c_ref05_Block_2 c_ref05_Block_5
def c_ref05_Block_0 : MCode := .seq (.region [⟨(some 3), .box (.tmp 0), none⟩,
   ⟨(some 6), .mv (.const (.string ⟨#[]⟩)), none⟩,
   ⟨(some 7), .mv (.const (.int .i64 0)), none⟩] []) c_ref05_Block_1
/-- trefoil/trefoilref05.Block -/
def M_ref05_Block : MFun := ⟨3, c_ref05_Block_0, [.tmp 6, .tmp 7]⟩
abbrev F_ref05_Block : Nat := 84
set_option maxRecDepth 100000 in
theorem m_ref05_Block : InProg Try.prog 0 84 M_ref05_Block := ⟨Try.f84, [[1, 2, 8, 9, 10], [8, 11, 12], [8, 11, 12, 13], [8, 11, 12, 13, 15, 16, 17], [8, 11, 18, 19]], Try.func84, by kernel_rfl⟩
def c_ref07_Nonce_8 : MCode := .cond (.tmp 9) .skip (.exit 0)
def c_ref07_Nonce_7 : MCode := .seq (.region [⟨(some 8), .mv (.tmp 6), none⟩,
   ⟨(some 9), .ar .lss (.tmp 8) (.const (.int .i64 4)), none⟩] []) c_ref07_Nonce_8
def c_ref07_Nonce_12 : MCode := (.region [⟨(some 17), .mv (.tmp 0), none⟩,
   ⟨(some 18), .ar .quo (.tmp 17) (.const (.int .u32 256)), none⟩,
   ⟨(some 0), .mv (.tmp 18), none⟩] [])
def c_ref07_Nonce_11 : MCode := .seq (.region [⟨(some 12), .mv (.tmp 5), none⟩,
   ⟨(some 13), .mv (.tmp 0), none⟩,
   ⟨(some 14), .conv .u8 (.tmp 13), none⟩,
   ⟨(some 15), .buildSlice [(.int .u8 0)] 1 [(0, 1, (.tmp 14))], none⟩,
   ⟨(some 16), .app 1 1 (.tmp 12) (.tmp 15), none⟩,
   ⟨(some 5), .mv (.tmp 16), none⟩] []) c_ref07_Nonce_12
def c_ref07_Nonce_10 : MCode := .block 1 c_ref07_Nonce_11
def c_ref07_Nonce_13 : MCode := (.region [⟨(some 10), .mv (.tmp 6), none⟩,
   ⟨(some 11), .ar .add (.tmp 10) (.const (.int .i64 1)), none⟩,
   ⟨(some 6), .mv (.tmp 11), none⟩] [])
def c_ref07_Nonce_9 : MCode := .seq c_ref07_Nonce_10 c_ref07_Nonce_13
def c_ref07_Nonce_6 : MCode := .seq c_ref07_Nonce_7 c_ref07_Nonce_9
def c_ref07_Nonce_5 : MCode := .loop [0, 1, 5, 6] c_ref07_Nonce_6
def c_ref07_Nonce_4 : MCode := .block 0 c_ref07_Nonce_5
def c_ref07_Nonce_3 : MCode := .seq (.region [⟨(some 6), .mv (.const (.int .i64 0)), none⟩] []) c_ref07_Nonce_4
def c_ref07_Nonce_20 : MCode := .cond (.tmp 20) .skip (.exit 2)
def c_ref07_Nonce_19 : MCode := .seq (.region [⟨(some 19), .mv (.tmp 7), none⟩,
   ⟨(some 20), .ar .lss (.tmp 19) (.const (.int .i64 8)), none⟩] []) c_ref07_Nonce_20
def c_ref07_Nonce_24 : MCode := (.region [⟨(some 28), .mv (.tmp 1), none⟩,
   ⟨(some 29), .ar .quo (.tmp 28) (.const (.int .u64 256)), none⟩,
   ⟨(some 1), .mv (.tmp 29), none⟩] [])
def c_ref07_Nonce_23 : MCode := .seq (.region [⟨(some 23), .mv (.tmp 5), none⟩,
   ⟨(some 24), .mv (.tmp 1), none⟩,
   ⟨(some 25), .conv .u8 (.tmp 24), none⟩,
   ⟨(some 26), .buildSlice [(.int .u8 0)] 1 [(0, 1, (.tmp 25))], none⟩,
   ⟨(some 27), .app 1 1 (.tmp 23) (.tmp 26), none⟩,
   ⟨(some 5), .mv (.tmp 27), none⟩] []) c_ref07_Nonce_24
def c_ref07_Nonce_22 : MCode := .block 3 c_ref07_Nonce_23
def c_ref07_Nonce_25 : MCode := (.region [⟨(some 21), .mv (.tmp 7), none⟩,
   ⟨(some 22), .ar .add (.tmp 21) (.const (.int .i64 1)), none⟩,
   ⟨(some 7), .mv (.tmp 22), none⟩] [])
def c_ref07_Nonce_21 : MCode := .seq c_ref07_Nonce_22 c_ref07_Nonce_25
def c_ref07_Nonce_18 : MCode := .seq c_ref07_Nonce_19 c_ref07_Nonce_21
def c_ref07_Nonce_17 : MCode := .loop [1, 5, 7] c_ref07_Nonce_18
def c_ref07_Nonce_16 : MCode := .block 2 c_ref07_Nonce_17
def c_ref07_Nonce_15 : MCode := .seq (.region [⟨(some 7), .mv (.const (.int .i64 0)), none⟩] []) c_ref07_Nonce_16
def c_ref07_Nonce_26 : MCode := .seq (.region [⟨(some 30), .mv (.tmp 5), none⟩,
   ⟨(some 31), .convBS (.tmp 30), none⟩,
   ⟨(some 4), .mv (.tmp 31), none⟩] []) .ret
def c_ref07_Nonce_14 : MCode := .seq c_ref07_Nonce_15 c_ref07_Nonce_26
def c_ref07_Nonce_2 : MCode := .seq c_ref07_Nonce_3 c_ref07_Nonce_14
def c_ref07_Nonce_1 : MCode := .seq (.region [⟨(some 5), .mv (.const (.slice none 0 0)), none⟩] []) c_ref07_Nonce_2
def c_ref07_Nonce_0 : MCode := .seq (.region [⟨(some 4), .mv (.const (.string ⟨#[]⟩)), none⟩] []) c_ref07_Nonce_1
/-- trefoil/trefoilref07.Nonce -/
def M_ref07_Nonce : MFun := ⟨2, c_ref07_Nonce_0, [.tmp 4]⟩
abbrev F_ref07_Nonce : Nat := 85
set_option maxRecDepth 100000 in
theorem m_ref07_Nonce : InProg Try.prog 0 85 M_ref07_Nonce := ⟨Try.f85, [[0, 1, 5, 6], [1, 5, 7]], Try.func85, by kernel_rfl⟩
def c_chacha_Stream_5 : MCode := .seq (.region [⟨(some 8), .mv (.const (.string ⟨#[]⟩)), none⟩,
   ⟨(some 9), .mv (.const (.int .i64 11)), none⟩] []) .ret
def c_chacha_Stream_8 : MCode := .seq (.region [⟨(some 8), .mv (.const (.string ⟨#[]⟩)), none⟩,
   ⟨(some 9), .mv (.const (.int .i64 2)), none⟩] []) .ret
def c_chacha_Stream_11 : MCode := .seq (.region [⟨(some 8), .mv (.const (.string ⟨#[]⟩)), none⟩,
   ⟨(some 9), .mv (.const (.int .i64 24)), none⟩] []) .ret
def c_chacha_Stream_10 : MCode := .cond (.tmp 24) c_chacha_Stream_11 .skip
def c_chacha_Stream_9 : MCode := .seq (.region [⟨(some 25), .mv (.tmp 2), none⟩,
   ⟨(some 26), .conv .u64 (.tmp 25), none⟩,
   ⟨(some 27), .mv (.tmp 3), none⟩,
   ⟨(some 28), .ar .add (.tmp 27) (.const (.int .i64 64)), none⟩,
   ⟨(some 29), .ar .sub (.tmp 28) (.const (.int .i64 1)), none⟩,
   ⟨(some 30), .ar .quo (.tmp 29) (.const (.int .i64 64)), none⟩,
   ⟨(some 31), .conv .u64 (.tmp 30), none⟩,
   ⟨(some 32), .ar .add (.tmp 26) (.tmp 31), none⟩,
   ⟨(some 33), .ar .gtr (.tmp 32) (.const (.int .u64 4294967296)), none⟩,
   ⟨(some 24), .mv (.tmp 33), none⟩] []) c_chacha_Stream_10
def c_chacha_Stream_7 : MCode := .cond (.tmp 17) c_chacha_Stream_8 c_chacha_Stream_9
def c_chacha_Stream_6 : MCode := .seq (.region [⟨(some 18), .mv (.tmp 3), none⟩,
   ⟨(some 19), .ar .lss (.tmp 18) (.const (.int .i64 0)), none⟩,
   ⟨(some 20), .mv (.tmp 19), none⟩,
   ⟨(some 21), .mv (.tmp 3), (some (20, false))⟩,
   ⟨(some 22), .ar .gtr (.tmp 21) (.const (.int .i64 65536)), (some (20, false))⟩,
   ⟨(some 23), .pick (.tmp 20) (.const (.bool true)) (.tmp 22), none⟩,
   ⟨(some 17), .mv (.tmp 23), none⟩] []) c_chacha_Stream_7
def c_chacha_Stream_4 : MCode := .cond (.tmp 13) c_chacha_Stream_5 c_chacha_Stream_6
def c_chacha_Stream_3 : MCode := .seq (.region [⟨(some 14), .mv (.tmp 1), none⟩,
   ⟨(some 15), .lenS (.tmp 14), none⟩,
   ⟨(some 16), .ar .neq (.tmp 15) (.const (.int .i64 12)), none⟩,
   ⟨(some 13), .mv (.tmp 16), none⟩] []) c_chacha_Stream_4
def c_chacha_Stream_2 : MCode := .block 0 c_chacha_Stream_3
def c_chacha_Stream_18 : MCode := .cond (.tmp 40) .skip (.exit 1)
def c_chacha_Stream_17 : MCode := .seq (.region [⟨(some 37), .mv (.tmp 10), none⟩,
   ⟨(some 38), .lenV (.tmp 37), none⟩,
   ⟨(some 39), .mv (.tmp 3), none⟩,
   ⟨(some 40), .ar .lss (.tmp 38) (.tmp 39), none⟩] []) c_chacha_Stream_18
def c_chacha_Stream_22 : MCode := (.region [⟨(some 51), .mv (.tmp 2), none⟩,
   ⟨(some 52), .ar .add (.tmp 51) (.const (.int .u32 1)), none⟩,
   ⟨(some 2), .mv (.tmp 52), none⟩] [])
def c_chacha_Stream_21 : MCode := .seq (.region [⟨(some 48), .mv (.tmp 10), none⟩,
   ⟨(some 49), .mv (.tmp 11), none⟩,
   ⟨(some 50), .appS (.tmp 48) (.tmp 49), none⟩,
   ⟨(some 10), .mv (.tmp 50), none⟩] []) c_chacha_Stream_22
def c_chacha_Stream_20 : MCode := .seq (.region [⟨(some 42), .loadN 32 (.tmp 4), none⟩,
   ⟨(some 43), .mv (.tmp 1), none⟩,
   ⟨(some 44), .mv (.tmp 2), none⟩,
   ⟨(some 45), .call 104 [(.tmp 42), (.tmp 43), (.tmp 44)], none⟩,
   ⟨(some 41), .mv (.tmp 45), none⟩,
   ⟨(some 46), .ext (.tmp 41) 0, none⟩,
   ⟨(some 47), .ext (.tmp 41) 1, none⟩,
   ⟨(some 11), .mv (.tmp 46), none⟩,
   ⟨(some 12), .mv (.tmp 47), none⟩] []) c_chacha_Stream_21
def c_chacha_Stream_19 : MCode := .block 2 c_chacha_Stream_20
def c_chacha_Stream_16 : MCode := .seq c_chacha_Stream_17 c_chacha_Stream_19
def c_chacha_Stream_15 : MCode := .loop [1, 2, 3, 4, 10] c_chacha_Stream_16
def c_chacha_Stream_14 : MCode := .block 1 c_chacha_Stream_15
def c_chacha_Stream_23 : MCode := .seq (.region [⟨(some 53), .mv (.tmp 10), none⟩,
   ⟨(some 54), .mv (.tmp 3), none⟩,
   ⟨(some 55), .slV 1 (.tmp 53) none (some (.tmp 54)) none, none⟩,
   ⟨(some 56), .convBS (.tmp 55), none⟩,
   ⟨(some 8), .mv (.tmp 56), none⟩,
   ⟨(some 9), .mv (.const (.int .i64 0)), none⟩] []) .ret
def c_chacha_Stream_13 : MCode := .seq c_chacha_Stream_14 c_chacha_Stream_23
def c_chacha_Stream_12 : MCode := .seq (.region [⟨(some 34), .mv (.tmp 3), none⟩,
   ⟨(some 35), .ar .add (.tmp 34) (.const (.int .i64 64)), none⟩,
   ⟨(some 36), .mkSl 1 [(.int .u8 0)] (.const (.int .i64 0)) (.tmp 35), none⟩,
   ⟨(some 10), .mv (.tmp 36), none⟩] []) c_chacha_Stream_13
def c_chacha_Stream_1 : MCode := .seq c_chacha_Stream_2 c_chacha_Stream_12
def c_chacha_Stream_0 : MCode := .seq (.region [⟨(some 4), .box (.tmp 0), none⟩,
   ⟨(some 8), .mv (.const (.string ⟨#[]⟩)), none⟩,
   ⟨(some 9), .mv (.const (.int .i64 0)), none⟩] []) c_chacha_Stream_1
/-- trefoil/chacha.Stream -/
def M_chacha_Stream : MFun := ⟨4, c_chacha_Stream_0, [.tmp 8, .tmp 9]⟩
abbrev F_chacha_Stream : Nat := 98
set_option maxRecDepth 100000 in
theorem m_chacha_Stream : InProg Try.prog 0 98 M_chacha_Stream := ⟨Try.f98, [[1, 2, 3, 4, 10]], Try.func98, by kernel_rfl⟩
def c_chacha_Nonce_8 : MCode := .cond (.tmp 10) .skip (.exit 0)
def c_chacha_Nonce_12 : MCode := (.region [⟨(some 12), .mv (.tmp 5), none⟩,
   ⟨(some 13), .mv (.tmp 6), none⟩,
   ⟨(some 14), .mv (.tmp 0), none⟩,
   ⟨(some 15), .mv (.tmp 6), none⟩,
   ⟨(some 16), .ar .mul (.const (.int .i64 8)) (.tmp 15), none⟩,
   ⟨(some 17), .conv .u64 (.tmp 16), none⟩,
   ⟨(some 18), .ar .shr (.tmp 14) (.tmp 17), none⟩,
   ⟨(some 19), .conv .u8 (.tmp 18), none⟩,
   ⟨(some 20), .ixV 1 (.tmp 12) (.tmp 13), none⟩,
   ⟨none, .store 1 (.tmp 20) (.tmp 19), none⟩] [])
def c_chacha_Nonce_11 : MCode := .seq (.region [⟨(some 11), .mv (.tmp 9), none⟩,
   ⟨(some 6), .mv (.tmp 11), none⟩] []) c_chacha_Nonce_12
def c_chacha_Nonce_10 : MCode := .block 1 c_chacha_Nonce_11
def c_chacha_Nonce_13 : MCode := (.region [⟨(some 21), .ar .add (.tmp 9) (.const (.int .i64 1)), none⟩,
   ⟨(some 9), .mv (.tmp 21), none⟩] [])
def c_chacha_Nonce_9 : MCode := .seq c_chacha_Nonce_10 c_chacha_Nonce_13
def c_chacha_Nonce_7 : MCode := .seq c_chacha_Nonce_8 c_chacha_Nonce_9
def c_chacha_Nonce_6 : MCode := .seq (.region [⟨(some 10), .ar .lss (.tmp 9) (.const (.int .i64 4)), none⟩] []) c_chacha_Nonce_7
def c_chacha_Nonce_5 : MCode := .loop [0, 1, 5, 9] c_chacha_Nonce_6
def c_chacha_Nonce_4 : MCode := .block 0 c_chacha_Nonce_5
def c_chacha_Nonce_3 : MCode := .seq (.region [⟨(some 9), .mv (.const (.int .i64 0)), none⟩] []) c_chacha_Nonce_4
def c_chacha_Nonce_20 : MCode := .cond (.tmp 23) .skip (.exit 2)
def c_chacha_Nonce_24 : MCode := (.region [⟨(some 25), .mv (.tmp 5), none⟩,
   ⟨(some 26), .mv (.tmp 7), none⟩,
   ⟨(some 27), .ar .add (.const (.int .i64 4)) (.tmp 26), none⟩,
   ⟨(some 28), .mv (.tmp 1), none⟩,
   ⟨(some 29), .mv (.tmp 7), none⟩,
   ⟨(some 30), .ar .mul (.const (.int .i64 8)) (.tmp 29), none⟩,
   ⟨(some 31), .conv .u64 (.tmp 30), none⟩,
   ⟨(some 32), .ar .shr (.tmp 28) (.tmp 31), none⟩,
   ⟨(some 33), .conv .u8 (.tmp 32), none⟩,
   ⟨(some 34), .ixV 1 (.tmp 25) (.tmp 27), none⟩,
   ⟨none, .store 1 (.tmp 34) (.tmp 33), none⟩] [])
def c_chacha_Nonce_23 : MCode := .seq (.region [⟨(some 24), .mv (.tmp 22), none⟩,
   ⟨(some 7), .mv (.tmp 24), none⟩] []) c_chacha_Nonce_24
def c_chacha_Nonce_22 : MCode := .block 3 c_chacha_Nonce_23
def c_chacha_Nonce_25 : MCode := (.region [⟨(some 35), .ar .add (.tmp 22) (.const (.int .i64 1)), none⟩,
   ⟨(some 22), .mv (.tmp 35), none⟩] [])
def c_chacha_Nonce_21 : MCode := .seq c_chacha_Nonce_22 c_chacha_Nonce_25
def c_chacha_Nonce_19 : MCode := .seq c_chacha_Nonce_20 c_chacha_Nonce_21
def c_chacha_Nonce_18 : MCode := .seq (.region [⟨(some 23), .ar .lss (.tmp 22) (.const (.int .i64 8)), none⟩] []) c_chacha_Nonce_19
def c_chacha_Nonce_17 : MCode := .loop [1, 5, 22] c_chacha_Nonce_18
def c_chacha_Nonce_16 : MCode := .block 2 c_chacha_Nonce_17
def c_chacha_Nonce_15 : MCode := .seq (.region [⟨(some 22), .mv (.const (.int .i64 0)), none⟩] []) c_chacha_Nonce_16
def c_chacha_Nonce_26 : MCode := .seq (.region [⟨(some 36), .mv (.tmp 5), none⟩,
   ⟨(some 37), .convBS (.tmp 36), none⟩,
   ⟨(some 4), .mv (.tmp 37), none⟩] []) .ret
def c_chacha_Nonce_14 : MCode := .seq c_chacha_Nonce_15 c_chacha_Nonce_26
def c_chacha_Nonce_2 : MCode := .seq c_chacha_Nonce_3 c_chacha_Nonce_14
def c_chacha_Nonce_1 : MCode := .seq (.region [⟨(some 8), .mkSl 1 [(.int .u8 0)] (.const (.int .i64 12)) (.const (.int .i64 12)), none⟩,
   ⟨(some 5), .mv (.tmp 8), none⟩] []) c_chacha_Nonce_2
def c_chacha_Nonce_0 : MCode := .seq (.region [⟨(some 4), .mv (.const (.string ⟨#[]⟩)), none⟩] []) c_chacha_Nonce_1
/-- trefoil/chacha.Nonce -/
def M_chacha_Nonce : MFun := ⟨2, c_chacha_Nonce_0, [.tmp 4]⟩
abbrev F_chacha_Nonce : Nat := 99
set_option maxRecDepth 100000 in
theorem m_chacha_Nonce : InProg Try.prog 0 99 M_chacha_Nonce := ⟨Try.f99, [[0, 1, 5, 9], [1, 5, 22]], Try.func99, by kernel_rfl⟩
def c_ref05_word_1 : MCode := .seq (.region [⟨(some 3), .mv (.tmp 0), none⟩,
   ⟨(some 4), .ixS (.tmp 3) (.const (.int .i64 0)), none⟩,
   ⟨(some 5), .conv .u32 (.tmp 4), none⟩,
   ⟨(some 6), .mv (.tmp 0), none⟩,
   ⟨(some 7), .ixS (.tmp 6) (.const (.int .i64 1)), none⟩,
   ⟨(some 8), .conv .u32 (.tmp 7), none⟩,
   ⟨(some 9), .ar .mul (.const (.int .u32 256)) (.tmp 8), none⟩,
   ⟨(some 10), .ar .add (.tmp 5) (.tmp 9), none⟩,
   ⟨(some 11), .mv (.tmp 0), none⟩,
   ⟨(some 12), .ixS (.tmp 11) (.const (.int .i64 2)), none⟩,
   ⟨(some 13), .conv .u32 (.tmp 12), none⟩,
   ⟨(some 14), .ar .mul (.const (.int .u32 65536)) (.tmp 13), none⟩,
   ⟨(some 15), .ar .add (.tmp 10) (.tmp 14), none⟩,
   ⟨(some 16), .mv (.tmp 0), none⟩,
   ⟨(some 17), .ixS (.tmp 16) (.const (.int .i64 3)), none⟩,
   ⟨(some 18), .conv .u32 (.tmp 17), none⟩,
   ⟨(some 19), .ar .mul (.const (.int .u32 16777216)) (.tmp 18), none⟩,
   ⟨(some 20), .ar .add (.tmp 15) (.tmp 19), none⟩,
   ⟨(some 2), .mv (.tmp 20), none⟩] []) .ret
def c_ref05_word_0 : MCode := .seq (.region [⟨(some 2), .mv (.const (.int .u32 0)), none⟩] []) c_ref05_word_1
/-- trefoil/trefoilref05.word -/
def M_ref05_word : MFun := ⟨1, c_ref05_word_0, [.tmp 2]⟩
abbrev F_ref05_word : Nat := 100
set_option maxRecDepth 100000 in
theorem m_ref05_word : InProg Try.prog 0 100 M_ref05_word := ⟨Try.f100, [], Try.func100, by kernel_rfl⟩
def c_ref05_Quarter_9 : MCode := .cond (.tmp 22) .skip (.exit 0)
def c_ref05_Quarter_8 : MCode := .seq (.region [⟨(some 21), .mv (.tmp 11), none⟩,
   ⟨(some 22), .ar .lss (.tmp 21) (.const (.int .i64 4)), none⟩] []) c_ref05_Quarter_9
def c_ref05_Quarter_16 : MCode := (.region [⟨(some 12), .mv (.const (.int .i64 2)), none⟩,
   ⟨(some 13), .mv (.const (.int .i64 3)), none⟩,
   ⟨(some 14), .mv (.const (.int .i64 1)), none⟩] [])
def c_ref05_Quarter_15 : MCode := .cond (.tmp 27) c_ref05_Quarter_16 .skip
def c_ref05_Quarter_14 : MCode := .seq (.region [⟨(some 25), .mv (.tmp 11), none⟩,
   ⟨(some 26), .ar .rem (.tmp 25) (.const (.int .i64 2)), none⟩,
   ⟨(some 27), .ar .eql (.tmp 26) (.const (.int .i64 1)), none⟩] []) c_ref05_Quarter_15
def c_ref05_Quarter_18 : MCode := (.region [⟨(some 40), .mv (.tmp 10), none⟩,
   ⟨(some 41), .mv (.tmp 14), none⟩,
   ⟨(some 42), .mv (.tmp 10), none⟩,
   ⟨(some 43), .mv (.tmp 14), none⟩,
   ⟨(some 44), .ixV 1 (.tmp 42) (.tmp 43), none⟩,
   ⟨(some 45), .load1 (.tmp 44), none⟩,
   ⟨(some 46), .mv (.tmp 10), none⟩,
   ⟨(some 47), .mv (.tmp 12), none⟩,
   ⟨(some 48), .ixV 1 (.tmp 46) (.tmp 47), none⟩,
   ⟨(some 49), .load1 (.tmp 48), none⟩,
   ⟨(some 50), .ar .xor (.tmp 45) (.tmp 49), none⟩,
   ⟨(some 51), .mv (.tmp 9), none⟩,
   ⟨(some 52), .mv (.tmp 11), none⟩,
   ⟨(some 53), .ixV 1 (.tmp 51) (.tmp 52), none⟩,
   ⟨(some 54), .load1 (.tmp 53), none⟩,
   ⟨(some 55), .call 105 [(.tmp 50), (.tmp 54)], none⟩,
   ⟨(some 56), .ixV 1 (.tmp 40) (.tmp 41), none⟩,
   ⟨none, .store 1 (.tmp 56) (.tmp 55), none⟩] [])
def c_ref05_Quarter_17 : MCode := .seq (.region [⟨(some 28), .mv (.tmp 10), none⟩,
   ⟨(some 29), .mv (.tmp 12), none⟩,
   ⟨(some 30), .mv (.tmp 10), none⟩,
   ⟨(some 31), .mv (.tmp 12), none⟩,
   ⟨(some 32), .ixV 1 (.tmp 30) (.tmp 31), none⟩,
   ⟨(some 33), .load1 (.tmp 32), none⟩,
   ⟨(some 34), .mv (.tmp 10), none⟩,
   ⟨(some 35), .mv (.tmp 13), none⟩,
   ⟨(some 36), .ixV 1 (.tmp 34) (.tmp 35), none⟩,
   ⟨(some 37), .load1 (.tmp 36), none⟩,
   ⟨(some 38), .ar .add (.tmp 33) (.tmp 37), none⟩,
   ⟨(some 39), .ixV 1 (.tmp 28) (.tmp 29), none⟩,
   ⟨none, .store 1 (.tmp 39) (.tmp 38), none⟩] []) c_ref05_Quarter_18
def c_ref05_Quarter_13 : MCode := .seq c_ref05_Quarter_14 c_ref05_Quarter_17
def c_ref05_Quarter_12 : MCode := .seq (.region [⟨(some 12), .mv (.const (.int .i64 0)), none⟩,
   ⟨(some 13), .mv (.const (.int .i64 1)), none⟩,
   ⟨(some 14), .mv (.const (.int .i64 3)), none⟩] []) c_ref05_Quarter_13
def c_ref05_Quarter_11 : MCode := .block 1 c_ref05_Quarter_12
def c_ref05_Quarter_19 : MCode := (.region [⟨(some 23), .mv (.tmp 11), none⟩,
   ⟨(some 24), .ar .add (.tmp 23) (.const (.int .i64 1)), none⟩,
   ⟨(some 11), .mv (.tmp 24), none⟩] [])
def c_ref05_Quarter_10 : MCode := .seq c_ref05_Quarter_11 c_ref05_Quarter_19
def c_ref05_Quarter_7 : MCode := .seq c_ref05_Quarter_8 c_ref05_Quarter_10
def c_ref05_Quarter_6 : MCode := .loop [9, 10, 11] c_ref05_Quarter_7
def c_ref05_Quarter_5 : MCode := .block 0 c_ref05_Quarter_6
def c_ref05_Quarter_4 : MCode := .seq (.region [⟨(some 11), .mv (.const (.int .i64 0)), none⟩] []) c_ref05_Quarter_5
def c_ref05_Quarter_20 : MCode := .seq (.region [⟨(some 57), .mv (.tmp 10), none⟩,
   ⟨(some 8), .mv (.tmp 57), none⟩] []) .ret
def c_ref05_Quarter_3 : MCode := .seq c_ref05_Quarter_4 c_ref05_Quarter_20
def c_ref05_Quarter_2 : MCode := .seq (.region [⟨(some 16), .mv (.tmp 0), none⟩,
   ⟨(some 17), .mv (.tmp 1), none⟩,
   ⟨(some 18), .mv (.tmp 2), none⟩,
   ⟨(some 19), .mv (.tmp 3), none⟩,
   ⟨(some 20), .buildSlice [(.int .u32 0), (.int .u32 0), (.int .u32 0), (.int .u32 0)] 4 [(0, 1, (.tmp 16)), (1, 1, (.tmp 17)), (2, 1, (.tmp 18)), (3, 1, (.tmp 19))], none⟩,
   ⟨(some 10), .mv (.tmp 20), none⟩] []) c_ref05_Quarter_3
def c_ref05_Quarter_1 : MCode := .seq (.region [⟨(some 15), .buildSlice [(.int .u64 0), (.int .u64 0), (.int .u64 0), (.int .u64 0)] 4 [(0, 1, (.const (.int .u64 16))), (1, 1, (.const (.int .u64 12))), (2, 1, (.const (.int .u64 8))), (3, 1, (.const (.int .u64 7)))], none⟩,
   ⟨(some 9), .mv (.tmp 15), none⟩] []) c_ref05_Quarter_2
def c_ref05_Quarter_0 : MCode := .seq (.region [⟨(some 8), .mv (.const (.slice none 0 0)), none⟩] []) c_ref05_Quarter_1
/-- trefoil/trefoilref05.Quarter -/
def M_ref05_Quarter : MFun := ⟨4, c_ref05_Quarter_0, [.tmp 8]⟩
abbrev F_ref05_Quarter : Nat := 101
set_option maxRecDepth 100000 in
theorem m_ref05_Quarter : InProg Try.prog 0 101 M_ref05_Quarter := ⟨Try.f101, [[9, 10, 11]], Try.func101, by kernel_rfl⟩
def c_chacha_Block_4 : MCode := .seq (.region [⟨(some 6), .mv (.const (.string ⟨#[]⟩)), none⟩,
   ⟨(some 7), .mv (.const (.int .i64 11)), none⟩] []) .ret
def c_chacha_Block_3 : MCode := .cond (.tmp 15) c_chacha_Block_4 .skip
def c_chacha_Block_2 : MCode := .seq (.region [⟨(some 13), .mv (.tmp 1), none⟩,
   ⟨(some 14), .lenS (.tmp 13), none⟩,
   ⟨(some 15), .ar .neq (.tmp 14) (.const (.int .i64 12)), none⟩] []) c_chacha_Block_3
def c_chacha_Block_13 : MCode := .cond (.tmp 22) .skip (.exit 0)
def c_chacha_Block_23 : MCode := (.region [⟨(some 30), .call 107 [(.tmp 9), (.const (.int .i64 3)), (.const (.int .i64 4)), (.const (.int .i64 9)), (.const (.int .i64 14))], none⟩] [])
def c_chacha_Block_22 : MCode := .seq (.region [⟨(some 29), .call 107 [(.tmp 9), (.const (.int .i64 2)), (.const (.int .i64 7)), (.const (.int .i64 8)), (.const (.int .i64 13))], none⟩] []) c_chacha_Block_23
def c_chacha_Block_21 : MCode := .seq (.region [⟨(some 28), .call 107 [(.tmp 9), (.const (.int .i64 1)), (.const (.int .i64 6)), (.const (.int .i64 11)), (.const (.int .i64 12))], none⟩] []) c_chacha_Block_22
def c_chacha_Block_20 : MCode := .seq (.region [⟨(some 27), .call 107 [(.tmp 9), (.const (.int .i64 0)), (.const (.int .i64 5)), (.const (.int .i64 10)), (.const (.int .i64 15))], none⟩] []) c_chacha_Block_21
def c_chacha_Block_19 : MCode := .seq (.region [⟨(some 26), .call 107 [(.tmp 9), (.const (.int .i64 3)), (.const (.int .i64 7)), (.const (.int .i64 11)), (.const (.int .i64 15))], none⟩] []) c_chacha_Block_20
def c_chacha_Block_18 : MCode := .seq (.region [⟨(some 25), .call 107 [(.tmp 9), (.const (.int .i64 2)), (.const (.int .i64 6)), (.const (.int .i64 10)), (.const (.int .i64 14))], none⟩] []) c_chacha_Block_19
def c_chacha_Block_17 : MCode := .seq (.region [⟨(some 24), .call 107 [(.tmp 9), (.const (.int .i64 1)), (.const (.int .i64 5)), (.const (.int .i64 9)), (.const (.int .i64 13))], none⟩] []) c_chacha_Block_18
def c_chacha_Block_16 : MCode := .seq (.region [⟨(some 23), .call 107 [(.tmp 9), (.const (.int .i64 0)), (.const (.int .i64 4)), (.const (.int .i64 8)), (.const (.int .i64 12))], none⟩] []) c_chacha_Block_17
def c_chacha_Block_15 : MCode := .block 1 c_chacha_Block_16
def c_chacha_Block_24 : MCode := (.region [⟨(some 31), .ar .add (.tmp 21) (.const (.int .i64 1)), none⟩,
   ⟨(some 21), .mv (.tmp 31), none⟩] [])
def c_chacha_Block_14 : MCode := .seq c_chacha_Block_15 c_chacha_Block_24
def c_chacha_Block_12 : MCode := .seq c_chacha_Block_13 c_chacha_Block_14
def c_chacha_Block_11 : MCode := .seq (.region [⟨(some 22), .ar .lss (.tmp 21) (.const (.int .i64 10)), none⟩] []) c_chacha_Block_12
def c_chacha_Block_10 : MCode := .loop [8, 9, 21] c_chacha_Block_11
def c_chacha_Block_9 : MCode := .block 0 c_chacha_Block_10
def c_chacha_Block_8 : MCode := .seq (.region [⟨(some 21), .mv (.const (.int .i64 0)), none⟩] []) c_chacha_Block_9
def c_chacha_Block_32 : MCode := .cond (.tmp 35) .skip (.exit 2)
def c_chacha_Block_37 : MCode := (.region [⟨(some 43), .mv (.tmp 10), none⟩,
   ⟨(some 44), .mv (.tmp 12), none⟩,
   ⟨(some 45), .conv .u8 (.tmp 44), none⟩,
   ⟨(some 46), .mv (.tmp 12), none⟩,
   ⟨(some 47), .ar .shr (.tmp 46) (.const (.int .u64 8)), none⟩,
   ⟨(some 48), .conv .u8 (.tmp 47), none⟩,
   ⟨(some 49), .mv (.tmp 12), none⟩,
   ⟨(some 50), .ar .shr (.tmp 49) (.const (.int .u64 16)), none⟩,
   ⟨(some 51), .conv .u8 (.tmp 50), none⟩,
   ⟨(some 52), .mv (.tmp 12), none⟩,
   ⟨(some 53), .ar .shr (.tmp 52) (.const (.int .u64 24)), none⟩,
   ⟨(some 54), .conv .u8 (.tmp 53), none⟩,
   ⟨(some 55), .buildSlice [(.int .u8 0), (.int .u8 0), (.int .u8 0), (.int .u8 0)] 4 [(0, 1, (.tmp 45)), (1, 1, (.tmp 48)), (2, 1, (.tmp 51)), (3, 1, (.tmp 54))], none⟩,
   ⟨(some 56), .app 1 1 (.tmp 43) (.tmp 55), none⟩,
   ⟨(some 10), .mv (.tmp 56), none⟩] [])
def c_chacha_Block_36 : MCode := .seq (.region [⟨(some 38), .mv (.tmp 12), none⟩,
   ⟨(some 39), .mv (.tmp 11), none⟩,
   ⟨(some 40), .ixA 1 16 (.tmp 8) (.tmp 39), none⟩,
   ⟨(some 41), .load1 (.tmp 40), none⟩,
   ⟨(some 42), .ar .add (.tmp 38) (.tmp 41), none⟩,
   ⟨(some 12), .mv (.tmp 42), none⟩] []) c_chacha_Block_37
def c_chacha_Block_35 : MCode := .seq (.region [⟨(some 36), .mv (.tmp 34), none⟩,
   ⟨(some 37), .ixG 1 16 false (.tmp 33) (.tmp 34), none⟩,
   ⟨(some 11), .mv (.tmp 36), none⟩,
   ⟨(some 12), .mv (.tmp 37), none⟩] []) c_chacha_Block_36
def c_chacha_Block_34 : MCode := .block 3 c_chacha_Block_35
def c_chacha_Block_38 : MCode := (.region [⟨(some 57), .ar .add (.tmp 34) (.const (.int .i64 1)), none⟩,
   ⟨(some 34), .mv (.tmp 57), none⟩] [])
def c_chacha_Block_33 : MCode := .seq c_chacha_Block_34 c_chacha_Block_38
def c_chacha_Block_31 : MCode := .seq c_chacha_Block_32 c_chacha_Block_33
def c_chacha_Block_30 : MCode := .seq (.region [⟨(some 35), .ar .lss (.tmp 34) (.const (.int .i64 16)), none⟩] []) c_chacha_Block_31
def c_chacha_Block_29 : MCode := .loop [8, 10, 33, 34] c_chacha_Block_30
def c_chacha_Block_28 : MCode := .block 2 c_chacha_Block_29
def c_chacha_Block_27 : MCode := .seq (.region [⟨(some 33), .loadN 16 (.tmp 9), none⟩,
   ⟨(some 34), .mv (.const (.int .i64 0)), none⟩] []) c_chacha_Block_28
def c_chacha_Block_39 : MCode := .seq (.region [⟨(some 58), .mv (.tmp 10), none⟩,
   ⟨(some 59), .convBS (.tmp 58), none⟩,
   ⟨(some 6), .mv (.tmp 59), none⟩,
   ⟨(some 7), .mv (.const (.int .i64 0)), none⟩] []) .ret
def c_chacha_Block_26 : MCode := .seq c_chacha_Block_27 c_chacha_Block_39
def c_chacha_Block_25 : MCode := .seq (.region [⟨(some 32), .mkSl 1 [(.int .u8 0)] (.const (.int .i64 0)) (.const (.int .i64 64)), none⟩,
   ⟨(some 10), .mv (.tmp 32), none⟩] []) c_chacha_Block_26
def c_chacha_Block_7 : MCode := .seq c_chacha_Block_8 c_chacha_Block_25
def c_chacha_Block_6 : MCode := .seq (.region [⟨(some 20), .loadN 16 (.tmp 8), none⟩,
   ⟨(some 9), .new [(.int .u32 0), (.int .u32 0), (.int .u32 0), (.int .u32 0), (.int .u32 0), (.int .u32 0), (.int .u32 0), (.int .u32 0), (.int .u32 0), (.int .u32 0), (.int .u32 0), (.int .u32 0), (.int .u32 0), (.int .u32 0), (.int .u32 0), (.int .u32 0)], none⟩,
   ⟨none, .store 16 (.tmp 9) (.tmp 20), none⟩] []) c_chacha_Block_7
def c_chacha_Block_5 : MCode := .seq (.region [⟨(some 16), .loadN 32 (.tmp 3), none⟩,
   ⟨(some 17), .mv (.tmp 1), none⟩,
   ⟨(some 18), .mv (.tmp 2), none⟩,
   ⟨(some 19), .call 106 [(.tmp 16), (.tmp 17), (.tmp 18)], none⟩,
   ⟨(some 8), .new [(.int .u32 0), (.int .u32 0), (.int .u32 0), (.int .u32 0), (.int .u32 0), (.int .u32 0), (.int .u32 0), (.int .u32 0), (.int .u32 0), (.int .u32 0), (.int .u32 0), (.int .u32 0), (.int .u32 0), (.int .u32 0), (.int .u32 0), (.int .u32 0)], none⟩,
   ⟨none, .store 16 (.tmp 8) (.tmp 19), none⟩] []) c_chacha_Block_6
def c_chacha_Block_1 : MCode := .seq c_chacha_Block_2 c_chacha_Block_5
def c_chacha_Block_0 : MCode := .seq (.region [⟨(some 3), .box (.tmp 0), none⟩,
   ⟨(some 6), .mv (.const (.string ⟨#[]⟩)), none⟩,
   ⟨(some 7), .mv (.const (.int .i64 0)), none⟩] []) c_chacha_Block_1
/-- trefoil/chacha.Block -/
def M_chacha_Block : MFun := ⟨3, c_chacha_Block_0, [.tmp 6, .tmp 7]⟩
abbrev F_chacha_Block : Nat := 104
set_option maxRecDepth 100000 in
theorem m_chacha_Block : InProg Try.prog 0 104 M_chacha_Block := ⟨Try.f104, [[8, 9, 21], [8, 10, 33, 34]], Try.func104, by kernel_rfl⟩
def c_ref05_left_1 : MCode := .seq (.region [⟨(some 5), .mv (.tmp 0), none⟩,
   ⟨(some 6), .mv (.tmp 1), none⟩,
   ⟨(some 7), .ar .shl (.tmp 5) (.tmp 6), none⟩,
   ⟨(some 8), .mv (.tmp 0), none⟩,
   ⟨(some 9), .mv (.tmp 1), none⟩,
   ⟨(some 10), .ar .sub (.const (.int .u64 32)) (.tmp 9), none⟩,
   ⟨(some 11), .ar .shr (.tmp 8) (.tmp 10), none⟩,
   ⟨(some 12), .ar .or (.tmp 7) (.tmp 11), none⟩,
   ⟨(some 4), .mv (.tmp 12), none⟩] []) .ret
def c_ref05_left_0 : MCode := .seq (.region [⟨(some 4), .mv (.const (.int .u32 0)), none⟩] []) c_ref05_left_1
/-- trefoil/trefoilref05.left -/
def M_ref05_left : MFun := ⟨2, c_ref05_left_0, [.tmp 4]⟩
abbrev F_ref05_left : Nat := 105
set_option maxRecDepth 100000 in
theorem m_ref05_left : InProg Try.prog 0 105 M_ref05_left := ⟨Try.f105, [], Try.func105, by kernel_rfl⟩
def c_chacha_start_8 : MCode := .cond (.tmp 12) .skip (.exit 0)
def c_chacha_start_12 : MCode := (.region [⟨(some 14), .mv (.tmp 8), none⟩,
   ⟨(some 15), .ar .add (.const (.int .i64 4)) (.tmp 14), none⟩,
   ⟨(some 16), .mv (.tmp 8), none⟩,
   ⟨(some 17), .ar .mul (.const (.int .i64 4)) (.tmp 16), none⟩,
   ⟨(some 18), .mv (.tmp 8), none⟩,
   ⟨(some 19), .ar .mul (.const (.int .i64 4)) (.tmp 18), none⟩,
   ⟨(some 20), .ar .add (.tmp 19) (.const (.int .i64 4)), none⟩,
   ⟨(some 21), .slA 1 32 (.tmp 3) (some (.tmp 17)) (some (.tmp 20)), none⟩,
   ⟨(some 22), .convBS (.tmp 21), none⟩,
   ⟨(some 23), .call 108 [(.tmp 22)], none⟩,
   ⟨(some 24), .ixA 1 16 (.tmp 7) (.tmp 15), none⟩,
   ⟨none, .store 1 (.tmp 24) (.tmp 23), none⟩] [])
def c_chacha_start_11 : MCode := .seq (.region [⟨(some 13), .mv (.tmp 11), none⟩,
   ⟨(some 8), .mv (.tmp 13), none⟩] []) c_chacha_start_12
def c_chacha_start_10 : MCode := .block 1 c_chacha_start_11
def c_chacha_start_13 : MCode := (.region [⟨(some 25), .ar .add (.tmp 11) (.const (.int .i64 1)), none⟩,
   ⟨(some 11), .mv (.tmp 25), none⟩] [])
def c_chacha_start_9 : MCode := .seq c_chacha_start_10 c_chacha_start_13
def c_chacha_start_7 : MCode := .seq c_chacha_start_8 c_chacha_start_9
def c_chacha_start_6 : MCode := .seq (.region [⟨(some 12), .ar .lss (.tmp 11) (.const (.int .i64 8)), none⟩] []) c_chacha_start_7
def c_chacha_start_5 : MCode := .loop [1, 2, 3, 6, 7, 11] c_chacha_start_6
def c_chacha_start_4 : MCode := .block 0 c_chacha_start_5
def c_chacha_start_3 : MCode := .seq (.region [⟨(some 11), .mv (.const (.int .i64 0)), none⟩] []) c_chacha_start_4
def c_chacha_start_21 : MCode := .cond (.tmp 29) .skip (.exit 2)
def c_chacha_start_25 : MCode := (.region [⟨(some 31), .mv (.tmp 9), none⟩,
   ⟨(some 32), .ar .add (.const (.int .i64 13)) (.tmp 31), none⟩,
   ⟨(some 33), .mv (.tmp 1), none⟩,
   ⟨(some 34), .mv (.tmp 9), none⟩,
   ⟨(some 35), .ar .mul (.const (.int .i64 4)) (.tmp 34), none⟩,
   ⟨(some 36), .mv (.tmp 9), none⟩,
   ⟨(some 37), .ar .mul (.const (.int .i64 4)) (.tmp 36), none⟩,
   ⟨(some 38), .ar .add (.tmp 37) (.const (.int .i64 4)), none⟩,
   ⟨(some 39), .slS (.tmp 33) (some (.tmp 35)) (some (.tmp 38)), none⟩,
   ⟨(some 40), .call 108 [(.tmp 39)], none⟩,
   ⟨(some 41), .ixA 1 16 (.tmp 7) (.tmp 32), none⟩,
   ⟨none, .store 1 (.tmp 41) (.tmp 40), none⟩] [])
def c_chacha_start_24 : MCode := .seq (.region [⟨(some 30), .mv (.tmp 28), none⟩,
   ⟨(some 9), .mv (.tmp 30), none⟩] []) c_chacha_start_25
def c_chacha_start_23 : MCode := .block 3 c_chacha_start_24
def c_chacha_start_26 : MCode := (.region [⟨(some 42), .ar .add (.tmp 28) (.const (.int .i64 1)), none⟩,
   ⟨(some 28), .mv (.tmp 42), none⟩] [])
def c_chacha_start_22 : MCode := .seq c_chacha_start_23 c_chacha_start_26
def c_chacha_start_20 : MCode := .seq c_chacha_start_21 c_chacha_start_22
def c_chacha_start_19 : MCode := .seq (.region [⟨(some 29), .ar .lss (.tmp 28) (.const (.int .i64 3)), none⟩] []) c_chacha_start_20
def c_chacha_start_18 : MCode := .loop [1, 6, 7, 28] c_chacha_start_19
def c_chacha_start_17 : MCode := .block 2 c_chacha_start_18
def c_chacha_start_16 : MCode := .seq (.region [⟨(some 28), .mv (.const (.int .i64 0)), none⟩] []) c_chacha_start_17
def c_chacha_start_27 : MCode := .seq (.region [⟨(some 43), .loadN 16 (.tmp 7), none⟩,
   ⟨none, .store 16 (.tmp 6) (.tmp 43), none⟩] []) .ret
def c_chacha_start_15 : MCode := .seq c_chacha_start_16 c_chacha_start_27
def c_chacha_start_14 : MCode := .seq (.region [⟨(some 26), .mv (.tmp 2), none⟩,
   ⟨(some 27), .ixA 1 16 (.tmp 7) (.const (.int .i64 12)), none⟩,
   ⟨none, .store 1 (.tmp 27) (.tmp 26), none⟩] []) c_chacha_start_15
def c_chacha_start_2 : MCode := .seq c_chacha_start_3 c_chacha_start_14
def c_chacha_start_1 : MCode := .seq (.region [⟨(some 10), .build [(.int .u32 0), (.int .u32 0), (.int .u32 0), (.int .u32 0), (.int .u32 0), (.int .u32 0), (.int .u32 0), (.int .u32 0), (.int .u32 0), (.int .u32 0), (.int .u32 0), (.int .u32 0), (.int .u32 0), (.int .u32 0), (.int .u32 0), (.int .u32 0)] [(0, 1, (.const (.int .u32 1634760805))), (1, 1, (.const (.int .u32 857760878))), (2, 1, (.const (.int .u32 2036477234))), (3, 1, (.const (.int .u32 1797285236)))], none⟩,
   ⟨(some 7), .new [(.int .u32 0), (.int .u32 0), (.int .u32 0), (.int .u32 0), (.int .u32 0), (.int .u32 0), (.int .u32 0), (.int .u32 0), (.int .u32 0), (.int .u32 0), (.int .u32 0), (.int .u32 0), (.int .u32 0), (.int .u32 0), (.int .u32 0), (.int .u32 0)], none⟩,
   ⟨none, .store 16 (.tmp 7) (.tmp 10), none⟩] []) c_chacha_start_2
def c_chacha_start_0 : MCode := .seq (.region [⟨(some 3), .box (.tmp 0), none⟩,
   ⟨(some 6), .new [(.int .u32 0), (.int .u32 0), (.int .u32 0), (.int .u32 0), (.int .u32 0), (.int .u32 0), (.int .u32 0), (.int .u32 0), (.int .u32 0), (.int .u32 0), (.int .u32 0), (.int .u32 0), (.int .u32 0), (.int .u32 0), (.int .u32 0), (.int .u32 0)], none⟩] []) c_chacha_start_1
/-- trefoil/chacha.start -/
def M_chacha_start : MFun := ⟨3, c_chacha_start_0, [.cellN 6 16]⟩
abbrev F_chacha_start : Nat := 106
set_option maxRecDepth 100000 in
theorem m_chacha_start : InProg Try.prog 0 106 M_chacha_start := ⟨Try.f106, [[1, 2, 3, 6, 7, 11], [1, 6, 7, 28]], Try.func106, by kernel_rfl⟩
def c_chacha_grid_turn_0 : MCode := (.region [⟨(some 11), .mv (.tmp 0), none⟩,
   ⟨(some 12), .mv (.tmp 1), none⟩,
   ⟨(some 13), .mv (.tmp 0), none⟩,
   ⟨(some 14), .mv (.tmp 2), none⟩,
   ⟨(some 15), .mv (.tmp 0), none⟩,
   ⟨(some 16), .mv (.tmp 3), none⟩,
   ⟨(some 17), .mv (.tmp 0), none⟩,
   ⟨(some 18), .mv (.tmp 4), none⟩,
   ⟨(some 19), .mv (.tmp 0), none⟩,
   ⟨(some 20), .mv (.tmp 1), none⟩,
   ⟨(some 21), .nilCheck (.tmp 19), none⟩,
   ⟨(some 22), .ixA 1 16 (.tmp 21) (.tmp 20), none⟩,
   ⟨(some 23), .load1 (.tmp 22), none⟩,
   ⟨(some 24), .mv (.tmp 0), none⟩,
   ⟨(some 25), .mv (.tmp 2), none⟩,
   ⟨(some 26), .nilCheck (.tmp 24), none⟩,
   ⟨(some 27), .ixA 1 16 (.tmp 26) (.tmp 25), none⟩,
   ⟨(some 28), .load1 (.tmp 27), none⟩,
   ⟨(some 29), .mv (.tmp 0), none⟩,
   ⟨(some 30), .mv (.tmp 3), none⟩,
   ⟨(some 31), .nilCheck (.tmp 29), none⟩,
   ⟨(some 32), .ixA 1 16 (.tmp 31) (.tmp 30), none⟩,
   ⟨(some 33), .load1 (.tmp 32), none⟩,
   ⟨(some 34), .mv (.tmp 0), none⟩,
   ⟨(some 35), .mv (.tmp 4), none⟩,
   ⟨(some 36), .nilCheck (.tmp 34), none⟩,
   ⟨(some 37), .ixA 1 16 (.tmp 36) (.tmp 35), none⟩,
   ⟨(some 38), .load1 (.tmp 37), none⟩,
   ⟨(some 39), .call 109 [(.tmp 23), (.tmp 28), (.tmp 33), (.tmp 38)], none⟩,
   ⟨(some 10), .mv (.tmp 39), none⟩,
   ⟨(some 40), .ext (.tmp 10) 0, none⟩,
   ⟨(some 41), .ext (.tmp 10) 1, none⟩,
   ⟨(some 42), .ext (.tmp 10) 2, none⟩,
   ⟨(some 43), .ext (.tmp 10) 3, none⟩,
   ⟨(some 44), .nilCheck (.tmp 11), none⟩,
   ⟨(some 45), .ixA 1 16 (.tmp 44) (.tmp 12), none⟩,
   ⟨none, .store 1 (.tmp 45) (.tmp 40), none⟩,
   ⟨(some 46), .nilCheck (.tmp 13), none⟩,
   ⟨(some 47), .ixA 1 16 (.tmp 46) (.tmp 14), none⟩,
   ⟨none, .store 1 (.tmp 47) (.tmp 41), none⟩,
   ⟨(some 48), .nilCheck (.tmp 15), none⟩,
   ⟨(some 49), .ixA 1 16 (.tmp 48) (.tmp 16), none⟩,
   ⟨none, .store 1 (.tmp 49) (.tmp 42), none⟩,
   ⟨(some 50), .nilCheck (.tmp 17), none⟩,
   ⟨(some 51), .ixA 1 16 (.tmp 50) (.tmp 18), none⟩,
   ⟨none, .store 1 (.tmp 51) (.tmp 43), none⟩] [])
/-- (*trefoil/chacha.grid).turn -/
def M_chacha_grid_turn : MFun := ⟨5, c_chacha_grid_turn_0, []⟩
abbrev F_chacha_grid_turn : Nat := 107
set_option maxRecDepth 100000 in
theorem m_chacha_grid_turn : InProg Try.prog 0 107 M_chacha_grid_turn := ⟨Try.f107, [], Try.func107, by kernel_rfl⟩
def c_chacha_word_1 : MCode := .seq (.region [⟨(some 3), .mv (.tmp 0), none⟩,
   ⟨(some 4), .ixS (.tmp 3) (.const (.int .i64 0)), none⟩,
   ⟨(some 5), .conv .u32 (.tmp 4), none⟩,
   ⟨(some 6), .mv (.tmp 0), none⟩,
   ⟨(some 7), .ixS (.tmp 6) (.const (.int .i64 1)), none⟩,
   ⟨(some 8), .conv .u32 (.tmp 7), none⟩,
   ⟨(some 9), .ar .shl (.tmp 8) (.const (.int .u64 8)), none⟩,
   ⟨(some 10), .ar .or (.tmp 5) (.tmp 9), none⟩,
   ⟨(some 11), .mv (.tmp 0), none⟩,
   ⟨(some 12), .ixS (.tmp 11) (.const (.int .i64 2)), none⟩,
   ⟨(some 13), .conv .u32 (.tmp 12), none⟩,
   ⟨(some 14), .ar .shl (.tmp 13) (.const (.int .u64 16)), none⟩,
   ⟨(some 15), .ar .or (.tmp 10) (.tmp 14), none⟩,
   ⟨(some 16), .mv (.tmp 0), none⟩,
   ⟨(some 17), .ixS (.tmp 16) (.const (.int .i64 3)), none⟩,
   ⟨(some 18), .conv .u32 (.tmp 17), none⟩,
   ⟨(some 19), .ar .shl (.tmp 18) (.const (.int .u64 24)), none⟩,
   ⟨(some 20), .ar .or (.tmp 15) (.tmp 19), none⟩,
   ⟨(some 2), .mv (.tmp 20), none⟩] []) .ret
def c_chacha_word_0 : MCode := .seq (.region [⟨(some 2), .mv (.const (.int .u32 0)), none⟩] []) c_chacha_word_1
/-- trefoil/chacha.word -/
def M_chacha_word : MFun := ⟨1, c_chacha_word_0, [.tmp 2]⟩
abbrev F_chacha_word : Nat := 108
set_option maxRecDepth 100000 in
theorem m_chacha_word : InProg Try.prog 0 108 M_chacha_word := ⟨Try.f108, [], Try.func108, by kernel_rfl⟩
def c_chacha_Quarter_9 : MCode := .seq (.region [⟨(some 40), .mv (.tmp 0), none⟩,
   ⟨(some 41), .mv (.tmp 1), none⟩,
   ⟨(some 42), .mv (.tmp 2), none⟩,
   ⟨(some 43), .mv (.tmp 3), none⟩,
   ⟨(some 8), .mv (.tmp 40), none⟩,
   ⟨(some 9), .mv (.tmp 41), none⟩,
   ⟨(some 10), .mv (.tmp 42), none⟩,
   ⟨(some 11), .mv (.tmp 43), none⟩] []) .ret
def c_chacha_Quarter_8 : MCode := .seq (.region [⟨(some 36), .mv (.tmp 1), none⟩,
   ⟨(some 37), .mv (.tmp 2), none⟩,
   ⟨(some 38), .ar .xor (.tmp 36) (.tmp 37), none⟩,
   ⟨(some 39), .call 110 [(.tmp 38), (.const (.int .i64 7))], none⟩,
   ⟨(some 1), .mv (.tmp 39), none⟩] []) c_chacha_Quarter_9
def c_chacha_Quarter_7 : MCode := .seq (.region [⟨(some 33), .mv (.tmp 2), none⟩,
   ⟨(some 34), .mv (.tmp 3), none⟩,
   ⟨(some 35), .ar .add (.tmp 33) (.tmp 34), none⟩,
   ⟨(some 2), .mv (.tmp 35), none⟩] []) c_chacha_Quarter_8
def c_chacha_Quarter_6 : MCode := .seq (.region [⟨(some 29), .mv (.tmp 3), none⟩,
   ⟨(some 30), .mv (.tmp 0), none⟩,
   ⟨(some 31), .ar .xor (.tmp 29) (.tmp 30), none⟩,
   ⟨(some 32), .call 110 [(.tmp 31), (.const (.int .i64 8))], none⟩,
   ⟨(some 3), .mv (.tmp 32), none⟩] []) c_chacha_Quarter_7
def c_chacha_Quarter_5 : MCode := .seq (.region [⟨(some 26), .mv (.tmp 0), none⟩,
   ⟨(some 27), .mv (.tmp 1), none⟩,
   ⟨(some 28), .ar .add (.tmp 26) (.tmp 27), none⟩,
   ⟨(some 0), .mv (.tmp 28), none⟩] []) c_chacha_Quarter_6
def c_chacha_Quarter_4 : MCode := .seq (.region [⟨(some 22), .mv (.tmp 1), none⟩,
   ⟨(some 23), .mv (.tmp 2), none⟩,
   ⟨(some 24), .ar .xor (.tmp 22) (.tmp 23), none⟩,
   ⟨(some 25), .call 110 [(.tmp 24), (.const (.int .i64 12))], none⟩,
   ⟨(some 1), .mv (.tmp 25), none⟩] []) c_chacha_Quarter_5
def c_chacha_Quarter_3 : MCode := .seq (.region [⟨(some 19), .mv (.tmp 2), none⟩,
   ⟨(some 20), .mv (.tmp 3), none⟩,
   ⟨(some 21), .ar .add (.tmp 19) (.tmp 20), none⟩,
   ⟨(some 2), .mv (.tmp 21), none⟩] []) c_chacha_Quarter_4
def c_chacha_Quarter_2 : MCode := .seq (.region [⟨(some 15), .mv (.tmp 3), none⟩,
   ⟨(some 16), .mv (.tmp 0), none⟩,
   ⟨(some 17), .ar .xor (.tmp 15) (.tmp 16), none⟩,
   ⟨(some 18), .call 110 [(.tmp 17), (.const (.int .i64 16))], none⟩,
   ⟨(some 3), .mv (.tmp 18), none⟩] []) c_chacha_Quarter_3
def c_chacha_Quarter_1 : MCode := .seq (.region [⟨(some 12), .mv (.tmp 0), none⟩,
   ⟨(some 13), .mv (.tmp 1), none⟩,
   ⟨(some 14), .ar .add (.tmp 12) (.tmp 13), none⟩,
   ⟨(some 0), .mv (.tmp 14), none⟩] []) c_chacha_Quarter_2
def c_chacha_Quarter_0 : MCode := .seq (.region [⟨(some 8), .mv (.const (.int .u32 0)), none⟩,
   ⟨(some 9), .mv (.const (.int .u32 0)), none⟩,
   ⟨(some 10), .mv (.const (.int .u32 0)), none⟩,
   ⟨(some 11), .mv (.const (.int .u32 0)), none⟩] []) c_chacha_Quarter_1
/-- trefoil/chacha.Quarter -/
def M_chacha_Quarter : MFun := ⟨4, c_chacha_Quarter_0, [.tmp 8, .tmp 9, .tmp 10, .tmp 11]⟩
abbrev F_chacha_Quarter : Nat := 109
set_option maxRecDepth 100000 in
theorem m_chacha_Quarter : InProg Try.prog 0 109 M_chacha_Quarter := ⟨Try.f109, [], Try.func109, by kernel_rfl⟩
def c_math_bits_RotateLeft32_2 : MCode := .seq (.region [⟨(some 9), .mv (.tmp 0), none⟩,
   ⟨(some 10), .mv (.tmp 5), none⟩,
   ⟨(some 11), .ar .shl (.tmp 9) (.tmp 10), none⟩,
   ⟨(some 12), .mv (.tmp 0), none⟩,
   ⟨(some 13), .mv (.tmp 5), none⟩,
   ⟨(some 14), .ar .sub (.const (.int .u64 32)) (.tmp 13), none⟩,
   ⟨(some 15), .ar .shr (.tmp 12) (.tmp 14), none⟩,
   ⟨(some 16), .ar .or (.tmp 11) (.tmp 15), none⟩,
   ⟨(some 4), .mv (.tmp 16), none⟩] []) .ret
def c_math_bits_RotateLeft32_1 : MCode := .seq (.region [⟨(some 6), .mv (.tmp 1), none⟩,
   ⟨(some 7), .conv .u64 (.tmp 6), none⟩,
   ⟨(some 8), .ar .and (.tmp 7) (.const (.int .u64 31)), none⟩,
   ⟨(some 5), .mv (.tmp 8), none⟩] []) c_math_bits_RotateLeft32_2
def c_math_bits_RotateLeft32_0 : MCode := .seq (.region [⟨(some 4), .mv (.const (.int .u32 0)), none⟩] []) c_math_bits_RotateLeft32_1
/-- math/bits.RotateLeft32 -/
def M_math_bits_RotateLeft32 : MFun := ⟨2, c_math_bits_RotateLeft32_0, [.tmp 4]⟩
abbrev F_math_bits_RotateLeft32 : Nat := 110
set_option maxRecDepth 100000 in
theorem m_math_bits_RotateLeft32 : InProg Try.prog 0 110 M_math_bits_RotateLeft32 := ⟨Try.f110, [], Try.func110, by kernel_rfl⟩
def tab : List (Nat × MFun) := [(3, M_law29_SampleShuffles), (4, M_law29_SampleWhole), (7, M_sample_Shuffle), (8, M_ref29_Shuffle), (9, M_sample_Pick), (10, M_ref29_Pick), (11, M_ref01_Ints), (12, M_law29_awake), (13, M_sample_Rest), (23, M_prg_New), (24, M_prg_Source_Below), (25, M_ref07_Below), (27, M_slices_Clip_int_int), (37, M_prg_Cut), (38, M_prg_Source_Next), (39, M_ref07_Words), (40, M_ref07_Cut), (60, M_prg_Words), (61, M_ref07_Bytes), (83, M_prg_Bytes), (84, M_ref05_Block), (85, M_ref07_Nonce), (98, M_chacha_Stream), (99, M_chacha_Nonce), (100, M_ref05_word), (101, M_ref05_Quarter), (104, M_chacha_Block), (105, M_ref05_left), (106, M_chacha_start), (107, M_chacha_grid_turn), (108, M_chacha_word), (109, M_chacha_Quarter), (110, M_math_bits_RotateLeft32)]
theorem tabIn : AllIn Try.prog 0 tab := ⟨m_law29_SampleShuffles, m_law29_SampleWhole, m_sample_Shuffle, m_ref29_Shuffle, m_sample_Pick, m_ref29_Pick, m_ref01_Ints, m_law29_awake, m_sample_Rest, m_prg_New, m_prg_Source_Below, m_ref07_Below, m_slices_Clip_int_int, m_prg_Cut, m_prg_Source_Next, m_ref07_Words, m_ref07_Cut, m_prg_Words, m_ref07_Bytes, m_prg_Bytes, m_ref05_Block, m_ref07_Nonce, m_chacha_Stream, m_chacha_Nonce, m_ref05_word, m_ref05_Quarter, m_chacha_Block, m_ref05_left, m_chacha_start, m_chacha_grid_turn, m_chacha_word, m_chacha_Quarter, m_math_bits_RotateLeft32, trivial⟩
theorem mixed : Try.prog.follows .mixedOrders = true := by kernel_rfl
end Go.Proofs.Ytboioafflppnfaa
