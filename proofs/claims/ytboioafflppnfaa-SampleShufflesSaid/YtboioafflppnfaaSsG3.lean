/- Texts of the proof, joined by program: AM, Cm22, Cm23, Cm24, Cm25, Cm26, Cm27, Cm28, Cm29, Cm31. Conditions: none. -/
import Derived.Test.YtboioafflppnfaaRows
import Derived.Test.YtboioafflppnfaaSsG2
import Derived.Shelf.SlIterI.Nil
/- The program's functions, resolved for the canonical machine. Conditions: none. Made by program. -/
namespace Go.Proofs.Ytboioafflppnfaa
open Go.Cm
def c_law29_SampleShuffles_5 : MCode := .seq (.region [⟨(some 41), .mv (.tmp 7), none⟩,
   ⟨(some 42), .mv (.tmp 9), none⟩,
   ⟨(some 43), .call 11 [(.tmp 41), (.tmp 42)], none⟩,
   ⟨(some 44), .mv (.tmp 43), none⟩,
   ⟨(some 45), .mv (.tmp 8), (some (44, true))⟩,
   ⟨(some 46), .mv (.tmp 10), (some (44, true))⟩,
   ⟨(some 47), .ar .eql (.tmp 45) (.tmp 46), (some (44, true))⟩,
   ⟨(some 48), .pick (.tmp 44) (.tmp 47) (.const (.bool false)), none⟩,
   ⟨(some 49), .mv (.tmp 48), none⟩,
   ⟨(some 50), .mv (.tmp 11), (some (49, true))⟩,
   ⟨(some 51), .mv (.tmp 13), (some (49, true))⟩,
   ⟨(some 52), .call 11 [(.tmp 50), (.tmp 51)], (some (49, true))⟩,
   ⟨(some 53), .pick (.tmp 49) (.tmp 52) (.const (.bool false)), none⟩,
   ⟨(some 54), .mv (.tmp 53), none⟩,
   ⟨(some 55), .mv (.tmp 12), (some (54, true))⟩,
   ⟨(some 56), .mv (.tmp 14), (some (54, true))⟩,
   ⟨(some 57), .ar .eql (.tmp 55) (.tmp 56), (some (54, true))⟩,
   ⟨(some 58), .pick (.tmp 54) (.tmp 57) (.const (.bool false)), none⟩,
   ⟨(some 59), .mv (.tmp 58), none⟩,
   ⟨(some 60), .call 12 [], (some (59, true))⟩,
   ⟨(some 61), .pick (.tmp 59) (.tmp 60) (.const (.bool false)), none⟩,
   ⟨(some 6), .mv (.tmp 61), none⟩] []) .ret
def c_law29_SampleShuffles_4 : MCode := .seq (.region [⟨(some 35), .loadN 32 (.tmp 3), none⟩,
   ⟨(some 36), .mv (.tmp 1), none⟩,
   ⟨(some 37), .mv (.tmp 2), none⟩,
   ⟨(some 38), .call 10 [(.tmp 35), (.tmp 36), (.tmp 37)], none⟩,
   ⟨(some 34), .mv (.tmp 38), none⟩,
   ⟨(some 39), .ext (.tmp 34) 0, none⟩,
   ⟨(some 40), .ext (.tmp 34) 1, none⟩,
   ⟨(some 13), .mv (.tmp 39), none⟩,
   ⟨(some 14), .mv (.tmp 40), none⟩] []) c_law29_SampleShuffles_5
def c_law29_SampleShuffles_3 : MCode := .seq (.region [⟨(some 28), .loadN 32 (.tmp 3), none⟩,
   ⟨(some 29), .mv (.tmp 1), none⟩,
   ⟨(some 30), .mv (.tmp 2), none⟩,
   ⟨(some 31), .call 9 [(.tmp 28), (.tmp 29), (.tmp 30)], none⟩,
   ⟨(some 27), .mv (.tmp 31), none⟩,
   ⟨(some 32), .ext (.tmp 27) 0, none⟩,
   ⟨(some 33), .ext (.tmp 27) 1, none⟩,
   ⟨(some 11), .mv (.tmp 32), none⟩,
   ⟨(some 12), .mv (.tmp 33), none⟩] []) c_law29_SampleShuffles_4
def c_law29_SampleShuffles_2 : MCode := .seq (.region [⟨(some 22), .loadN 32 (.tmp 3), none⟩,
   ⟨(some 23), .mv (.tmp 1), none⟩,
   ⟨(some 24), .call 8 [(.tmp 22), (.tmp 23)], none⟩,
   ⟨(some 21), .mv (.tmp 24), none⟩,
   ⟨(some 25), .ext (.tmp 21) 0, none⟩,
   ⟨(some 26), .ext (.tmp 21) 1, none⟩,
   ⟨(some 9), .mv (.tmp 25), none⟩,
   ⟨(some 10), .mv (.tmp 26), none⟩] []) c_law29_SampleShuffles_3
def c_law29_SampleShuffles_1 : MCode := .seq (.region [⟨(some 16), .loadN 32 (.tmp 3), none⟩,
   ⟨(some 17), .mv (.tmp 1), none⟩,
   ⟨(some 18), .call 7 [(.tmp 16), (.tmp 17)], none⟩,
   ⟨(some 15), .mv (.tmp 18), none⟩,
   ⟨(some 19), .ext (.tmp 15) 0, none⟩,
   ⟨(some 20), .ext (.tmp 15) 1, none⟩,
   ⟨(some 7), .mv (.tmp 19), none⟩,
   ⟨(some 8), .mv (.tmp 20), none⟩] []) c_law29_SampleShuffles_2
def c_law29_SampleShuffles_0 : MCode := .seq (.region [⟨(some 3), .box (.tmp 0), none⟩,
   ⟨(some 6), .mv (.const (.bool false)), none⟩] []) c_law29_SampleShuffles_1
/-- trefoil/trefoillaw29.SampleShuffles -/
def M_law29_SampleShuffles : MFun := ⟨3, c_law29_SampleShuffles_0, [.tmp 6]⟩
abbrev F_law29_SampleShuffles : Nat := 3
set_option maxRecDepth 100000 in
theorem m_law29_SampleShuffles : InProg Try.prog 0 3 M_law29_SampleShuffles := ⟨Try.f3, [], Try.func3, by kernel_rfl⟩
def c_law29_SampleWhole_7 : MCode := .seq (.region [⟨(some 34), .mv (.tmp 9), none⟩,
   ⟨(some 35), .lenV (.tmp 34), none⟩,
   ⟨(some 36), .ar .eql (.tmp 35) (.const (.int .i64 0)), none⟩,
   ⟨(some 37), .mv (.tmp 36), none⟩,
   ⟨(some 38), .call 12 [], (some (37, true))⟩,
   ⟨(some 39), .pick (.tmp 37) (.tmp 38) (.const (.bool false)), none⟩,
   ⟨(some 6), .mv (.tmp 39), none⟩] []) .ret
def c_law29_SampleWhole_6 : MCode := .cond (.tmp 33) c_law29_SampleWhole_7 .skip
def c_law29_SampleWhole_5 : MCode := .seq (.region [⟨(some 32), .mv (.tmp 10), none⟩,
   ⟨(some 33), .ar .eql (.tmp 32) (.const (.int .i64 24)), none⟩] []) c_law29_SampleWhole_6
def c_law29_SampleWhole_12 : MCode := .seq (.region [⟨(some 6), .mv (.const (.bool false)), none⟩] []) .ret
def c_law29_SampleWhole_11 : MCode := .cond (.tmp 66) c_law29_SampleWhole_12 .skip
def c_law29_SampleWhole_10 : MCode := .seq (.region [⟨(some 46), .mv (.tmp 10), none⟩,
   ⟨(some 47), .ar .neq (.tmp 46) (.const (.int .i64 0)), none⟩,
   ⟨(some 48), .mv (.tmp 47), none⟩,
   ⟨(some 49), .mv (.tmp 12), (some (48, false))⟩,
   ⟨(some 50), .mv (.tmp 10), (some (48, false))⟩,
   ⟨(some 51), .ar .neq (.tmp 49) (.tmp 50), (some (48, false))⟩,
   ⟨(some 52), .pick (.tmp 48) (.const (.bool true)) (.tmp 51), none⟩,
   ⟨(some 53), .mv (.tmp 52), none⟩,
   ⟨(some 54), .mv (.tmp 9), (some (53, false))⟩,
   ⟨(some 55), .lenV (.tmp 54), (some (53, false))⟩,
   ⟨(some 56), .mv (.tmp 8), (some (53, false))⟩,
   ⟨(some 57), .ar .neq (.tmp 55) (.tmp 56), (some (53, false))⟩,
   ⟨(some 58), .pick (.tmp 53) (.const (.bool true)) (.tmp 57), none⟩,
   ⟨(some 59), .mv (.tmp 58), none⟩,
   ⟨(some 60), .mv (.tmp 11), (some (59, false))⟩,
   ⟨(some 61), .lenV (.tmp 60), (some (59, false))⟩,
   ⟨(some 62), .mv (.tmp 7), (some (59, false))⟩,
   ⟨(some 63), .mv (.tmp 8), (some (59, false))⟩,
   ⟨(some 64), .ar .sub (.tmp 62) (.tmp 63), (some (59, false))⟩,
   ⟨(some 65), .ar .neq (.tmp 61) (.tmp 64), (some (59, false))⟩,
   ⟨(some 66), .pick (.tmp 59) (.const (.bool true)) (.tmp 65), none⟩] []) c_law29_SampleWhole_11
def c_law29_SampleWhole_20 : MCode := .cond (.tmp 70) .skip (.exit 0)
def c_law29_SampleWhole_19 : MCode := .seq (.region [⟨(some 67), .mv (.tmp 14), none⟩,
   ⟨(some 68), .mv (.tmp 9), none⟩,
   ⟨(some 69), .lenV (.tmp 68), none⟩,
   ⟨(some 70), .ar .lss (.tmp 67) (.tmp 69), none⟩] []) c_law29_SampleWhole_20
def c_law29_SampleWhole_26 : MCode := .seq (.region [⟨(some 6), .mv (.const (.bool false)), none⟩] []) .ret
def c_law29_SampleWhole_25 : MCode := .cond (.tmp 101) c_law29_SampleWhole_26 .skip
def c_law29_SampleWhole_24 : MCode := .seq (.region [⟨(some 73), .mv (.tmp 9), none⟩,
   ⟨(some 74), .mv (.tmp 14), none⟩,
   ⟨(some 75), .ixV 1 (.tmp 73) (.tmp 74), none⟩,
   ⟨(some 76), .load1 (.tmp 75), none⟩,
   ⟨(some 77), .ar .lss (.tmp 76) (.const (.int .i64 0)), none⟩,
   ⟨(some 78), .mv (.tmp 77), none⟩,
   ⟨(some 79), .mv (.tmp 9), (some (78, false))⟩,
   ⟨(some 80), .mv (.tmp 14), (some (78, false))⟩,
   ⟨(some 81), .ixV 1 (.tmp 79) (.tmp 80), (some (78, false))⟩,
   ⟨(some 82), .load1 (.tmp 81), (some (78, false))⟩,
   ⟨(some 83), .mv (.tmp 7), (some (78, false))⟩,
   ⟨(some 84), .ar .geq (.tmp 82) (.tmp 83), (some (78, false))⟩,
   ⟨(some 85), .pick (.tmp 78) (.const (.bool true)) (.tmp 84), none⟩,
   ⟨(some 86), .mv (.tmp 85), none⟩,
   ⟨(some 87), .mv (.tmp 14), (some (86, false))⟩,
   ⟨(some 88), .ar .gtr (.tmp 87) (.const (.int .i64 0)), (some (86, false))⟩,
   ⟨(some 89), .mv (.tmp 88), (some (86, false))⟩,
   ⟨(some 90), .mv (.tmp 9), (some (89, true))⟩,
   ⟨(some 91), .mv (.tmp 14), (some (89, true))⟩,
   ⟨(some 92), .ixV 1 (.tmp 90) (.tmp 91), (some (89, true))⟩,
   ⟨(some 93), .load1 (.tmp 92), (some (89, true))⟩,
   ⟨(some 94), .mv (.tmp 9), (some (89, true))⟩,
   ⟨(some 95), .mv (.tmp 14), (some (89, true))⟩,
   ⟨(some 96), .ar .sub (.tmp 95) (.const (.int .i64 1)), (some (89, true))⟩,
   ⟨(some 97), .ixV 1 (.tmp 94) (.tmp 96), (some (89, true))⟩,
   ⟨(some 98), .load1 (.tmp 97), (some (89, true))⟩,
   ⟨(some 99), .ar .leq (.tmp 93) (.tmp 98), (some (89, true))⟩,
   ⟨(some 100), .pick (.tmp 89) (.tmp 99) (.const (.bool false)), (some (86, false))⟩,
   ⟨(some 101), .pick (.tmp 86) (.const (.bool true)) (.tmp 100), none⟩] []) c_law29_SampleWhole_25
def c_law29_SampleWhole_27 : MCode := (.region [⟨(some 102), .mv (.tmp 9), none⟩,
   ⟨(some 103), .mv (.tmp 14), none⟩,
   ⟨(some 104), .ixV 1 (.tmp 102) (.tmp 103), none⟩,
   ⟨(some 105), .load1 (.tmp 104), none⟩,
   ⟨(some 106), .ixA 1 25 (.tmp 13) (.tmp 105), none⟩,
   ⟨(some 107), .load1 (.tmp 106), none⟩,
   ⟨(some 108), .ar .add (.tmp 107) (.const (.int .i64 1)), none⟩,
   ⟨(some 109), .ixA 1 25 (.tmp 13) (.tmp 105), none⟩,
   ⟨none, .store 1 (.tmp 109) (.tmp 108), none⟩] [])
def c_law29_SampleWhole_23 : MCode := .seq c_law29_SampleWhole_24 c_law29_SampleWhole_27
def c_law29_SampleWhole_22 : MCode := .block 1 c_law29_SampleWhole_23
def c_law29_SampleWhole_28 : MCode := (.region [⟨(some 71), .mv (.tmp 14), none⟩,
   ⟨(some 72), .ar .add (.tmp 71) (.const (.int .i64 1)), none⟩,
   ⟨(some 14), .mv (.tmp 72), none⟩] [])
def c_law29_SampleWhole_21 : MCode := .seq c_law29_SampleWhole_22 c_law29_SampleWhole_28
def c_law29_SampleWhole_18 : MCode := .seq c_law29_SampleWhole_19 c_law29_SampleWhole_21
def c_law29_SampleWhole_17 : MCode := .loop [7, 9, 11, 13, 14] c_law29_SampleWhole_18
def c_law29_SampleWhole_16 : MCode := .block 0 c_law29_SampleWhole_17
def c_law29_SampleWhole_15 : MCode := .seq (.region [⟨(some 14), .mv (.const (.int .i64 0)), none⟩] []) c_law29_SampleWhole_16
def c_law29_SampleWhole_35 : MCode := .cond (.tmp 113) .skip (.exit 2)
def c_law29_SampleWhole_34 : MCode := .seq (.region [⟨(some 110), .mv (.tmp 15), none⟩,
   ⟨(some 111), .mv (.tmp 11), none⟩,
   ⟨(some 112), .lenV (.tmp 111), none⟩,
   ⟨(some 113), .ar .lss (.tmp 110) (.tmp 112), none⟩] []) c_law29_SampleWhole_35
def c_law29_SampleWhole_41 : MCode := .seq (.region [⟨(some 6), .mv (.const (.bool false)), none⟩] []) .ret
def c_law29_SampleWhole_40 : MCode := .cond (.tmp 128) c_law29_SampleWhole_41 .skip
def c_law29_SampleWhole_39 : MCode := .seq (.region [⟨(some 116), .mv (.tmp 11), none⟩,
   ⟨(some 117), .mv (.tmp 15), none⟩,
   ⟨(some 118), .ixV 1 (.tmp 116) (.tmp 117), none⟩,
   ⟨(some 119), .load1 (.tmp 118), none⟩,
   ⟨(some 120), .ar .lss (.tmp 119) (.const (.int .i64 0)), none⟩,
   ⟨(some 121), .mv (.tmp 120), none⟩,
   ⟨(some 122), .mv (.tmp 11), (some (121, false))⟩,
   ⟨(some 123), .mv (.tmp 15), (some (121, false))⟩,
   ⟨(some 124), .ixV 1 (.tmp 122) (.tmp 123), (some (121, false))⟩,
   ⟨(some 125), .load1 (.tmp 124), (some (121, false))⟩,
   ⟨(some 126), .mv (.tmp 7), (some (121, false))⟩,
   ⟨(some 127), .ar .geq (.tmp 125) (.tmp 126), (some (121, false))⟩,
   ⟨(some 128), .pick (.tmp 121) (.const (.bool true)) (.tmp 127), none⟩] []) c_law29_SampleWhole_40
def c_law29_SampleWhole_42 : MCode := (.region [⟨(some 129), .mv (.tmp 11), none⟩,
   ⟨(some 130), .mv (.tmp 15), none⟩,
   ⟨(some 131), .ixV 1 (.tmp 129) (.tmp 130), none⟩,
   ⟨(some 132), .load1 (.tmp 131), none⟩,
   ⟨(some 133), .ixA 1 25 (.tmp 13) (.tmp 132), none⟩,
   ⟨(some 134), .load1 (.tmp 133), none⟩,
   ⟨(some 135), .ar .add (.tmp 134) (.const (.int .i64 1)), none⟩,
   ⟨(some 136), .ixA 1 25 (.tmp 13) (.tmp 132), none⟩,
   ⟨none, .store 1 (.tmp 136) (.tmp 135), none⟩] [])
def c_law29_SampleWhole_38 : MCode := .seq c_law29_SampleWhole_39 c_law29_SampleWhole_42
def c_law29_SampleWhole_37 : MCode := .block 3 c_law29_SampleWhole_38
def c_law29_SampleWhole_43 : MCode := (.region [⟨(some 114), .mv (.tmp 15), none⟩,
   ⟨(some 115), .ar .add (.tmp 114) (.const (.int .i64 1)), none⟩,
   ⟨(some 15), .mv (.tmp 115), none⟩] [])
def c_law29_SampleWhole_36 : MCode := .seq c_law29_SampleWhole_37 c_law29_SampleWhole_43
def c_law29_SampleWhole_33 : MCode := .seq c_law29_SampleWhole_34 c_law29_SampleWhole_36
def c_law29_SampleWhole_32 : MCode := .loop [7, 11, 13, 15] c_law29_SampleWhole_33
def c_law29_SampleWhole_31 : MCode := .block 2 c_law29_SampleWhole_32
def c_law29_SampleWhole_30 : MCode := .seq (.region [⟨(some 15), .mv (.const (.int .i64 0)), none⟩] []) c_law29_SampleWhole_31
def c_law29_SampleWhole_50 : MCode := .cond (.tmp 139) .skip (.exit 4)
def c_law29_SampleWhole_49 : MCode := .seq (.region [⟨(some 137), .mv (.tmp 16), none⟩,
   ⟨(some 138), .mv (.tmp 7), none⟩,
   ⟨(some 139), .ar .lss (.tmp 137) (.tmp 138), none⟩] []) c_law29_SampleWhole_50
def c_law29_SampleWhole_55 : MCode := .seq (.region [⟨(some 6), .mv (.const (.bool false)), none⟩] []) .ret
def c_law29_SampleWhole_54 : MCode := .cond (.tmp 145) c_law29_SampleWhole_55 .skip
def c_law29_SampleWhole_53 : MCode := .seq (.region [⟨(some 142), .mv (.tmp 16), none⟩,
   ⟨(some 143), .ixA 1 25 (.tmp 13) (.tmp 142), none⟩,
   ⟨(some 144), .load1 (.tmp 143), none⟩,
   ⟨(some 145), .ar .neq (.tmp 144) (.const (.int .i64 1)), none⟩] []) c_law29_SampleWhole_54
def c_law29_SampleWhole_52 : MCode := .block 5 c_law29_SampleWhole_53
def c_law29_SampleWhole_56 : MCode := (.region [⟨(some 140), .mv (.tmp 16), none⟩,
   ⟨(some 141), .ar .add (.tmp 140) (.const (.int .i64 1)), none⟩,
   ⟨(some 16), .mv (.tmp 141), none⟩] [])
def c_law29_SampleWhole_51 : MCode := .seq c_law29_SampleWhole_52 c_law29_SampleWhole_56
def c_law29_SampleWhole_48 : MCode := .seq c_law29_SampleWhole_49 c_law29_SampleWhole_51
def c_law29_SampleWhole_47 : MCode := .loop [7, 13, 16] c_law29_SampleWhole_48
def c_law29_SampleWhole_46 : MCode := .block 4 c_law29_SampleWhole_47
def c_law29_SampleWhole_45 : MCode := .seq (.region [⟨(some 16), .mv (.const (.int .i64 0)), none⟩] []) c_law29_SampleWhole_46
def c_law29_SampleWhole_57 : MCode := .seq (.region [⟨(some 146), .call 12 [], none⟩,
   ⟨(some 6), .mv (.tmp 146), none⟩] []) .ret
def c_law29_SampleWhole_44 : MCode := .seq c_law29_SampleWhole_45 c_law29_SampleWhole_57
def c_law29_SampleWhole_29 : MCode := .seq c_law29_SampleWhole_30 c_law29_SampleWhole_44
def c_law29_SampleWhole_14 : MCode := .seq c_law29_SampleWhole_15 c_law29_SampleWhole_29
def c_law29_SampleWhole_13 : MCode := .seq (.region [⟨(some 13), .new [(.int .i64 0), (.int .i64 0), (.int .i64 0), (.int .i64 0), (.int .i64 0), (.int .i64 0), (.int .i64 0), (.int .i64 0), (.int .i64 0), (.int .i64 0), (.int .i64 0), (.int .i64 0), (.int .i64 0), (.int .i64 0), (.int .i64 0), (.int .i64 0), (.int .i64 0), (.int .i64 0), (.int .i64 0), (.int .i64 0), (.int .i64 0), (.int .i64 0), (.int .i64 0), (.int .i64 0), (.int .i64 0)], none⟩] []) c_law29_SampleWhole_14
def c_law29_SampleWhole_9 : MCode := .seq c_law29_SampleWhole_10 c_law29_SampleWhole_13
def c_law29_SampleWhole_8 : MCode := .seq (.region [⟨(some 41), .mv (.tmp 7), none⟩,
   ⟨(some 42), .mv (.tmp 9), none⟩,
   ⟨(some 43), .call 13 [(.tmp 41), (.tmp 42)], none⟩,
   ⟨(some 40), .mv (.tmp 43), none⟩,
   ⟨(some 44), .ext (.tmp 40) 0, none⟩,
   ⟨(some 45), .ext (.tmp 40) 1, none⟩,
   ⟨(some 11), .mv (.tmp 44), none⟩,
   ⟨(some 12), .mv (.tmp 45), none⟩] []) c_law29_SampleWhole_9
def c_law29_SampleWhole_4 : MCode := .seq c_law29_SampleWhole_5 c_law29_SampleWhole_8
def c_law29_SampleWhole_3 : MCode := .seq (.region [⟨(some 26), .loadN 32 (.tmp 3), none⟩,
   ⟨(some 27), .mv (.tmp 7), none⟩,
   ⟨(some 28), .mv (.tmp 8), none⟩,
   ⟨(some 29), .call 9 [(.tmp 26), (.tmp 27), (.tmp 28)], none⟩,
   ⟨(some 25), .mv (.tmp 29), none⟩,
   ⟨(some 30), .ext (.tmp 25) 0, none⟩,
   ⟨(some 31), .ext (.tmp 25) 1, none⟩,
   ⟨(some 9), .mv (.tmp 30), none⟩,
   ⟨(some 10), .mv (.tmp 31), none⟩] []) c_law29_SampleWhole_4
def c_law29_SampleWhole_2 : MCode := .seq (.region [⟨(some 20), .mv (.tmp 2), none⟩,
   ⟨(some 21), .conv .i64 (.tmp 20), none⟩,
   ⟨(some 22), .mv (.tmp 7), none⟩,
   ⟨(some 23), .ar .add (.tmp 22) (.const (.int .i64 1)), none⟩,
   ⟨(some 24), .ar .rem (.tmp 21) (.tmp 23), none⟩,
   ⟨(some 8), .mv (.tmp 24), none⟩] []) c_law29_SampleWhole_3
def c_law29_SampleWhole_1 : MCode := .seq (.region [⟨(some 17), .mv (.tmp 1), none⟩,
   ⟨(some 18), .ar .rem (.tmp 17) (.const (.int .u8 25)), none⟩,
   ⟨(some 19), .conv .i64 (.tmp 18), none⟩,
   ⟨(some 7), .mv (.tmp 19), none⟩] []) c_law29_SampleWhole_2
def c_law29_SampleWhole_0 : MCode := .seq (.region [⟨(some 3), .box (.tmp 0), none⟩,
   ⟨(some 6), .mv (.const (.bool false)), none⟩] []) c_law29_SampleWhole_1
/-- trefoil/trefoillaw29.SampleWhole -/
def M_law29_SampleWhole : MFun := ⟨3, c_law29_SampleWhole_0, [.tmp 6]⟩
abbrev F_law29_SampleWhole : Nat := 4
set_option maxRecDepth 100000 in
theorem m_law29_SampleWhole : InProg Try.prog 0 4 M_law29_SampleWhole := ⟨Try.f4, [[7, 9, 11, 13, 14], [7, 11, 13, 15], [7, 13, 16]], Try.func4, by kernel_rfl⟩
def c_sample_Shuffle_4 : MCode := .seq (.region [⟨(some 4), .mv (.const (.slice none 0 0)), none⟩,
   ⟨(some 5), .mv (.const (.int .i64 2)), none⟩] []) .ret
def c_sample_Shuffle_3 : MCode := .cond (.tmp 17) c_sample_Shuffle_4 .skip
def c_sample_Shuffle_2 : MCode := .seq (.region [⟨(some 12), .mv (.tmp 1), none⟩,
   ⟨(some 13), .ar .lss (.tmp 12) (.const (.int .i64 0)), none⟩,
   ⟨(some 14), .mv (.tmp 13), none⟩,
   ⟨(some 15), .mv (.tmp 1), (some (14, false))⟩,
   ⟨(some 16), .ar .gtr (.tmp 15) (.const (.int .i64 24)), (some (14, false))⟩,
   ⟨(some 17), .pick (.tmp 14) (.const (.bool true)) (.tmp 16), none⟩] []) c_sample_Shuffle_3
def c_sample_Shuffle_12 : MCode := .cond (.tmp 23) .skip (.exit 0)
def c_sample_Shuffle_16 : MCode := (.region [⟨(some 25), .mv (.tmp 6), none⟩,
   ⟨(some 26), .mv (.tmp 7), none⟩,
   ⟨(some 27), .mv (.tmp 7), none⟩,
   ⟨(some 28), .ixV 1 (.tmp 25) (.tmp 26), none⟩,
   ⟨none, .store 1 (.tmp 28) (.tmp 27), none⟩] [])
def c_sample_Shuffle_15 : MCode := .seq (.region [⟨(some 24), .mv (.tmp 22), none⟩,
   ⟨(some 7), .mv (.tmp 24), none⟩] []) c_sample_Shuffle_16
def c_sample_Shuffle_14 : MCode := .block 1 c_sample_Shuffle_15
def c_sample_Shuffle_17 : MCode := (.region [⟨(some 29), .ar .add (.tmp 22) (.const (.int .i64 1)), none⟩,
   ⟨(some 22), .mv (.tmp 29), none⟩] [])
def c_sample_Shuffle_13 : MCode := .seq c_sample_Shuffle_14 c_sample_Shuffle_17
def c_sample_Shuffle_11 : MCode := .seq c_sample_Shuffle_12 c_sample_Shuffle_13
def c_sample_Shuffle_10 : MCode := .seq (.region [⟨(some 23), .ar .lss (.tmp 22) (.tmp 21), none⟩] []) c_sample_Shuffle_11
def c_sample_Shuffle_9 : MCode := .loop [1, 2, 6, 21, 22] c_sample_Shuffle_10
def c_sample_Shuffle_8 : MCode := .block 0 c_sample_Shuffle_9
def c_sample_Shuffle_7 : MCode := .seq (.region [⟨(some 20), .mv (.tmp 6), none⟩,
   ⟨(some 21), .lenV (.tmp 20), none⟩,
   ⟨(some 22), .mv (.const (.int .i64 0)), none⟩] []) c_sample_Shuffle_8
def c_sample_Shuffle_25 : MCode := .cond (.tmp 35) .skip (.exit 2)
def c_sample_Shuffle_24 : MCode := .seq (.region [⟨(some 34), .mv (.tmp 9), none⟩,
   ⟨(some 35), .ar .gtr (.tmp 34) (.const (.int .i64 0)), none⟩] []) c_sample_Shuffle_25
def c_sample_Shuffle_32 : MCode := .seq (.region [⟨(some 48), .mv (.tmp 11), none⟩,
   ⟨(some 4), .mv (.const (.slice none 0 0)), none⟩,
   ⟨(some 5), .mv (.tmp 48), none⟩] []) .ret
def c_sample_Shuffle_31 : MCode := .cond (.tmp 47) c_sample_Shuffle_32 .skip
def c_sample_Shuffle_30 : MCode := .seq (.region [⟨(some 46), .mv (.tmp 11), none⟩,
   ⟨(some 47), .ar .neq (.tmp 46) (.const (.int .i64 0)), none⟩] []) c_sample_Shuffle_31
def c_sample_Shuffle_33 : MCode := (.region [⟨(some 49), .mv (.tmp 6), none⟩,
   ⟨(some 50), .mv (.tmp 9), none⟩,
   ⟨(some 51), .mv (.tmp 6), none⟩,
   ⟨(some 52), .mv (.tmp 10), none⟩,
   ⟨(some 53), .mv (.tmp 6), none⟩,
   ⟨(some 54), .mv (.tmp 10), none⟩,
   ⟨(some 55), .ixV 1 (.tmp 53) (.tmp 54), none⟩,
   ⟨(some 56), .load1 (.tmp 55), none⟩,
   ⟨(some 57), .mv (.tmp 6), none⟩,
   ⟨(some 58), .mv (.tmp 9), none⟩,
   ⟨(some 59), .ixV 1 (.tmp 57) (.tmp 58), none⟩,
   ⟨(some 60), .load1 (.tmp 59), none⟩,
   ⟨(some 61), .ixV 1 (.tmp 49) (.tmp 50), none⟩,
   ⟨none, .store 1 (.tmp 61) (.tmp 56), none⟩,
   ⟨(some 62), .ixV 1 (.tmp 51) (.tmp 52), none⟩,
   ⟨none, .store 1 (.tmp 62) (.tmp 60), none⟩] [])
def c_sample_Shuffle_29 : MCode := .seq c_sample_Shuffle_30 c_sample_Shuffle_33
def c_sample_Shuffle_28 : MCode := .seq (.region [⟨(some 39), .mv (.tmp 8), none⟩,
   ⟨(some 40), .mv (.tmp 9), none⟩,
   ⟨(some 41), .ar .add (.tmp 40) (.const (.int .i64 1)), none⟩,
   ⟨(some 42), .conv .u64 (.tmp 41), none⟩,
   ⟨(some 43), .call 24 [(.tmp 39), (.tmp 42)], none⟩,
   ⟨(some 38), .mv (.tmp 43), none⟩,
   ⟨(some 44), .ext (.tmp 38) 0, none⟩,
   ⟨(some 45), .ext (.tmp 38) 1, none⟩,
   ⟨(some 10), .mv (.tmp 44), none⟩,
   ⟨(some 11), .mv (.tmp 45), none⟩] []) c_sample_Shuffle_29
def c_sample_Shuffle_27 : MCode := .block 3 c_sample_Shuffle_28
def c_sample_Shuffle_34 : MCode := (.region [⟨(some 36), .mv (.tmp 9), none⟩,
   ⟨(some 37), .ar .sub (.tmp 36) (.const (.int .i64 1)), none⟩,
   ⟨(some 9), .mv (.tmp 37), none⟩] [])
def c_sample_Shuffle_26 : MCode := .seq c_sample_Shuffle_27 c_sample_Shuffle_34
def c_sample_Shuffle_23 : MCode := .seq c_sample_Shuffle_24 c_sample_Shuffle_26
def c_sample_Shuffle_22 : MCode := .loop [6, 8, 9] c_sample_Shuffle_23
def c_sample_Shuffle_21 : MCode := .block 2 c_sample_Shuffle_22
def c_sample_Shuffle_20 : MCode := .seq (.region [⟨(some 32), .mv (.tmp 1), none⟩,
   ⟨(some 33), .ar .sub (.tmp 32) (.const (.int .i64 1)), none⟩,
   ⟨(some 9), .mv (.tmp 33), none⟩] []) c_sample_Shuffle_21
def c_sample_Shuffle_35 : MCode := .seq (.region [⟨(some 63), .mv (.tmp 6), none⟩,
   ⟨(some 4), .mv (.tmp 63), none⟩,
   ⟨(some 5), .mv (.const (.int .i64 0)), none⟩] []) .ret
def c_sample_Shuffle_19 : MCode := .seq c_sample_Shuffle_20 c_sample_Shuffle_35
def c_sample_Shuffle_18 : MCode := .seq (.region [⟨(some 30), .loadN 32 (.tmp 2), none⟩,
   ⟨(some 31), .call 23 [(.tmp 30), (.const (.int .u32 3))], none⟩,
   ⟨(some 8), .mv (.tmp 31), none⟩] []) c_sample_Shuffle_19
def c_sample_Shuffle_6 : MCode := .seq c_sample_Shuffle_7 c_sample_Shuffle_18
def c_sample_Shuffle_5 : MCode := .seq (.region [⟨(some 18), .mv (.tmp 1), none⟩,
   ⟨(some 19), .mkSl 8 [(.int .i64 0)] (.tmp 18) (.tmp 18), none⟩,
   ⟨(some 6), .mv (.tmp 19), none⟩] []) c_sample_Shuffle_6
def c_sample_Shuffle_1 : MCode := .seq c_sample_Shuffle_2 c_sample_Shuffle_5
def c_sample_Shuffle_0 : MCode := .seq (.region [⟨(some 2), .box (.tmp 0), none⟩,
   ⟨(some 4), .mv (.const (.slice none 0 0)), none⟩,
   ⟨(some 5), .mv (.const (.int .i64 0)), none⟩] []) c_sample_Shuffle_1
/-- trefoil/sample.Shuffle -/
def M_sample_Shuffle : MFun := ⟨2, c_sample_Shuffle_0, [.tmp 4, .tmp 5]⟩
abbrev F_sample_Shuffle : Nat := 7
set_option maxRecDepth 100000 in
theorem m_sample_Shuffle : InProg Try.prog 0 7 M_sample_Shuffle := ⟨Try.f7, [[1, 2, 6, 21, 22], [6, 8, 9]], Try.func7, by kernel_rfl⟩
def c_ref29_Shuffle_4 : MCode := .seq (.region [⟨(some 4), .mv (.const (.slice none 0 0)), none⟩,
   ⟨(some 5), .mv (.const (.int .i64 2)), none⟩] []) .ret
def c_ref29_Shuffle_3 : MCode := .cond (.tmp 20) c_ref29_Shuffle_4 .skip
def c_ref29_Shuffle_2 : MCode := .seq (.region [⟨(some 15), .mv (.tmp 1), none⟩,
   ⟨(some 16), .ar .lss (.tmp 15) (.const (.int .i64 0)), none⟩,
   ⟨(some 17), .mv (.tmp 16), none⟩,
   ⟨(some 18), .mv (.tmp 1), (some (17, false))⟩,
   ⟨(some 19), .ar .gtr (.tmp 18) (.const (.int .i64 24)), (some (17, false))⟩,
   ⟨(some 20), .pick (.tmp 17) (.const (.bool true)) (.tmp 19), none⟩] []) c_ref29_Shuffle_3
def c_ref29_Shuffle_12 : MCode := .cond (.tmp 23) .skip (.exit 0)
def c_ref29_Shuffle_11 : MCode := .seq (.region [⟨(some 21), .mv (.tmp 7), none⟩,
   ⟨(some 22), .mv (.tmp 1), none⟩,
   ⟨(some 23), .ar .lss (.tmp 21) (.tmp 22), none⟩] []) c_ref29_Shuffle_12
def c_ref29_Shuffle_15 : MCode := (.region [⟨(some 26), .mv (.tmp 6), none⟩,
   ⟨(some 27), .mv (.tmp 7), none⟩,
   ⟨(some 28), .buildSlice [(.int .i64 0)] 1 [(0, 1, (.tmp 27))], none⟩,
   ⟨(some 29), .app 1 8 (.tmp 26) (.tmp 28), none⟩,
   ⟨(some 6), .mv (.tmp 29), none⟩] [])
def c_ref29_Shuffle_14 : MCode := .block 1 c_ref29_Shuffle_15
def c_ref29_Shuffle_16 : MCode := (.region [⟨(some 24), .mv (.tmp 7), none⟩,
   ⟨(some 25), .ar .add (.tmp 24) (.const (.int .i64 1)), none⟩,
   ⟨(some 7), .mv (.tmp 25), none⟩] [])
def c_ref29_Shuffle_13 : MCode := .seq c_ref29_Shuffle_14 c_ref29_Shuffle_16
def c_ref29_Shuffle_10 : MCode := .seq c_ref29_Shuffle_11 c_ref29_Shuffle_13
def c_ref29_Shuffle_9 : MCode := .loop [1, 2, 6, 7] c_ref29_Shuffle_10
def c_ref29_Shuffle_8 : MCode := .block 0 c_ref29_Shuffle_9
def c_ref29_Shuffle_7 : MCode := .seq (.region [⟨(some 7), .mv (.const (.int .i64 0)), none⟩] []) c_ref29_Shuffle_8
def c_ref29_Shuffle_24 : MCode := .cond (.tmp 33) .skip (.exit 2)
def c_ref29_Shuffle_23 : MCode := .seq (.region [⟨(some 32), .mv (.tmp 9), none⟩,
   ⟨(some 33), .ar .gtr (.tmp 32) (.const (.int .i64 0)), none⟩] []) c_ref29_Shuffle_24
def c_ref29_Shuffle_31 : MCode := .seq (.region [⟨(some 48), .mv (.tmp 12), none⟩,
   ⟨(some 4), .mv (.const (.slice none 0 0)), none⟩,
   ⟨(some 5), .mv (.tmp 48), none⟩] []) .ret
def c_ref29_Shuffle_30 : MCode := .cond (.tmp 47) c_ref29_Shuffle_31 .skip
def c_ref29_Shuffle_29 : MCode := .seq (.region [⟨(some 46), .mv (.tmp 12), none⟩,
   ⟨(some 47), .ar .neq (.tmp 46) (.const (.int .i64 0)), none⟩] []) c_ref29_Shuffle_30
def c_ref29_Shuffle_35 : MCode := (.region [⟨(some 63), .mv (.tmp 6), none⟩,
   ⟨(some 64), .mv (.tmp 10), none⟩,
   ⟨(some 65), .conv .i64 (.tmp 64), none⟩,
   ⟨(some 66), .mv (.tmp 13), none⟩,
   ⟨(some 67), .ixV 1 (.tmp 63) (.tmp 65), none⟩,
   ⟨none, .store 1 (.tmp 67) (.tmp 66), none⟩] [])
def c_ref29_Shuffle_34 : MCode := .seq (.region [⟨(some 59), .mv (.tmp 6), none⟩,
   ⟨(some 60), .mv (.tmp 9), none⟩,
   ⟨(some 61), .mv (.tmp 14), none⟩,
   ⟨(some 62), .ixV 1 (.tmp 59) (.tmp 60), none⟩,
   ⟨none, .store 1 (.tmp 62) (.tmp 61), none⟩] []) c_ref29_Shuffle_35
def c_ref29_Shuffle_33 : MCode := .seq (.region [⟨(some 50), .mv (.tmp 6), none⟩,
   ⟨(some 51), .mv (.tmp 9), none⟩,
   ⟨(some 52), .ixV 1 (.tmp 50) (.tmp 51), none⟩,
   ⟨(some 53), .load1 (.tmp 52), none⟩,
   ⟨(some 54), .mv (.tmp 6), none⟩,
   ⟨(some 55), .mv (.tmp 10), none⟩,
   ⟨(some 56), .conv .i64 (.tmp 55), none⟩,
   ⟨(some 57), .ixV 1 (.tmp 54) (.tmp 56), none⟩,
   ⟨(some 58), .load1 (.tmp 57), none⟩,
   ⟨(some 13), .mv (.tmp 53), none⟩,
   ⟨(some 14), .mv (.tmp 58), none⟩] []) c_ref29_Shuffle_34
def c_ref29_Shuffle_32 : MCode := .seq (.region [⟨(some 49), .mv (.tmp 11), none⟩,
   ⟨(some 8), .mv (.tmp 49), none⟩] []) c_ref29_Shuffle_33
def c_ref29_Shuffle_28 : MCode := .seq c_ref29_Shuffle_29 c_ref29_Shuffle_32
def c_ref29_Shuffle_27 : MCode := .seq (.region [⟨(some 37), .loadN 32 (.tmp 2), none⟩,
   ⟨(some 38), .mv (.tmp 8), none⟩,
   ⟨(some 39), .mv (.tmp 9), none⟩,
   ⟨(some 40), .ar .add (.tmp 39) (.const (.int .i64 1)), none⟩,
   ⟨(some 41), .conv .u64 (.tmp 40), none⟩,
   ⟨(some 42), .call 25 [(.tmp 37), (.const (.int .u32 3)), (.tmp 38), (.tmp 41)], none⟩,
   ⟨(some 36), .mv (.tmp 42), none⟩,
   ⟨(some 43), .ext (.tmp 36) 0, none⟩,
   ⟨(some 44), .ext (.tmp 36) 1, none⟩,
   ⟨(some 45), .ext (.tmp 36) 2, none⟩,
   ⟨(some 10), .mv (.tmp 43), none⟩,
   ⟨(some 11), .mv (.tmp 44), none⟩,
   ⟨(some 12), .mv (.tmp 45), none⟩] []) c_ref29_Shuffle_28
def c_ref29_Shuffle_26 : MCode := .block 3 c_ref29_Shuffle_27
def c_ref29_Shuffle_36 : MCode := (.region [⟨(some 34), .mv (.tmp 9), none⟩,
   ⟨(some 35), .ar .sub (.tmp 34) (.const (.int .i64 1)), none⟩,
   ⟨(some 9), .mv (.tmp 35), none⟩] [])
def c_ref29_Shuffle_25 : MCode := .seq c_ref29_Shuffle_26 c_ref29_Shuffle_36
def c_ref29_Shuffle_22 : MCode := .seq c_ref29_Shuffle_23 c_ref29_Shuffle_25
def c_ref29_Shuffle_21 : MCode := .loop [2, 6, 8, 9] c_ref29_Shuffle_22
def c_ref29_Shuffle_20 : MCode := .block 2 c_ref29_Shuffle_21
def c_ref29_Shuffle_19 : MCode := .seq (.region [⟨(some 30), .mv (.tmp 1), none⟩,
   ⟨(some 31), .ar .sub (.tmp 30) (.const (.int .i64 1)), none⟩,
   ⟨(some 9), .mv (.tmp 31), none⟩] []) c_ref29_Shuffle_20
def c_ref29_Shuffle_37 : MCode := .seq (.region [⟨(some 68), .mv (.tmp 6), none⟩,
   ⟨(some 4), .mv (.tmp 68), none⟩,
   ⟨(some 5), .mv (.const (.int .i64 0)), none⟩] []) .ret
def c_ref29_Shuffle_18 : MCode := .seq c_ref29_Shuffle_19 c_ref29_Shuffle_37
def c_ref29_Shuffle_17 : MCode := .seq (.region [⟨(some 8), .mv (.const (.int .i64 0)), none⟩] []) c_ref29_Shuffle_18
def c_ref29_Shuffle_6 : MCode := .seq c_ref29_Shuffle_7 c_ref29_Shuffle_17
def c_ref29_Shuffle_5 : MCode := .seq (.region [⟨(some 6), .mv (.const (.slice none 0 0)), none⟩] []) c_ref29_Shuffle_6
def c_ref29_Shuffle_1 : MCode := .seq c_ref29_Shuffle_2 c_ref29_Shuffle_5
def c_ref29_Shuffle_0 : MCode := .seq (.region [⟨(some 2), .box (.tmp 0), none⟩,
   ⟨(some 4), .mv (.const (.slice none 0 0)), none⟩,
   ⟨(some 5), .mv (.const (.int .i64 0)), none⟩] []) c_ref29_Shuffle_1
/-- trefoil/trefoilref29.Shuffle -/
def M_ref29_Shuffle : MFun := ⟨2, c_ref29_Shuffle_0, [.tmp 4, .tmp 5]⟩
abbrev F_ref29_Shuffle : Nat := 8
set_option maxRecDepth 100000 in
theorem m_ref29_Shuffle : InProg Try.prog 0 8 M_ref29_Shuffle := ⟨Try.f8, [[1, 2, 6, 7], [2, 6, 8, 9]], Try.func8, by kernel_rfl⟩
def c_sample_Pick_4 : MCode := .seq (.region [⟨(some 6), .mv (.const (.slice none 0 0)), none⟩,
   ⟨(some 7), .mv (.const (.int .i64 1)), none⟩] []) .ret
def c_sample_Pick_3 : MCode := .cond (.tmp 16) c_sample_Pick_4 .skip
def c_sample_Pick_2 : MCode := .seq (.region [⟨(some 10), .mv (.tmp 2), none⟩,
   ⟨(some 11), .ar .lss (.tmp 10) (.const (.int .i64 0)), none⟩,
   ⟨(some 12), .mv (.tmp 11), none⟩,
   ⟨(some 13), .mv (.tmp 2), (some (12, false))⟩,
   ⟨(some 14), .mv (.tmp 1), (some (12, false))⟩,
   ⟨(some 15), .ar .gtr (.tmp 13) (.tmp 14), (some (12, false))⟩,
   ⟨(some 16), .pick (.tmp 12) (.const (.bool true)) (.tmp 15), none⟩] []) c_sample_Pick_3
def c_sample_Pick_9 : MCode := .seq (.region [⟨(some 25), .mv (.tmp 9), none⟩,
   ⟨(some 6), .mv (.const (.slice none 0 0)), none⟩,
   ⟨(some 7), .mv (.tmp 25), none⟩] []) .ret
def c_sample_Pick_8 : MCode := .cond (.tmp 24) c_sample_Pick_9 .skip
def c_sample_Pick_7 : MCode := .seq (.region [⟨(some 23), .mv (.tmp 9), none⟩,
   ⟨(some 24), .ar .neq (.tmp 23) (.const (.int .i64 0)), none⟩] []) c_sample_Pick_8
def c_sample_Pick_12 : MCode := .seq (.region [⟨(some 31), .mv (.tmp 8), none⟩,
   ⟨(some 32), .call 27 [(.tmp 31)], none⟩,
   ⟨(some 6), .mv (.tmp 32), none⟩,
   ⟨(some 7), .mv (.const (.int .i64 0)), none⟩] []) .ret
def c_sample_Pick_11 : MCode := .seq (.region [⟨(some 29), .mv (.tmp 8), none⟩,
   ⟨(some 30), .call 26 [(.tmp 29)], none⟩] []) c_sample_Pick_12
def c_sample_Pick_10 : MCode := .seq (.region [⟨(some 26), .mv (.tmp 8), none⟩,
   ⟨(some 27), .mv (.tmp 2), none⟩,
   ⟨(some 28), .slV 1 (.tmp 26) none (some (.tmp 27)) none, none⟩,
   ⟨(some 8), .mv (.tmp 28), none⟩] []) c_sample_Pick_11
def c_sample_Pick_6 : MCode := .seq c_sample_Pick_7 c_sample_Pick_10
def c_sample_Pick_5 : MCode := .seq (.region [⟨(some 18), .loadN 32 (.tmp 3), none⟩,
   ⟨(some 19), .mv (.tmp 1), none⟩,
   ⟨(some 20), .call 7 [(.tmp 18), (.tmp 19)], none⟩,
   ⟨(some 17), .mv (.tmp 20), none⟩,
   ⟨(some 21), .ext (.tmp 17) 0, none⟩,
   ⟨(some 22), .ext (.tmp 17) 1, none⟩,
   ⟨(some 8), .mv (.tmp 21), none⟩,
   ⟨(some 9), .mv (.tmp 22), none⟩] []) c_sample_Pick_6
def c_sample_Pick_1 : MCode := .seq c_sample_Pick_2 c_sample_Pick_5
def c_sample_Pick_0 : MCode := .seq (.region [⟨(some 3), .box (.tmp 0), none⟩,
   ⟨(some 6), .mv (.const (.slice none 0 0)), none⟩,
   ⟨(some 7), .mv (.const (.int .i64 0)), none⟩] []) c_sample_Pick_1
/-- trefoil/sample.Pick -/
def M_sample_Pick : MFun := ⟨3, c_sample_Pick_0, [.tmp 6, .tmp 7]⟩
abbrev F_sample_Pick : Nat := 9
set_option maxRecDepth 100000 in
theorem m_sample_Pick : InProg Try.prog 0 9 M_sample_Pick := ⟨Try.f9, [], Try.func9, by kernel_rfl⟩
def c_ref29_Pick_4 : MCode := .seq (.region [⟨(some 6), .mv (.const (.slice none 0 0)), none⟩,
   ⟨(some 7), .mv (.const (.int .i64 1)), none⟩] []) .ret
def c_ref29_Pick_3 : MCode := .cond (.tmp 19) c_ref29_Pick_4 .skip
def c_ref29_Pick_2 : MCode := .seq (.region [⟨(some 13), .mv (.tmp 2), none⟩,
   ⟨(some 14), .ar .lss (.tmp 13) (.const (.int .i64 0)), none⟩,
   ⟨(some 15), .mv (.tmp 14), none⟩,
   ⟨(some 16), .mv (.tmp 2), (some (15, false))⟩,
   ⟨(some 17), .mv (.tmp 1), (some (15, false))⟩,
   ⟨(some 18), .ar .gtr (.tmp 16) (.tmp 17), (some (15, false))⟩,
   ⟨(some 19), .pick (.tmp 15) (.const (.bool true)) (.tmp 18), none⟩] []) c_ref29_Pick_3
def c_ref29_Pick_9 : MCode := .seq (.region [⟨(some 28), .mv (.tmp 9), none⟩,
   ⟨(some 6), .mv (.const (.slice none 0 0)), none⟩,
   ⟨(some 7), .mv (.tmp 28), none⟩] []) .ret
def c_ref29_Pick_8 : MCode := .cond (.tmp 27) c_ref29_Pick_9 .skip
def c_ref29_Pick_7 : MCode := .seq (.region [⟨(some 26), .mv (.tmp 9), none⟩,
   ⟨(some 27), .ar .neq (.tmp 26) (.const (.int .i64 0)), none⟩] []) c_ref29_Pick_8
def c_ref29_Pick_17 : MCode := .cond (.tmp 31) .skip (.exit 0)
def c_ref29_Pick_16 : MCode := .seq (.region [⟨(some 29), .mv (.tmp 11), none⟩,
   ⟨(some 30), .mv (.tmp 1), none⟩,
   ⟨(some 31), .ar .lss (.tmp 29) (.tmp 30), none⟩] []) c_ref29_Pick_17
def c_ref29_Pick_25 : MCode := .cond (.tmp 36) .skip (.exit 2)
def c_ref29_Pick_24 : MCode := .seq (.region [⟨(some 34), .mv (.tmp 12), none⟩,
   ⟨(some 35), .mv (.tmp 2), none⟩,
   ⟨(some 36), .ar .lss (.tmp 34) (.tmp 35), none⟩] []) c_ref29_Pick_25
def c_ref29_Pick_30 : MCode := (.region [⟨(some 45), .mv (.tmp 10), none⟩,
   ⟨(some 46), .mv (.tmp 11), none⟩,
   ⟨(some 47), .buildSlice [(.int .i64 0)] 1 [(0, 1, (.tmp 46))], none⟩,
   ⟨(some 48), .app 1 8 (.tmp 45) (.tmp 47), none⟩,
   ⟨(some 10), .mv (.tmp 48), none⟩] [])
def c_ref29_Pick_29 : MCode := .cond (.tmp 44) c_ref29_Pick_30 .skip
def c_ref29_Pick_28 : MCode := .seq (.region [⟨(some 39), .mv (.tmp 8), none⟩,
   ⟨(some 40), .mv (.tmp 12), none⟩,
   ⟨(some 41), .ixV 1 (.tmp 39) (.tmp 40), none⟩,
   ⟨(some 42), .load1 (.tmp 41), none⟩,
   ⟨(some 43), .mv (.tmp 11), none⟩,
   ⟨(some 44), .ar .eql (.tmp 42) (.tmp 43), none⟩] []) c_ref29_Pick_29
def c_ref29_Pick_27 : MCode := .block 3 c_ref29_Pick_28
def c_ref29_Pick_31 : MCode := (.region [⟨(some 37), .mv (.tmp 12), none⟩,
   ⟨(some 38), .ar .add (.tmp 37) (.const (.int .i64 1)), none⟩,
   ⟨(some 12), .mv (.tmp 38), none⟩] [])
def c_ref29_Pick_26 : MCode := .seq c_ref29_Pick_27 c_ref29_Pick_31
def c_ref29_Pick_23 : MCode := .seq c_ref29_Pick_24 c_ref29_Pick_26
def c_ref29_Pick_22 : MCode := .loop [1, 2, 8, 10, 11, 12] c_ref29_Pick_23
def c_ref29_Pick_21 : MCode := .block 2 c_ref29_Pick_22
def c_ref29_Pick_20 : MCode := .seq (.region [⟨(some 12), .mv (.const (.int .i64 0)), none⟩] []) c_ref29_Pick_21
def c_ref29_Pick_19 : MCode := .block 1 c_ref29_Pick_20
def c_ref29_Pick_32 : MCode := (.region [⟨(some 32), .mv (.tmp 11), none⟩,
   ⟨(some 33), .ar .add (.tmp 32) (.const (.int .i64 1)), none⟩,
   ⟨(some 11), .mv (.tmp 33), none⟩] [])
def c_ref29_Pick_18 : MCode := .seq c_ref29_Pick_19 c_ref29_Pick_32
def c_ref29_Pick_15 : MCode := .seq c_ref29_Pick_16 c_ref29_Pick_18
def c_ref29_Pick_14 : MCode := .loop [1, 2, 8, 10, 11] c_ref29_Pick_15
def c_ref29_Pick_13 : MCode := .block 0 c_ref29_Pick_14
def c_ref29_Pick_12 : MCode := .seq (.region [⟨(some 11), .mv (.const (.int .i64 0)), none⟩] []) c_ref29_Pick_13
def c_ref29_Pick_33 : MCode := .seq (.region [⟨(some 49), .mv (.tmp 10), none⟩,
   ⟨(some 6), .mv (.tmp 49), none⟩,
   ⟨(some 7), .mv (.const (.int .i64 0)), none⟩] []) .ret
def c_ref29_Pick_11 : MCode := .seq c_ref29_Pick_12 c_ref29_Pick_33
def c_ref29_Pick_10 : MCode := .seq (.region [⟨(some 10), .mv (.const (.slice none 0 0)), none⟩] []) c_ref29_Pick_11
def c_ref29_Pick_6 : MCode := .seq c_ref29_Pick_7 c_ref29_Pick_10
def c_ref29_Pick_5 : MCode := .seq (.region [⟨(some 21), .loadN 32 (.tmp 3), none⟩,
   ⟨(some 22), .mv (.tmp 1), none⟩,
   ⟨(some 23), .call 8 [(.tmp 21), (.tmp 22)], none⟩,
   ⟨(some 20), .mv (.tmp 23), none⟩,
   ⟨(some 24), .ext (.tmp 20) 0, none⟩,
   ⟨(some 25), .ext (.tmp 20) 1, none⟩,
   ⟨(some 8), .mv (.tmp 24), none⟩,
   ⟨(some 9), .mv (.tmp 25), none⟩] []) c_ref29_Pick_6
def c_ref29_Pick_1 : MCode := .seq c_ref29_Pick_2 c_ref29_Pick_5
def c_ref29_Pick_0 : MCode := .seq (.region [⟨(some 3), .box (.tmp 0), none⟩,
   ⟨(some 6), .mv (.const (.slice none 0 0)), none⟩,
   ⟨(some 7), .mv (.const (.int .i64 0)), none⟩] []) c_ref29_Pick_1
/-- trefoil/trefoilref29.Pick -/
def M_ref29_Pick : MFun := ⟨3, c_ref29_Pick_0, [.tmp 6, .tmp 7]⟩
abbrev F_ref29_Pick : Nat := 10
set_option maxRecDepth 100000 in
theorem m_ref29_Pick : InProg Try.prog 0 10 M_ref29_Pick := ⟨Try.f10, [[1, 2, 8, 10, 11], [1, 2, 8, 10, 11, 12]], Try.func10, by kernel_rfl⟩
def c_ref01_Ints_4 : MCode := .seq (.region [⟨(some 4), .mv (.const (.bool false)), none⟩] []) .ret
def c_ref01_Ints_3 : MCode := .cond (.tmp 10) c_ref01_Ints_4 .skip
def c_ref01_Ints_2 : MCode := .seq (.region [⟨(some 6), .mv (.tmp 0), none⟩,
   ⟨(some 7), .lenV (.tmp 6), none⟩,
   ⟨(some 8), .mv (.tmp 1), none⟩,
   ⟨(some 9), .lenV (.tmp 8), none⟩,
   ⟨(some 10), .ar .neq (.tmp 7) (.tmp 9), none⟩] []) c_ref01_Ints_3
def c_ref01_Ints_11 : MCode := .cond (.tmp 14) .skip (.exit 0)
def c_ref01_Ints_10 : MCode := .seq (.region [⟨(some 11), .mv (.tmp 5), none⟩,
   ⟨(some 12), .mv (.tmp 0), none⟩,
   ⟨(some 13), .lenV (.tmp 12), none⟩,
   ⟨(some 14), .ar .lss (.tmp 11) (.tmp 13), none⟩] []) c_ref01_Ints_11
def c_ref01_Ints_16 : MCode := .seq (.region [⟨(some 4), .mv (.const (.bool false)), none⟩] []) .ret
def c_ref01_Ints_15 : MCode := .cond (.tmp 25) c_ref01_Ints_16 .skip
def c_ref01_Ints_14 : MCode := .seq (.region [⟨(some 17), .mv (.tmp 0), none⟩,
   ⟨(some 18), .mv (.tmp 5), none⟩,
   ⟨(some 19), .ixV 1 (.tmp 17) (.tmp 18), none⟩,
   ⟨(some 20), .load1 (.tmp 19), none⟩,
   ⟨(some 21), .mv (.tmp 1), none⟩,
   ⟨(some 22), .mv (.tmp 5), none⟩,
   ⟨(some 23), .ixV 1 (.tmp 21) (.tmp 22), none⟩,
   ⟨(some 24), .load1 (.tmp 23), none⟩,
   ⟨(some 25), .ar .neq (.tmp 20) (.tmp 24), none⟩] []) c_ref01_Ints_15
def c_ref01_Ints_13 : MCode := .block 1 c_ref01_Ints_14
def c_ref01_Ints_17 : MCode := (.region [⟨(some 15), .mv (.tmp 5), none⟩,
   ⟨(some 16), .ar .add (.tmp 15) (.const (.int .i64 1)), none⟩,
   ⟨(some 5), .mv (.tmp 16), none⟩] [])
def c_ref01_Ints_12 : MCode := .seq c_ref01_Ints_13 c_ref01_Ints_17
def c_ref01_Ints_9 : MCode := .seq c_ref01_Ints_10 c_ref01_Ints_12
def c_ref01_Ints_8 : MCode := .loop [0, 1, 5] c_ref01_Ints_9
def c_ref01_Ints_7 : MCode := .block 0 c_ref01_Ints_8
def c_ref01_Ints_6 : MCode := .seq (.region [⟨(some 5), .mv (.const (.int .i64 0)), none⟩] []) c_ref01_Ints_7
def c_ref01_Ints_18 : MCode := .seq (.region [⟨(some 4), .mv (.const (.bool true)), none⟩] []) .ret
def c_ref01_Ints_5 : MCode := .seq c_ref01_Ints_6 c_ref01_Ints_18
def c_ref01_Ints_1 : MCode := .seq c_ref01_Ints_2 c_ref01_Ints_5
def c_ref01_Ints_0 : MCode := .seq (.region [⟨(some 4), .mv (.const (.bool false)), none⟩] []) c_ref01_Ints_1
/-- trefoil/trefoilref01.Ints -/
def M_ref01_Ints : MFun := ⟨2, c_ref01_Ints_0, [.tmp 4]⟩
abbrev F_ref01_Ints : Nat := 11
set_option maxRecDepth 100000 in
theorem m_ref01_Ints : InProg Try.prog 0 11 M_ref01_Ints := ⟨Try.f11, [[0, 1, 5]], Try.func11, by kernel_rfl⟩
def c_law29_awake_2 : MCode := .seq (.region [⟨(some 8), .mv (.tmp 2), none⟩,
   ⟨(some 9), .ar .eql (.tmp 8) (.const (.int .i64 0)), none⟩,
   ⟨(some 10), .mv (.tmp 9), none⟩,
   ⟨(some 11), .mv (.tmp 1), (some (10, true))⟩,
   ⟨(some 12), .buildSlice [(.int .i64 0), (.int .i64 0)] 2 [(0, 1, (.const (.int .i64 0))), (1, 1, (.const (.int .i64 2)))], (some (10, true))⟩,
   ⟨(some 13), .call 11 [(.tmp 11), (.tmp 12)], (some (10, true))⟩,
   ⟨(some 14), .pick (.tmp 10) (.tmp 13) (.const (.bool false)), none⟩,
   ⟨(some 0), .mv (.tmp 14), none⟩] []) .ret
def c_law29_awake_1 : MCode := .seq (.region [⟨(some 4), .buildSlice [(.int .i64 0), (.int .i64 0)] 2 [(0, 1, (.const (.int .i64 1))), (1, 1, (.const (.int .i64 3)))], none⟩,
   ⟨(some 5), .call 13 [(.const (.int .i64 4)), (.tmp 4)], none⟩,
   ⟨(some 3), .mv (.tmp 5), none⟩,
   ⟨(some 6), .ext (.tmp 3) 0, none⟩,
   ⟨(some 7), .ext (.tmp 3) 1, none⟩,
   ⟨(some 1), .mv (.tmp 6), none⟩,
   ⟨(some 2), .mv (.tmp 7), none⟩] []) c_law29_awake_2
def c_law29_awake_0 : MCode := .seq (.region [⟨(some 0), .mv (.const (.bool false)), none⟩] []) c_law29_awake_1
/-- trefoil/trefoillaw29.awake -/
def M_law29_awake : MFun := ⟨0, c_law29_awake_0, [.tmp 0]⟩
abbrev F_law29_awake : Nat := 12
set_option maxRecDepth 100000 in
theorem m_law29_awake : InProg Try.prog 0 12 M_law29_awake := ⟨Try.f12, [], Try.func12, by kernel_rfl⟩
def c_sample_Rest_4 : MCode := .seq (.region [⟨(some 4), .mv (.const (.slice none 0 0)), none⟩,
   ⟨(some 5), .mv (.const (.int .i64 2)), none⟩] []) .ret
def c_sample_Rest_3 : MCode := .cond (.tmp 14) c_sample_Rest_4 .skip
def c_sample_Rest_2 : MCode := .seq (.region [⟨(some 9), .mv (.tmp 0), none⟩,
   ⟨(some 10), .ar .lss (.tmp 9) (.const (.int .i64 0)), none⟩,
   ⟨(some 11), .mv (.tmp 10), none⟩,
   ⟨(some 12), .mv (.tmp 0), (some (11, false))⟩,
   ⟨(some 13), .ar .gtr (.tmp 12) (.const (.int .i64 24)), (some (11, false))⟩,
   ⟨(some 14), .pick (.tmp 11) (.const (.bool true)) (.tmp 13), none⟩] []) c_sample_Rest_3
def c_sample_Rest_13 : MCode := .cond (.tmp 17) .skip (.exit 0)
def c_sample_Rest_20 : MCode := .seq (.region [⟨(some 31), .mv (.tmp 6), none⟩,
   ⟨(some 32), .ar .add (.tmp 31) (.const (.int .i64 1)), none⟩,
   ⟨(some 6), .mv (.tmp 32), none⟩] []) (.exit 1)
def c_sample_Rest_19 : MCode := .cond (.tmp 30) c_sample_Rest_20 .skip
def c_sample_Rest_18 : MCode := .seq (.region [⟨(some 19), .mv (.tmp 6), none⟩,
   ⟨(some 20), .mv (.tmp 1), none⟩,
   ⟨(some 21), .lenV (.tmp 20), none⟩,
   ⟨(some 22), .ar .lss (.tmp 19) (.tmp 21), none⟩,
   ⟨(some 23), .mv (.tmp 22), none⟩,
   ⟨(some 24), .mv (.tmp 1), (some (23, true))⟩,
   ⟨(some 25), .mv (.tmp 6), (some (23, true))⟩,
   ⟨(some 26), .ixV 1 (.tmp 24) (.tmp 25), (some (23, true))⟩,
   ⟨(some 27), .load1 (.tmp 26), (some (23, true))⟩,
   ⟨(some 28), .mv (.tmp 8), (some (23, true))⟩,
   ⟨(some 29), .ar .eql (.tmp 27) (.tmp 28), (some (23, true))⟩,
   ⟨(some 30), .pick (.tmp 23) (.tmp 29) (.const (.bool false)), none⟩] []) c_sample_Rest_19
def c_sample_Rest_21 : MCode := (.region [⟨(some 33), .mv (.tmp 7), none⟩,
   ⟨(some 34), .mv (.tmp 8), none⟩,
   ⟨(some 35), .buildSlice [(.int .i64 0)] 1 [(0, 1, (.tmp 34))], none⟩,
   ⟨(some 36), .app 1 8 (.tmp 33) (.tmp 35), none⟩,
   ⟨(some 7), .mv (.tmp 36), none⟩] [])
def c_sample_Rest_17 : MCode := .seq c_sample_Rest_18 c_sample_Rest_21
def c_sample_Rest_16 : MCode := .seq (.region [⟨(some 18), .mv (.tmp 16), none⟩,
   ⟨(some 8), .mv (.tmp 18), none⟩] []) c_sample_Rest_17
def c_sample_Rest_15 : MCode := .block 1 c_sample_Rest_16
def c_sample_Rest_22 : MCode := (.region [⟨(some 37), .ar .add (.tmp 16) (.const (.int .i64 1)), none⟩,
   ⟨(some 16), .mv (.tmp 37), none⟩] [])
def c_sample_Rest_14 : MCode := .seq c_sample_Rest_15 c_sample_Rest_22
def c_sample_Rest_12 : MCode := .seq c_sample_Rest_13 c_sample_Rest_14
def c_sample_Rest_11 : MCode := .seq (.region [⟨(some 17), .ar .lss (.tmp 16) (.tmp 15), none⟩] []) c_sample_Rest_12
def c_sample_Rest_10 : MCode := .loop [1, 6, 7, 15, 16] c_sample_Rest_11
def c_sample_Rest_9 : MCode := .block 0 c_sample_Rest_10
def c_sample_Rest_8 : MCode := .seq (.region [⟨(some 15), .mv (.tmp 0), none⟩,
   ⟨(some 16), .mv (.const (.int .i64 0)), none⟩] []) c_sample_Rest_9
def c_sample_Rest_26 : MCode := .seq (.region [⟨(some 4), .mv (.const (.slice none 0 0)), none⟩,
   ⟨(some 5), .mv (.const (.int .i64 1)), none⟩] []) .ret
def c_sample_Rest_25 : MCode := .cond (.tmp 41) c_sample_Rest_26 .skip
def c_sample_Rest_24 : MCode := .seq (.region [⟨(some 38), .mv (.tmp 6), none⟩,
   ⟨(some 39), .mv (.tmp 1), none⟩,
   ⟨(some 40), .lenV (.tmp 39), none⟩,
   ⟨(some 41), .ar .lss (.tmp 38) (.tmp 40), none⟩] []) c_sample_Rest_25
def c_sample_Rest_27 : MCode := .seq (.region [⟨(some 42), .mv (.tmp 7), none⟩,
   ⟨(some 4), .mv (.tmp 42), none⟩,
   ⟨(some 5), .mv (.const (.int .i64 0)), none⟩] []) .ret
def c_sample_Rest_23 : MCode := .seq c_sample_Rest_24 c_sample_Rest_27
def c_sample_Rest_7 : MCode := .seq c_sample_Rest_8 c_sample_Rest_23
def c_sample_Rest_6 : MCode := .seq (.region [⟨(some 7), .mv (.const (.slice none 0 0)), none⟩] []) c_sample_Rest_7
def c_sample_Rest_5 : MCode := .seq (.region [⟨(some 6), .mv (.const (.int .i64 0)), none⟩] []) c_sample_Rest_6
def c_sample_Rest_1 : MCode := .seq c_sample_Rest_2 c_sample_Rest_5
def c_sample_Rest_0 : MCode := .seq (.region [⟨(some 4), .mv (.const (.slice none 0 0)), none⟩,
   ⟨(some 5), .mv (.const (.int .i64 0)), none⟩] []) c_sample_Rest_1
/-- trefoil/sample.Rest -/
def M_sample_Rest : MFun := ⟨2, c_sample_Rest_0, [.tmp 4, .tmp 5]⟩
abbrev F_sample_Rest : Nat := 13
set_option maxRecDepth 100000 in
theorem m_sample_Rest : InProg Try.prog 0 13 M_sample_Rest := ⟨Try.f13, [[1, 6, 7, 15, 16]], Try.func13, by kernel_rfl⟩
def c_prg_New_1 : MCode := .seq (.region [⟨(some 5), .loadN 32 (.tmp 2), none⟩,
   ⟨(some 6), .mv (.tmp 1), none⟩,
   ⟨(some 7), .build [(.int .u8 0), (.int .u8 0), (.int .u8 0), (.int .u8 0), (.int .u8 0), (.int .u8 0), (.int .u8 0), (.int .u8 0), (.int .u8 0), (.int .u8 0), (.int .u8 0), (.int .u8 0), (.int .u8 0), (.int .u8 0), (.int .u8 0), (.int .u8 0), (.int .u8 0), (.int .u8 0), (.int .u8 0), (.int .u8 0), (.int .u8 0), (.int .u8 0), (.int .u8 0), (.int .u8 0), (.int .u8 0), (.int .u8 0), (.int .u8 0), (.int .u8 0), (.int .u8 0), (.int .u8 0), (.int .u8 0), (.int .u8 0), (.int .u32 0), (.int .i64 0), (.bool false)] [(0, 32, (.tmp 5)), (32, 1, (.tmp 6)), (34, 1, (.const (.bool true)))], none⟩,
   ⟨(some 8), .box (.tmp 7), none⟩,
   ⟨(some 4), .mv (.tmp 8), none⟩] []) .ret
def c_prg_New_0 : MCode := .seq (.region [⟨(some 2), .box (.tmp 0), none⟩,
   ⟨(some 4), .mv (.const (.pointer none)), none⟩] []) c_prg_New_1
/-- trefoil/prg.New -/
def M_prg_New : MFun := ⟨2, c_prg_New_0, [.tmp 4]⟩
abbrev F_prg_New : Nat := 23
set_option maxRecDepth 100000 in
theorem m_prg_New : InProg Try.prog 0 23 M_prg_New := ⟨Try.f23, [], Try.func23, by kernel_rfl⟩
def c_prg_Source_Below_4 : MCode := .seq (.region [⟨(some 4), .mv (.const (.int .u64 0)), none⟩,
   ⟨(some 5), .mv (.const (.int .i64 3)), none⟩] []) .ret
def c_prg_Source_Below_3 : MCode := .cond (.tmp 17) c_prg_Source_Below_4 .skip
def c_prg_Source_Below_2 : MCode := .seq (.region [⟨(some 9), .mv (.tmp 0), none⟩,
   ⟨(some 10), .eq false .ptr (.tmp 9) (.const (.pointer none)), none⟩,
   ⟨(some 11), .mv (.tmp 10), none⟩,
   ⟨(some 12), .mv (.tmp 0), (some (11, false))⟩,
   ⟨(some 13), .nilCheck (.tmp 12), (some (11, false))⟩,
   ⟨(some 14), .fld 34 (.tmp 13), (some (11, false))⟩,
   ⟨(some 15), .load1 (.tmp 14), (some (11, false))⟩,
   ⟨(some 16), .un .not (.tmp 15), (some (11, false))⟩,
   ⟨(some 17), .pick (.tmp 11) (.const (.bool true)) (.tmp 16), none⟩] []) c_prg_Source_Below_3
def c_prg_Source_Below_8 : MCode := .seq (.region [⟨(some 4), .mv (.const (.int .u64 0)), none⟩,
   ⟨(some 5), .mv (.const (.int .i64 1)), none⟩] []) .ret
def c_prg_Source_Below_7 : MCode := .cond (.tmp 19) c_prg_Source_Below_8 .skip
def c_prg_Source_Below_6 : MCode := .seq (.region [⟨(some 18), .mv (.tmp 1), none⟩,
   ⟨(some 19), .ar .eql (.tmp 18) (.const (.int .u64 0)), none⟩] []) c_prg_Source_Below_7
def c_prg_Source_Below_16 : MCode := .cond (.tmp 23) .skip (.exit 0)
def c_prg_Source_Below_23 : MCode := .seq (.region [⟨(some 31), .mv (.tmp 8), none⟩,
   ⟨(some 4), .mv (.const (.int .u64 0)), none⟩,
   ⟨(some 5), .mv (.tmp 31), none⟩] []) .ret
def c_prg_Source_Below_22 : MCode := .cond (.tmp 30) c_prg_Source_Below_23 .skip
def c_prg_Source_Below_21 : MCode := .seq (.region [⟨(some 29), .mv (.tmp 8), none⟩,
   ⟨(some 30), .ar .neq (.tmp 29) (.const (.int .i64 0)), none⟩] []) c_prg_Source_Below_22
def c_prg_Source_Below_26 : MCode := .seq (.region [⟨(some 39), .mv (.tmp 7), none⟩,
   ⟨(some 40), .mv (.tmp 1), none⟩,
   ⟨(some 41), .ar .rem (.tmp 39) (.tmp 40), none⟩,
   ⟨(some 4), .mv (.tmp 41), none⟩,
   ⟨(some 5), .mv (.const (.int .i64 0)), none⟩] []) .ret
def c_prg_Source_Below_25 : MCode := .cond (.tmp 38) c_prg_Source_Below_26 .skip
def c_prg_Source_Below_24 : MCode := .seq (.region [⟨(some 32), .mv (.tmp 6), none⟩,
   ⟨(some 33), .ar .eql (.tmp 32) (.const (.int .u64 0)), none⟩,
   ⟨(some 34), .mv (.tmp 33), none⟩,
   ⟨(some 35), .mv (.tmp 7), (some (34, false))⟩,
   ⟨(some 36), .mv (.tmp 6), (some (34, false))⟩,
   ⟨(some 37), .ar .lss (.tmp 35) (.tmp 36), (some (34, false))⟩,
   ⟨(some 38), .pick (.tmp 34) (.const (.bool true)) (.tmp 37), none⟩] []) c_prg_Source_Below_25
def c_prg_Source_Below_20 : MCode := .seq c_prg_Source_Below_21 c_prg_Source_Below_24
def c_prg_Source_Below_19 : MCode := .seq (.region [⟨(some 25), .mv (.tmp 0), none⟩,
   ⟨(some 26), .call 38 [(.tmp 25)], none⟩,
   ⟨(some 24), .mv (.tmp 26), none⟩,
   ⟨(some 27), .ext (.tmp 24) 0, none⟩,
   ⟨(some 28), .ext (.tmp 24) 1, none⟩,
   ⟨(some 7), .mv (.tmp 27), none⟩,
   ⟨(some 8), .mv (.tmp 28), none⟩] []) c_prg_Source_Below_20
def c_prg_Source_Below_18 : MCode := .block 1 c_prg_Source_Below_19
def c_prg_Source_Below_27 : MCode := (.region [⟨(some 42), .ar .add (.tmp 22) (.const (.int .i64 1)), none⟩,
   ⟨(some 22), .mv (.tmp 42), none⟩] [])
def c_prg_Source_Below_17 : MCode := .seq c_prg_Source_Below_18 c_prg_Source_Below_27
def c_prg_Source_Below_15 : MCode := .seq c_prg_Source_Below_16 c_prg_Source_Below_17
def c_prg_Source_Below_14 : MCode := .seq (.region [⟨(some 23), .ar .lss (.tmp 22) (.const (.int .i64 64)), none⟩] []) c_prg_Source_Below_15
def c_prg_Source_Below_13 : MCode := .loop [0, 1, 6, 22] c_prg_Source_Below_14
def c_prg_Source_Below_12 : MCode := .block 0 c_prg_Source_Below_13
def c_prg_Source_Below_11 : MCode := .seq (.region [⟨(some 22), .mv (.const (.int .i64 0)), none⟩] []) c_prg_Source_Below_12
def c_prg_Source_Below_28 : MCode := .seq (.region [⟨(some 4), .mv (.const (.int .u64 0)), none⟩,
   ⟨(some 5), .mv (.const (.int .i64 24)), none⟩] []) .ret
def c_prg_Source_Below_10 : MCode := .seq c_prg_Source_Below_11 c_prg_Source_Below_28
def c_prg_Source_Below_9 : MCode := .seq (.region [⟨(some 20), .mv (.tmp 1), none⟩,
   ⟨(some 21), .call 37 [(.tmp 20)], none⟩,
   ⟨(some 6), .mv (.tmp 21), none⟩] []) c_prg_Source_Below_10
def c_prg_Source_Below_5 : MCode := .seq c_prg_Source_Below_6 c_prg_Source_Below_9
def c_prg_Source_Below_1 : MCode := .seq c_prg_Source_Below_2 c_prg_Source_Below_5
def c_prg_Source_Below_0 : MCode := .seq (.region [⟨(some 4), .mv (.const (.int .u64 0)), none⟩,
   ⟨(some 5), .mv (.const (.int .i64 0)), none⟩] []) c_prg_Source_Below_1
/-- (*trefoil/prg.Source).Below -/
def M_prg_Source_Below : MFun := ⟨2, c_prg_Source_Below_0, [.tmp 4, .tmp 5]⟩
abbrev F_prg_Source_Below : Nat := 24
set_option maxRecDepth 100000 in
theorem m_prg_Source_Below : InProg Try.prog 0 24 M_prg_Source_Below := ⟨Try.f24, [[0, 1, 6, 22]], Try.func24, by kernel_rfl⟩
def c_ref07_Below_4 : MCode := .seq (.region [⟨(some 16), .mv (.tmp 2), none⟩,
   ⟨(some 8), .mv (.const (.int .u64 0)), none⟩,
   ⟨(some 9), .mv (.tmp 16), none⟩,
   ⟨(some 10), .mv (.const (.int .i64 1)), none⟩] []) .ret
def c_ref07_Below_3 : MCode := .cond (.tmp 15) c_ref07_Below_4 .skip
def c_ref07_Below_2 : MCode := .seq (.region [⟨(some 14), .mv (.tmp 3), none⟩,
   ⟨(some 15), .ar .eql (.tmp 14) (.const (.int .u64 0)), none⟩] []) c_ref07_Below_3
def c_ref07_Below_11 : MCode := .cond (.tmp 18) .skip (.exit 0)
def c_ref07_Below_10 : MCode := .seq (.region [⟨(some 17), .mv (.tmp 11), none⟩,
   ⟨(some 18), .ar .lss (.tmp 17) (.const (.int .i64 64)), none⟩] []) c_ref07_Below_11
def c_ref07_Below_18 : MCode := .seq (.region [⟨(some 30), .mv (.tmp 2), none⟩,
   ⟨(some 31), .mv (.tmp 13), none⟩,
   ⟨(some 8), .mv (.const (.int .u64 0)), none⟩,
   ⟨(some 9), .mv (.tmp 30), none⟩,
   ⟨(some 10), .mv (.tmp 31), none⟩] []) .ret
def c_ref07_Below_17 : MCode := .cond (.tmp 29) c_ref07_Below_18 .skip
def c_ref07_Below_16 : MCode := .seq (.region [⟨(some 28), .mv (.tmp 13), none⟩,
   ⟨(some 29), .ar .neq (.tmp 28) (.const (.int .i64 0)), none⟩] []) c_ref07_Below_17
def c_ref07_Below_22 : MCode := .seq (.region [⟨(some 45), .mv (.tmp 12), none⟩,
   ⟨(some 46), .ixV 1 (.tmp 45) (.const (.int .i64 0)), none⟩,
   ⟨(some 47), .load1 (.tmp 46), none⟩,
   ⟨(some 48), .mv (.tmp 3), none⟩,
   ⟨(some 49), .ar .rem (.tmp 47) (.tmp 48), none⟩,
   ⟨(some 50), .mv (.tmp 2), none⟩,
   ⟨(some 8), .mv (.tmp 49), none⟩,
   ⟨(some 9), .mv (.tmp 50), none⟩,
   ⟨(some 10), .mv (.const (.int .i64 0)), none⟩] []) .ret
def c_ref07_Below_21 : MCode := .cond (.tmp 44) c_ref07_Below_22 .skip
def c_ref07_Below_20 : MCode := .seq (.region [⟨(some 34), .mv (.tmp 3), none⟩,
   ⟨(some 35), .call 40 [(.tmp 34)], none⟩,
   ⟨(some 36), .ar .eql (.tmp 35) (.const (.int .u64 0)), none⟩,
   ⟨(some 37), .mv (.tmp 36), none⟩,
   ⟨(some 38), .mv (.tmp 12), (some (37, false))⟩,
   ⟨(some 39), .ixV 1 (.tmp 38) (.const (.int .i64 0)), (some (37, false))⟩,
   ⟨(some 40), .load1 (.tmp 39), (some (37, false))⟩,
   ⟨(some 41), .mv (.tmp 3), (some (37, false))⟩,
   ⟨(some 42), .call 40 [(.tmp 41)], (some (37, false))⟩,
   ⟨(some 43), .ar .lss (.tmp 40) (.tmp 42), (some (37, false))⟩,
   ⟨(some 44), .pick (.tmp 37) (.const (.bool true)) (.tmp 43), none⟩] [(6, 8)]) c_ref07_Below_21
def c_ref07_Below_19 : MCode := .seq (.region [⟨(some 32), .mv (.tmp 2), none⟩,
   ⟨(some 33), .ar .add (.tmp 32) (.const (.int .i64 1)), none⟩,
   ⟨(some 2), .mv (.tmp 33), none⟩] []) c_ref07_Below_20
def c_ref07_Below_15 : MCode := .seq c_ref07_Below_16 c_ref07_Below_19
def c_ref07_Below_14 : MCode := .seq (.region [⟨(some 22), .loadN 32 (.tmp 4), none⟩,
   ⟨(some 23), .mv (.tmp 1), none⟩,
   ⟨(some 24), .mv (.tmp 2), none⟩,
   ⟨(some 25), .call 39 [(.tmp 22), (.tmp 23), (.tmp 24), (.const (.int .i64 1))], none⟩,
   ⟨(some 21), .mv (.tmp 25), none⟩,
   ⟨(some 26), .ext (.tmp 21) 0, none⟩,
   ⟨(some 27), .ext (.tmp 21) 1, none⟩,
   ⟨(some 12), .mv (.tmp 26), none⟩,
   ⟨(some 13), .mv (.tmp 27), none⟩] []) c_ref07_Below_15
def c_ref07_Below_13 : MCode := .block 1 c_ref07_Below_14
def c_ref07_Below_23 : MCode := (.region [⟨(some 19), .mv (.tmp 11), none⟩,
   ⟨(some 20), .ar .add (.tmp 19) (.const (.int .i64 1)), none⟩,
   ⟨(some 11), .mv (.tmp 20), none⟩] [])
def c_ref07_Below_12 : MCode := .seq c_ref07_Below_13 c_ref07_Below_23
def c_ref07_Below_9 : MCode := .seq c_ref07_Below_10 c_ref07_Below_12
def c_ref07_Below_8 : MCode := .loop [1, 2, 3, 4, 11] c_ref07_Below_9
def c_ref07_Below_7 : MCode := .block 0 c_ref07_Below_8
def c_ref07_Below_6 : MCode := .seq (.region [⟨(some 11), .mv (.const (.int .i64 0)), none⟩] []) c_ref07_Below_7
def c_ref07_Below_24 : MCode := .seq (.region [⟨(some 51), .mv (.tmp 2), none⟩,
   ⟨(some 8), .mv (.const (.int .u64 0)), none⟩,
   ⟨(some 9), .mv (.tmp 51), none⟩,
   ⟨(some 10), .mv (.const (.int .i64 24)), none⟩] []) .ret
def c_ref07_Below_5 : MCode := .seq c_ref07_Below_6 c_ref07_Below_24
def c_ref07_Below_1 : MCode := .seq c_ref07_Below_2 c_ref07_Below_5
def c_ref07_Below_0 : MCode := .seq (.region [⟨(some 4), .box (.tmp 0), none⟩,
   ⟨(some 8), .mv (.const (.int .u64 0)), none⟩,
   ⟨(some 9), .mv (.const (.int .i64 0)), none⟩,
   ⟨(some 10), .mv (.const (.int .i64 0)), none⟩] []) c_ref07_Below_1
/-- trefoil/trefoilref07.Below -/
def M_ref07_Below : MFun := ⟨4, c_ref07_Below_0, [.tmp 8, .tmp 9, .tmp 10]⟩
abbrev F_ref07_Below : Nat := 25
set_option maxRecDepth 100000 in
theorem m_ref07_Below : InProg Try.prog 0 25 M_ref07_Below := ⟨Try.f25, [[1, 2, 3, 4, 11]], Try.func25, by kernel_rfl⟩
def c_slices_Clip_int_int_1 : MCode := .seq (.region [⟨(some 3), .mv (.tmp 0), none⟩,
   ⟨(some 4), .mv (.tmp 0), none⟩,
   ⟨(some 5), .lenV (.tmp 4), none⟩,
   ⟨(some 6), .mv (.tmp 0), none⟩,
   ⟨(some 7), .lenV (.tmp 6), none⟩,
   ⟨(some 8), .slV 1 (.tmp 3) none (some (.tmp 5)) (some (.tmp 7)), none⟩,
   ⟨(some 2), .mv (.tmp 8), none⟩] []) .ret
def c_slices_Clip_int_int_0 : MCode := .seq (.region [⟨(some 2), .mv (.const (.slice none 0 0)), none⟩] []) c_slices_Clip_int_int_1
/-- slices.Clip[[]int,int] -/
def M_slices_Clip_int_int : MFun := ⟨1, c_slices_Clip_int_int_0, [.tmp 2]⟩
abbrev F_slices_Clip_int_int : Nat := 27
set_option maxRecDepth 100000 in
theorem m_slices_Clip_int_int : InProg Try.prog 0 27 M_slices_Clip_int_int := ⟨Try.f27, [], Try.func27, by kernel_rfl⟩
def c_prg_Cut_4 : MCode := .seq (.region [⟨(some 2), .mv (.const (.int .u64 0)), none⟩] []) .ret
def c_prg_Cut_3 : MCode := .cond (.tmp 4) c_prg_Cut_4 .skip
def c_prg_Cut_2 : MCode := .seq (.region [⟨(some 3), .mv (.tmp 0), none⟩,
   ⟨(some 4), .ar .eql (.tmp 3) (.const (.int .u64 0)), none⟩] []) c_prg_Cut_3
def c_prg_Cut_5 : MCode := .seq (.region [⟨(some 5), .mv (.tmp 0), none⟩,
   ⟨(some 6), .un .neg (.tmp 5), none⟩,
   ⟨(some 7), .mv (.tmp 0), none⟩,
   ⟨(some 8), .ar .rem (.tmp 6) (.tmp 7), none⟩,
   ⟨(some 9), .un .neg (.tmp 8), none⟩,
   ⟨(some 2), .mv (.tmp 9), none⟩] []) .ret
def c_prg_Cut_1 : MCode := .seq c_prg_Cut_2 c_prg_Cut_5
def c_prg_Cut_0 : MCode := .seq (.region [⟨(some 2), .mv (.const (.int .u64 0)), none⟩] []) c_prg_Cut_1
/-- trefoil/prg.Cut -/
def M_prg_Cut : MFun := ⟨1, c_prg_Cut_0, [.tmp 2]⟩
abbrev F_prg_Cut : Nat := 37
set_option maxRecDepth 100000 in
theorem m_prg_Cut : InProg Try.prog 0 37 M_prg_Cut := ⟨Try.f37, [], Try.func37, by kernel_rfl⟩
def c_prg_Source_Next_4 : MCode := .seq (.region [⟨(some 2), .mv (.const (.int .u64 0)), none⟩,
   ⟨(some 3), .mv (.const (.int .i64 3)), none⟩] []) .ret
def c_prg_Source_Next_3 : MCode := .cond (.tmp 14) c_prg_Source_Next_4 .skip
def c_prg_Source_Next_2 : MCode := .seq (.region [⟨(some 6), .mv (.tmp 0), none⟩,
   ⟨(some 7), .eq false .ptr (.tmp 6) (.const (.pointer none)), none⟩,
   ⟨(some 8), .mv (.tmp 7), none⟩,
   ⟨(some 9), .mv (.tmp 0), (some (8, false))⟩,
   ⟨(some 10), .nilCheck (.tmp 9), (some (8, false))⟩,
   ⟨(some 11), .fld 34 (.tmp 10), (some (8, false))⟩,
   ⟨(some 12), .load1 (.tmp 11), (some (8, false))⟩,
   ⟨(some 13), .un .not (.tmp 12), (some (8, false))⟩,
   ⟨(some 14), .pick (.tmp 8) (.const (.bool true)) (.tmp 13), none⟩] []) c_prg_Source_Next_3
def c_prg_Source_Next_9 : MCode := .seq (.region [⟨(some 33), .mv (.tmp 5), none⟩,
   ⟨(some 2), .mv (.const (.int .u64 0)), none⟩,
   ⟨(some 3), .mv (.tmp 33), none⟩] []) .ret
def c_prg_Source_Next_8 : MCode := .cond (.tmp 32) c_prg_Source_Next_9 .skip
def c_prg_Source_Next_7 : MCode := .seq (.region [⟨(some 31), .mv (.tmp 5), none⟩,
   ⟨(some 32), .ar .neq (.tmp 31) (.const (.int .i64 0)), none⟩] []) c_prg_Source_Next_8
def c_prg_Source_Next_11 : MCode := .seq (.region [⟨(some 41), .mv (.tmp 4), none⟩,
   ⟨(some 42), .ixV 1 (.tmp 41) (.const (.int .i64 0)), none⟩,
   ⟨(some 43), .load1 (.tmp 42), none⟩,
   ⟨(some 2), .mv (.tmp 43), none⟩,
   ⟨(some 3), .mv (.const (.int .i64 0)), none⟩] []) .ret
def c_prg_Source_Next_10 : MCode := .seq (.region [⟨(some 34), .mv (.tmp 0), none⟩,
   ⟨(some 35), .nilCheck (.tmp 34), none⟩,
   ⟨(some 36), .fld 33 (.tmp 35), none⟩,
   ⟨(some 37), .load1 (.tmp 36), none⟩,
   ⟨(some 38), .ar .add (.tmp 37) (.const (.int .i64 1)), none⟩,
   ⟨(some 39), .nilCheck (.tmp 34), none⟩,
   ⟨(some 40), .fld 33 (.tmp 39), none⟩,
   ⟨none, .store 1 (.tmp 40) (.tmp 38), none⟩] []) c_prg_Source_Next_11
def c_prg_Source_Next_6 : MCode := .seq c_prg_Source_Next_7 c_prg_Source_Next_10
def c_prg_Source_Next_5 : MCode := .seq (.region [⟨(some 16), .mv (.tmp 0), none⟩,
   ⟨(some 17), .nilCheck (.tmp 16), none⟩,
   ⟨(some 18), .fld 0 (.tmp 17), none⟩,
   ⟨(some 19), .loadN 32 (.tmp 18), none⟩,
   ⟨(some 20), .mv (.tmp 0), none⟩,
   ⟨(some 21), .nilCheck (.tmp 20), none⟩,
   ⟨(some 22), .fld 32 (.tmp 21), none⟩,
   ⟨(some 23), .load1 (.tmp 22), none⟩,
   ⟨(some 24), .mv (.tmp 0), none⟩,
   ⟨(some 25), .nilCheck (.tmp 24), none⟩,
   ⟨(some 26), .fld 33 (.tmp 25), none⟩,
   ⟨(some 27), .load1 (.tmp 26), none⟩,
   ⟨(some 28), .call 60 [(.tmp 19), (.tmp 23), (.tmp 27), (.const (.int .i64 1))], none⟩,
   ⟨(some 15), .mv (.tmp 28), none⟩,
   ⟨(some 29), .ext (.tmp 15) 0, none⟩,
   ⟨(some 30), .ext (.tmp 15) 1, none⟩,
   ⟨(some 4), .mv (.tmp 29), none⟩,
   ⟨(some 5), .mv (.tmp 30), none⟩] []) c_prg_Source_Next_6
def c_prg_Source_Next_1 : MCode := .seq c_prg_Source_Next_2 c_prg_Source_Next_5
def c_prg_Source_Next_0 : MCode := .seq (.region [⟨(some 2), .mv (.const (.int .u64 0)), none⟩,
   ⟨(some 3), .mv (.const (.int .i64 0)), none⟩] []) c_prg_Source_Next_1
/-- (*trefoil/prg.Source).Next -/
def M_prg_Source_Next : MFun := ⟨1, c_prg_Source_Next_0, [.tmp 2, .tmp 3]⟩
abbrev F_prg_Source_Next : Nat := 38
set_option maxRecDepth 100000 in
theorem m_prg_Source_Next : InProg Try.prog 0 38 M_prg_Source_Next := ⟨Try.f38, [], Try.func38, by kernel_rfl⟩
def c_ref07_Words_4 : MCode := .seq (.region [⟨(some 8), .mv (.const (.slice none 0 0)), none⟩,
   ⟨(some 9), .mv (.const (.int .i64 2)), none⟩] []) .ret
def c_ref07_Words_3 : MCode := .cond (.tmp 29) c_ref07_Words_4 .skip
def c_ref07_Words_2 : MCode := .seq (.region [⟨(some 16), .mv (.tmp 2), none⟩,
   ⟨(some 17), .ar .lss (.tmp 16) (.const (.int .i64 0)), none⟩,
   ⟨(some 18), .mv (.tmp 17), none⟩,
   ⟨(some 19), .mv (.tmp 3), (some (18, false))⟩,
   ⟨(some 20), .ar .lss (.tmp 19) (.const (.int .i64 0)), (some (18, false))⟩,
   ⟨(some 21), .pick (.tmp 18) (.const (.bool true)) (.tmp 20), none⟩,
   ⟨(some 22), .mv (.tmp 21), none⟩,
   ⟨(some 23), .mv (.tmp 3), (some (22, false))⟩,
   ⟨(some 24), .ar .gtr (.tmp 23) (.const (.int .i64 4096)), (some (22, false))⟩,
   ⟨(some 25), .pick (.tmp 22) (.const (.bool true)) (.tmp 24), none⟩,
   ⟨(some 26), .mv (.tmp 25), none⟩,
   ⟨(some 27), .mv (.tmp 2), (some (26, false))⟩,
   ⟨(some 28), .ar .gtr (.tmp 27) (.const (.int .i64 134217728)), (some (26, false))⟩,
   ⟨(some 29), .pick (.tmp 26) (.const (.bool true)) (.tmp 28), none⟩] []) c_ref07_Words_3
def c_ref07_Words_9 : MCode := .seq (.region [⟨(some 42), .mv (.tmp 11), none⟩,
   ⟨(some 8), .mv (.const (.slice none 0 0)), none⟩,
   ⟨(some 9), .mv (.tmp 42), none⟩] []) .ret
def c_ref07_Words_8 : MCode := .cond (.tmp 41) c_ref07_Words_9 .skip
def c_ref07_Words_7 : MCode := .seq (.region [⟨(some 40), .mv (.tmp 11), none⟩,
   ⟨(some 41), .ar .neq (.tmp 40) (.const (.int .i64 0)), none⟩] []) c_ref07_Words_8
def c_ref07_Words_17 : MCode := .cond (.tmp 45) .skip (.exit 0)
def c_ref07_Words_16 : MCode := .seq (.region [⟨(some 43), .mv (.tmp 13), none⟩,
   ⟨(some 44), .mv (.tmp 3), none⟩,
   ⟨(some 45), .ar .lss (.tmp 43) (.tmp 44), none⟩] []) c_ref07_Words_17
def c_ref07_Words_27 : MCode := .cond (.tmp 49) .skip (.exit 2)
def c_ref07_Words_26 : MCode := .seq (.region [⟨(some 48), .mv (.tmp 15), none⟩,
   ⟨(some 49), .ar .geq (.tmp 48) (.const (.int .i64 0)), none⟩] []) c_ref07_Words_27
def c_ref07_Words_30 : MCode := (.region [⟨(some 52), .mv (.tmp 14), none⟩,
   ⟨(some 53), .ar .mul (.const (.int .u64 256)) (.tmp 52), none⟩,
   ⟨(some 54), .mv (.tmp 10), none⟩,
   ⟨(some 55), .mv (.tmp 13), none⟩,
   ⟨(some 56), .ar .mul (.const (.int .i64 8)) (.tmp 55), none⟩,
   ⟨(some 57), .mv (.tmp 15), none⟩,
   ⟨(some 58), .ar .add (.tmp 56) (.tmp 57), none⟩,
   ⟨(some 59), .ixS (.tmp 54) (.tmp 58), none⟩,
   ⟨(some 60), .conv .u64 (.tmp 59), none⟩,
   ⟨(some 61), .ar .add (.tmp 53) (.tmp 60), none⟩,
   ⟨(some 14), .mv (.tmp 61), none⟩] [])
def c_ref07_Words_29 : MCode := .block 3 c_ref07_Words_30
def c_ref07_Words_31 : MCode := (.region [⟨(some 50), .mv (.tmp 15), none⟩,
   ⟨(some 51), .ar .sub (.tmp 50) (.const (.int .i64 1)), none⟩,
   ⟨(some 15), .mv (.tmp 51), none⟩] [])
def c_ref07_Words_28 : MCode := .seq c_ref07_Words_29 c_ref07_Words_31
def c_ref07_Words_25 : MCode := .seq c_ref07_Words_26 c_ref07_Words_28
def c_ref07_Words_24 : MCode := .loop [3, 10, 12, 13, 14, 15] c_ref07_Words_25
def c_ref07_Words_23 : MCode := .block 2 c_ref07_Words_24
def c_ref07_Words_22 : MCode := .seq (.region [⟨(some 15), .mv (.const (.int .i64 7)), none⟩] []) c_ref07_Words_23
def c_ref07_Words_32 : MCode := (.region [⟨(some 62), .mv (.tmp 12), none⟩,
   ⟨(some 63), .mv (.tmp 14), none⟩,
   ⟨(some 64), .buildSlice [(.int .u64 0)] 1 [(0, 1, (.tmp 63))], none⟩,
   ⟨(some 65), .app 1 8 (.tmp 62) (.tmp 64), none⟩,
   ⟨(some 12), .mv (.tmp 65), none⟩] [])
def c_ref07_Words_21 : MCode := .seq c_ref07_Words_22 c_ref07_Words_32
def c_ref07_Words_20 : MCode := .seq (.region [⟨(some 14), .mv (.const (.int .u64 0)), none⟩] []) c_ref07_Words_21
def c_ref07_Words_19 : MCode := .block 1 c_ref07_Words_20
def c_ref07_Words_33 : MCode := (.region [⟨(some 46), .mv (.tmp 13), none⟩,
   ⟨(some 47), .ar .add (.tmp 46) (.const (.int .i64 1)), none⟩,
   ⟨(some 13), .mv (.tmp 47), none⟩] [])
def c_ref07_Words_18 : MCode := .seq c_ref07_Words_19 c_ref07_Words_33
def c_ref07_Words_15 : MCode := .seq c_ref07_Words_16 c_ref07_Words_18
def c_ref07_Words_14 : MCode := .loop [3, 10, 12, 13] c_ref07_Words_15
def c_ref07_Words_13 : MCode := .block 0 c_ref07_Words_14
def c_ref07_Words_12 : MCode := .seq (.region [⟨(some 13), .mv (.const (.int .i64 0)), none⟩] []) c_ref07_Words_13
def c_ref07_Words_34 : MCode := .seq (.region [⟨(some 66), .mv (.tmp 12), none⟩,
   ⟨(some 8), .mv (.tmp 66), none⟩,
   ⟨(some 9), .mv (.const (.int .i64 0)), none⟩] []) .ret
def c_ref07_Words_11 : MCode := .seq c_ref07_Words_12 c_ref07_Words_34
def c_ref07_Words_10 : MCode := .seq (.region [⟨(some 12), .mv (.const (.slice none 0 0)), none⟩] []) c_ref07_Words_11
def c_ref07_Words_6 : MCode := .seq c_ref07_Words_7 c_ref07_Words_10
def c_ref07_Words_5 : MCode := .seq (.region [⟨(some 31), .loadN 32 (.tmp 4), none⟩,
   ⟨(some 32), .mv (.tmp 1), none⟩,
   ⟨(some 33), .mv (.tmp 2), none⟩,
   ⟨(some 34), .ar .mul (.const (.int .i64 8)) (.tmp 33), none⟩,
   ⟨(some 35), .mv (.tmp 3), none⟩,
   ⟨(some 36), .ar .mul (.const (.int .i64 8)) (.tmp 35), none⟩,
   ⟨(some 37), .call 61 [(.tmp 31), (.tmp 32), (.tmp 34), (.tmp 36)], none⟩,
   ⟨(some 30), .mv (.tmp 37), none⟩,
   ⟨(some 38), .ext (.tmp 30) 0, none⟩,
   ⟨(some 39), .ext (.tmp 30) 1, none⟩,
   ⟨(some 10), .mv (.tmp 38), none⟩,
   ⟨(some 11), .mv (.tmp 39), none⟩] []) c_ref07_Words_6
def c_ref07_Words_1 : MCode := .seq c_ref07_Words_2 c_ref07_Words_5
def c_ref07_Words_0 : MCode := .seq (.region [⟨(some 4), .box (.tmp 0), none⟩,
   ⟨(some 8), .mv (.const (.slice none 0 0)), none⟩,
   ⟨(some 9), .mv (.const (.int .i64 0)), none⟩] []) c_ref07_Words_1
/-- trefoil/trefoilref07.Words -/
def M_ref07_Words : MFun := ⟨4, c_ref07_Words_0, [.tmp 8, .tmp 9]⟩
abbrev F_ref07_Words : Nat := 39
set_option maxRecDepth 100000 in
theorem m_ref07_Words : InProg Try.prog 0 39 M_ref07_Words := ⟨Try.f39, [[3, 10, 12, 13], [3, 10, 12, 13, 14, 15]], Try.func39, by kernel_rfl⟩
def c_ref07_Cut_4 : MCode := .seq (.region [⟨(some 2), .mv (.const (.int .u64 0)), none⟩] []) .ret
def c_ref07_Cut_3 : MCode := .cond (.tmp 5) c_ref07_Cut_4 .skip
def c_ref07_Cut_2 : MCode := .seq (.region [⟨(some 4), .mv (.tmp 0), none⟩,
   ⟨(some 5), .ar .eql (.tmp 4) (.const (.int .u64 0)), none⟩] []) c_ref07_Cut_3
def c_ref07_Cut_9 : MCode := .seq (.region [⟨(some 2), .mv (.const (.int .u64 0)), none⟩] []) .ret
def c_ref07_Cut_8 : MCode := .cond (.tmp 11) c_ref07_Cut_9 .skip
def c_ref07_Cut_7 : MCode := .seq (.region [⟨(some 9), .mv (.tmp 3), none⟩,
   ⟨(some 10), .mv (.tmp 0), none⟩,
   ⟨(some 11), .ar .eql (.tmp 9) (.tmp 10), none⟩] []) c_ref07_Cut_8
def c_ref07_Cut_10 : MCode := .seq (.region [⟨(some 12), .mv (.tmp 3), none⟩,
   ⟨(some 13), .ar .sub (.const (.int .u64 0)) (.tmp 12), none⟩,
   ⟨(some 2), .mv (.tmp 13), none⟩] []) .ret
def c_ref07_Cut_6 : MCode := .seq c_ref07_Cut_7 c_ref07_Cut_10
def c_ref07_Cut_5 : MCode := .seq (.region [⟨(some 6), .mv (.tmp 0), none⟩,
   ⟨(some 7), .ar .rem (.const (.int .u64 18446744073709551615)) (.tmp 6), none⟩,
   ⟨(some 8), .ar .add (.tmp 7) (.const (.int .u64 1)), none⟩,
   ⟨(some 3), .mv (.tmp 8), none⟩] []) c_ref07_Cut_6
def c_ref07_Cut_1 : MCode := .seq c_ref07_Cut_2 c_ref07_Cut_5
def c_ref07_Cut_0 : MCode := .seq (.region [⟨(some 2), .mv (.const (.int .u64 0)), none⟩] []) c_ref07_Cut_1
/-- trefoil/trefoilref07.Cut -/
def M_ref07_Cut : MFun := ⟨1, c_ref07_Cut_0, [.tmp 2]⟩
abbrev F_ref07_Cut : Nat := 40
set_option maxRecDepth 100000 in
theorem m_ref07_Cut : InProg Try.prog 0 40 M_ref07_Cut := ⟨Try.f40, [], Try.func40, by kernel_rfl⟩
def c_prg_Words_4 : MCode := .seq (.region [⟨(some 8), .mv (.const (.slice none 0 0)), none⟩,
   ⟨(some 9), .mv (.const (.int .i64 2)), none⟩] []) .ret
def c_prg_Words_3 : MCode := .cond (.tmp 28) c_prg_Words_4 .skip
def c_prg_Words_2 : MCode := .seq (.region [⟨(some 15), .mv (.tmp 2), none⟩,
   ⟨(some 16), .ar .lss (.tmp 15) (.const (.int .i64 0)), none⟩,
   ⟨(some 17), .mv (.tmp 16), none⟩,
   ⟨(some 18), .mv (.tmp 3), (some (17, false))⟩,
   ⟨(some 19), .ar .lss (.tmp 18) (.const (.int .i64 0)), (some (17, false))⟩,
   ⟨(some 20), .pick (.tmp 17) (.const (.bool true)) (.tmp 19), none⟩,
   ⟨(some 21), .mv (.tmp 20), none⟩,
   ⟨(some 22), .mv (.tmp 2), (some (21, false))⟩,
   ⟨(some 23), .ar .gtr (.tmp 22) (.const (.int .i64 134217728)), (some (21, false))⟩,
   ⟨(some 24), .pick (.tmp 21) (.const (.bool true)) (.tmp 23), none⟩,
   ⟨(some 25), .mv (.tmp 24), none⟩,
   ⟨(some 26), .mv (.tmp 3), (some (25, false))⟩,
   ⟨(some 27), .ar .gtr (.tmp 26) (.const (.int .i64 4096)), (some (25, false))⟩,
   ⟨(some 28), .pick (.tmp 25) (.const (.bool true)) (.tmp 27), none⟩] []) c_prg_Words_3
def c_prg_Words_9 : MCode := .seq (.region [⟨(some 41), .mv (.tmp 11), none⟩,
   ⟨(some 8), .mv (.const (.slice none 0 0)), none⟩,
   ⟨(some 9), .mv (.tmp 41), none⟩] []) .ret
def c_prg_Words_8 : MCode := .cond (.tmp 40) c_prg_Words_9 .skip
def c_prg_Words_7 : MCode := .seq (.region [⟨(some 39), .mv (.tmp 11), none⟩,
   ⟨(some 40), .ar .neq (.tmp 39) (.const (.int .i64 0)), none⟩] []) c_prg_Words_8
def c_prg_Words_17 : MCode := .cond (.tmp 47) .skip (.exit 0)
def c_prg_Words_26 : MCode := .cond (.tmp 50) .skip (.exit 2)
def c_prg_Words_30 : MCode := (.region [⟨(some 52), .mv (.tmp 12), none⟩,
   ⟨(some 53), .mv (.tmp 13), none⟩,
   ⟨(some 54), .ixV 1 (.tmp 52) (.tmp 53), none⟩,
   ⟨(some 55), .load1 (.tmp 54), none⟩,
   ⟨(some 56), .mv (.tmp 10), none⟩,
   ⟨(some 57), .mv (.tmp 13), none⟩,
   ⟨(some 58), .ar .mul (.const (.int .i64 8)) (.tmp 57), none⟩,
   ⟨(some 59), .mv (.tmp 14), none⟩,
   ⟨(some 60), .ar .add (.tmp 58) (.tmp 59), none⟩,
   ⟨(some 61), .ixS (.tmp 56) (.tmp 60), none⟩,
   ⟨(some 62), .conv .u64 (.tmp 61), none⟩,
   ⟨(some 63), .mv (.tmp 14), none⟩,
   ⟨(some 64), .ar .mul (.const (.int .i64 8)) (.tmp 63), none⟩,
   ⟨(some 65), .conv .u64 (.tmp 64), none⟩,
   ⟨(some 66), .ar .shl (.tmp 62) (.tmp 65), none⟩,
   ⟨(some 67), .ar .or (.tmp 55) (.tmp 66), none⟩,
   ⟨(some 68), .ixV 1 (.tmp 52) (.tmp 53), none⟩,
   ⟨none, .store 1 (.tmp 68) (.tmp 67), none⟩] [])
def c_prg_Words_29 : MCode := .seq (.region [⟨(some 51), .mv (.tmp 49), none⟩,
   ⟨(some 14), .mv (.tmp 51), none⟩] []) c_prg_Words_30
def c_prg_Words_28 : MCode := .block 3 c_prg_Words_29
def c_prg_Words_31 : MCode := (.region [⟨(some 69), .ar .add (.tmp 49) (.const (.int .i64 1)), none⟩,
   ⟨(some 49), .mv (.tmp 69), none⟩] [])
def c_prg_Words_27 : MCode := .seq c_prg_Words_28 c_prg_Words_31
def c_prg_Words_25 : MCode := .seq c_prg_Words_26 c_prg_Words_27
def c_prg_Words_24 : MCode := .seq (.region [⟨(some 50), .ar .lss (.tmp 49) (.const (.int .i64 8)), none⟩] []) c_prg_Words_25
def c_prg_Words_23 : MCode := .loop [10, 12, 13, 45, 46, 49] c_prg_Words_24
def c_prg_Words_22 : MCode := .block 2 c_prg_Words_23
def c_prg_Words_21 : MCode := .seq (.region [⟨(some 49), .mv (.const (.int .i64 0)), none⟩] []) c_prg_Words_22
def c_prg_Words_20 : MCode := .seq (.region [⟨(some 48), .mv (.tmp 46), none⟩,
   ⟨(some 13), .mv (.tmp 48), none⟩] []) c_prg_Words_21
def c_prg_Words_19 : MCode := .block 1 c_prg_Words_20
def c_prg_Words_32 : MCode := (.region [⟨(some 70), .ar .add (.tmp 46) (.const (.int .i64 1)), none⟩,
   ⟨(some 46), .mv (.tmp 70), none⟩] [])
def c_prg_Words_18 : MCode := .seq c_prg_Words_19 c_prg_Words_32
def c_prg_Words_16 : MCode := .seq c_prg_Words_17 c_prg_Words_18
def c_prg_Words_15 : MCode := .seq (.region [⟨(some 47), .ar .lss (.tmp 46) (.tmp 45), none⟩] []) c_prg_Words_16
def c_prg_Words_14 : MCode := .loop [10, 12, 45, 46] c_prg_Words_15
def c_prg_Words_13 : MCode := .block 0 c_prg_Words_14
def c_prg_Words_12 : MCode := .seq (.region [⟨(some 44), .mv (.tmp 12), none⟩,
   ⟨(some 45), .lenV (.tmp 44), none⟩,
   ⟨(some 46), .mv (.const (.int .i64 0)), none⟩] []) c_prg_Words_13
def c_prg_Words_33 : MCode := .seq (.region [⟨(some 71), .mv (.tmp 12), none⟩,
   ⟨(some 8), .mv (.tmp 71), none⟩,
   ⟨(some 9), .mv (.const (.int .i64 0)), none⟩] []) .ret
def c_prg_Words_11 : MCode := .seq c_prg_Words_12 c_prg_Words_33
def c_prg_Words_10 : MCode := .seq (.region [⟨(some 42), .mv (.tmp 3), none⟩,
   ⟨(some 43), .mkSl 8 [(.int .u64 0)] (.tmp 42) (.tmp 42), none⟩,
   ⟨(some 12), .mv (.tmp 43), none⟩] []) c_prg_Words_11
def c_prg_Words_6 : MCode := .seq c_prg_Words_7 c_prg_Words_10
def c_prg_Words_5 : MCode := .seq (.region [⟨(some 30), .loadN 32 (.tmp 4), none⟩,
   ⟨(some 31), .mv (.tmp 1), none⟩,
   ⟨(some 32), .mv (.tmp 2), none⟩,
   ⟨(some 33), .ar .mul (.const (.int .i64 8)) (.tmp 32), none⟩,
   ⟨(some 34), .mv (.tmp 3), none⟩,
   ⟨(some 35), .ar .mul (.const (.int .i64 8)) (.tmp 34), none⟩,
   ⟨(some 36), .call 83 [(.tmp 30), (.tmp 31), (.tmp 33), (.tmp 35)], none⟩,
   ⟨(some 29), .mv (.tmp 36), none⟩,
   ⟨(some 37), .ext (.tmp 29) 0, none⟩,
   ⟨(some 38), .ext (.tmp 29) 1, none⟩,
   ⟨(some 10), .mv (.tmp 37), none⟩,
   ⟨(some 11), .mv (.tmp 38), none⟩] []) c_prg_Words_6
def c_prg_Words_1 : MCode := .seq c_prg_Words_2 c_prg_Words_5
def c_prg_Words_0 : MCode := .seq (.region [⟨(some 4), .box (.tmp 0), none⟩,
   ⟨(some 8), .mv (.const (.slice none 0 0)), none⟩,
   ⟨(some 9), .mv (.const (.int .i64 0)), none⟩] []) c_prg_Words_1
/-- trefoil/prg.Words -/
def M_prg_Words : MFun := ⟨4, c_prg_Words_0, [.tmp 8, .tmp 9]⟩
abbrev F_prg_Words : Nat := 60
set_option maxRecDepth 100000 in
theorem m_prg_Words : InProg Try.prog 0 60 M_prg_Words := ⟨Try.f60, [[10, 12, 45, 46], [10, 12, 13, 45, 46, 49]], Try.func60, by kernel_rfl⟩
def c_ref07_Bytes_4 : MCode := .seq (.region [⟨(some 8), .mv (.const (.string ⟨#[]⟩)), none⟩,
   ⟨(some 9), .mv (.const (.int .i64 2)), none⟩] []) .ret
def c_ref07_Bytes_3 : MCode := .cond (.tmp 29) c_ref07_Bytes_4 .skip
def c_ref07_Bytes_2 : MCode := .seq (.region [⟨(some 14), .mv (.tmp 2), none⟩,
   ⟨(some 15), .ar .lss (.tmp 14) (.const (.int .i64 0)), none⟩,
   ⟨(some 16), .mv (.tmp 15), none⟩,
   ⟨(some 17), .mv (.tmp 3), (some (16, false))⟩,
   ⟨(some 18), .ar .lss (.tmp 17) (.const (.int .i64 0)), (some (16, false))⟩,
   ⟨(some 19), .pick (.tmp 16) (.const (.bool true)) (.tmp 18), none⟩,
   ⟨(some 20), .mv (.tmp 19), none⟩,
   ⟨(some 21), .mv (.tmp 3), (some (20, false))⟩,
   ⟨(some 22), .ar .gtr (.tmp 21) (.const (.int .i64 32768)), (some (20, false))⟩,
   ⟨(some 23), .pick (.tmp 20) (.const (.bool true)) (.tmp 22), none⟩,
   ⟨(some 24), .mv (.tmp 23), none⟩,
   ⟨(some 25), .mv (.tmp 2), (some (24, false))⟩,
   ⟨(some 26), .mv (.tmp 3), (some (24, false))⟩,
   ⟨(some 27), .ar .sub (.const (.int .i64 1073741824)) (.tmp 26), (some (24, false))⟩,
   ⟨(some 28), .ar .gtr (.tmp 25) (.tmp 27), (some (24, false))⟩,
   ⟨(some 29), .pick (.tmp 24) (.const (.bool true)) (.tmp 28), none⟩] []) c_ref07_Bytes_3
def c_ref07_Bytes_12 : MCode := .cond (.tmp 38) .skip (.exit 0)
def c_ref07_Bytes_11 : MCode := .seq (.region [⟨(some 32), .mv (.tmp 10), none⟩,
   ⟨(some 33), .lenS (.tmp 32), none⟩,
   ⟨(some 34), .mv (.tmp 2), none⟩,
   ⟨(some 35), .ar .rem (.tmp 34) (.const (.int .i64 64)), none⟩,
   ⟨(some 36), .mv (.tmp 3), none⟩,
   ⟨(some 37), .ar .add (.tmp 35) (.tmp 36), none⟩,
   ⟨(some 38), .ar .lss (.tmp 33) (.tmp 37), none⟩] []) c_ref07_Bytes_12
def c_ref07_Bytes_16 : MCode := (.region [⟨(some 50), .mv (.tmp 10), none⟩,
   ⟨(some 51), .mv (.tmp 12), none⟩,
   ⟨(some 52), .ar .add (.tmp 50) (.tmp 51), none⟩,
   ⟨(some 10), .mv (.tmp 52), none⟩] [])
def c_ref07_Bytes_15 : MCode := .seq (.region [⟨(some 42), .loadN 32 (.tmp 4), none⟩,
   ⟨(some 43), .mv (.tmp 1), none⟩,
   ⟨(some 44), .call 85 [(.tmp 43), (.const (.int .u64 0))], none⟩,
   ⟨(some 45), .mv (.tmp 11), none⟩,
   ⟨(some 46), .conv .u32 (.tmp 45), none⟩,
   ⟨(some 47), .call 84 [(.tmp 42), (.tmp 44), (.tmp 46)], none⟩,
   ⟨(some 41), .mv (.tmp 47), none⟩,
   ⟨(some 48), .ext (.tmp 41) 0, none⟩,
   ⟨(some 49), .ext (.tmp 41) 1, none⟩,
   ⟨(some 12), .mv (.tmp 48), none⟩,
   ⟨(some 13), .mv (.tmp 49), none⟩] [(0, 2)]) c_ref07_Bytes_16
def c_ref07_Bytes_14 : MCode := .block 1 c_ref07_Bytes_15
def c_ref07_Bytes_17 : MCode := (.region [⟨(some 39), .mv (.tmp 11), none⟩,
   ⟨(some 40), .ar .add (.tmp 39) (.const (.int .i64 1)), none⟩,
   ⟨(some 11), .mv (.tmp 40), none⟩] [])
def c_ref07_Bytes_13 : MCode := .seq c_ref07_Bytes_14 c_ref07_Bytes_17
def c_ref07_Bytes_10 : MCode := .seq c_ref07_Bytes_11 c_ref07_Bytes_13
def c_ref07_Bytes_9 : MCode := .loop [1, 2, 3, 4, 10, 11] c_ref07_Bytes_10
def c_ref07_Bytes_8 : MCode := .block 0 c_ref07_Bytes_9
def c_ref07_Bytes_7 : MCode := .seq (.region [⟨(some 30), .mv (.tmp 2), none⟩,
   ⟨(some 31), .ar .quo (.tmp 30) (.const (.int .i64 64)), none⟩,
   ⟨(some 11), .mv (.tmp 31), none⟩] []) c_ref07_Bytes_8
def c_ref07_Bytes_18 : MCode := .seq (.region [⟨(some 53), .mv (.tmp 10), none⟩,
   ⟨(some 54), .mv (.tmp 2), none⟩,
   ⟨(some 55), .ar .rem (.tmp 54) (.const (.int .i64 64)), none⟩,
   ⟨(some 56), .slS (.tmp 53) (some (.tmp 55)) none, none⟩,
   ⟨(some 57), .mv (.tmp 3), none⟩,
   ⟨(some 58), .slS (.tmp 56) none (some (.tmp 57)), none⟩,
   ⟨(some 8), .mv (.tmp 58), none⟩,
   ⟨(some 9), .mv (.const (.int .i64 0)), none⟩] []) .ret
def c_ref07_Bytes_6 : MCode := .seq c_ref07_Bytes_7 c_ref07_Bytes_18
def c_ref07_Bytes_5 : MCode := .seq (.region [⟨(some 10), .mv (.const (.string ⟨#[]⟩)), none⟩] []) c_ref07_Bytes_6
def c_ref07_Bytes_1 : MCode := .seq c_ref07_Bytes_2 c_ref07_Bytes_5
def c_ref07_Bytes_0 : MCode := .seq (.region [⟨(some 4), .box (.tmp 0), none⟩,
   ⟨(some 8), .mv (.const (.string ⟨#[]⟩)), none⟩,
   ⟨(some 9), .mv (.const (.int .i64 0)), none⟩] []) c_ref07_Bytes_1
/-- trefoil/trefoilref07.Bytes -/
def M_ref07_Bytes : MFun := ⟨4, c_ref07_Bytes_0, [.tmp 8, .tmp 9]⟩
abbrev F_ref07_Bytes : Nat := 61
set_option maxRecDepth 100000 in
theorem m_ref07_Bytes : InProg Try.prog 0 61 M_ref07_Bytes := ⟨Try.f61, [[1, 2, 3, 4, 10, 11]], Try.func61, by kernel_rfl⟩
def c_prg_Bytes_4 : MCode := .seq (.region [⟨(some 8), .mv (.const (.string ⟨#[]⟩)), none⟩,
   ⟨(some 9), .mv (.const (.int .i64 2)), none⟩] []) .ret
def c_prg_Bytes_3 : MCode := .cond (.tmp 28) c_prg_Bytes_4 .skip
def c_prg_Bytes_2 : MCode := .seq (.region [⟨(some 13), .mv (.tmp 2), none⟩,
   ⟨(some 14), .ar .lss (.tmp 13) (.const (.int .i64 0)), none⟩,
   ⟨(some 15), .mv (.tmp 14), none⟩,
   ⟨(some 16), .mv (.tmp 3), (some (15, false))⟩,
   ⟨(some 17), .ar .lss (.tmp 16) (.const (.int .i64 0)), (some (15, false))⟩,
   ⟨(some 18), .pick (.tmp 15) (.const (.bool true)) (.tmp 17), none⟩,
   ⟨(some 19), .mv (.tmp 18), none⟩,
   ⟨(some 20), .mv (.tmp 3), (some (19, false))⟩,
   ⟨(some 21), .ar .gtr (.tmp 20) (.const (.int .i64 32768)), (some (19, false))⟩,
   ⟨(some 22), .pick (.tmp 19) (.const (.bool true)) (.tmp 21), none⟩,
   ⟨(some 23), .mv (.tmp 22), none⟩,
   ⟨(some 24), .mv (.tmp 2), (some (23, false))⟩,
   ⟨(some 25), .mv (.tmp 3), (some (23, false))⟩,
   ⟨(some 26), .ar .sub (.const (.int .i64 1073741824)) (.tmp 25), (some (23, false))⟩,
   ⟨(some 27), .ar .gtr (.tmp 24) (.tmp 26), (some (23, false))⟩,
   ⟨(some 28), .pick (.tmp 23) (.const (.bool true)) (.tmp 27), none⟩] []) c_prg_Bytes_3
def c_prg_Bytes_10 : MCode := .seq (.region [⟨(some 46), .mv (.tmp 12), none⟩,
   ⟨(some 8), .mv (.const (.string ⟨#[]⟩)), none⟩,
   ⟨(some 9), .mv (.tmp 46), none⟩] []) .ret
def c_prg_Bytes_9 : MCode := .cond (.tmp 45) c_prg_Bytes_10 .skip
def c_prg_Bytes_8 : MCode := .seq (.region [⟨(some 44), .mv (.tmp 12), none⟩,
   ⟨(some 45), .ar .neq (.tmp 44) (.const (.int .i64 0)), none⟩] []) c_prg_Bytes_9
def c_prg_Bytes_11 : MCode := .seq (.region [⟨(some 47), .mv (.tmp 11), none⟩,
   ⟨(some 48), .mv (.tmp 10), none⟩,
   ⟨(some 49), .slS (.tmp 47) (some (.tmp 48)) none, none⟩,
   ⟨(some 8), .mv (.tmp 49), none⟩,
   ⟨(some 9), .mv (.const (.int .i64 0)), none⟩] []) .ret
def c_prg_Bytes_7 : MCode := .seq c_prg_Bytes_8 c_prg_Bytes_11
def c_prg_Bytes_6 : MCode := .seq (.region [⟨(some 32), .loadN 32 (.tmp 4), none⟩,
   ⟨(some 33), .mv (.tmp 1), none⟩,
   ⟨(some 34), .call 99 [(.tmp 33), (.const (.int .u64 0))], none⟩,
   ⟨(some 35), .mv (.tmp 2), none⟩,
   ⟨(some 36), .ar .quo (.tmp 35) (.const (.int .i64 64)), none⟩,
   ⟨(some 37), .conv .u32 (.tmp 36), none⟩,
   ⟨(some 38), .mv (.tmp 10), none⟩,
   ⟨(some 39), .mv (.tmp 3), none⟩,
   ⟨(some 40), .ar .add (.tmp 38) (.tmp 39), none⟩,
   ⟨(some 41), .call 98 [(.tmp 32), (.tmp 34), (.tmp 37), (.tmp 40)], none⟩,
   ⟨(some 31), .mv (.tmp 41), none⟩,
   ⟨(some 42), .ext (.tmp 31) 0, none⟩,
   ⟨(some 43), .ext (.tmp 31) 1, none⟩,
   ⟨(some 11), .mv (.tmp 42), none⟩,
   ⟨(some 12), .mv (.tmp 43), none⟩] [(0, 2)]) c_prg_Bytes_7
def c_prg_Bytes_5 : MCode := .seq (.region [⟨(some 29), .mv (.tmp 2), none⟩,
   ⟨(some 30), .ar .rem (.tmp 29) (.const (.int .i64 64)), none⟩,
   ⟨(some 10), .mv (.tmp 30), none⟩] []) c_prg_Bytes_6
def c_prg_Bytes_1 : MCode := .seq c_prg_Bytes_2 c_prg_Bytes_5
def c_prg_Bytes_0 : MCode := .seq (.region [⟨(some 4), .box (.tmp 0), none⟩,
   ⟨(some 8), .mv (.const (.string ⟨#[]⟩)), none⟩,
   ⟨(some 9), .mv (.const (.int .i64 0)), none⟩] []) c_prg_Bytes_1
/-- trefoil/prg.Bytes -/
def M_prg_Bytes : MFun := ⟨4, c_prg_Bytes_0, [.tmp 8, .tmp 9]⟩
abbrev F_prg_Bytes : Nat := 83
set_option maxRecDepth 100000 in
theorem m_prg_Bytes : InProg Try.prog 0 83 M_prg_Bytes := ⟨Try.f83, [], Try.func83, by kernel_rfl⟩
def c_ref05_Block_4 : MCode := .seq (.region [⟨(some 6), .mv (.const (.string ⟨#[]⟩)), none⟩,
   ⟨(some 7), .mv (.const (.int .i64 11)), none⟩] []) .ret
def c_ref05_Block_3 : MCode := .cond (.tmp 23) c_ref05_Block_4 .skip
def c_ref05_Block_2 : MCode := .seq (.region [⟨(some 21), .mv (.tmp 1), none⟩,
   ⟨(some 22), .lenS (.tmp 21), none⟩,
   ⟨(some 23), .ar .neq (.tmp 22) (.const (.int .i64 12)), none⟩] []) c_ref05_Block_3
def c_ref05_Block_13 : MCode := .cond (.tmp 28) .skip (.exit 0)
def c_ref05_Block_12 : MCode := .seq (.region [⟨(some 27), .mv (.tmp 10), none⟩,
   ⟨(some 28), .ar .lss (.tmp 27) (.const (.int .i64 8)), none⟩] []) c_ref05_Block_13
def c_ref05_Block_16 : MCode := (.region [⟨(some 31), .mv (.tmp 8), none⟩,
   ⟨(some 32), .mv (.tmp 9), none⟩,
   ⟨(some 33), .mv (.tmp 10), none⟩,
   ⟨(some 34), .ar .mul (.const (.int .i64 4)) (.tmp 33), none⟩,
   ⟨(some 35), .slS (.tmp 32) (some (.tmp 34)) none, none⟩,
   ⟨(some 36), .call 100 [(.tmp 35)], none⟩,
   ⟨(some 37), .buildSlice [(.int .u32 0)] 1 [(0, 1, (.tmp 36))], none⟩,
   ⟨(some 38), .app 1 4 (.tmp 31) (.tmp 37), none⟩,
   ⟨(some 8), .mv (.tmp 38), none⟩] [])
def c_ref05_Block_15 : MCode := .block 1 c_ref05_Block_16
def c_ref05_Block_17 : MCode := (.region [⟨(some 29), .mv (.tmp 10), none⟩,
   ⟨(some 30), .ar .add (.tmp 29) (.const (.int .i64 1)), none⟩,
   ⟨(some 10), .mv (.tmp 30), none⟩] [])
def c_ref05_Block_14 : MCode := .seq c_ref05_Block_15 c_ref05_Block_17
def c_ref05_Block_11 : MCode := .seq c_ref05_Block_12 c_ref05_Block_14
def c_ref05_Block_10 : MCode := .loop [1, 2, 8, 9, 10] c_ref05_Block_11
def c_ref05_Block_9 : MCode := .block 0 c_ref05_Block_10
def c_ref05_Block_8 : MCode := .seq (.region [⟨(some 10), .mv (.const (.int .i64 0)), none⟩] []) c_ref05_Block_9
def c_ref05_Block_26 : MCode := .cond (.tmp 55) .skip (.exit 2)
def c_ref05_Block_25 : MCode := .seq (.region [⟨(some 54), .mv (.tmp 12), none⟩,
   ⟨(some 55), .ar .lss (.tmp 54) (.const (.int .i64 20)), none⟩] []) c_ref05_Block_26
def c_ref05_Block_34 : MCode := .cond (.tmp 59) .skip (.exit 4)
def c_ref05_Block_33 : MCode := .seq (.region [⟨(some 58), .mv (.tmp 13), none⟩,
   ⟨(some 59), .ar .lss (.tmp 58) (.const (.int .i64 4)), none⟩] []) c_ref05_Block_34
def c_ref05_Block_45 : MCode := .cond (.tmp 109) .skip (.exit 6)
def c_ref05_Block_44 : MCode := .seq (.region [⟨(some 108), .mv (.tmp 17), none⟩,
   ⟨(some 109), .ar .lss (.tmp 108) (.const (.int .i64 4)), none⟩] []) c_ref05_Block_45
def c_ref05_Block_48 : MCode := (.region [⟨(some 112), .mv (.tmp 11), none⟩,
   ⟨(some 113), .mv (.tmp 15), none⟩,
   ⟨(some 114), .mv (.tmp 17), none⟩,
   ⟨(some 115), .ixV 1 (.tmp 113) (.tmp 114), none⟩,
   ⟨(some 116), .load1 (.tmp 115), none⟩,
   ⟨(some 117), .mv (.tmp 16), none⟩,
   ⟨(some 118), .mv (.tmp 17), none⟩,
   ⟨(some 119), .ixV 1 (.tmp 117) (.tmp 118), none⟩,
   ⟨(some 120), .load1 (.tmp 119), none⟩,
   ⟨(some 121), .ixV 1 (.tmp 112) (.tmp 116), none⟩,
   ⟨none, .store 1 (.tmp 121) (.tmp 120), none⟩] [])
def c_ref05_Block_47 : MCode := .block 7 c_ref05_Block_48
def c_ref05_Block_49 : MCode := (.region [⟨(some 110), .mv (.tmp 17), none⟩,
   ⟨(some 111), .ar .add (.tmp 110) (.const (.int .i64 1)), none⟩,
   ⟨(some 17), .mv (.tmp 111), none⟩] [])
def c_ref05_Block_46 : MCode := .seq c_ref05_Block_47 c_ref05_Block_49
def c_ref05_Block_43 : MCode := .seq c_ref05_Block_44 c_ref05_Block_46
def c_ref05_Block_42 : MCode := .loop [8, 11, 12, 13, 15, 16, 17] c_ref05_Block_43
def c_ref05_Block_41 : MCode := .block 6 c_ref05_Block_42
def c_ref05_Block_40 : MCode := .seq (.region [⟨(some 17), .mv (.const (.int .i64 0)), none⟩] []) c_ref05_Block_41
def c_ref05_Block_39 : MCode := .seq (.region [⟨(some 83), .mv (.tmp 11), none⟩,
   ⟨(some 84), .mv (.tmp 15), none⟩,
   ⟨(some 85), .ixV 1 (.tmp 84) (.const (.int .i64 0)), none⟩,
   ⟨(some 86), .load1 (.tmp 85), none⟩,
   ⟨(some 87), .ixV 1 (.tmp 83) (.tmp 86), none⟩,
   ⟨(some 88), .load1 (.tmp 87), none⟩,
   ⟨(some 89), .mv (.tmp 11), none⟩,
   ⟨(some 90), .mv (.tmp 15), none⟩,
   ⟨(some 91), .ixV 1 (.tmp 90) (.const (.int .i64 1)), none⟩,
   ⟨(some 92), .load1 (.tmp 91), none⟩,
   ⟨(some 93), .ixV 1 (.tmp 89) (.tmp 92), none⟩,
   ⟨(some 94), .load1 (.tmp 93), none⟩,
   ⟨(some 95), .mv (.tmp 11), none⟩,
   ⟨(some 96), .mv (.tmp 15), none⟩,
   ⟨(some 97), .ixV 1 (.tmp 96) (.const (.int .i64 2)), none⟩,
   ⟨(some 98), .load1 (.tmp 97), none⟩,
   ⟨(some 99), .ixV 1 (.tmp 95) (.tmp 98), none⟩,
   ⟨(some 100), .load1 (.tmp 99), none⟩,
   ⟨(some 101), .mv (.tmp 11), none⟩,
   ⟨(some 102), .mv (.tmp 15), none⟩,
   ⟨(some 103), .ixV 1 (.tmp 102) (.const (.int .i64 3)), none⟩,
   ⟨(some 104), .load1 (.tmp 103), none⟩,
   ⟨(some 105), .ixV 1 (.tmp 101) (.tmp 104), none⟩,
   ⟨(some 106), .load1 (.tmp 105), none⟩,
   ⟨(some 107), .call 101 [(.tmp 88), (.tmp 94), (.tmp 100), (.tmp 106)], none⟩,
   ⟨(some 16), .mv (.tmp 107), none⟩] []) c_ref05_Block_40
def c_ref05_Block_38 : MCode := .seq (.region [⟨(some 64), .mv (.tmp 13), none⟩,
   ⟨(some 65), .mv (.tmp 13), none⟩,
   ⟨(some 66), .mv (.tmp 14), none⟩,
   ⟨(some 67), .ar .add (.tmp 65) (.tmp 66), none⟩,
   ⟨(some 68), .ar .rem (.tmp 67) (.const (.int .i64 4)), none⟩,
   ⟨(some 69), .ar .add (.const (.int .i64 4)) (.tmp 68), none⟩,
   ⟨(some 70), .mv (.tmp 13), none⟩,
   ⟨(some 71), .mv (.tmp 14), none⟩,
   ⟨(some 72), .ar .mul (.const (.int .i64 2)) (.tmp 71), none⟩,
   ⟨(some 73), .ar .add (.tmp 70) (.tmp 72), none⟩,
   ⟨(some 74), .ar .rem (.tmp 73) (.const (.int .i64 4)), none⟩,
   ⟨(some 75), .ar .add (.const (.int .i64 8)) (.tmp 74), none⟩,
   ⟨(some 76), .mv (.tmp 13), none⟩,
   ⟨(some 77), .mv (.tmp 14), none⟩,
   ⟨(some 78), .ar .mul (.const (.int .i64 3)) (.tmp 77), none⟩,
   ⟨(some 79), .ar .add (.tmp 76) (.tmp 78), none⟩,
   ⟨(some 80), .ar .rem (.tmp 79) (.const (.int .i64 4)), none⟩,
   ⟨(some 81), .ar .add (.const (.int .i64 12)) (.tmp 80), none⟩,
   ⟨(some 82), .buildSlice [(.int .i64 0), (.int .i64 0), (.int .i64 0), (.int .i64 0)] 4 [(0, 1, (.tmp 64)), (1, 1, (.tmp 69)), (2, 1, (.tmp 75)), (3, 1, (.tmp 81))], none⟩,
   ⟨(some 15), .mv (.tmp 82), none⟩] []) c_ref05_Block_39
def c_ref05_Block_37 : MCode := .seq (.region [⟨(some 62), .mv (.tmp 12), none⟩,
   ⟨(some 63), .ar .rem (.tmp 62) (.const (.int .i64 2)), none⟩,
   ⟨(some 14), .mv (.tmp 63), none⟩] []) c_ref05_Block_38
def c_ref05_Block_36 : MCode := .block 5 c_ref05_Block_37
def c_ref05_Block_50 : MCode := (.region [⟨(some 60), .mv (.tmp 13), none⟩,
   ⟨(some 61), .ar .add (.tmp 60) (.const (.int .i64 1)), none⟩,
   ⟨(some 13), .mv (.tmp 61), none⟩] [])
def c_ref05_Block_35 : MCode := .seq c_ref05_Block_36 c_ref05_Block_50
def c_ref05_Block_32 : MCode := .seq c_ref05_Block_33 c_ref05_Block_35
def c_ref05_Block_31 : MCode := .loop [8, 11, 12, 13] c_ref05_Block_32
def c_ref05_Block_30 : MCode := .block 4 c_ref05_Block_31
def c_ref05_Block_29 : MCode := .seq (.region [⟨(some 13), .mv (.const (.int .i64 0)), none⟩] []) c_ref05_Block_30
def c_ref05_Block_28 : MCode := .block 3 c_ref05_Block_29
def c_ref05_Block_51 : MCode := (.region [⟨(some 56), .mv (.tmp 12), none⟩,
   ⟨(some 57), .ar .add (.tmp 56) (.const (.int .i64 1)), none⟩,
   ⟨(some 12), .mv (.tmp 57), none⟩] [])
def c_ref05_Block_27 : MCode := .seq c_ref05_Block_28 c_ref05_Block_51
def c_ref05_Block_24 : MCode := .seq c_ref05_Block_25 c_ref05_Block_27
def c_ref05_Block_23 : MCode := .loop [8, 11, 12] c_ref05_Block_24
def c_ref05_Block_22 : MCode := .block 2 c_ref05_Block_23
def c_ref05_Block_21 : MCode := .seq (.region [⟨(some 12), .mv (.const (.int .i64 0)), none⟩] []) c_ref05_Block_22
def c_ref05_Block_59 : MCode := .cond (.tmp 123) .skip (.exit 8)
def c_ref05_Block_58 : MCode := .seq (.region [⟨(some 122), .mv (.tmp 19), none⟩,
   ⟨(some 123), .ar .lss (.tmp 122) (.const (.int .i64 16)), none⟩] []) c_ref05_Block_59
def c_ref05_Block_63 : MCode := (.region [⟨(some 135), .mv (.tmp 18), none⟩,
   ⟨(some 136), .mv (.tmp 20), none⟩,
   ⟨(some 137), .conv .u8 (.tmp 136), none⟩,
   ⟨(some 138), .mv (.tmp 20), none⟩,
   ⟨(some 139), .ar .quo (.tmp 138) (.const (.int .u32 256)), none⟩,
   ⟨(some 140), .conv .u8 (.tmp 139), none⟩,
   ⟨(some 141), .mv (.tmp 20), none⟩,
   ⟨(some 142), .ar .quo (.tmp 141) (.const (.int .u32 65536)), none⟩,
   ⟨(some 143), .conv .u8 (.tmp 142), none⟩,
   ⟨(some 144), .mv (.tmp 20), none⟩,
   ⟨(some 145), .ar .quo (.tmp 144) (.const (.int .u32 16777216)), none⟩,
   ⟨(some 146), .conv .u8 (.tmp 145), none⟩,
   ⟨(some 147), .buildSlice [(.int .u8 0), (.int .u8 0), (.int .u8 0), (.int .u8 0)] 4 [(0, 1, (.tmp 137)), (1, 1, (.tmp 140)), (2, 1, (.tmp 143)), (3, 1, (.tmp 146))], none⟩,
   ⟨(some 148), .app 1 1 (.tmp 135) (.tmp 147), none⟩,
   ⟨(some 18), .mv (.tmp 148), none⟩] [])
def c_ref05_Block_62 : MCode := .seq (.region [⟨(some 126), .mv (.tmp 11), none⟩,
   ⟨(some 127), .mv (.tmp 19), none⟩,
   ⟨(some 128), .ixV 1 (.tmp 126) (.tmp 127), none⟩,
   ⟨(some 129), .load1 (.tmp 128), none⟩,
   ⟨(some 130), .mv (.tmp 8), none⟩,
   ⟨(some 131), .mv (.tmp 19), none⟩,
   ⟨(some 132), .ixV 1 (.tmp 130) (.tmp 131), none⟩,
   ⟨(some 133), .load1 (.tmp 132), none⟩,
   ⟨(some 134), .ar .add (.tmp 129) (.tmp 133), none⟩,
   ⟨(some 20), .mv (.tmp 134), none⟩] []) c_ref05_Block_63
def c_ref05_Block_61 : MCode := .block 9 c_ref05_Block_62
def c_ref05_Block_64 : MCode := (.region [⟨(some 124), .mv (.tmp 19), none⟩,
   ⟨(some 125), .ar .add (.tmp 124) (.const (.int .i64 1)), none⟩,
   ⟨(some 19), .mv (.tmp 125), none⟩] [])
def c_ref05_Block_60 : MCode := .seq c_ref05_Block_61 c_ref05_Block_64
def c_ref05_Block_57 : MCode := .seq c_ref05_Block_58 c_ref05_Block_60
def c_ref05_Block_56 : MCode := .loop [8, 11, 18, 19] c_ref05_Block_57
def c_ref05_Block_55 : MCode := .block 8 c_ref05_Block_56
def c_ref05_Block_54 : MCode := .seq (.region [⟨(some 19), .mv (.const (.int .i64 0)), none⟩] []) c_ref05_Block_55
def c_ref05_Block_65 : MCode := .seq (.region [⟨(some 149), .mv (.tmp 18), none⟩,
   ⟨(some 150), .convBS (.tmp 149), none⟩,
   ⟨(some 6), .mv (.tmp 150), none⟩,
   ⟨(some 7), .mv (.const (.int .i64 0)), none⟩] []) .ret
def c_ref05_Block_53 : MCode := .seq c_ref05_Block_54 c_ref05_Block_65
def c_ref05_Block_52 : MCode := .seq (.region [⟨(some 18), .mv (.const (.slice none 0 0)), none⟩] []) c_ref05_Block_53
def c_ref05_Block_20 : MCode := .seq c_ref05_Block_21 c_ref05_Block_52
def c_ref05_Block_19 : MCode := .seq (.region [⟨(some 51), .buildSlice [] 0 [], none⟩,
   ⟨(some 52), .mv (.tmp 8), none⟩,
   ⟨(some 53), .app 1 4 (.tmp 51) (.tmp 52), none⟩,
   ⟨(some 11), .mv (.tmp 53), none⟩] []) c_ref05_Block_20
def c_ref05_Block_18 : MCode := .seq (.region [⟨(some 39), .mv (.tmp 8), none⟩,
   ⟨(some 40), .mv (.tmp 2), none⟩,
   ⟨(some 41), .mv (.tmp 1), none⟩,
   ⟨(some 42), .call 100 [(.tmp 41)], none⟩,
   ⟨(some 43), .mv (.tmp 1), none⟩,
   ⟨(some 44), .slS (.tmp 43) (some (.const (.int .i64 4))) none, none⟩,
   ⟨(some 45), .call 100 [(.tmp 44)], none⟩,
   ⟨(some 46), .mv (.tmp 1), none⟩,
   ⟨(some 47), .slS (.tmp 46) (some (.const (.int .i64 8))) none, none⟩,
   ⟨(some 48), .call 100 [(.tmp 47)], none⟩,
   ⟨(some 49), .buildSlice [(.int .u32 0), (.int .u32 0), (.int .u32 0), (.int .u32 0)] 4 [(0, 1, (.tmp 40)), (1, 1, (.tmp 42)), (2, 1, (.tmp 45)), (3, 1, (.tmp 48))], none⟩,
   ⟨(some 50), .app 1 4 (.tmp 39) (.tmp 49), none⟩,
   ⟨(some 8), .mv (.tmp 50), none⟩] []) c_ref05_Block_19
def c_ref05_Block_7 : MCode := .seq c_ref05_Block_8 c_ref05_Block_18
def c_ref05_Block_6 : MCode := .seq (.region [⟨(some 25), .slA 1 32 (.tmp 3) none none, none⟩,
   ⟨(some 26), .convBS (.tmp 25), none⟩,
   ⟨(some 9), .mv (.tmp 26), none⟩] []) c_ref05_Block_7
def c_ref05_Block_5 : MCode := .seq (.region [⟨(some 24), .buildSlice [(.int .u32 0), (.int .u32 0), (.int .u32 0), (.int .u32 0)] 4 [(0, 1, (.const (.int .u32 1634760805))), (1, 1, (.const (.int .u32 857760878))), (2, 1, (.const (.int .u32 2036477234))), (3, 1, (.const (.int .u32 1797285236)))], none⟩,
   ⟨(some 8), .mv (.tmp 24), none⟩] []) c_ref05_Block_6
def c_ref05_Block_1 : MCode := .seq c_ref05_Block_2 c_ref05_Block_5
def c_ref05_Block_0 : MCode := .seq (.region [⟨(some 3), .box (.tmp 0), none⟩,
   ⟨(some 6), .mv (.const (.string ⟨#[]⟩)), none⟩,
   ⟨(some 7), .mv (.const (.int .i64 0)), none⟩] []) c_ref05_Block_1
/-- trefoil/trefoilref05.Block -/
def M_ref05_Block : MFun := ⟨3, c_ref05_Block_0, [.tmp 6, .tmp 7]⟩
abbrev F_ref05_Block : Nat := 84
set_option maxRecDepth 100000 in
theorem m_ref05_Block : InProg Try.prog 0 84 M_ref05_Block := ⟨Try.f84, [[1, 2, 8, 9, 10], [8, 11, 12], [8, 11, 12, 13], [8, 11, 12, 13, 15, 16, 17], [8, 11, 18, 19]], Try.func84, by kernel_rfl⟩
def c_ref07_Nonce_8 : MCode := .cond (.tmp 9) .skip (.exit 0)
def c_ref07_Nonce_7 : MCode := .seq (.region [⟨(some 8), .mv (.tmp 6), none⟩,
   ⟨(some 9), .ar .lss (.tmp 8) (.const (.int .i64 4)), none⟩] []) c_ref07_Nonce_8
def c_ref07_Nonce_12 : MCode := (.region [⟨(some 17), .mv (.tmp 0), none⟩,
   ⟨(some 18), .ar .quo (.tmp 17) (.const (.int .u32 256)), none⟩,
   ⟨(some 0), .mv (.tmp 18), none⟩] [])
def c_ref07_Nonce_11 : MCode := .seq (.region [⟨(some 12), .mv (.tmp 5), none⟩,
   ⟨(some 13), .mv (.tmp 0), none⟩,
   ⟨(some 14), .conv .u8 (.tmp 13), none⟩,
   ⟨(some 15), .buildSlice [(.int .u8 0)] 1 [(0, 1, (.tmp 14))], none⟩,
   ⟨(some 16), .app 1 1 (.tmp 12) (.tmp 15), none⟩,
   ⟨(some 5), .mv (.tmp 16), none⟩] []) c_ref07_Nonce_12
def c_ref07_Nonce_10 : MCode := .block 1 c_ref07_Nonce_11
def c_ref07_Nonce_13 : MCode := (.region [⟨(some 10), .mv (.tmp 6), none⟩,
   ⟨(some 11), .ar .add (.tmp 10) (.const (.int .i64 1)), none⟩,
   ⟨(some 6), .mv (.tmp 11), none⟩] [])
def c_ref07_Nonce_9 : MCode := .seq c_ref07_Nonce_10 c_ref07_Nonce_13
def c_ref07_Nonce_6 : MCode := .seq c_ref07_Nonce_7 c_ref07_Nonce_9
def c_ref07_Nonce_5 : MCode := .loop [0, 1, 5, 6] c_ref07_Nonce_6
def c_ref07_Nonce_4 : MCode := .block 0 c_ref07_Nonce_5
def c_ref07_Nonce_3 : MCode := .seq (.region [⟨(some 6), .mv (.const (.int .i64 0)), none⟩] []) c_ref07_Nonce_4
def c_ref07_Nonce_20 : MCode := .cond (.tmp 20) .skip (.exit 2)
def c_ref07_Nonce_19 : MCode := .seq (.region [⟨(some 19), .mv (.tmp 7), none⟩,
   ⟨(some 20), .ar .lss (.tmp 19) (.const (.int .i64 8)), none⟩] []) c_ref07_Nonce_20
def c_ref07_Nonce_24 : MCode := (.region [⟨(some 28), .mv (.tmp 1), none⟩,
   ⟨(some 29), .ar .quo (.tmp 28) (.const (.int .u64 256)), none⟩,
   ⟨(some 1), .mv (.tmp 29), none⟩] [])
def c_ref07_Nonce_23 : MCode := .seq (.region [⟨(some 23), .mv (.tmp 5), none⟩,
   ⟨(some 24), .mv (.tmp 1), none⟩,
   ⟨(some 25), .conv .u8 (.tmp 24), none⟩,
   ⟨(some 26), .buildSlice [(.int .u8 0)] 1 [(0, 1, (.tmp 25))], none⟩,
   ⟨(some 27), .app 1 1 (.tmp 23) (.tmp 26), none⟩,
   ⟨(some 5), .mv (.tmp 27), none⟩] []) c_ref07_Nonce_24
def c_ref07_Nonce_22 : MCode := .block 3 c_ref07_Nonce_23
def c_ref07_Nonce_25 : MCode := (.region [⟨(some 21), .mv (.tmp 7), none⟩,
   ⟨(some 22), .ar .add (.tmp 21) (.const (.int .i64 1)), none⟩,
   ⟨(some 7), .mv (.tmp 22), none⟩] [])
def c_ref07_Nonce_21 : MCode := .seq c_ref07_Nonce_22 c_ref07_Nonce_25
def c_ref07_Nonce_18 : MCode := .seq c_ref07_Nonce_19 c_ref07_Nonce_21
def c_ref07_Nonce_17 : MCode := .loop [1, 5, 7] c_ref07_Nonce_18
def c_ref07_Nonce_16 : MCode := .block 2 c_ref07_Nonce_17
def c_ref07_Nonce_15 : MCode := .seq (.region [⟨(some 7), .mv (.const (.int .i64 0)), none⟩] []) c_ref07_Nonce_16
def c_ref07_Nonce_26 : MCode := .seq (.region [⟨(some 30), .mv (.tmp 5), none⟩,
   ⟨(some 31), .convBS (.tmp 30), none⟩,
   ⟨(some 4), .mv (.tmp 31), none⟩] []) .ret
def c_ref07_Nonce_14 : MCode := .seq c_ref07_Nonce_15 c_ref07_Nonce_26
def c_ref07_Nonce_2 : MCode := .seq c_ref07_Nonce_3 c_ref07_Nonce_14
def c_ref07_Nonce_1 : MCode := .seq (.region [⟨(some 5), .mv (.const (.slice none 0 0)), none⟩] []) c_ref07_Nonce_2
def c_ref07_Nonce_0 : MCode := .seq (.region [⟨(some 4), .mv (.const (.string ⟨#[]⟩)), none⟩] []) c_ref07_Nonce_1
/-- trefoil/trefoilref07.Nonce -/
def M_ref07_Nonce : MFun := ⟨2, c_ref07_Nonce_0, [.tmp 4]⟩
abbrev F_ref07_Nonce : Nat := 85
set_option maxRecDepth 100000 in
theorem m_ref07_Nonce : InProg Try.prog 0 85 M_ref07_Nonce := ⟨Try.f85, [[0, 1, 5, 6], [1, 5, 7]], Try.func85, by kernel_rfl⟩
def c_chacha_Stream_5 : MCode := .seq (.region [⟨(some 8), .mv (.const (.string ⟨#[]⟩)), none⟩,
   ⟨(some 9), .mv (.const (.int .i64 11)), none⟩] []) .ret
def c_chacha_Stream_8 : MCode := .seq (.region [⟨(some 8), .mv (.const (.string ⟨#[]⟩)), none⟩,
   ⟨(some 9), .mv (.const (.int .i64 2)), none⟩] []) .ret
def c_chacha_Stream_11 : MCode := .seq (.region [⟨(some 8), .mv (.const (.string ⟨#[]⟩)), none⟩,
   ⟨(some 9), .mv (.const (.int .i64 24)), none⟩] []) .ret
def c_chacha_Stream_10 : MCode := .cond (.tmp 24) c_chacha_Stream_11 .skip
def c_chacha_Stream_9 : MCode := .seq (.region [⟨(some 25), .mv (.tmp 2), none⟩,
   ⟨(some 26), .conv .u64 (.tmp 25), none⟩,
   ⟨(some 27), .mv (.tmp 3), none⟩,
   ⟨(some 28), .ar .add (.tmp 27) (.const (.int .i64 64)), none⟩,
   ⟨(some 29), .ar .sub (.tmp 28) (.const (.int .i64 1)), none⟩,
   ⟨(some 30), .ar .quo (.tmp 29) (.const (.int .i64 64)), none⟩,
   ⟨(some 31), .conv .u64 (.tmp 30), none⟩,
   ⟨(some 32), .ar .add (.tmp 26) (.tmp 31), none⟩,
   ⟨(some 33), .ar .gtr (.tmp 32) (.const (.int .u64 4294967296)), none⟩,
   ⟨(some 24), .mv (.tmp 33), none⟩] []) c_chacha_Stream_10
def c_chacha_Stream_7 : MCode := .cond (.tmp 17) c_chacha_Stream_8 c_chacha_Stream_9
def c_chacha_Stream_6 : MCode := .seq (.region [⟨(some 18), .mv (.tmp 3), none⟩,
   ⟨(some 19), .ar .lss (.tmp 18) (.const (.int .i64 0)), none⟩,
   ⟨(some 20), .mv (.tmp 19), none⟩,
   ⟨(some 21), .mv (.tmp 3), (some (20, false))⟩,
   ⟨(some 22), .ar .gtr (.tmp 21) (.const (.int .i64 65536)), (some (20, false))⟩,
   ⟨(some 23), .pick (.tmp 20) (.const (.bool true)) (.tmp 22), none⟩,
   ⟨(some 17), .mv (.tmp 23), none⟩] []) c_chacha_Stream_7
def c_chacha_Stream_4 : MCode := .cond (.tmp 13) c_chacha_Stream_5 c_chacha_Stream_6
def c_chacha_Stream_3 : MCode := .seq (.region [⟨(some 14), .mv (.tmp 1), none⟩,
   ⟨(some 15), .lenS (.tmp 14), none⟩,
   ⟨(some 16), .ar .neq (.tmp 15) (.const (.int .i64 12)), none⟩,
   ⟨(some 13), .mv (.tmp 16), none⟩] []) c_chacha_Stream_4
def c_chacha_Stream_2 : MCode := .block 0 c_chacha_Stream_3
def c_chacha_Stream_18 : MCode := .cond (.tmp 40) .skip (.exit 1)
def c_chacha_Stream_17 : MCode := .seq (.region [⟨(some 37), .mv (.tmp 10), none⟩,
   ⟨(some 38), .lenV (.tmp 37), none⟩,
   ⟨(some 39), .mv (.tmp 3), none⟩,
   ⟨(some 40), .ar .lss (.tmp 38) (.tmp 39), none⟩] []) c_chacha_Stream_18
def c_chacha_Stream_22 : MCode := (.region [⟨(some 51), .mv (.tmp 2), none⟩,
   ⟨(some 52), .ar .add (.tmp 51) (.const (.int .u32 1)), none⟩,
   ⟨(some 2), .mv (.tmp 52), none⟩] [])
def c_chacha_Stream_21 : MCode := .seq (.region [⟨(some 48), .mv (.tmp 10), none⟩,
   ⟨(some 49), .mv (.tmp 11), none⟩,
   ⟨(some 50), .appS (.tmp 48) (.tmp 49), none⟩,
   ⟨(some 10), .mv (.tmp 50), none⟩] []) c_chacha_Stream_22
def c_chacha_Stream_20 : MCode := .seq (.region [⟨(some 42), .loadN 32 (.tmp 4), none⟩,
   ⟨(some 43), .mv (.tmp 1), none⟩,
   ⟨(some 44), .mv (.tmp 2), none⟩,
   ⟨(some 45), .call 104 [(.tmp 42), (.tmp 43), (.tmp 44)], none⟩,
   ⟨(some 41), .mv (.tmp 45), none⟩,
   ⟨(some 46), .ext (.tmp 41) 0, none⟩,
   ⟨(some 47), .ext (.tmp 41) 1, none⟩,
   ⟨(some 11), .mv (.tmp 46), none⟩,
   ⟨(some 12), .mv (.tmp 47), none⟩] []) c_chacha_Stream_21
def c_chacha_Stream_19 : MCode := .block 2 c_chacha_Stream_20
def c_chacha_Stream_16 : MCode := .seq c_chacha_Stream_17 c_chacha_Stream_19
def c_chacha_Stream_15 : MCode := .loop [1, 2, 3, 4, 10] c_chacha_Stream_16
def c_chacha_Stream_14 : MCode := .block 1 c_chacha_Stream_15
def c_chacha_Stream_23 : MCode := .seq (.region [⟨(some 53), .mv (.tmp 10), none⟩,
   ⟨(some 54), .mv (.tmp 3), none⟩,
   ⟨(some 55), .slV 1 (.tmp 53) none (some (.tmp 54)) none, none⟩,
   ⟨(some 56), .convBS (.tmp 55), none⟩,
   ⟨(some 8), .mv (.tmp 56), none⟩,
   ⟨(some 9), .mv (.const (.int .i64 0)), none⟩] []) .ret
def c_chacha_Stream_13 : MCode := .seq c_chacha_Stream_14 c_chacha_Stream_23
def c_chacha_Stream_12 : MCode := .seq (.region [⟨(some 34), .mv (.tmp 3), none⟩,
   ⟨(some 35), .ar .add (.tmp 34) (.const (.int .i64 64)), none⟩,
   ⟨(some 36), .mkSl 1 [(.int .u8 0)] (.const (.int .i64 0)) (.tmp 35), none⟩,
   ⟨(some 10), .mv (.tmp 36), none⟩] []) c_chacha_Stream_13
def c_chacha_Stream_1 : MCode := .seq c_chacha_Stream_2 c_chacha_Stream_12
def c_chacha_Stream_0 : MCode := .seq (.region [⟨(some 4), .box (.tmp 0), none⟩,
   ⟨(some 8), .mv (.const (.string ⟨#[]⟩)), none⟩,
   ⟨(some 9), .mv (.const (.int .i64 0)), none⟩] []) c_chacha_Stream_1
/-- trefoil/chacha.Stream -/
def M_chacha_Stream : MFun := ⟨4, c_chacha_Stream_0, [.tmp 8, .tmp 9]⟩
abbrev F_chacha_Stream : Nat := 98
set_option maxRecDepth 100000 in
theorem m_chacha_Stream : InProg Try.prog 0 98 M_chacha_Stream := ⟨Try.f98, [[1, 2, 3, 4, 10]], Try.func98, by kernel_rfl⟩
def c_chacha_Nonce_8 : MCode := .cond (.tmp 10) .skip (.exit 0)
def c_chacha_Nonce_12 : MCode := (.region [⟨(some 12), .mv (.tmp 5), none⟩,
   ⟨(some 13), .mv (.tmp 6), none⟩,
   ⟨(some 14), .mv (.tmp 0), none⟩,
   ⟨(some 15), .mv (.tmp 6), none⟩,
   ⟨(some 16), .ar .mul (.const (.int .i64 8)) (.tmp 15), none⟩,
   ⟨(some 17), .conv .u64 (.tmp 16), none⟩,
   ⟨(some 18), .ar .shr (.tmp 14) (.tmp 17), none⟩,
   ⟨(some 19), .conv .u8 (.tmp 18), none⟩,
   ⟨(some 20), .ixV 1 (.tmp 12) (.tmp 13), none⟩,
   ⟨none, .store 1 (.tmp 20) (.tmp 19), none⟩] [])
def c_chacha_Nonce_11 : MCode := .seq (.region [⟨(some 11), .mv (.tmp 9), none⟩,
   ⟨(some 6), .mv (.tmp 11), none⟩] []) c_chacha_Nonce_12
def c_chacha_Nonce_10 : MCode := .block 1 c_chacha_Nonce_11
def c_chacha_Nonce_13 : MCode := (.region [⟨(some 21), .ar .add (.tmp 9) (.const (.int .i64 1)), none⟩,
   ⟨(some 9), .mv (.tmp 21), none⟩] [])
def c_chacha_Nonce_9 : MCode := .seq c_chacha_Nonce_10 c_chacha_Nonce_13
def c_chacha_Nonce_7 : MCode := .seq c_chacha_Nonce_8 c_chacha_Nonce_9
def c_chacha_Nonce_6 : MCode := .seq (.region [⟨(some 10), .ar .lss (.tmp 9) (.const (.int .i64 4)), none⟩] []) c_chacha_Nonce_7
def c_chacha_Nonce_5 : MCode := .loop [0, 1, 5, 9] c_chacha_Nonce_6
def c_chacha_Nonce_4 : MCode := .block 0 c_chacha_Nonce_5
def c_chacha_Nonce_3 : MCode := .seq (.region [⟨(some 9), .mv (.const (.int .i64 0)), none⟩] []) c_chacha_Nonce_4
def c_chacha_Nonce_20 : MCode := .cond (.tmp 23) .skip (.exit 2)
def c_chacha_Nonce_24 : MCode := (.region [⟨(some 25), .mv (.tmp 5), none⟩,
   ⟨(some 26), .mv (.tmp 7), none⟩,
   ⟨(some 27), .ar .add (.const (.int .i64 4)) (.tmp 26), none⟩,
   ⟨(some 28), .mv (.tmp 1), none⟩,
   ⟨(some 29), .mv (.tmp 7), none⟩,
   ⟨(some 30), .ar .mul (.const (.int .i64 8)) (.tmp 29), none⟩,
   ⟨(some 31), .conv .u64 (.tmp 30), none⟩,
   ⟨(some 32), .ar .shr (.tmp 28) (.tmp 31), none⟩,
   ⟨(some 33), .conv .u8 (.tmp 32), none⟩,
   ⟨(some 34), .ixV 1 (.tmp 25) (.tmp 27), none⟩,
   ⟨none, .store 1 (.tmp 34) (.tmp 33), none⟩] [])
def c_chacha_Nonce_23 : MCode := .seq (.region [⟨(some 24), .mv (.tmp 22), none⟩,
   ⟨(some 7), .mv (.tmp 24), none⟩] []) c_chacha_Nonce_24
def c_chacha_Nonce_22 : MCode := .block 3 c_chacha_Nonce_23
def c_chacha_Nonce_25 : MCode := (.region [⟨(some 35), .ar .add (.tmp 22) (.const (.int .i64 1)), none⟩,
   ⟨(some 22), .mv (.tmp 35), none⟩] [])
def c_chacha_Nonce_21 : MCode := .seq c_chacha_Nonce_22 c_chacha_Nonce_25
def c_chacha_Nonce_19 : MCode := .seq c_chacha_Nonce_20 c_chacha_Nonce_21
def c_chacha_Nonce_18 : MCode := .seq (.region [⟨(some 23), .ar .lss (.tmp 22) (.const (.int .i64 8)), none⟩] []) c_chacha_Nonce_19
def c_chacha_Nonce_17 : MCode := .loop [1, 5, 22] c_chacha_Nonce_18
def c_chacha_Nonce_16 : MCode := .block 2 c_chacha_Nonce_17
def c_chacha_Nonce_15 : MCode := .seq (.region [⟨(some 22), .mv (.const (.int .i64 0)), none⟩] []) c_chacha_Nonce_16
def c_chacha_Nonce_26 : MCode := .seq (.region [⟨(some 36), .mv (.tmp 5), none⟩,
   ⟨(some 37), .convBS (.tmp 36), none⟩,
   ⟨(some 4), .mv (.tmp 37), none⟩] []) .ret
def c_chacha_Nonce_14 : MCode := .seq c_chacha_Nonce_15 c_chacha_Nonce_26
def c_chacha_Nonce_2 : MCode := .seq c_chacha_Nonce_3 c_chacha_Nonce_14
def c_chacha_Nonce_1 : MCode := .seq (.region [⟨(some 8), .mkSl 1 [(.int .u8 0)] (.const (.int .i64 12)) (.const (.int .i64 12)), none⟩,
   ⟨(some 5), .mv (.tmp 8), none⟩] []) c_chacha_Nonce_2
def c_chacha_Nonce_0 : MCode := .seq (.region [⟨(some 4), .mv (.const (.string ⟨#[]⟩)), none⟩] []) c_chacha_Nonce_1
/-- trefoil/chacha.Nonce -/
def M_chacha_Nonce : MFun := ⟨2, c_chacha_Nonce_0, [.tmp 4]⟩
abbrev F_chacha_Nonce : Nat := 99
set_option maxRecDepth 100000 in
theorem m_chacha_Nonce : InProg Try.prog 0 99 M_chacha_Nonce := ⟨Try.f99, [[0, 1, 5, 9], [1, 5, 22]], Try.func99, by kernel_rfl⟩
def c_ref05_word_1 : MCode := .seq (.region [⟨(some 3), .mv (.tmp 0), none⟩,
   ⟨(some 4), .ixS (.tmp 3) (.const (.int .i64 0)), none⟩,
   ⟨(some 5), .conv .u32 (.tmp 4), none⟩,
   ⟨(some 6), .mv (.tmp 0), none⟩,
   ⟨(some 7), .ixS (.tmp 6) (.const (.int .i64 1)), none⟩,
   ⟨(some 8), .conv .u32 (.tmp 7), none⟩,
   ⟨(some 9), .ar .mul (.const (.int .u32 256)) (.tmp 8), none⟩,
   ⟨(some 10), .ar .add (.tmp 5) (.tmp 9), none⟩,
   ⟨(some 11), .mv (.tmp 0), none⟩,
   ⟨(some 12), .ixS (.tmp 11) (.const (.int .i64 2)), none⟩,
   ⟨(some 13), .conv .u32 (.tmp 12), none⟩,
   ⟨(some 14), .ar .mul (.const (.int .u32 65536)) (.tmp 13), none⟩,
   ⟨(some 15), .ar .add (.tmp 10) (.tmp 14), none⟩,
   ⟨(some 16), .mv (.tmp 0), none⟩,
   ⟨(some 17), .ixS (.tmp 16) (.const (.int .i64 3)), none⟩,
   ⟨(some 18), .conv .u32 (.tmp 17), none⟩,
   ⟨(some 19), .ar .mul (.const (.int .u32 16777216)) (.tmp 18), none⟩,
   ⟨(some 20), .ar .add (.tmp 15) (.tmp 19), none⟩,
   ⟨(some 2), .mv (.tmp 20), none⟩] []) .ret
def c_ref05_word_0 : MCode := .seq (.region [⟨(some 2), .mv (.const (.int .u32 0)), none⟩] []) c_ref05_word_1
/-- trefoil/trefoilref05.word -/
def M_ref05_word : MFun := ⟨1, c_ref05_word_0, [.tmp 2]⟩
abbrev F_ref05_word : Nat := 100
set_option maxRecDepth 100000 in
theorem m_ref05_word : InProg Try.prog 0 100 M_ref05_word := ⟨Try.f100, [], Try.func100, by kernel_rfl⟩
def c_ref05_Quarter_9 : MCode := .cond (.tmp 22) .skip (.exit 0)
def c_ref05_Quarter_8 : MCode := .seq (.region [⟨(some 21), .mv (.tmp 11), none⟩,
   ⟨(some 22), .ar .lss (.tmp 21) (.const (.int .i64 4)), none⟩] []) c_ref05_Quarter_9
def c_ref05_Quarter_16 : MCode := (.region [⟨(some 12), .mv (.const (.int .i64 2)), none⟩,
   ⟨(some 13), .mv (.const (.int .i64 3)), none⟩,
   ⟨(some 14), .mv (.const (.int .i64 1)), none⟩] [])
def c_ref05_Quarter_15 : MCode := .cond (.tmp 27) c_ref05_Quarter_16 .skip
def c_ref05_Quarter_14 : MCode := .seq (.region [⟨(some 25), .mv (.tmp 11), none⟩,
   ⟨(some 26), .ar .rem (.tmp 25) (.const (.int .i64 2)), none⟩,
   ⟨(some 27), .ar .eql (.tmp 26) (.const (.int .i64 1)), none⟩] []) c_ref05_Quarter_15
def c_ref05_Quarter_18 : MCode := (.region [⟨(some 40), .mv (.tmp 10), none⟩,
   ⟨(some 41), .mv (.tmp 14), none⟩,
   ⟨(some 42), .mv (.tmp 10), none⟩,
   ⟨(some 43), .mv (.tmp 14), none⟩,
   ⟨(some 44), .ixV 1 (.tmp 42) (.tmp 43), none⟩,
   ⟨(some 45), .load1 (.tmp 44), none⟩,
   ⟨(some 46), .mv (.tmp 10), none⟩,
   ⟨(some 47), .mv (.tmp 12), none⟩,
   ⟨(some 48), .ixV 1 (.tmp 46) (.tmp 47), none⟩,
   ⟨(some 49), .load1 (.tmp 48), none⟩,
   ⟨(some 50), .ar .xor (.tmp 45) (.tmp 49), none⟩,
   ⟨(some 51), .mv (.tmp 9), none⟩,
   ⟨(some 52), .mv (.tmp 11), none⟩,
   ⟨(some 53), .ixV 1 (.tmp 51) (.tmp 52), none⟩,
   ⟨(some 54), .load1 (.tmp 53), none⟩,
   ⟨(some 55), .call 105 [(.tmp 50), (.tmp 54)], none⟩,
   ⟨(some 56), .ixV 1 (.tmp 40) (.tmp 41), none⟩,
   ⟨none, .store 1 (.tmp 56) (.tmp 55), none⟩] [])
def c_ref05_Quarter_17 : MCode := .seq (.region [⟨(some 28), .mv (.tmp 10), none⟩,
   ⟨(some 29), .mv (.tmp 12), none⟩,
   ⟨(some 30), .mv (.tmp 10), none⟩,
   ⟨(some 31), .mv (.tmp 12), none⟩,
   ⟨(some 32), .ixV 1 (.tmp 30) (.tmp 31), none⟩,
   ⟨(some 33), .load1 (.tmp 32), none⟩,
   ⟨(some 34), .mv (.tmp 10), none⟩,
   ⟨(some 35), .mv (.tmp 13), none⟩,
   ⟨(some 36), .ixV 1 (.tmp 34) (.tmp 35), none⟩,
   ⟨(some 37), .load1 (.tmp 36), none⟩,
   ⟨(some 38), .ar .add (.tmp 33) (.tmp 37), none⟩,
   ⟨(some 39), .ixV 1 (.tmp 28) (.tmp 29), none⟩,
   ⟨none, .store 1 (.tmp 39) (.tmp 38), none⟩] []) c_ref05_Quarter_18
def c_ref05_Quarter_13 : MCode := .seq c_ref05_Quarter_14 c_ref05_Quarter_17
def c_ref05_Quarter_12 : MCode := .seq (.region [⟨(some 12), .mv (.const (.int .i64 0)), none⟩,
   ⟨(some 13), .mv (.const (.int .i64 1)), none⟩,
   ⟨(some 14), .mv (.const (.int .i64 3)), none⟩] []) c_ref05_Quarter_13
def c_ref05_Quarter_11 : MCode := .block 1 c_ref05_Quarter_12
def c_ref05_Quarter_19 : MCode := (.region [⟨(some 23), .mv (.tmp 11), none⟩,
   ⟨(some 24), .ar .add (.tmp 23) (.const (.int .i64 1)), none⟩,
   ⟨(some 11), .mv (.tmp 24), none⟩] [])
def c_ref05_Quarter_10 : MCode := .seq c_ref05_Quarter_11 c_ref05_Quarter_19
def c_ref05_Quarter_7 : MCode := .seq c_ref05_Quarter_8 c_ref05_Quarter_10
def c_ref05_Quarter_6 : MCode := .loop [9, 10, 11] c_ref05_Quarter_7
def c_ref05_Quarter_5 : MCode := .block 0 c_ref05_Quarter_6
def c_ref05_Quarter_4 : MCode := .seq (.region [⟨(some 11), .mv (.const (.int .i64 0)), none⟩] []) c_ref05_Quarter_5
def c_ref05_Quarter_20 : MCode := .seq (.region [⟨(some 57), .mv (.tmp 10), none⟩,
   ⟨(some 8), .mv (.tmp 57), none⟩] []) .ret
def c_ref05_Quarter_3 : MCode := .seq c_ref05_Quarter_4 c_ref05_Quarter_20
def c_ref05_Quarter_2 : MCode := .seq (.region [⟨(some 16), .mv (.tmp 0), none⟩,
   ⟨(some 17), .mv (.tmp 1), none⟩,
   ⟨(some 18), .mv (.tmp 2), none⟩,
   ⟨(some 19), .mv (.tmp 3), none⟩,
   ⟨(some 20), .buildSlice [(.int .u32 0), (.int .u32 0), (.int .u32 0), (.int .u32 0)] 4 [(0, 1, (.tmp 16)), (1, 1, (.tmp 17)), (2, 1, (.tmp 18)), (3, 1, (.tmp 19))], none⟩,
   ⟨(some 10), .mv (.tmp 20), none⟩] []) c_ref05_Quarter_3
def c_ref05_Quarter_1 : MCode := .seq (.region [⟨(some 15), .buildSlice [(.int .u64 0), (.int .u64 0), (.int .u64 0), (.int .u64 0)] 4 [(0, 1, (.const (.int .u64 16))), (1, 1, (.const (.int .u64 12))), (2, 1, (.const (.int .u64 8))), (3, 1, (.const (.int .u64 7)))], none⟩,
   ⟨(some 9), .mv (.tmp 15), none⟩] []) c_ref05_Quarter_2
def c_ref05_Quarter_0 : MCode := .seq (.region [⟨(some 8), .mv (.const (.slice none 0 0)), none⟩] []) c_ref05_Quarter_1
/-- trefoil/trefoilref05.Quarter -/
def M_ref05_Quarter : MFun := ⟨4, c_ref05_Quarter_0, [.tmp 8]⟩
abbrev F_ref05_Quarter : Nat := 101
set_option maxRecDepth 100000 in
theorem m_ref05_Quarter : InProg Try.prog 0 101 M_ref05_Quarter := ⟨Try.f101, [[9, 10, 11]], Try.func101, by kernel_rfl⟩
def c_chacha_Block_4 : MCode := .seq (.region [⟨(some 6), .mv (.const (.string ⟨#[]⟩)), none⟩,
   ⟨(some 7), .mv (.const (.int .i64 11)), none⟩] []) .ret
def c_chacha_Block_3 : MCode := .cond (.tmp 15) c_chacha_Block_4 .skip
def c_chacha_Block_2 : MCode := .seq (.region [⟨(some 13), .mv (.tmp 1), none⟩,
   ⟨(some 14), .lenS (.tmp 13), none⟩,
   ⟨(some 15), .ar .neq (.tmp 14) (.const (.int .i64 12)), none⟩] []) c_chacha_Block_3
def c_chacha_Block_13 : MCode := .cond (.tmp 22) .skip (.exit 0)
def c_chacha_Block_23 : MCode := (.region [⟨(some 30), .call 107 [(.tmp 9), (.const (.int .i64 3)), (.const (.int .i64 4)), (.const (.int .i64 9)), (.const (.int .i64 14))], none⟩] [])
def c_chacha_Block_22 : MCode := .seq (.region [⟨(some 29), .call 107 [(.tmp 9), (.const (.int .i64 2)), (.const (.int .i64 7)), (.const (.int .i64 8)), (.const (.int .i64 13))], none⟩] []) c_chacha_Block_23
def c_chacha_Block_21 : MCode := .seq (.region [⟨(some 28), .call 107 [(.tmp 9), (.const (.int .i64 1)), (.const (.int .i64 6)), (.const (.int .i64 11)), (.const (.int .i64 12))], none⟩] []) c_chacha_Block_22
def c_chacha_Block_20 : MCode := .seq (.region [⟨(some 27), .call 107 [(.tmp 9), (.const (.int .i64 0)), (.const (.int .i64 5)), (.const (.int .i64 10)), (.const (.int .i64 15))], none⟩] []) c_chacha_Block_21
def c_chacha_Block_19 : MCode := .seq (.region [⟨(some 26), .call 107 [(.tmp 9), (.const (.int .i64 3)), (.const (.int .i64 7)), (.const (.int .i64 11)), (.const (.int .i64 15))], none⟩] []) c_chacha_Block_20
def c_chacha_Block_18 : MCode := .seq (.region [⟨(some 25), .call 107 [(.tmp 9), (.const (.int .i64 2)), (.const (.int .i64 6)), (.const (.int .i64 10)), (.const (.int .i64 14))], none⟩] []) c_chacha_Block_19
def c_chacha_Block_17 : MCode := .seq (.region [⟨(some 24), .call 107 [(.tmp 9), (.const (.int .i64 1)), (.const (.int .i64 5)), (.const (.int .i64 9)), (.const (.int .i64 13))], none⟩] []) c_chacha_Block_18
def c_chacha_Block_16 : MCode := .seq (.region [⟨(some 23), .call 107 [(.tmp 9), (.const (.int .i64 0)), (.const (.int .i64 4)), (.const (.int .i64 8)), (.const (.int .i64 12))], none⟩] []) c_chacha_Block_17
def c_chacha_Block_15 : MCode := .block 1 c_chacha_Block_16
def c_chacha_Block_24 : MCode := (.region [⟨(some 31), .ar .add (.tmp 21) (.const (.int .i64 1)), none⟩,
   ⟨(some 21), .mv (.tmp 31), none⟩] [])
def c_chacha_Block_14 : MCode := .seq c_chacha_Block_15 c_chacha_Block_24
def c_chacha_Block_12 : MCode := .seq c_chacha_Block_13 c_chacha_Block_14
def c_chacha_Block_11 : MCode := .seq (.region [⟨(some 22), .ar .lss (.tmp 21) (.const (.int .i64 10)), none⟩] []) c_chacha_Block_12
def c_chacha_Block_10 : MCode := .loop [8, 9, 21] c_chacha_Block_11
def c_chacha_Block_9 : MCode := .block 0 c_chacha_Block_10
def c_chacha_Block_8 : MCode := .seq (.region [⟨(some 21), .mv (.const (.int .i64 0)), none⟩] []) c_chacha_Block_9
def c_chacha_Block_32 : MCode := .cond (.tmp 35) .skip (.exit 2)
def c_chacha_Block_37 : MCode := (.region [⟨(some 43), .mv (.tmp 10), none⟩,
   ⟨(some 44), .mv (.tmp 12), none⟩,
   ⟨(some 45), .conv .u8 (.tmp 44), none⟩,
   ⟨(some 46), .mv (.tmp 12), none⟩,
   ⟨(some 47), .ar .shr (.tmp 46) (.const (.int .u64 8)), none⟩,
   ⟨(some 48), .conv .u8 (.tmp 47), none⟩,
   ⟨(some 49), .mv (.tmp 12), none⟩,
   ⟨(some 50), .ar .shr (.tmp 49) (.const (.int .u64 16)), none⟩,
   ⟨(some 51), .conv .u8 (.tmp 50), none⟩,
   ⟨(some 52), .mv (.tmp 12), none⟩,
   ⟨(some 53), .ar .shr (.tmp 52) (.const (.int .u64 24)), none⟩,
   ⟨(some 54), .conv .u8 (.tmp 53), none⟩,
   ⟨(some 55), .buildSlice [(.int .u8 0), (.int .u8 0), (.int .u8 0), (.int .u8 0)] 4 [(0, 1, (.tmp 45)), (1, 1, (.tmp 48)), (2, 1, (.tmp 51)), (3, 1, (.tmp 54))], none⟩,
   ⟨(some 56), .app 1 1 (.tmp 43) (.tmp 55), none⟩,
   ⟨(some 10), .mv (.tmp 56), none⟩] [])
def c_chacha_Block_36 : MCode := .seq (.region [⟨(some 38), .mv (.tmp 12), none⟩,
   ⟨(some 39), .mv (.tmp 11), none⟩,
   ⟨(some 40), .ixA 1 16 (.tmp 8) (.tmp 39), none⟩,
   ⟨(some 41), .load1 (.tmp 40), none⟩,
   ⟨(some 42), .ar .add (.tmp 38) (.tmp 41), none⟩,
   ⟨(some 12), .mv (.tmp 42), none⟩] []) c_chacha_Block_37
def c_chacha_Block_35 : MCode := .seq (.region [⟨(some 36), .mv (.tmp 34), none⟩,
   ⟨(some 37), .ixG 1 16 false (.tmp 33) (.tmp 34), none⟩,
   ⟨(some 11), .mv (.tmp 36), none⟩,
   ⟨(some 12), .mv (.tmp 37), none⟩] []) c_chacha_Block_36
def c_chacha_Block_34 : MCode := .block 3 c_chacha_Block_35
def c_chacha_Block_38 : MCode := (.region [⟨(some 57), .ar .add (.tmp 34) (.const (.int .i64 1)), none⟩,
   ⟨(some 34), .mv (.tmp 57), none⟩] [])
def c_chacha_Block_33 : MCode := .seq c_chacha_Block_34 c_chacha_Block_38
def c_chacha_Block_31 : MCode := .seq c_chacha_Block_32 c_chacha_Block_33
def c_chacha_Block_30 : MCode := .seq (.region [⟨(some 35), .ar .lss (.tmp 34) (.const (.int .i64 16)), none⟩] []) c_chacha_Block_31
def c_chacha_Block_29 : MCode := .loop [8, 10, 33, 34] c_chacha_Block_30
def c_chacha_Block_28 : MCode := .block 2 c_chacha_Block_29
def c_chacha_Block_27 : MCode := .seq (.region [⟨(some 33), .loadN 16 (.tmp 9), none⟩,
   ⟨(some 34), .mv (.const (.int .i64 0)), none⟩] []) c_chacha_Block_28
def c_chacha_Block_39 : MCode := .seq (.region [⟨(some 58), .mv (.tmp 10), none⟩,
   ⟨(some 59), .convBS (.tmp 58), none⟩,
   ⟨(some 6), .mv (.tmp 59), none⟩,
   ⟨(some 7), .mv (.const (.int .i64 0)), none⟩] []) .ret
def c_chacha_Block_26 : MCode := .seq c_chacha_Block_27 c_chacha_Block_39
def c_chacha_Block_25 : MCode := .seq (.region [⟨(some 32), .mkSl 1 [(.int .u8 0)] (.const (.int .i64 0)) (.const (.int .i64 64)), none⟩,
   ⟨(some 10), .mv (.tmp 32), none⟩] []) c_chacha_Block_26
def c_chacha_Block_7 : MCode := .seq c_chacha_Block_8 c_chacha_Block_25
def c_chacha_Block_6 : MCode := .seq (.region [⟨(some 20), .loadN 16 (.tmp 8), none⟩,
   ⟨(some 9), .new [(.int .u32 0), (.int .u32 0), (.int .u32 0), (.int .u32 0), (.int .u32 0), (.int .u32 0), (.int .u32 0), (.int .u32 0), (.int .u32 0), (.int .u32 0), (.int .u32 0), (.int .u32 0), (.int .u32 0), (.int .u32 0), (.int .u32 0), (.int .u32 0)], none⟩,
   ⟨none, .store 16 (.tmp 9) (.tmp 20), none⟩] []) c_chacha_Block_7
def c_chacha_Block_5 : MCode := .seq (.region [⟨(some 16), .loadN 32 (.tmp 3), none⟩,
   ⟨(some 17), .mv (.tmp 1), none⟩,
   ⟨(some 18), .mv (.tmp 2), none⟩,
   ⟨(some 19), .call 106 [(.tmp 16), (.tmp 17), (.tmp 18)], none⟩,
   ⟨(some 8), .new [(.int .u32 0), (.int .u32 0), (.int .u32 0), (.int .u32 0), (.int .u32 0), (.int .u32 0), (.int .u32 0), (.int .u32 0), (.int .u32 0), (.int .u32 0), (.int .u32 0), (.int .u32 0), (.int .u32 0), (.int .u32 0), (.int .u32 0), (.int .u32 0)], none⟩,
   ⟨none, .store 16 (.tmp 8) (.tmp 19), none⟩] []) c_chacha_Block_6
def c_chacha_Block_1 : MCode := .seq c_chacha_Block_2 c_chacha_Block_5
def c_chacha_Block_0 : MCode := .seq (.region [⟨(some 3), .box (.tmp 0), none⟩,
   ⟨(some 6), .mv (.const (.string ⟨#[]⟩)), none⟩,
   ⟨(some 7), .mv (.const (.int .i64 0)), none⟩] []) c_chacha_Block_1
/-- trefoil/chacha.Block -/
def M_chacha_Block : MFun := ⟨3, c_chacha_Block_0, [.tmp 6, .tmp 7]⟩
abbrev F_chacha_Block : Nat := 104
set_option maxRecDepth 100000 in
theorem m_chacha_Block : InProg Try.prog 0 104 M_chacha_Block := ⟨Try.f104, [[8, 9, 21], [8, 10, 33, 34]], Try.func104, by kernel_rfl⟩
def c_ref05_left_1 : MCode := .seq (.region [⟨(some 5), .mv (.tmp 0), none⟩,
   ⟨(some 6), .mv (.tmp 1), none⟩,
   ⟨(some 7), .ar .shl (.tmp 5) (.tmp 6), none⟩,
   ⟨(some 8), .mv (.tmp 0), none⟩,
   ⟨(some 9), .mv (.tmp 1), none⟩,
   ⟨(some 10), .ar .sub (.const (.int .u64 32)) (.tmp 9), none⟩,
   ⟨(some 11), .ar .shr (.tmp 8) (.tmp 10), none⟩,
   ⟨(some 12), .ar .or (.tmp 7) (.tmp 11), none⟩,
   ⟨(some 4), .mv (.tmp 12), none⟩] []) .ret
def c_ref05_left_0 : MCode := .seq (.region [⟨(some 4), .mv (.const (.int .u32 0)), none⟩] []) c_ref05_left_1
/-- trefoil/trefoilref05.left -/
def M_ref05_left : MFun := ⟨2, c_ref05_left_0, [.tmp 4]⟩
abbrev F_ref05_left : Nat := 105
set_option maxRecDepth 100000 in
theorem m_ref05_left : InProg Try.prog 0 105 M_ref05_left := ⟨Try.f105, [], Try.func105, by kernel_rfl⟩
def c_chacha_start_8 : MCode := .cond (.tmp 12) .skip (.exit 0)
def c_chacha_start_12 : MCode := (.region [⟨(some 14), .mv (.tmp 8), none⟩,
   ⟨(some 15), .ar .add (.const (.int .i64 4)) (.tmp 14), none⟩,
   ⟨(some 16), .mv (.tmp 8), none⟩,
   ⟨(some 17), .ar .mul (.const (.int .i64 4)) (.tmp 16), none⟩,
   ⟨(some 18), .mv (.tmp 8), none⟩,
   ⟨(some 19), .ar .mul (.const (.int .i64 4)) (.tmp 18), none⟩,
   ⟨(some 20), .ar .add (.tmp 19) (.const (.int .i64 4)), none⟩,
   ⟨(some 21), .slA 1 32 (.tmp 3) (some (.tmp 17)) (some (.tmp 20)), none⟩,
   ⟨(some 22), .convBS (.tmp 21), none⟩,
   ⟨(some 23), .call 108 [(.tmp 22)], none⟩,
   ⟨(some 24), .ixA 1 16 (.tmp 7) (.tmp 15), none⟩,
   ⟨none, .store 1 (.tmp 24) (.tmp 23), none⟩] [])
def c_chacha_start_11 : MCode := .seq (.region [⟨(some 13), .mv (.tmp 11), none⟩,
   ⟨(some 8), .mv (.tmp 13), none⟩] []) c_chacha_start_12
def c_chacha_start_10 : MCode := .block 1 c_chacha_start_11
def c_chacha_start_13 : MCode := (.region [⟨(some 25), .ar .add (.tmp 11) (.const (.int .i64 1)), none⟩,
   ⟨(some 11), .mv (.tmp 25), none⟩] [])
def c_chacha_start_9 : MCode := .seq c_chacha_start_10 c_chacha_start_13
def c_chacha_start_7 : MCode := .seq c_chacha_start_8 c_chacha_start_9
def c_chacha_start_6 : MCode := .seq (.region [⟨(some 12), .ar .lss (.tmp 11) (.const (.int .i64 8)), none⟩] []) c_chacha_start_7
def c_chacha_start_5 : MCode := .loop [1, 2, 3, 6, 7, 11] c_chacha_start_6
def c_chacha_start_4 : MCode := .block 0 c_chacha_start_5
def c_chacha_start_3 : MCode := .seq (.region [⟨(some 11), .mv (.const (.int .i64 0)), none⟩] []) c_chacha_start_4
def c_chacha_start_21 : MCode := .cond (.tmp 29) .skip (.exit 2)
def c_chacha_start_25 : MCode := (.region [⟨(some 31), .mv (.tmp 9), none⟩,
   ⟨(some 32), .ar .add (.const (.int .i64 13)) (.tmp 31), none⟩,
   ⟨(some 33), .mv (.tmp 1), none⟩,
   ⟨(some 34), .mv (.tmp 9), none⟩,
   ⟨(some 35), .ar .mul (.const (.int .i64 4)) (.tmp 34), none⟩,
   ⟨(some 36), .mv (.tmp 9), none⟩,
   ⟨(some 37), .ar .mul (.const (.int .i64 4)) (.tmp 36), none⟩,
   ⟨(some 38), .ar .add (.tmp 37) (.const (.int .i64 4)), none⟩,
   ⟨(some 39), .slS (.tmp 33) (some (.tmp 35)) (some (.tmp 38)), none⟩,
   ⟨(some 40), .call 108 [(.tmp 39)], none⟩,
   ⟨(some 41), .ixA 1 16 (.tmp 7) (.tmp 32), none⟩,
   ⟨none, .store 1 (.tmp 41) (.tmp 40), none⟩] [])
def c_chacha_start_24 : MCode := .seq (.region [⟨(some 30), .mv (.tmp 28), none⟩,
   ⟨(some 9), .mv (.tmp 30), none⟩] []) c_chacha_start_25
def c_chacha_start_23 : MCode := .block 3 c_chacha_start_24
def c_chacha_start_26 : MCode := (.region [⟨(some 42), .ar .add (.tmp 28) (.const (.int .i64 1)), none⟩,
   ⟨(some 28), .mv (.tmp 42), none⟩] [])
def c_chacha_start_22 : MCode := .seq c_chacha_start_23 c_chacha_start_26
def c_chacha_start_20 : MCode := .seq c_chacha_start_21 c_chacha_start_22
def c_chacha_start_19 : MCode := .seq (.region [⟨(some 29), .ar .lss (.tmp 28) (.const (.int .i64 3)), none⟩] []) c_chacha_start_20
def c_chacha_start_18 : MCode := .loop [1, 6, 7, 28] c_chacha_start_19
def c_chacha_start_17 : MCode := .block 2 c_chacha_start_18
def c_chacha_start_16 : MCode := .seq (.region [⟨(some 28), .mv (.const (.int .i64 0)), none⟩] []) c_chacha_start_17
def c_chacha_start_27 : MCode := .seq (.region [⟨(some 43), .loadN 16 (.tmp 7), none⟩,
   ⟨none, .store 16 (.tmp 6) (.tmp 43), none⟩] []) .ret
def c_chacha_start_15 : MCode := .seq c_chacha_start_16 c_chacha_start_27
def c_chacha_start_14 : MCode := .seq (.region [⟨(some 26), .mv (.tmp 2), none⟩,
   ⟨(some 27), .ixA 1 16 (.tmp 7) (.const (.int .i64 12)), none⟩,
   ⟨none, .store 1 (.tmp 27) (.tmp 26), none⟩] []) c_chacha_start_15
def c_chacha_start_2 : MCode := .seq c_chacha_start_3 c_chacha_start_14
def c_chacha_start_1 : MCode := .seq (.region [⟨(some 10), .build [(.int .u32 0), (.int .u32 0), (.int .u32 0), (.int .u32 0), (.int .u32 0), (.int .u32 0), (.int .u32 0), (.int .u32 0), (.int .u32 0), (.int .u32 0), (.int .u32 0), (.int .u32 0), (.int .u32 0), (.int .u32 0), (.int .u32 0), (.int .u32 0)] [(0, 1, (.const (.int .u32 1634760805))), (1, 1, (.const (.int .u32 857760878))), (2, 1, (.const (.int .u32 2036477234))), (3, 1, (.const (.int .u32 1797285236)))], none⟩,
   ⟨(some 7), .new [(.int .u32 0), (.int .u32 0), (.int .u32 0), (.int .u32 0), (.int .u32 0), (.int .u32 0), (.int .u32 0), (.int .u32 0), (.int .u32 0), (.int .u32 0), (.int .u32 0), (.int .u32 0), (.int .u32 0), (.int .u32 0), (.int .u32 0), (.int .u32 0)], none⟩,
   ⟨none, .store 16 (.tmp 7) (.tmp 10), none⟩] []) c_chacha_start_2
def c_chacha_start_0 : MCode := .seq (.region [⟨(some 3), .box (.tmp 0), none⟩,
   ⟨(some 6), .new [(.int .u32 0), (.int .u32 0), (.int .u32 0), (.int .u32 0), (.int .u32 0), (.int .u32 0), (.int .u32 0), (.int .u32 0), (.int .u32 0), (.int .u32 0), (.int .u32 0), (.int .u32 0), (.int .u32 0), (.int .u32 0), (.int .u32 0), (.int .u32 0)], none⟩] []) c_chacha_start_1
/-- trefoil/chacha.start -/
def M_chacha_start : MFun := ⟨3, c_chacha_start_0, [.cellN 6 16]⟩
abbrev F_chacha_start : Nat := 106
set_option maxRecDepth 100000 in
theorem m_chacha_start : InProg Try.prog 0 106 M_chacha_start := ⟨Try.f106, [[1, 2, 3, 6, 7, 11], [1, 6, 7, 28]], Try.func106, by kernel_rfl⟩
def c_chacha_grid_turn_0 : MCode := (.region [⟨(some 11), .mv (.tmp 0), none⟩,
   ⟨(some 12), .mv (.tmp 1), none⟩,
   ⟨(some 13), .mv (.tmp 0), none⟩,
   ⟨(some 14), .mv (.tmp 2), none⟩,
   ⟨(some 15), .mv (.tmp 0), none⟩,
   ⟨(some 16), .mv (.tmp 3), none⟩,
   ⟨(some 17), .mv (.tmp 0), none⟩,
   ⟨(some 18), .mv (.tmp 4), none⟩,
   ⟨(some 19), .mv (.tmp 0), none⟩,
   ⟨(some 20), .mv (.tmp 1), none⟩,
   ⟨(some 21), .nilCheck (.tmp 19), none⟩,
   ⟨(some 22), .ixA 1 16 (.tmp 21) (.tmp 20), none⟩,
   ⟨(some 23), .load1 (.tmp 22), none⟩,
   ⟨(some 24), .mv (.tmp 0), none⟩,
   ⟨(some 25), .mv (.tmp 2), none⟩,
   ⟨(some 26), .nilCheck (.tmp 24), none⟩,
   ⟨(some 27), .ixA 1 16 (.tmp 26) (.tmp 25), none⟩,
   ⟨(some 28), .load1 (.tmp 27), none⟩,
   ⟨(some 29), .mv (.tmp 0), none⟩,
   ⟨(some 30), .mv (.tmp 3), none⟩,
   ⟨(some 31), .nilCheck (.tmp 29), none⟩,
   ⟨(some 32), .ixA 1 16 (.tmp 31) (.tmp 30), none⟩,
   ⟨(some 33), .load1 (.tmp 32), none⟩,
   ⟨(some 34), .mv (.tmp 0), none⟩,
   ⟨(some 35), .mv (.tmp 4), none⟩,
   ⟨(some 36), .nilCheck (.tmp 34), none⟩,
   ⟨(some 37), .ixA 1 16 (.tmp 36) (.tmp 35), none⟩,
   ⟨(some 38), .load1 (.tmp 37), none⟩,
   ⟨(some 39), .call 109 [(.tmp 23), (.tmp 28), (.tmp 33), (.tmp 38)], none⟩,
   ⟨(some 10), .mv (.tmp 39), none⟩,
   ⟨(some 40), .ext (.tmp 10) 0, none⟩,
   ⟨(some 41), .ext (.tmp 10) 1, none⟩,
   ⟨(some 42), .ext (.tmp 10) 2, none⟩,
   ⟨(some 43), .ext (.tmp 10) 3, none⟩,
   ⟨(some 44), .nilCheck (.tmp 11), none⟩,
   ⟨(some 45), .ixA 1 16 (.tmp 44) (.tmp 12), none⟩,
   ⟨none, .store 1 (.tmp 45) (.tmp 40), none⟩,
   ⟨(some 46), .nilCheck (.tmp 13), none⟩,
   ⟨(some 47), .ixA 1 16 (.tmp 46) (.tmp 14), none⟩,
   ⟨none, .store 1 (.tmp 47) (.tmp 41), none⟩,
   ⟨(some 48), .nilCheck (.tmp 15), none⟩,
   ⟨(some 49), .ixA 1 16 (.tmp 48) (.tmp 16), none⟩,
   ⟨none, .store 1 (.tmp 49) (.tmp 42), none⟩,
   ⟨(some 50), .nilCheck (.tmp 17), none⟩,
   ⟨(some 51), .ixA 1 16 (.tmp 50) (.tmp 18), none⟩,
   ⟨none, .store 1 (.tmp 51) (.tmp 43), none⟩] [])
/-- (*trefoil/chacha.grid).turn -/
def M_chacha_grid_turn : MFun := ⟨5, c_chacha_grid_turn_0, []⟩
abbrev F_chacha_grid_turn : Nat := 107
set_option maxRecDepth 100000 in
theorem m_chacha_grid_turn : InProg Try.prog 0 107 M_chacha_grid_turn := ⟨Try.f107, [], Try.func107, by kernel_rfl⟩
def c_chacha_word_1 : MCode := .seq (.region [⟨(some 3), .mv (.tmp 0), none⟩,
   ⟨(some 4), .ixS (.tmp 3) (.const (.int .i64 0)), none⟩,
   ⟨(some 5), .conv .u32 (.tmp 4), none⟩,
   ⟨(some 6), .mv (.tmp 0), none⟩,
   ⟨(some 7), .ixS (.tmp 6) (.const (.int .i64 1)), none⟩,
   ⟨(some 8), .conv .u32 (.tmp 7), none⟩,
   ⟨(some 9), .ar .shl (.tmp 8) (.const (.int .u64 8)), none⟩,
   ⟨(some 10), .ar .or (.tmp 5) (.tmp 9), none⟩,
   ⟨(some 11), .mv (.tmp 0), none⟩,
   ⟨(some 12), .ixS (.tmp 11) (.const (.int .i64 2)), none⟩,
   ⟨(some 13), .conv .u32 (.tmp 12), none⟩,
   ⟨(some 14), .ar .shl (.tmp 13) (.const (.int .u64 16)), none⟩,
   ⟨(some 15), .ar .or (.tmp 10) (.tmp 14), none⟩,
   ⟨(some 16), .mv (.tmp 0), none⟩,
   ⟨(some 17), .ixS (.tmp 16) (.const (.int .i64 3)), none⟩,
   ⟨(some 18), .conv .u32 (.tmp 17), none⟩,
   ⟨(some 19), .ar .shl (.tmp 18) (.const (.int .u64 24)), none⟩,
   ⟨(some 20), .ar .or (.tmp 15) (.tmp 19), none⟩,
   ⟨(some 2), .mv (.tmp 20), none⟩] []) .ret
def c_chacha_word_0 : MCode := .seq (.region [⟨(some 2), .mv (.const (.int .u32 0)), none⟩] []) c_chacha_word_1
/-- trefoil/chacha.word -/
def M_chacha_word : MFun := ⟨1, c_chacha_word_0, [.tmp 2]⟩
abbrev F_chacha_word : Nat := 108
set_option maxRecDepth 100000 in
theorem m_chacha_word : InProg Try.prog 0 108 M_chacha_word := ⟨Try.f108, [], Try.func108, by kernel_rfl⟩
def c_chacha_Quarter_9 : MCode := .seq (.region [⟨(some 40), .mv (.tmp 0), none⟩,
   ⟨(some 41), .mv (.tmp 1), none⟩,
   ⟨(some 42), .mv (.tmp 2), none⟩,
   ⟨(some 43), .mv (.tmp 3), none⟩,
   ⟨(some 8), .mv (.tmp 40), none⟩,
   ⟨(some 9), .mv (.tmp 41), none⟩,
   ⟨(some 10), .mv (.tmp 42), none⟩,
   ⟨(some 11), .mv (.tmp 43), none⟩] []) .ret
def c_chacha_Quarter_8 : MCode := .seq (.region [⟨(some 36), .mv (.tmp 1), none⟩,
   ⟨(some 37), .mv (.tmp 2), none⟩,
   ⟨(some 38), .ar .xor (.tmp 36) (.tmp 37), none⟩,
   ⟨(some 39), .call 110 [(.tmp 38), (.const (.int .i64 7))], none⟩,
   ⟨(some 1), .mv (.tmp 39), none⟩] []) c_chacha_Quarter_9
def c_chacha_Quarter_7 : MCode := .seq (.region [⟨(some 33), .mv (.tmp 2), none⟩,
   ⟨(some 34), .mv (.tmp 3), none⟩,
   ⟨(some 35), .ar .add (.tmp 33) (.tmp 34), none⟩,
   ⟨(some 2), .mv (.tmp 35), none⟩] []) c_chacha_Quarter_8
def c_chacha_Quarter_6 : MCode := .seq (.region [⟨(some 29), .mv (.tmp 3), none⟩,
   ⟨(some 30), .mv (.tmp 0), none⟩,
   ⟨(some 31), .ar .xor (.tmp 29) (.tmp 30), none⟩,
   ⟨(some 32), .call 110 [(.tmp 31), (.const (.int .i64 8))], none⟩,
   ⟨(some 3), .mv (.tmp 32), none⟩] []) c_chacha_Quarter_7
def c_chacha_Quarter_5 : MCode := .seq (.region [⟨(some 26), .mv (.tmp 0), none⟩,
   ⟨(some 27), .mv (.tmp 1), none⟩,
   ⟨(some 28), .ar .add (.tmp 26) (.tmp 27), none⟩,
   ⟨(some 0), .mv (.tmp 28), none⟩] []) c_chacha_Quarter_6
def c_chacha_Quarter_4 : MCode := .seq (.region [⟨(some 22), .mv (.tmp 1), none⟩,
   ⟨(some 23), .mv (.tmp 2), none⟩,
   ⟨(some 24), .ar .xor (.tmp 22) (.tmp 23), none⟩,
   ⟨(some 25), .call 110 [(.tmp 24), (.const (.int .i64 12))], none⟩,
   ⟨(some 1), .mv (.tmp 25), none⟩] []) c_chacha_Quarter_5
def c_chacha_Quarter_3 : MCode := .seq (.region [⟨(some 19), .mv (.tmp 2), none⟩,
   ⟨(some 20), .mv (.tmp 3), none⟩,
   ⟨(some 21), .ar .add (.tmp 19) (.tmp 20), none⟩,
   ⟨(some 2), .mv (.tmp 21), none⟩] []) c_chacha_Quarter_4
def c_chacha_Quarter_2 : MCode := .seq (.region [⟨(some 15), .mv (.tmp 3), none⟩,
   ⟨(some 16), .mv (.tmp 0), none⟩,
   ⟨(some 17), .ar .xor (.tmp 15) (.tmp 16), none⟩,
   ⟨(some 18), .call 110 [(.tmp 17), (.const (.int .i64 16))], none⟩,
   ⟨(some 3), .mv (.tmp 18), none⟩] []) c_chacha_Quarter_3
def c_chacha_Quarter_1 : MCode := .seq (.region [⟨(some 12), .mv (.tmp 0), none⟩,
   ⟨(some 13), .mv (.tmp 1), none⟩,
   ⟨(some 14), .ar .add (.tmp 12) (.tmp 13), none⟩,
   ⟨(some 0), .mv (.tmp 14), none⟩] []) c_chacha_Quarter_2
def c_chacha_Quarter_0 : MCode := .seq (.region [⟨(some 8), .mv (.const (.int .u32 0)), none⟩,
   ⟨(some 9), .mv (.const (.int .u32 0)), none⟩,
   ⟨(some 10), .mv (.const (.int .u32 0)), none⟩,
   ⟨(some 11), .mv (.const (.int .u32 0)), none⟩] []) c_chacha_Quarter_1
/-- trefoil/chacha.Quarter -/
def M_chacha_Quarter : MFun := ⟨4, c_chacha_Quarter_0, [.tmp 8, .tmp 9, .tmp 10, .tmp 11]⟩
abbrev F_chacha_Quarter : Nat := 109
set_option maxRecDepth 100000 in
theorem m_chacha_Quarter : InProg Try.prog 0 109 M_chacha_Quarter := ⟨Try.f109, [], Try.func109, by kernel_rfl⟩
def c_math_bits_RotateLeft32_2 : MCode := .seq (.region [⟨(some 9), .mv (.tmp 0), none⟩,
   ⟨(some 10), .mv (.tmp 5), none⟩,
   ⟨(some 11), .ar .shl (.tmp 9) (.tmp 10), none⟩,
   ⟨(some 12), .mv (.tmp 0), none⟩,
   ⟨(some 13), .mv (.tmp 5), none⟩,
   ⟨(some 14), .ar .sub (.const (.int .u64 32)) (.tmp 13), none⟩,
   ⟨(some 15), .ar .shr (.tmp 12) (.tmp 14), none⟩,
   ⟨(some 16), .ar .or (.tmp 11) (.tmp 15), none⟩,
   ⟨(some 4), .mv (.tmp 16), none⟩] []) .ret
def c_math_bits_RotateLeft32_1 : MCode := .seq (.region [⟨(some 6), .mv (.tmp 1), none⟩,
   ⟨(some 7), .conv .u64 (.tmp 6), none⟩,
   ⟨(some 8), .ar .and (.tmp 7) (.const (.int .u64 31)), none⟩,
   ⟨(some 5), .mv (.tmp 8), none⟩] []) c_math_bits_RotateLeft32_2
def c_math_bits_RotateLeft32_0 : MCode := .seq (.region [⟨(some 4), .mv (.const (.int .u32 0)), none⟩] []) c_math_bits_RotateLeft32_1
/-- math/bits.RotateLeft32 -/
def M_math_bits_RotateLeft32 : MFun := ⟨2, c_math_bits_RotateLeft32_0, [.tmp 4]⟩
abbrev F_math_bits_RotateLeft32 : Nat := 110
set_option maxRecDepth 100000 in
theorem m_math_bits_RotateLeft32 : InProg Try.prog 0 110 M_math_bits_RotateLeft32 := ⟨Try.f110, [], Try.func110, by kernel_rfl⟩
def tab : List (Nat × MFun) := [(3, M_law29_SampleShuffles), (4, M_law29_SampleWhole), (7, M_sample_Shuffle), (8, M_ref29_Shuffle), (9, M_sample_Pick), (10, M_ref29_Pick), (11, M_ref01_Ints), (12, M_law29_awake), (13, M_sample_Rest), (23, M_prg_New), (24, M_prg_Source_Below), (25, M_ref07_Below), (27, M_slices_Clip_int_int), (37, M_prg_Cut), (38, M_prg_Source_Next), (39, M_ref07_Words), (40, M_ref07_Cut), (60, M_prg_Words), (61, M_ref07_Bytes), (83, M_prg_Bytes), (84, M_ref05_Block), (85, M_ref07_Nonce), (98, M_chacha_Stream), (99, M_chacha_Nonce), (100, M_ref05_word), (101, M_ref05_Quarter), (104, M_chacha_Block), (105, M_ref05_left), (106, M_chacha_start), (107, M_chacha_grid_turn), (108, M_chacha_word), (109, M_chacha_Quarter), (110, M_math_bits_RotateLeft32)]
theorem tabIn : AllIn Try.prog 0 tab := ⟨m_law29_SampleShuffles, m_law29_SampleWhole, m_sample_Shuffle, m_ref29_Shuffle, m_sample_Pick, m_ref29_Pick, m_ref01_Ints, m_law29_awake, m_sample_Rest, m_prg_New, m_prg_Source_Below, m_ref07_Below, m_slices_Clip_int_int, m_prg_Cut, m_prg_Source_Next, m_ref07_Words, m_ref07_Cut, m_prg_Words, m_ref07_Bytes, m_prg_Bytes, m_ref05_Block, m_ref07_Nonce, m_chacha_Stream, m_chacha_Nonce, m_ref05_word, m_ref05_Quarter, m_chacha_Block, m_ref05_left, m_chacha_start, m_chacha_grid_turn, m_chacha_word, m_chacha_Quarter, m_math_bits_RotateLeft32, trivial⟩
theorem mixed : Try.prog.follows .mixedOrders = true := by kernel_rfl
end Go.Proofs.Ytboioafflppnfaa

/- The canonical machine: rules to walk through its code. Conditions: none. -/
namespace Go.Cm
open Go.RowKit
set_option linter.unusedVariables false
set_option linter.unusedSimpArgs false

def Fr.look : Fr → Nat → Option Value
  | [], _ => none
  | (t, v) :: r, s => match Nat.beq s t with | true => some v | false => Fr.look r s
def evO (f : Fr) : Operand → Option Value
  | .tmp t => f.look t
  | .const v => some v
  | .global g => some (.pointer (some ⟨g, 0, none⟩))
  | .func g => some (.func (.func g) #[] #[])
def evL (f : Fr) : List Operand → Option (List Value)
  | [] => some []
  | x :: xs => match evO f x, evL f xs with | some v, some vs => some (v :: vs) | _, _ => none
def keepO (f : Fr) : List Nat → Option Fr
  | [] => some []
  | t :: l => match f.look t, keepO f l with | some v, some r => some ((t, v) :: r) | none, some r => some ((t, unk) :: r) | _, none => none

theorem Fr.look_get {f : Fr} {t : Nat} {v : Value} (h : f.look t = some v) : f.get t = v := by
  induction f with
  | nil => cases h
  | cons p r ih =>
    obtain ⟨s, w⟩ := p
    simp only [Fr.look] at h
    simp only [Fr.get]
    split at h
    · rename_i hb
      rw [if_pos (Nat.eq_of_beq_eq_true hb)]
      cases h; rfl
    · rename_i hb
      rw [if_neg (Nat.ne_of_beq_eq_false hb)]
      exact ih h
theorem Fr.look_none {f : Fr} {t : Nat} (h : f.look t = none) : f.get t = unk := by
  induction f with
  | nil => rfl
  | cons p r ih =>
    obtain ⟨s, w⟩ := p
    simp only [Fr.look] at h
    simp only [Fr.get]
    split at h
    · cases h
    · rename_i hb
      rw [if_neg (Nat.ne_of_beq_eq_false hb)]
      exact ih h
theorem evO_ok {f : Fr} {x : Operand} {v : Value} (h : evO f x = some v) : f.ev x = v := by
  cases x with
  | tmp t => exact Fr.look_get h
  | const c => cases h; rfl
  | global g => cases h; rfl
  | func g => cases h; rfl
theorem evL_ok {f : Fr} : ∀ {xs : List Operand} {vs : List Value}, evL f xs = some vs → xs.map f.ev = vs
  | [], vs, h => by cases h; rfl
  | x :: xs, vs, h => by
    simp only [evL] at h
    split at h
    · rename_i v ws h1 h2
      cases h
      rw [List.map_cons, evO_ok h1, evL_ok h2]
    · cases h
theorem keepO_ok {f : Fr} : ∀ {l : List Nat} {r : Fr}, keepO f l = some r → f.keep l = r
  | [], r, h => by cases h; rfl
  | t :: l, r, h => by
    simp only [keepO] at h
    split at h
    · rename_i v r' h1 h2
      cases h
      rw [Fr.keep, Fr.look_get h1, keepO_ok h2]
    · rename_i r' h1 h2
      cases h
      rw [Fr.keep, Fr.look_none h1, keepO_ok h2]
    · cases h

def resOneL (f : Fr) (h : Heap) : MRes → Option Value
  | .tmp t => f.look t
  | .cell1 t => match f.look t with | some (.pointer (some a)) => h.rd1 a | _ => none
  | .cellN t n => match f.look t with | some (.pointer (some a)) => (match h.rdN a n with | some vs => some (.agg vs.toArray) | none => none) | _ => none
def resAllL (f : Fr) (h : Heap) : List MRes → Option (List Value)
  | [] => some []
  | r :: rs => match resOneL f h r, resAllL f h rs with | some v, some vs => some (v :: vs) | _, _ => none
def resL (rs : List MRes) (f : Fr) (h : Heap) : Option Value :=
  match resAllL f h rs with
  | some [v] => some v
  | some vs => some (.tuple vs.toArray)
  | none => none
theorem resOneL_ok {f : Fr} {h : Heap} {r : MRes} {v : Value} (H : resOneL f h r = some v) : resOne f h r = some v := by
  cases r with
  | tmp t => simp only [resOneL] at H; simp only [resOne, Fr.look_get H]
  | cell1 t =>
    simp only [resOneL] at H
    split at H
    · rename_i a ha; simp only [resOne, Fr.look_get ha, H]
    · cases H
  | cellN t n =>
    simp only [resOneL] at H
    split at H
    · rename_i a ha; simp only [resOne, Fr.look_get ha]; exact H
    · cases H
theorem resAllL_ok {f : Fr} {h : Heap} : ∀ {rs : List MRes} {vs : List Value}, resAllL f h rs = some vs → resAll f h rs = some vs
  | [], vs, H => H
  | r :: rs, vs, H => by
    simp only [resAllL] at H
    split at H
    · rename_i v ws h1 h2
      cases H
      simp only [resAll, resOneL_ok h1, resAllL_ok h2]
    · cases H
theorem resL_ok {rs : List MRes} {f : Fr} {h : Heap} {v : Value} (H : resL rs f h = some v) : resC rs f h = some v := by
  unfold resL at H
  unfold resC
  split at H
  · rename_i u hu; rw [resAllL_ok hu]; exact H
  · rename_i vs hne hu
    rw [resAllL_ok hu]
    cases H
    split
    · rename_i u e; cases e; exact (hne u rfl).elim
    · rename_i e; cases e; rfl
    · rename_i e; cases e
  · cases H

section
variable (M : Prg)

/-- a piece of code is left in a state that satisfies Q -/
def wp (c : MCode) (Q : Ex → Fr → Heap → Prop) (f : Fr) (h : Heap) : Prop := ∃ e f' h', Ev M (.code c f h e f' h') ∧ Q e f' h'
def wpR (live : List Nat) (c : MCode) (Q : Ex → Fr → Heap → Prop) (f : Fr) (h : Heap) : Prop := ∃ e f' h', Ev M (.rounds live c f h e f' h') ∧ Q e f' h'
def wpO (l : List MO) (K : Fr → Heap → Prop) (f : Fr) (h : Heap) : Prop := ∃ trs f' h', Ev M (.ops l f h trs f' h') ∧ K f' h'
/-- with what each did -/
def wpT (l : List MO) (K : List Tr → Fr → Heap → Prop) (f : Fr) (h : Heap) : Prop := ∃ trs f' h', Ev M (.ops l f h trs f' h') ∧ K trs f' h'
/-- a call -/
def Cl (g : FuncId) (args : List Value) (h : Heap) (K : Value → Heap → Prop) : Prop := ∃ v h', Ev M (.call g args h v h') ∧ K v h'

variable {M}

theorem Cl.mono {g : FuncId} {args : List Value} {h : Heap} {K K' : Value → Heap → Prop} (H : Cl M g args h K) (hk : ∀ v h', K v h' → K' v h') : Cl M g args h K' :=
  let ⟨v, h', e, k⟩ := H; ⟨v, h', e, hk v h' k⟩
theorem Cl.of {g : FuncId} {args : List Value} {h h' : Heap} {v : Value} (H : Ev M (.call g args h v h')) : Cl M g args h fun u k => u = v ∧ k = h' := ⟨v, h', H, rfl, rfl⟩
theorem Cl.eq {g : FuncId} {args : List Value} {h h' : Heap} {v : Value} (H : Cl M g args h fun u k => u = v ∧ k = h') : Ev M (.call g args h v h') := by
  obtain ⟨u, k, e, rfl, rfl⟩ := H; exact e

variable {Q : Ex → Fr → Heap → Prop} {K : Fr → Heap → Prop} {f : Fr} {h : Heap}

/-- what is asked behind the first of two -/
def Ex.then (Q1 : Fr → Heap → Prop) (Q : Ex → Fr → Heap → Prop) : Ex → Fr → Heap → Prop
  | .norm, f, h => Q1 f h
  | e, f, h => Q e f h

theorem w_skip (H : Q .norm f h) : wp M .skip Q f h := ⟨_, _, _, .skip, H⟩
theorem w_ret (H : Q .ret f h) : wp M .ret Q f h := ⟨_, _, _, .ret, H⟩
theorem w_exit {i : Nat} (H : Q (.exit i) f h) : wp M (.exit i) Q f h := ⟨_, _, _, .exit, H⟩
theorem w_seq {a b : MCode} (H : wp M a (Ex.then (wp M b Q) Q) f h) : wp M (.seq a b) Q f h := by
  obtain ⟨e, f1, h1, ha, hq⟩ := H
  cases e with
  | norm => obtain ⟨e2, f2, h2, hb, hq2⟩ := hq; exact ⟨e2, f2, h2, .seqN ha hb, hq2⟩
  | exit i => exact ⟨_, f1, h1, .seqX ha (by simp), hq⟩
  | ret => exact ⟨_, f1, h1, .seqX ha (by simp), hq⟩
theorem w_ops {l : List MO} (H : wpO M l (Q .norm) f h) : wp M (.region l []) Q f h := by
  obtain ⟨trs, f1, h1, ho, hq⟩ := H
  exact ⟨_, _, _, .region ho (fun _ hij => by cases hij), hq⟩
theorem w_opsT {l : List MO} {x : List (Nat × Nat)} (H : wpT M l (fun trs f' h' => (∀ ij ∈ x, CrossOK l trs ij) ∧ Q .norm f' h') f h) : wp M (.region l x) Q f h := by
  obtain ⟨trs, f1, h1, ho, hx, hq⟩ := H
  exact ⟨_, _, _, .region ho hx, hq⟩
theorem w_opsS {l : List MO} {b : MCode} (H : wpO M l (wp M b Q) f h) : wp M (.seq (.region l []) b) Q f h := w_seq (w_ops H)
theorem w_cond {c : Operand} {a b : MCode} {t : Bool} (hc : evO f c = some (.bool t)) (ht : t = true → wp M a Q f h) (hf : t = false → wp M b Q f h) : wp M (.cond c a b) Q f h := by
  cases t with
  | true => obtain ⟨e, f1, h1, ha, hq⟩ := ht rfl; exact ⟨e, f1, h1, .condT (evO_ok hc) ha, hq⟩
  | false => obtain ⟨e, f1, h1, ha, hq⟩ := hf rfl; exact ⟨e, f1, h1, .condF (evO_ok hc) ha, hq⟩
theorem w_condT {c : Operand} {a b : MCode} (hc : evO f c = some (.bool true)) (H : wp M a Q f h) : wp M (.cond c a b) Q f h := w_cond hc (fun _ => H) (fun e => by cases e)
theorem w_condF {c : Operand} {a b : MCode} (hc : evO f c = some (.bool false)) (H : wp M b Q f h) : wp M (.cond c a b) Q f h := w_cond hc (fun e => by cases e) (fun _ => H)

def Ex.inB (i : Nat) (Q : Ex → Fr → Heap → Prop) : Ex → Fr → Heap → Prop
  | .exit j, f, h => if j = i then Q .norm f h else Q (.exit j) f h
  | e, f, h => Q e f h
theorem w_block {i : Nat} {b : MCode} (H : wp M b (Ex.inB i Q) f h) : wp M (.block i b) Q f h := by
  obtain ⟨e, f1, h1, hb, hq⟩ := H
  cases e with
  | norm => exact ⟨_, f1, h1, .blockO hb (by simp), hq⟩
  | ret => exact ⟨_, f1, h1, .blockO hb (by simp), hq⟩
  | exit j =>
    simp only [Ex.inB] at hq
    by_cases hj : j = i
    · rw [if_pos hj] at hq; subst hj; exact ⟨_, f1, h1, .blockX hb, hq⟩
    · rw [if_neg hj] at hq; exact ⟨_, f1, h1, .blockO hb (by simpa using hj), hq⟩
theorem w_loop {live : List Nat} {b : MCode} {f' : Fr} (hk : keepO f live = some f') (H : wpR M live b Q f' h) : wp M (.loop live b) Q f h := by
  obtain ⟨e, f1, h1, hr, hq⟩ := H
  refine ⟨e, f1, h1, .loop ?_, hq⟩
  rw [keepO_ok hk]; exact hr
/-- a round; 'again': what is asked at the loop's head -/
def Ex.round (live : List Nat) (again : Fr → Heap → Prop) (Q : Ex → Fr → Heap → Prop) : Ex → Fr → Heap → Prop
  | .norm, f, h => ∃ f', keepO f live = some f' ∧ again f' h
  | e, f, h => Q e f h
theorem w_round {live : List Nat} {b : MCode} (H : wp M b (Ex.round live (wpR M live b Q) Q) f h) : wpR M live b Q f h := by
  obtain ⟨e, f1, h1, hb, hq⟩ := H
  cases e with
  | norm =>
    obtain ⟨f2, hk, e2, f3, h3, hr, hq⟩ := hq
    refine ⟨e2, f3, h3, .again hb ?_, hq⟩
    rw [keepO_ok hk]; exact hr
  | exit i => exact ⟨_, f1, h1, .out hb (by simp), hq⟩
  | ret => exact ⟨_, f1, h1, .out hb (by simp), hq⟩
theorem w_call {g : FuncId} {F : MFun} {args : List Value} {R : Value → Heap → Prop} (hF : M.fn g = some F) (hl : args.length = F.nargs)
    (H : wp M F.body (fun e f h => (e = .norm ∨ e = .ret) ∧ ∃ v, resL F.res f h = some v ∧ R v h) (initF 0 args) h) : Cl M g args h R := by
  obtain ⟨e, f1, h1, hb, he, v, hv, hr⟩ := H
  exact ⟨v, h1, .fcall hF hl hb he (resL_ok hv), hr⟩
theorem wp_mono {c : MCode} {Q' : Ex → Fr → Heap → Prop} (H : wp M c Q f h) (hq : ∀ e f h, Q e f h → Q' e f h) : wp M c Q' f h :=
  let ⟨e, f1, h1, hb, q⟩ := H; ⟨e, f1, h1, hb, hq _ _ _ q⟩

/-! ### operations -/

theorem o_nil (H : K f h) : wpO M [] K f h := ⟨_, _, _, .nil, H⟩
theorem o_op {o : MO} {r : List MO} {v : Value} {h' : Heap} (hw : wantedC f o.guard = some true) (ho : Ev M (.op o.op f h v h')) (H : wpO M r K (f.put o.dst v) h') : wpO M (o :: r) K f h := by
  obtain ⟨trs, f1, h1, he, hk⟩ := H
  exact ⟨_, f1, h1, .run hw ho he, hk⟩
theorem o_pass {t : Nat} {op : MOp} {g : Option (Nat × Bool)} {r : List MO} (hw : wantedC f g = some false) (H : wpO M r K ((t, undef) :: f) h) : wpO M (⟨some t, op, g⟩ :: r) K f h := by
  obtain ⟨trs, f1, h1, he, hk⟩ := H
  exact ⟨_, f1, h1, .pass hw he, hk⟩
theorem o_passN {op : MOp} {g : Option (Nat × Bool)} {r : List MO} (hw : wantedC f g = some false) (H : wpO M r K f h) : wpO M (⟨none, op, g⟩ :: r) K f h := by
  obtain ⟨trs, f1, h1, he, hk⟩ := H
  exact ⟨_, f1, h1, .pass hw he, hk⟩
/-- an operation that is reckoned -/
theorem o_prim {t : Nat} {op : MOp} {g : Option (Nat × Bool)} {r : List MO} {v : Value} {h' : Heap} (hw : wantedC f g = some true) (hc : cop f.ev h op = some (v, h')) (H : wpO M r K ((t, v) :: f) h') : wpO M (⟨some t, op, g⟩ :: r) K f h := o_op hw (.prim hc) H
theorem o_primN {op : MOp} {g : Option (Nat × Bool)} {r : List MO} {v : Value} {h' : Heap} (hw : wantedC f g = some true) (hc : cop f.ev h op = some (v, h')) (H : wpO M r K f h') : wpO M (⟨none, op, g⟩ :: r) K f h := o_op hw (.prim hc) H
theorem o_mv {t : Nat} {x : Operand} {g : Option (Nat × Bool)} {r : List MO} {v : Value} (hw : wantedC f g = some true) (hx : evO f x = some v) (H : wpO M r K ((t, v) :: f) h) : wpO M (⟨some t, .mv x, g⟩ :: r) K f h :=
  o_op hw (.prim (by simp only [cop, evO_ok hx])) H
theorem o_pickT {t : Nat} {c x y : Operand} {g : Option (Nat × Bool)} {r : List MO} {v : Value} (hw : wantedC f g = some true) (hc : evO f c = some (.bool true)) (hx : evO f x = some v) (H : wpO M r K ((t, v) :: f) h) : wpO M (⟨some t, .pick c x y, g⟩ :: r) K f h :=
  o_op hw (.prim (by simp only [cop, evO_ok hx, evO_ok hc, if_true])) H
theorem o_pickF {t : Nat} {c x y : Operand} {g : Option (Nat × Bool)} {r : List MO} {v : Value} (hw : wantedC f g = some true) (hc : evO f c = some (.bool false)) (hx : evO f y = some v) (H : wpO M r K ((t, v) :: f) h) : wpO M (⟨some t, .pick c x y, g⟩ :: r) K f h :=
  o_op hw (.prim (by simp [cop, evO_ok hx, evO_ok hc])) H
theorem o_lenV {t : Nat} {x : Operand} {g : Option (Nat × Bool)} {r : List MO} {a : Option Addr} {len cap : Nat} (hw : wantedC f g = some true) (hx : evO f x = some (.slice a len cap)) (H : wpO M r K ((t, .int .i64 len) :: f) h) : wpO M (⟨some t, .lenV x, g⟩ :: r) K f h :=
  o_op hw (.prim (by simp only [cop, evO_ok hx])) H
theorem o_ixV {t : Nat} {e : Nat} {x i : Operand} {g : Option (Nat × Bool)} {r : List MO} {a : Addr} {len cap : Nat} {k : IntKind} {n : Int} (hw : wantedC f g = some true) (hx : evO f x = some (.slice (some a) len cap)) (hi : evO f i = some (.int k n)) (hb : 0 ≤ n ∧ n < len)
    (H : wpO M r K ((t, .pointer (some (addOff a (n.toNat * e)))) :: f) h) : wpO M (⟨some t, .ixV e x i, g⟩ :: r) K f h :=
  o_op hw (.prim (by simp only [cop, evO_ok hx, evO_ok hi]; rw [if_pos hb])) H
theorem o_load1 {t : Nat} {x : Operand} {g : Option (Nat × Bool)} {r : List MO} {a : Addr} {v : Value} (hw : wantedC f g = some true) (hx : evO f x = some (.pointer (some a))) (hr : h.rd1 a = some v) (H : wpO M r K ((t, v) :: f) h) : wpO M (⟨some t, .load1 x, g⟩ :: r) K f h :=
  o_op hw (.prim (by simp only [cop, evO_ok hx, hr])) H
theorem o_loadN {t : Nat} {n : Nat} {x : Operand} {g : Option (Nat × Bool)} {r : List MO} {a : Addr} {vs : List Value} (hw : wantedC f g = some true) (hx : evO f x = some (.pointer (some a))) (hr : h.rdN a n = some vs) (H : wpO M r K ((t, .agg vs.toArray) :: f) h) : wpO M (⟨some t, .loadN n x, g⟩ :: r) K f h :=
  o_op hw (.prim (by simp only [cop, evO_ok hx, hr])) H
/-- a comparison of numbers, its outcome known ahead -/
theorem o_cmp {t : Nat} {op : BinOp} {x y : Operand} {g : Option (Nat × Bool)} {r : List MO} {k : IntKind} {a b : Int} {c d : Bool} (hw : wantedC f g = some true) (hx : evO f x = some (.int k a)) (hy : evO f y = some (.int k b))
    (hc : arith op (.int k a) (.int k b) = some (.bool c)) (hd : c = d) (H : wpO M r K ((t, .bool d) :: f) h) : wpO M (⟨some t, .ar op x y, g⟩ :: r) K f h :=
  o_op hw (.prim (by simp only [cop, evO_ok hx, evO_ok hy, hc, hd])) H
theorem o_ar {t : Nat} {op : BinOp} {x y : Operand} {g : Option (Nat × Bool)} {r : List MO} {u v w w' : Value} (hw : wantedC f g = some true) (hx : evO f x = some u) (hy : evO f y = some v)
    (hc : arith op u v = some w) (hd : w = w') (H : wpO M r K ((t, w') :: f) h) : wpO M (⟨some t, .ar op x y, g⟩ :: r) K f h :=
  o_op hw (.prim (by simp only [cop, evO_ok hx, evO_ok hy, hc, hd])) H
theorem o_call {t : Nat} {k : FuncId} {xs : List Operand} {g : Option (Nat × Bool)} {r : List MO} {vs : List Value} {R : Value → Heap → Prop} (hw : wantedC f g = some true) (hx : evL f xs = some vs) (hc : Cl M k vs h R)
    (H : ∀ v h', R v h' → wpO M r K ((t, v) :: f) h') : wpO M (⟨some t, .call k xs, g⟩ :: r) K f h := by
  obtain ⟨v, h', he, hr⟩ := hc
  refine o_op (v := v) (h' := h') hw (.opcall ?_) (H v h' hr)
  rw [evL_ok hx]; exact he
theorem o_callN {k : FuncId} {xs : List Operand} {g : Option (Nat × Bool)} {r : List MO} {vs : List Value} {R : Value → Heap → Prop} (hw : wantedC f g = some true) (hx : evL f xs = some vs) (hc : Cl M k vs h R)
    (H : ∀ v h', R v h' → wpO M r K f h') : wpO M (⟨none, .call k xs, g⟩ :: r) K f h := by
  obtain ⟨v, h', he, hr⟩ := hc
  refine o_op (v := v) (h' := h') hw (.opcall ?_) (H v h' hr)
  rw [evL_ok hx]; exact he


/-- operations whose outcome is better told by a rule of their own -/
def isCmp : MOp → Bool
  | .mv _ | .pick .. | .eq .. => true
  | .ar op _ _ => match op with | .eql | .neq | .lss | .leq | .gtr | .geq => true | _ => false
  | _ => false
theorem o_primS {t : Nat} {op : MOp} {g : Option (Nat × Bool)} {r : List MO} {v : Value} {h' : Heap} (hs : isCmp op = false) (hw : wantedC f g = some true) (hc : cop f.ev h op = some (v, h')) (H : wpO M r K ((t, v) :: f) h') : wpO M (⟨some t, op, g⟩ :: r) K f h := o_op hw (.prim hc) H
theorem t_primS {T : List Tr → Fr → Heap → Prop} {t : Nat} {op : MOp} {g : Option (Nat × Bool)} {r : List MO} {v : Value} {h' : Heap} (hs : isCmp op = false) (hw : wantedC f g = some true) (hc : cop f.ev h op = some (v, h')) (H : wpT M r (fun trs => T (⟨true, f, h, h', v⟩ :: trs)) ((t, v) :: f) h') : wpT M (⟨some t, op, g⟩ :: r) T f h := by
  obtain ⟨trs, f1, h1, he, hk⟩ := H
  exact ⟨_, f1, h1, .run (o := ⟨some t, op, g⟩) hw (.prim hc) he, hk⟩
theorem o_eqB {t : Nat} {neg : Bool} {e : EqT} {x y : Operand} {g : Option (Nat × Bool)} {r : List MO} {u v : Value} {b d : Bool} (hw : wantedC f g = some true) (hx : evO f x = some u) (hy : evO f y = some v) (hc : eqVal e u v = some b) (hd : (if neg then !b else b) = d)
    (H : wpO M r K ((t, .bool d) :: f) h) : wpO M (⟨some t, .eq neg e x y, g⟩ :: r) K f h :=
  o_op hw (.prim (by simp only [cop, evO_ok hx, evO_ok hy, hc, hd])) H
/-- a string's comparison and the like: any value that is told -/
theorem o_is {t : Nat} {op : MOp} {g : Option (Nat × Bool)} {r : List MO} {v w : Value} {h' : Heap} (hw : wantedC f g = some true) (hc : cop f.ev h op = some (v, h')) (hv : v = w) (H : wpO M r K ((t, w) :: f) h') : wpO M (⟨some t, op, g⟩ :: r) K f h := by
  subst hv; exact o_op hw (.prim hc) H

/-! ### the same, where what each did is kept -/
section
variable {T : List Tr → Fr → Heap → Prop}
theorem t_nil (H : T [] f h) : wpT M [] T f h := ⟨_, _, _, .nil, H⟩
theorem t_op {o : MO} {r : List MO} {v : Value} {h' : Heap} (hw : wantedC f o.guard = some true) (ho : Ev M (.op o.op f h v h')) (H : wpT M r (fun trs => T (⟨true, f, h, h', v⟩ :: trs)) (f.put o.dst v) h') : wpT M (o :: r) T f h := by
  obtain ⟨trs, f1, h1, he, hk⟩ := H
  exact ⟨_, f1, h1, .run hw ho he, hk⟩
theorem t_pass {t : Nat} {op : MOp} {g : Option (Nat × Bool)} {r : List MO} (hw : wantedC f g = some false) (H : wpT M r (fun trs => T (⟨false, f, h, h, undef⟩ :: trs)) ((t, undef) :: f) h) : wpT M (⟨some t, op, g⟩ :: r) T f h := by
  obtain ⟨trs, f1, h1, he, hk⟩ := H
  exact ⟨_, f1, h1, .pass hw he, hk⟩
theorem t_prim {t : Nat} {op : MOp} {g : Option (Nat × Bool)} {r : List MO} {v : Value} {h' : Heap} (hw : wantedC f g = some true) (hc : cop f.ev h op = some (v, h')) (H : wpT M r (fun trs => T (⟨true, f, h, h', v⟩ :: trs)) ((t, v) :: f) h') : wpT M (⟨some t, op, g⟩ :: r) T f h := t_op hw (.prim hc) H
theorem t_primN {op : MOp} {g : Option (Nat × Bool)} {r : List MO} {v : Value} {h' : Heap} (hw : wantedC f g = some true) (hc : cop f.ev h op = some (v, h')) (H : wpT M r (fun trs => T (⟨true, f, h, h', v⟩ :: trs)) f h') : wpT M (⟨none, op, g⟩ :: r) T f h := t_op hw (.prim hc) H
theorem t_mv {t : Nat} {x : Operand} {g : Option (Nat × Bool)} {r : List MO} {v : Value} (hw : wantedC f g = some true) (hx : evO f x = some v) (H : wpT M r (fun trs => T (⟨true, f, h, h, v⟩ :: trs)) ((t, v) :: f) h) : wpT M (⟨some t, .mv x, g⟩ :: r) T f h :=
  t_op hw (.prim (by simp only [cop, evO_ok hx])) H
theorem t_pickT {t : Nat} {c x y : Operand} {g : Option (Nat × Bool)} {r : List MO} {v : Value} (hw : wantedC f g = some true) (hc : evO f c = some (.bool true)) (hx : evO f x = some v) (H : wpT M r (fun trs => T (⟨true, f, h, h, v⟩ :: trs)) ((t, v) :: f) h) : wpT M (⟨some t, .pick c x y, g⟩ :: r) T f h :=
  t_op hw (.prim (by simp only [cop, evO_ok hx, evO_ok hc, if_true])) H
theorem t_pickF {t : Nat} {c x y : Operand} {g : Option (Nat × Bool)} {r : List MO} {v : Value} (hw : wantedC f g = some true) (hc : evO f c = some (.bool false)) (hx : evO f y = some v) (H : wpT M r (fun trs => T (⟨true, f, h, h, v⟩ :: trs)) ((t, v) :: f) h) : wpT M (⟨some t, .pick c x y, g⟩ :: r) T f h :=
  t_op hw (.prim (by simp [cop, evO_ok hx, evO_ok hc])) H
theorem t_load1 {t : Nat} {x : Operand} {g : Option (Nat × Bool)} {r : List MO} {a : Addr} {v : Value} (hw : wantedC f g = some true) (hx : evO f x = some (.pointer (some a))) (hr : h.rd1 a = some v) (H : wpT M r (fun trs => T (⟨true, f, h, h, v⟩ :: trs)) ((t, v) :: f) h) : wpT M (⟨some t, .load1 x, g⟩ :: r) T f h :=
  t_op hw (.prim (by simp only [cop, evO_ok hx, hr])) H
theorem t_loadN {t : Nat} {n : Nat} {x : Operand} {g : Option (Nat × Bool)} {r : List MO} {a : Addr} {vs : List Value} (hw : wantedC f g = some true) (hx : evO f x = some (.pointer (some a))) (hr : h.rdN a n = some vs) (H : wpT M r (fun trs => T (⟨true, f, h, h, .agg vs.toArray⟩ :: trs)) ((t, .agg vs.toArray) :: f) h) : wpT M (⟨some t, .loadN n x, g⟩ :: r) T f h :=
  t_op hw (.prim (by simp only [cop, evO_ok hx, hr])) H
theorem t_ar {t : Nat} {op : BinOp} {x y : Operand} {g : Option (Nat × Bool)} {r : List MO} {u v w w' : Value} (hw : wantedC f g = some true) (hx : evO f x = some u) (hy : evO f y = some v)
    (hc : arith op u v = some w) (hd : w = w') (H : wpT M r (fun trs => T (⟨true, f, h, h, w'⟩ :: trs)) ((t, w') :: f) h) : wpT M (⟨some t, .ar op x y, g⟩ :: r) T f h :=
  t_op hw (.prim (by simp only [cop, evO_ok hx, evO_ok hy, hc, hd])) H
theorem t_call {t : Nat} {k : FuncId} {xs : List Operand} {g : Option (Nat × Bool)} {r : List MO} {vs : List Value} {R : Value → Heap → Prop} (hw : wantedC f g = some true) (hx : evL f xs = some vs) (hc : Cl M k vs h R)
    (H : ∀ v h', R v h' → wpT M r (fun trs => T (⟨true, f, h, h', v⟩ :: trs)) ((t, v) :: f) h') : wpT M (⟨some t, .call k xs, g⟩ :: r) T f h := by
  obtain ⟨v, h', he, hr⟩ := hc
  refine t_op (v := v) (h' := h') hw (.opcall ?_) (H v h' hr)
  rw [evL_ok hx]; exact he
end

/-! ### memory -/
theorem Heap.get?_push {h : Heap} {o : CObj} {c : Nat} : (h.push o).get? c = if c = h.n then some o else h.get? c := by
  by_cases hc : c = h.n
  · rw [if_pos hc, hc]; exact Heap.get?_push_new
  · rw [if_neg hc]
    by_cases hl : c < h.n
    · exact Heap.get?_push_old hl
    · have h1 : (h.push o).get? c = none := by
        cases hg : (h.push o).get? c with
        | none => rfl
        | some x => have := Heap.get?_lt hg; simp [Heap.push] at this; omega
      have h2 : h.get? c = none := by
        cases hg : h.get? c with
        | none => rfl
        | some x => exact absurd (Heap.get?_lt hg) hl
      rw [h1, h2]
theorem Heap.push_n {h : Heap} {o : CObj} : (h.push o).n = h.n + 1 := rfl
theorem Heap.set_n {h : Heap} {o : CObj} {c : Nat} : (h.set c o).n = h.n := rfl

/-- memory that has only been made longer -/
def Le (h h' : Heap) : Prop := h.n ≤ h'.n ∧ ∀ c, c < h.n → h'.get? c = h.get? c
theorem Le.refl {h : Heap} : Le h h := ⟨Nat.le_refl _, fun _ _ => rfl⟩
theorem Le.trans {a b c : Heap} (h1 : Le a b) (h2 : Le b c) : Le a c := ⟨Nat.le_trans h1.1 h2.1, fun k hk => (h2.2 k (Nat.lt_of_lt_of_le hk h1.1)).trans (h1.2 k hk)⟩
theorem Le.push {h : Heap} {o : CObj} : Le h (h.push o) := ⟨by simp [Heap.push], fun c hc => Heap.get?_push_old hc⟩
theorem Le.get {h h' : Heap} (l : Le h h') {c : Nat} {o : CObj} (ho : h.get? c = some o) : h'.get? c = some o := by rw [l.2 c (Heap.get?_lt ho)]; exact ho
theorem Le.cells {h h' : Heap} (l : Le h h') {c : Nat} {cs : List Value} (hc : h.cells c = some cs) : h'.cells c = some cs := by
  unfold Heap.cells at hc ⊢
  cases hg : h.get? c with
  | none => rw [hg] at hc; cases hc
  | some o => rw [l.get hg]; rw [hg] at hc; exact hc
theorem Le.rd1 {h h' : Heap} (l : Le h h') {a : Addr} {v : Value} (hr : h.rd1 a = some v) : h'.rd1 a = some v := by
  unfold Heap.rd1 at hr ⊢
  split at hr
  · cases hr
  · rename_i hs
    rw [if_neg hs]
    split at hr
    · rename_i cs hc; rw [l.cells hc]; exact hr
    · cases hr
theorem Le.rdN {h h' : Heap} (l : Le h h') {a : Addr} {n : Nat} {vs : List Value} (hr : h.rdN a n = some vs) : h'.rdN a n = some vs := by
  unfold Heap.rdN at hr ⊢
  split at hr
  · cases hr
  · rename_i hs
    rw [if_neg hs]
    split at hr
    · rename_i cs hc; rw [l.cells hc]; exact hr
    · cases hr
theorem Heap.cells_push {h : Heap} {cs : List Value} : (h.push (.rw cs)).cells h.n = some cs := by unfold Heap.cells; rw [Heap.get?_push_new]
theorem Heap.rdN_all {h : Heap} {c : Nat} {cs : List Value} (hc : h.cells c = some cs) : h.rdN ⟨c, 0, none⟩ cs.length = some cs := by
  unfold Heap.rdN
  simp [hc]
theorem Heap.rd1_at {h : Heap} {c o : Nat} {cs : List Value} (hc : h.cells c = some cs) : h.rd1 ⟨c, o, none⟩ = cs[o]? := by
  unfold Heap.rd1
  simp [hc]
theorem Heap.cells_of {h : Heap} {c : Nat} {cs : List Value} (hg : h.get? c = some (.rw cs)) : h.cells c = some cs := by unfold Heap.cells; rw [hg]

end
end Go.Cm

/- The canonical machine: a call without addresses, known on no memory, is known on every memory. Conditions: none. -/
namespace Go.Cm
open Go.RowKit
set_option linter.unusedVariables false
set_option linter.unusedSimpArgs false

/-- a result without addresses -/
def flatR : Value → Bool
  | .tuple vs => vs.toList.all flat
  | v => flat v
theorem flatR_eq {φ : Emb} {u v : Value} (h : RelV φ u v) (hf : flatR u = true) : v = u := by
  cases h with
  | @tuple a b hs hh =>
    simp only [flatR] at hf
    rw [List.all_eq_true] at hf
    congr 1
    refine Array.ext hs.symm fun i h1 h2 => ?_
    exact flat_eq (hh i a[i] b[i] (Array.getElem?_eq_getElem h2) (Array.getElem?_eq_getElem h1)) (hf _ (by simp))
  | top v => simp [flatR, flat, flat1, unk] at hf
  | @agg a b ho hs hh => exact flat_eq (.agg ho hs hh) hf
  | _ => first | rfl | (simp [flatR, flat, flat1] at hf)
theorem RelV.sameR {φ : Emb} {u : Value} (hf : flatR u = true) : RelV φ u u := by
  cases u with
  | tuple a =>
    simp only [flatR] at hf
    rw [List.all_eq_true] at hf
    exact .tuple rfl fun i v v' p q => by rw [p] at q; cases q; exact RelV.same (hf v (by simpa using Array.mem_of_getElem? p))
  | _ => exact RelV.same hf

theorem pure_call {P : Program} {M : Prg} {g : FuncId} {args : List Value} {v : Value} {h1 : Heap} (hmix : P.follows .mixedOrders = true) (hM : Knows P 0 M) (hev : Ev M (.call g args ⟨0, []⟩ v h1)) (hargs : args.all flat = true) (hv : flatR v = true)
    (B : Nat) (W0 : World) (h : Heap) : GoodCall P 0 B W0 g args h v h := by
  have hs := fun B W0 => (sound (B := B) (W0 := W0) hmix hM.fn (hM.orac B W0) hev).2
  refine ⟨(hs B W0).1, fun φ W args' s gl hr free => ?_⟩
  refine ((hs W.heap.size W).2 (fun _ => none) W args' (Sim.nothing W 0) (Glob.none _) (relL_flat hr hargs) (fun _ _ _ => rfl)).mono ?_
  rintro e W' ⟨φ', v', rfl, hv', s', x'⟩
  have := flatR_eq hv' hv
  subst this
  exact ⟨φ, v', rfl, RelV.sameR hv, s.below' s'.below, .below s'.below⟩

theorem Ev.mono {M M' : Prg} (hf : M'.fn = M.fn) (ho : ∀ g args h v h', M.orac g args h v h' → M'.orac g args h v h') {j : Jd} (H : Ev M j) : Ev M' j := by
  induction H with
  | prim hc => exact .prim hc
  | opcall _ ih => exact .opcall ih
  | opcallV hx _ ih => exact .opcallV hx ih
  | nil => exact .nil
  | run hw _ _ ih1 ih2 => exact .run hw ih1 ih2
  | pass hw _ ih => exact .pass hw ih
  | skip => exact .skip
  | region _ hx ih => exact .region ih hx
  | seqN _ _ ih1 ih2 => exact .seqN ih1 ih2
  | seqX _ hne ih => exact .seqX ih hne
  | condT hc _ ih => exact .condT hc ih
  | condF hc _ ih => exact .condF hc ih
  | blockX _ ih => exact .blockX ih
  | blockO _ hne ih => exact .blockO ih hne
  | loop _ ih => exact .loop ih
  | again _ _ ih1 ih2 => exact .again ih1 ih2
  | out _ hne ih => exact .out ih hne
  | exit => exact .exit
  | ret => exact .ret
  | fcall hF hl _ he hv ih => exact .fcall (by rw [hf]; exact hF) hl ih he hv
  | known h => exact .known (ho _ _ _ _ _ h)

end Go.Cm

/- The canonical machine: a call whose arguments have no addresses, known on no memory, is known on every memory: what it made lies behind. Conditions: none. -/
namespace Go.Cm
open Go.RowKit
set_option linter.unusedVariables false
set_option linter.unusedSimpArgs false

/-- one cell's value, its addresses moved -/
def shC (n : Nat) (k : Nat) : Value → Value := match k with
  | 0 => fun v => match v with
    | .pointer (some a) => .pointer (some ⟨n + a.block, a.off, a.spot⟩)
    | .slice (some a) l c => .slice (some ⟨n + a.block, a.off, a.spot⟩) l c
    | .map (some c) => .map (some (n + c))
    | .iface t _ => .iface t unk
    | .func f a b => .func f (a.map fun _ => unk) (b.map fun _ => unk)
    | .agg _ => unk
    | .tuple _ => unk
    | v => v
  | k + 1 => fun v => match v with
    | .pointer (some a) => .pointer (some ⟨n + a.block, a.off, a.spot⟩)
    | .slice (some a) l c => .slice (some ⟨n + a.block, a.off, a.spot⟩) l c
    | .map (some c) => .map (some (n + c))
    | .iface t v => .iface t (match v with | .agg cs => .agg (cs.map (shC n k)) | v => shC n k v)
    | .func f a b => .func f (a.map fun v => match v with | .agg cs => .agg (cs.map (shC n k)) | v => shC n k v) (b.map fun v => match v with | .agg cs => .agg (cs.map (shC n k)) | v => shC n k v)
    | .agg _ => unk
    | .tuple _ => unk
    | v => v
def shX (n : Nat) (k : Nat) (v : Value) : Value := match v with
  | .agg cs => .agg (cs.map (shC n k))
  | v => shC n k v
def shR (n : Nat) : Value → Value
  | .tuple vs => .tuple (vs.map (shX n 3))
  | v => shX n 3 v
def shO (n : Nat) : CObj → CObj
  | .ro cs => .ro (cs.map (shC n 3))
  | .rw cs => .rw (cs.map (shC n 3))
  | .loose e cs => .loose e (cs.map (shC n 3))
  | .dead => .dead
  | .map es k => .map (es.map fun e => (shX n 3 e.1, shX n 3 e.2.1, e.2.2)) k
def Heap.add (h h1 : Heap) : Heap := ⟨h.n + h1.n, h1.l.map (shO h.n) ++ h.l⟩

section
variable {φ ψ : Emb} {n : Nat} (hφ : ∀ c l, φ c = some l → ψ (n + c) = some l)
include hφ

theorem shC_rel : ∀ (k : Nat) (u v : Value), RelV φ u v → RelV ψ (shC n k u) v ∧ (one u = true → one (shC n k u) = true)
  | 0, u, v, h => by
    cases h with
    | top v => exact ⟨.top v, id⟩
    | bool b => exact ⟨.bool b, id⟩
    | int q m => exact ⟨.int q m, id⟩
    | str s => exact ⟨.str s, id⟩
    | nilp => exact ⟨.nilp, id⟩
    | ptr hc => exact ⟨.ptr (hφ _ _ hc), fun _ => rfl⟩
    | nils => exact ⟨.nils, id⟩
    | sl hc hk hn => exact ⟨.sl (hφ _ _ hc) hk hn, fun _ => rfl⟩
    | slz => exact ⟨.slz, fun _ => rfl⟩
    | nilm => exact ⟨.nilm, id⟩
    | map hc hb => exact ⟨.map (hφ _ _ hc) hb, fun _ => rfl⟩
    | nilf => exact ⟨.nilf, id⟩
    | nili => exact ⟨.nili, id⟩
    | iface h => exact ⟨.iface (.top _), fun _ => rfl⟩
    | agg => exact ⟨.top _, fun e => by cases e⟩
    | tuple => exact ⟨.top _, fun e => by cases e⟩
    | func h1 h2 h3 h4 =>
      refine ⟨.func (by simpa using h1) (fun i p q e1 e2 => ?_) (by simpa using h3) (fun i p q e1 e2 => ?_), fun _ => rfl⟩
      · simp only [Array.getElem?_map, Option.map_eq_some_iff] at e1
        obtain ⟨_, _, rfl⟩ := e1; exact .top _
      · simp only [Array.getElem?_map, Option.map_eq_some_iff] at e1
        obtain ⟨_, _, rfl⟩ := e1; exact .top _
  | k + 1, u, v, h => by
    have inner : ∀ p q, RelV φ p q → RelV ψ (match p with | .agg cs => .agg (cs.map (shC n k)) | v => shC n k v) q := by
      intro p q hpq
      cases hpq with
      | @agg a b ho hs hh =>
        refine .agg ?_ (by simpa using hs) fun i v v' e1 e2 => ?_
        · rw [List.all_eq_true] at ho ⊢
          intro x hx
          simp only [Array.toList_map, List.mem_map] at hx
          obtain ⟨y, hy, rfl⟩ := hx
          obtain ⟨i, hi⟩ := List.getElem?_of_mem hy
          have hlt : i < b.size := by
            rw [← hs]
            rcases Nat.lt_or_ge i a.size with g | g
            · exact g
            · rw [List.getElem?_eq_none (by simpa using g)] at hi; cases hi
          exact (shC_rel k y b[i] (hh i y b[i] (by simpa using hi) (Array.getElem?_eq_getElem hlt))).2 (ho y hy)
        · simp only [Array.getElem?_map, Option.map_eq_some_iff] at e1
          obtain ⟨y, e3, rfl⟩ := e1
          exact (shC_rel k y v' (hh i y v' e3 e2)).1
      | top v => exact (shC_rel k (.chan none) _ (.top _)).1
      | bool b => exact (shC_rel k _ _ (.bool b)).1
      | int a b => exact (shC_rel k _ _ (.int a b)).1
      | str s => exact (shC_rel k _ _ (.str s)).1
      | nilp => exact (shC_rel k _ _ .nilp).1
      | ptr hc => exact (shC_rel k _ _ (.ptr hc)).1
      | nils => exact (shC_rel k _ _ .nils).1
      | sl hc hk hn => exact (shC_rel k _ _ (.sl hc hk hn)).1
      | slz => exact (shC_rel k _ _ .slz).1
      | nilm => exact (shC_rel k _ _ .nilm).1
      | map hc hb => exact (shC_rel k _ _ (.map hc hb)).1
      | nilf => exact (shC_rel k _ _ .nilf).1
      | nili => exact (shC_rel k _ _ .nili).1
      | iface h => exact (shC_rel k _ _ (.iface h)).1
      | tuple h1 h2 => exact (shC_rel k _ _ (.tuple h1 h2)).1
      | func h1 h2 h3 h4 => exact (shC_rel k _ _ (.func h1 h2 h3 h4)).1
    cases h with
    | top v => exact ⟨.top v, id⟩
    | bool b => exact ⟨.bool b, id⟩
    | int q m => exact ⟨.int q m, id⟩
    | str s => exact ⟨.str s, id⟩
    | nilp => exact ⟨.nilp, id⟩
    | ptr hc => exact ⟨.ptr (hφ _ _ hc), fun _ => rfl⟩
    | nils => exact ⟨.nils, id⟩
    | sl hc hk hn => exact ⟨.sl (hφ _ _ hc) hk hn, fun _ => rfl⟩
    | slz => exact ⟨.slz, fun _ => rfl⟩
    | nilm => exact ⟨.nilm, id⟩
    | map hc hb => exact ⟨.map (hφ _ _ hc) hb, fun _ => rfl⟩
    | nilf => exact ⟨.nilf, id⟩
    | nili => exact ⟨.nili, id⟩
    | iface h => exact ⟨.iface (inner _ _ h), fun _ => rfl⟩
    | agg => exact ⟨.top _, fun e => by cases e⟩
    | tuple => exact ⟨.top _, fun e => by cases e⟩
    | func h1 h2 h3 h4 =>
      refine ⟨.func (by simpa using h1) (fun i p q e1 e2 => ?_) (by simpa using h3) (fun i p q e1 e2 => ?_), fun _ => rfl⟩
      · simp only [Array.getElem?_map, Option.map_eq_some_iff] at e1
        obtain ⟨y, e3, rfl⟩ := e1; exact inner _ _ (h2 i y q e3 e2)
      · simp only [Array.getElem?_map, Option.map_eq_some_iff] at e1
        obtain ⟨y, e3, rfl⟩ := e1; exact inner _ _ (h4 i y q e3 e2)

theorem shX_rel (k : Nat) {u v : Value} (h : RelV φ u v) : RelV ψ (shX n k u) v := by
  unfold shX
  cases h with
  | @agg a b ho hs hh =>
    refine .agg ?_ (by simpa using hs) fun i v v' e1 e2 => ?_
    · rw [List.all_eq_true] at ho ⊢
      intro x hx
      simp only [Array.toList_map, List.mem_map] at hx
      obtain ⟨y, hy, rfl⟩ := hx
      obtain ⟨i, hi⟩ := List.getElem?_of_mem hy
      have hlt : i < b.size := by
        rw [← hs]
        rcases Nat.lt_or_ge i a.size with g | g
        · exact g
        · rw [List.getElem?_eq_none (by simpa using g)] at hi; cases hi
      exact (shC_rel hφ k y b[i] (hh i y b[i] (by simpa using hi) (Array.getElem?_eq_getElem hlt))).2 (ho y hy)
    · simp only [Array.getElem?_map, Option.map_eq_some_iff] at e1
      obtain ⟨y, e3, rfl⟩ := e1
      exact (shC_rel hφ k y v' (hh i y v' e3 e2)).1
  | top v => exact (shC_rel hφ k _ _ (.top v)).1
  | bool b => exact (shC_rel hφ k _ _ (.bool b)).1
  | int a b => exact (shC_rel hφ k _ _ (.int a b)).1
  | str s => exact (shC_rel hφ k _ _ (.str s)).1
  | nilp => exact (shC_rel hφ k _ _ .nilp).1
  | ptr hc => exact (shC_rel hφ k _ _ (.ptr hc)).1
  | nils => exact (shC_rel hφ k _ _ .nils).1
  | sl hc hk hn => exact (shC_rel hφ k _ _ (.sl hc hk hn)).1
  | slz => exact (shC_rel hφ k _ _ .slz).1
  | nilm => exact (shC_rel hφ k _ _ .nilm).1
  | map hc hb => exact (shC_rel hφ k _ _ (.map hc hb)).1
  | nilf => exact (shC_rel hφ k _ _ .nilf).1
  | nili => exact (shC_rel hφ k _ _ .nili).1
  | iface h => exact (shC_rel hφ k _ _ (.iface h)).1
  | tuple h1 h2 => exact (shC_rel hφ k _ _ (.tuple h1 h2)).1
  | func h1 h2 h3 h4 => exact (shC_rel hφ k _ _ (.func h1 h2 h3 h4)).1

theorem shR_rel {u v : Value} (h : RelV φ u v) : RelV ψ (shR n u) v := by
  cases h with
  | tuple hs hh =>
    refine .tuple (by simpa using hs) fun i v v' e1 e2 => ?_
    simp only [Array.getElem?_map, Option.map_eq_some_iff] at e1
    obtain ⟨y, e3, rfl⟩ := e1
    exact shX_rel hφ 3 (hh i y v' e3 e2)
  | top v => exact shX_rel hφ 3 (.top v)
  | bool b => exact shX_rel hφ 3 (.bool b)
  | int a b => exact shX_rel hφ 3 (.int a b)
  | str s => exact shX_rel hφ 3 (.str s)
  | nilp => exact shX_rel hφ 3 .nilp
  | ptr hc => exact shX_rel hφ 3 (.ptr hc)
  | nils => exact shX_rel hφ 3 .nils
  | sl hc hk hn => exact shX_rel hφ 3 (.sl hc hk hn)
  | slz => exact shX_rel hφ 3 .slz
  | nilm => exact shX_rel hφ 3 .nilm
  | map hc hb => exact shX_rel hφ 3 (.map hc hb)
  | nilf => exact shX_rel hφ 3 .nilf
  | nili => exact shX_rel hφ 3 .nili
  | iface h => exact shX_rel hφ 3 (.iface h)
  | agg h1 h2 h3 => exact shX_rel hφ 3 (.agg h1 h2 h3)
  | func h1 h2 h3 h4 => exact shX_rel hφ 3 (.func h1 h2 h3 h4)

theorem shCells_rel {W : World} {l : Loc} {cs : List Value} (h : CellsRel φ W l cs) : CellsRel ψ W l (cs.map (shC n 3)) := by
  intro i v hv
  rw [List.getElem?_map, Option.map_eq_some_iff] at hv
  obtain ⟨u, hu, rfl⟩ := hv
  obtain ⟨ho, v', hc, hr⟩ := h i u hu
  obtain ⟨r1, r2⟩ := shC_rel hφ 3 u v' hr
  exact ⟨r2 ho, v', hc, r1⟩

theorem shEnt_rel : ∀ {es : List (Value × Value × Nat)} {es' : List MapEntry}, EntRel φ es es' → EntRel ψ (es.map fun e => (shX n 3 e.1, shX n 3 e.2.1, e.2.2)) es'
  | [], [], _ => trivial
  | [], _ :: _, h => h.elim
  | _ :: _, [], h => h.elim
  | (k, v, m) :: es, e :: es', h => ⟨shX_rel hφ 3 h.1, shX_rel hφ 3 h.2.1, h.2.2.1, shEnt_rel h.2.2.2⟩

theorem shO_rel {B B' : Nat} {W : World} {l : Loc} {o : CObj} (hb : B' ≤ B) (hro : ∀ cs, o ≠ .ro cs) (h : ObjRel B φ W l o) : ObjRel B' ψ W l (shO n o) := by
  cases o with
  | ro cs => exact absurd rfl (hro cs)
  | rw cs =>
    obtain ⟨h1, h2, h3, h4, h5⟩ := h
    exact ⟨Nat.le_trans hb h1, h2, shCells_rel hφ h3, by rw [List.length_map]; exact h4, h5⟩
  | loose e cs =>
    obtain ⟨h1, lo, h2, h3, h4, h5, h6, h7, h8, h9⟩ := h
    exact ⟨Nat.le_trans hb h1, lo, h2, by rw [List.length_map]; exact h3, h4, h5, by rw [List.length_map]; exact h6, shCells_rel hφ h7, h8, h9⟩
  | dead => trivial
  | map es k =>
    obtain ⟨h1, h2, h3, es', h4, h5⟩ := h
    exact ⟨Nat.le_trans hb h1, h2, h3, es', h4, shEnt_rel hφ h5⟩
end

theorem get_add {h h1 : Heap} (hl : h1.l.length = h1.n) (c : Nat) : (h.add h1).get? c = if c < h.n then h.get? c else (h1.get? (c - h.n)).map (shO h.n) := by
  unfold Heap.add Heap.get?
  by_cases hc : c < h.n
  · rw [if_pos hc]
    simp only
    rw [if_pos (by omega), if_pos hc, List.getElem?_append_right (by simp; omega)]
    congr 1
    simp; omega
  · rw [if_neg hc]
    simp only
    by_cases hc2 : c < h.n + h1.n
    · rw [if_pos hc2, if_pos (by omega), List.getElem?_append_left (by simp; omega), List.getElem?_map]
      congr 2
      omega
    · rw [if_neg hc2, if_neg (by omega)]; rfl

/-- nothing in it is only read; its list is as long as it says -/
def madeOnly (h : Heap) : Bool := Nat.beq h.l.length h.n && h.l.all fun | .ro _ => false | _ => true
theorem madeOnly_ro {h : Heap} (hm : madeOnly h = true) {c : Nat} {o : CObj} (ho : h.get? c = some o) : ∀ cs, o ≠ .ro cs := by
  rintro cs rfl
  unfold madeOnly at hm
  rw [Bool.and_eq_true, List.all_eq_true] at hm
  unfold Heap.get? at ho
  split at ho
  · have := hm.2 _ (List.mem_of_getElem? ho)
    cases this
  · cases ho

theorem made_call {P : Program} {M : Prg} {g : FuncId} {args : List Value} {v : Value} {h1 : Heap} (hmix : P.follows .mixedOrders = true) (hM : Knows P 0 M) (hev : Ev M (.call g args ⟨0, []⟩ v h1)) (hargs : args.all flat = true) (hm : madeOnly h1 = true)
    (B : Nat) (W0 : World) (h : Heap) : GoodCall P 0 B W0 g args h (shR h.n v) (h.add h1) := by
  have hs := fun B W0 => (sound (B := B) (W0 := W0) hmix hM.fn (hM.orac B W0) hev).2
  have hl : h1.l.length = h1.n := by
    unfold madeOnly at hm
    rw [Bool.and_eq_true] at hm
    exact Nat.eq_of_beq_eq_true hm.1
  refine ⟨(hs B W0).1, fun φ W args' s gl hr free => ?_⟩
  refine ((hs W.heap.size W).2 (fun _ => none) W args' (Sim.nothing W 0) (Glob.none _) (relL_flat hr hargs) (fun _ _ _ => rfl)).mono ?_
  rintro e W' ⟨φ1, v', rfl, hv', s', x'⟩
  have hdom : ∀ c l, φ1 c = some l → c < h1.n ∧ W.heap.size ≤ l.b := by
    intro c l hc
    refine ⟨(x'.dom c l rfl hc).2, ?_⟩
    rcases x'.img c l rfl hc with g | ⟨c0, l0, o0, k1, _⟩
    · exact g
    · cases k1
  let ψ : Emb := fun c => if c < h.n then φ c else if c < h.n + h1.n then φ1 (c - h.n) else φ c
  have hψ1 : ∀ c l, φ1 c = some l → ψ (h.n + c) = some l := by
    intro c l hc
    have := (hdom c l hc).1
    simp only [ψ]
    rw [if_neg (by omega), if_pos (by omega), show h.n + c - h.n = c from by omega]; exact hc
  have hψ0 : ∀ c l, φ c = some l → ψ c = some l := by
    intro c l hc
    simp only [ψ]
    by_cases h0 : c < h.n
    · rw [if_pos h0]; exact hc
    · rw [if_neg h0]
      by_cases h2 : c < h.n + h1.n
      · have := free c (by omega) h2
        rw [hc] at this; cases this
      · rw [if_neg h2]; exact hc
  have hget : ∀ c o, (h.add h1).get? c = some o → (c < h.n ∧ h.get? c = some o) ∨ (h.n ≤ c ∧ c < h.n + h1.n ∧ ∃ o1, h1.get? (c - h.n) = some o1 ∧ o = shO h.n o1) := by
    intro c o ho
    rw [get_add hl] at ho
    split at ho
    · rename_i hc; exact .inl ⟨hc, ho⟩
    · rename_i hc
      rw [Option.map_eq_some_iff] at ho
      obtain ⟨o1, q1, q2⟩ := ho
      have := Heap.get?_lt q1
      exact .inr ⟨by omega, by omega, o1, q1, q2.symm⟩
  have hψlo : ∀ c l, c < h.n → ψ c = some l → φ c = some l := by
    intro c l hc hl'
    simp only [ψ] at hl'
    rwa [if_pos hc] at hl'
  have hψhi : ∀ c l, h.n ≤ c → c < h.n + h1.n → ψ c = some l → φ1 (c - h.n) = some l := by
    intro c l hc hc2 hl'
    simp only [ψ] at hl'
    rwa [if_neg (by omega), if_pos hc2] at hl'
  have hexcl : ∀ o : CObj, (shO h.n o).excl = o.excl := by intro o; cases o <;> rfl
  have sold := s.below' s'.below
  refine ⟨ψ, v', rfl, shR_rel hψ1 hv', ⟨sold.below, sold.inB, ?_, ?_, ?_⟩, ⟨hψ0, ?_, ?_, fun b hb _ => s'.below.block b hb, ?_, ?_, s'.below.size, by simp [Heap.add]⟩⟩
  · intro c l hc
    simp only [ψ] at hc
    split at hc
    · exact sold.lt c l hc
    · split at hc
      · exact s'.lt _ l hc
      · exact sold.lt c l hc
  · intro c l o hc ho
    rcases hget c o ho with ⟨q1, q2⟩ | ⟨q1, q2, o1, q3, rfl⟩
    · exact (sold.obj c l o (hψlo c l q1 hc) q2).keep hψ0 rfl
    · exact shO_rel hψ1 s.inB (madeOnly_ro hm q3) (s'.obj _ l o1 (hψhi c l q1 q2 hc) q3)
  · intro c1 c2 l1 l2 o1 o2 g1 g2 p1 p2 e1 e2 e
    rcases hget c1 o1 p1 with ⟨a1, a2⟩ | ⟨a1, a2, x1, a3, rfl⟩ <;> rcases hget c2 o2 p2 with ⟨b1, b2⟩ | ⟨b1, b2, x2, b3, rfl⟩
    · exact s.inj c1 c2 l1 l2 o1 o2 (hψlo _ _ a1 g1) (hψlo _ _ b1 g2) a2 b2 e1 e2 e
    · have k1 := s.lt _ _ (hψlo _ _ a1 g1)
      have k2 := (hdom _ _ (hψhi _ _ b1 b2 g2)).2
      omega
    · have k1 := s.lt _ _ (hψlo _ _ b1 g2)
      have k2 := (hdom _ _ (hψhi _ _ a1 a2 g1)).2
      omega
    · rw [hexcl] at e1 e2
      have := s'.inj _ _ l1 l2 x1 x2 (hψhi _ _ a1 a2 g1) (hψhi _ _ b1 b2 g2) a3 b3 e1 e2 e
      omega
  · intro c l hn hc
    simp only [ψ] at hc
    split at hc
    · rw [hn] at hc; cases hc
    · split at hc
      · refine ⟨by omega, ?_⟩
        show c < h.n + h1.n
        assumption
      · rw [hn] at hc; cases hc
  · intro c l hn hc
    simp only [ψ] at hc
    split at hc
    · rw [hn] at hc; cases hc
    · split at hc
      · exact .inl (hdom _ _ hc).2
      · rw [hn] at hc; cases hc
  · intro c hc _
    rw [get_add hl, if_pos hc]
  · intro c o' hc ho e
    rw [get_add hl, if_pos hc] at ho
    exact ⟨o', ho, e⟩

end Go.Cm

/- The canonical machine: a program closed under its calls without addresses. Conditions: none. -/
namespace Go.Cm
open Go.RowKit
set_option linter.unusedVariables false
set_option linter.unusedSimpArgs false

/-- the program, with its calls without addresses -/
def Prg.pure (M : Prg) : Prg := ⟨M.fn, fun g args h v h' => M.orac g args h v h' ∨ (args.all flat = true ∧ flatR v = true ∧ h' = h ∧ ∃ h1, Ev M (.call g args ⟨0, []⟩ v h1)) ∨
  (args.all flat = true ∧ ∃ v1 h1, Ev M (.call g args ⟨0, []⟩ v1 h1) ∧ madeOnly h1 = true ∧ v = shR h.n v1 ∧ h' = h.add h1)⟩
def Prg.pureN (M : Prg) : Nat → Prg
  | 0 => M
  | n + 1 => (M.pureN n).pure
def Prg.inf (M : Prg) : Prg := ⟨M.fn, fun g args h v h' => ∃ n, (M.pureN n).orac g args h v h'⟩

theorem Prg.pureN_fn {M : Prg} : ∀ n, (M.pureN n).fn = M.fn
  | 0 => rfl
  | n + 1 => Prg.pureN_fn n
theorem Prg.pureN_up {M : Prg} {g : FuncId} {args : List Value} {h h' : Heap} {v : Value} {n : Nat} (H : (M.pureN n).orac g args h v h') : ∀ d, (M.pureN (n + d)).orac g args h v h'
  | 0 => H
  | d + 1 => .inl (Prg.pureN_up H d)
theorem Prg.pureN_mono {M : Prg} {n m : Nat} (h : n ≤ m) {j : Jd} (H : Ev (M.pureN n) j) : Ev (M.pureN m) j :=
  H.mono ((Prg.pureN_fn m).trans (Prg.pureN_fn n).symm) fun g args h v h' ho => by
    have := Prg.pureN_up ho (m - n)
    rwa [show n + (m - n) = m from by omega] at this

theorem Ev.level {M : Prg} {j : Jd} (H : Ev M.inf j) : ∃ n, Ev (M.pureN n) j := by
  induction H with
  | prim hc => exact ⟨0, .prim hc⟩
  | opcall _ ih => obtain ⟨n, ih⟩ := ih; exact ⟨n, .opcall ih⟩
  | opcallV hx _ ih => obtain ⟨n, ih⟩ := ih; exact ⟨n, .opcallV hx ih⟩
  | nil => exact ⟨0, .nil⟩
  | run hw _ _ ih1 ih2 =>
    obtain ⟨n, ih1⟩ := ih1; obtain ⟨m, ih2⟩ := ih2
    exact ⟨n + m, .run hw (Prg.pureN_mono (by omega) ih1) (Prg.pureN_mono (by omega) ih2)⟩
  | pass hw _ ih => obtain ⟨n, ih⟩ := ih; exact ⟨n, .pass hw ih⟩
  | skip => exact ⟨0, .skip⟩
  | region _ hx ih => obtain ⟨n, ih⟩ := ih; exact ⟨n, .region ih hx⟩
  | seqN _ _ ih1 ih2 =>
    obtain ⟨n, ih1⟩ := ih1; obtain ⟨m, ih2⟩ := ih2
    exact ⟨n + m, .seqN (Prg.pureN_mono (by omega) ih1) (Prg.pureN_mono (by omega) ih2)⟩
  | seqX _ hne ih => obtain ⟨n, ih⟩ := ih; exact ⟨n, .seqX ih hne⟩
  | condT hc _ ih => obtain ⟨n, ih⟩ := ih; exact ⟨n, .condT hc ih⟩
  | condF hc _ ih => obtain ⟨n, ih⟩ := ih; exact ⟨n, .condF hc ih⟩
  | blockX _ ih => obtain ⟨n, ih⟩ := ih; exact ⟨n, .blockX ih⟩
  | blockO _ hne ih => obtain ⟨n, ih⟩ := ih; exact ⟨n, .blockO ih hne⟩
  | loop _ ih => obtain ⟨n, ih⟩ := ih; exact ⟨n, .loop ih⟩
  | again _ _ ih1 ih2 =>
    obtain ⟨n, ih1⟩ := ih1; obtain ⟨m, ih2⟩ := ih2
    exact ⟨n + m, .again (Prg.pureN_mono (by omega) ih1) (Prg.pureN_mono (by omega) ih2)⟩
  | out _ hne ih => obtain ⟨n, ih⟩ := ih; exact ⟨n, .out ih hne⟩
  | exit => exact ⟨0, .exit⟩
  | ret => exact ⟨0, .ret⟩
  | fcall hF hl _ he hv ih => obtain ⟨n, ih⟩ := ih; exact ⟨n, .fcall (by rw [Prg.pureN_fn]; exact hF) hl ih he hv⟩
  | known h => obtain ⟨n, h⟩ := h; exact ⟨n, .known h⟩

/-- a call without addresses may be made on no memory -/
structure PureClosed (M : Prg) : Prop where
  pure : ∀ {g args v h1}, Ev M (.call g args ⟨0, []⟩ v h1) → args.all flat = true → flatR v = true → ∀ h, Ev M (.call g args h v h)
  made : ∀ {g args v h1}, Ev M (.call g args ⟨0, []⟩ v h1) → args.all flat = true → madeOnly h1 = true → ∀ h, Ev M (.call g args h (shR h.n v) (h.add h1))
theorem Prg.inf_pure (M : Prg) : PureClosed M.inf where
  pure := fun H ha hv h => by
    obtain ⟨n, H⟩ := H.level
    exact .known ⟨n + 1, .inr (.inl ⟨ha, hv, rfl, _, H⟩)⟩
  made := fun H ha hm h => by
    obtain ⟨n, H⟩ := H.level
    exact .known ⟨n + 1, .inr (.inr ⟨ha, _, _, H, hm, rfl, rfl⟩)⟩

theorem Knows.pureN {P : Program} {M : Prg} (hmix : P.follows .mixedOrders = true) (hM : Knows P 0 M) : ∀ n, Knows P 0 (M.pureN n)
  | 0 => hM
  | n + 1 => by
    have ih := hM.pureN hmix n
    refine ⟨ih.fn, fun B W0 g args h v h' ho => ?_⟩
    rcases ho with ho | ⟨h1, h2, rfl, k, h3⟩ | ⟨h1, v1, k, h2, h3, rfl, rfl⟩
    · exact ih.orac B W0 g args h v h' ho
    · exact ⟨Nat.le_refl _, pure_call hmix ih h3 h1 h2 B W0 _⟩
    · exact ⟨by simp [Heap.add], made_call hmix ih h2 h1 h3 B W0 _⟩
theorem Knows.inf {P : Program} {M : Prg} (hmix : P.follows .mixedOrders = true) (hM : Knows P 0 M) : Knows P 0 M.inf :=
  ⟨hM.fn, fun B W0 g args h v h' ⟨n, ho⟩ => (hM.pureN hmix n).orac B W0 g args h v h' ho⟩

/-- such a call, as a walk uses it -/
theorem Cl.pure {M : Prg} (hp : PureClosed M) {g : FuncId} {args : List Value} {K : Value → Prop} (ha : args.all flat = true) (H : Cl M g args ⟨0, []⟩ fun v _ => flatR v = true ∧ K v) (h : Heap) : Cl M g args h fun v h' => K v ∧ h' = h := by
  obtain ⟨v, h1, he, hv, hk⟩ := H
  exact ⟨v, h, hp.pure he ha hv h, hk, rfl⟩
/-- such a call, reckoned -/
theorem Cl.run {M : Prg} (hp : PureClosed M) {tab : List (Nat × MFun)} (hf : M.fn = lookF tab) {g : FuncId} {args : List Value} {K : Value → Prop} (n : Nat) (h : Heap) {r : Option (Value × Heap)} (hr : evalCall (lookF tab) n g args ⟨0, []⟩ = r)
    (ha : args.all flat = true) (hk : ∃ v h1, r = some (v, h1) ∧ flatR v = true ∧ K v) : Cl M g args h fun v h' => K v ∧ h' = h := by
  obtain ⟨v, h1, rfl, hv, hk⟩ := hk
  rw [← hf] at hr
  exact Cl.pure hp ha ⟨v, h1, call_ev n hr, hv, hk⟩ h

/-- such a call that has made memory -/
theorem Cl.made {M : Prg} (hp : PureClosed M) {g : FuncId} {args : List Value} {K : Value → Heap → Prop} (ha : args.all flat = true) (H : Cl M g args ⟨0, []⟩ fun v h1 => madeOnly h1 = true ∧ K v h1) (h : Heap) :
    Cl M g args h fun v h' => ∃ v1 h1, madeOnly h1 = true ∧ K v1 h1 ∧ v = shR h.n v1 ∧ h' = h.add h1 := by
  obtain ⟨v, h1, he, hv, hk⟩ := H
  exact ⟨_, _, hp.made he ha hv h, v, h1, hv, hk, rfl, rfl⟩

theorem Le.add {h h1 : Heap} (hl : h1.l.length = h1.n) : Le h (h.add h1) := ⟨by simp [Heap.add], fun c hc => by rw [get_add hl, if_pos hc]⟩
theorem madeOnly_len {h : Heap} (hm : madeOnly h = true) : h.l.length = h.n := by
  unfold madeOnly at hm
  rw [Bool.and_eq_true] at hm
  exact Nat.eq_of_beq_eq_true hm.1

end Go.Cm

/- The canonical machine: an answer known ahead: slices.Sorted(maps.Keys(m)) at keys of the kind int: the keys, rising. Conditions: the library's functions lie as the shelf lays them. -/
namespace Go.Cm
open Go.RowKit Go.Proofs Go.Shelf Go.Maps Go.Sort Go.WideElems
set_option linter.unusedVariables false
set_option linter.unusedSimpArgs false

def insI (x : Int) : List Int → List Int
  | [] => [x]
  | y :: r => match decide (x ≤ y) with | true => x :: y :: r | false => y :: insI x r
/-- a list of numbers, rising -/
def isort : List Int → List Int
  | [] => []
  | x :: r => insI x (isort r)
theorem insI_perm (x : Int) : ∀ l, (insI x l).Perm (x :: l)
  | [] => .refl _
  | y :: r => by
    unfold insI
    split
    · exact .refl _
    · exact ((insI_perm x r).cons y).trans (.swap x y r)
theorem isort_perm : ∀ l, (isort l).Perm l
  | [] => .refl _
  | x :: r => (insI_perm x _).trans ((isort_perm r).cons x)
theorem insI_sorted (x : Int) : ∀ l : List Int, l.Pairwise (· ≤ ·) → (insI x l).Pairwise (· ≤ ·)
  | [], _ => by simp [insI]
  | y :: r, h => by
    unfold insI
    split
    · rename_i hd
      have hd := of_decide_eq_true hd
      refine List.pairwise_cons.2 ⟨fun z hz => ?_, h⟩
      rcases List.mem_cons.1 hz with rfl | hz
      · exact hd
      · exact Int.le_trans hd ((List.pairwise_cons.1 h).1 z hz)
    · rename_i hd
      have hd := of_decide_eq_false hd
      obtain ⟨h1, h2⟩ := List.pairwise_cons.1 h
      refine List.pairwise_cons.2 ⟨fun z hz => ?_, insI_sorted x r h2⟩
      rcases List.mem_cons.1 ((insI_perm x r).mem_iff.1 hz) with rfl | hz
      · omega
      · exact h1 z hz
theorem isort_sorted : ∀ l, (isort l).Pairwise (· ≤ ·)
  | [] => .nil
  | x :: r => insI_sorted x _ (isort_sorted r)
theorem isort_eq (l : List Int) : (l.mergeSort fun x y => decide (x ≤ y)) = isort l := by
  refine List.Perm.eq_of_pairwise (le := fun a b : Int => a ≤ b) (fun a b _ _ h1 h2 => Int.le_antisymm h1 h2) ?_ (isort_sorted l) ((List.mergeSort_perm l _).trans (isort_perm l).symm)
  have := List.pairwise_mergeSort (le := fun x y : Int => decide (x ≤ y)) (fun a b c h1 h2 => by simp only [decide_eq_true_eq] at *; exact Int.le_trans h1 h2) (fun a b => by simp only [Bool.or_eq_true, decide_eq_true_eq]; exact Int.le_total a b) l
  exact this.imp (fun h => of_decide_eq_true h)
theorem isort_of_perm {l l' : List Int} (h : l.Perm l') : isort l = isort l' :=
  List.Perm.eq_of_pairwise (le := fun a b : Int => a ≤ b) (fun a b _ _ h1 h2 => Int.le_antisymm h1 h2) (isort_sorted l) (isort_sorted l') (((isort_perm l).trans h).trans (isort_perm l').symm)

/-- a map's entries: their keys are these numbers, each once; its times are as they must be -/
structure KeysOK (es : List (Value × Value × Nat)) (clock : Nat) (ks : List Int) : Prop where
  keys : es.map (·.1) = ks.map (Value.int .i64)
  nodup : ks.Nodup
  wf : ∀ x ∈ ks, (Lit.int .i64 x).wf = true
  few : es.length ≤ 1099511627776
  born : ∀ e ∈ es, e.2.2 < clock
  once : (es.map (·.2.2)).Nodup

def sortedRes (h : Heap) (l : List Int) : Value × Heap := match l with
  | [] => (.slice none 0 0, h)
  | x :: r => (.slice (some ⟨h.n, 0, none⟩) (x :: r).length (x :: r).length, h.push (.loose 1 ((x :: r).map (Value.int .i64))))

/-- what the call answers -/
def SortedAns (fS fK : Nat) (g : FuncId) (args : List Value) (h : Heap) (v : Value) (h' : Heap) : Prop :=
  g = fS ∧ ∃ c, args = [.func (.func fK) #[] #[.pointer (some ⟨c, 0, none⟩)]] ∧
    ((h.get? c = some (.rw [.map none]) ∧ (v, h') = sortedRes h []) ∨
      ∃ m es clock ks, h.get? c = some (.rw [.map (some m)]) ∧ h.get? m = some (.map es clock) ∧ KeysOK es clock ks ∧ (v, h') = sortedRes h (isort ks))

theorem relFn {φ : Emb} {f c : Nat} {v' : Value} (h : RelV φ (.func (.func f) #[] #[.pointer (some ⟨c, 0, none⟩)]) v') : ∃ l, φ c = some l ∧ v' = .func (.func f) #[] #[.pointer (some ⟨l.b, l.base, none⟩)] := by
  cases h with
  | @func _ a b cc d h1 h2 h3 h4 =>
    obtain ⟨b⟩ := b
    obtain ⟨d⟩ := d
    have hb : b = [] := List.eq_nil_of_length_eq_zero h1.symm
    have hd : d.length = 1 := h3.symm
    match d, hd with
    | [d0], _ =>
      have := h4 0 _ _ rfl rfl
      cases this with
      | ptr hc => exact ⟨_, hc, by rw [hb]; rfl⟩

theorem entRel_keys {φ : Emb} : ∀ {es : List (Value × Value × Nat)} {es' : List MapEntry}, EntRel φ es es' → ∀ {ks : List Int}, es.map (·.1) = ks.map (Value.int .i64) → es'.map (·.key) = ks.map (Value.int .i64) ∧ es'.map (·.born) = es.map (·.2.2) ∧ es'.length = es.length
  | [], [], _, ks, hk => ⟨hk, rfl, rfl⟩
  | [], _ :: _, h, _, _ => h.elim
  | _ :: _, [], h, _, _ => h.elim
  | (k, v, n) :: es, e :: es', h, [], hk => by simp at hk
  | (k, v, n) :: es, e :: es', h, x :: ks, hk => by
      obtain ⟨h1, h2, h3, h4⟩ := h
      simp only [List.map_cons, List.cons.injEq] at hk
      obtain ⟨rfl, hk'⟩ := hk
      obtain ⟨i1, i2, i3⟩ := entRel_keys h4 hk'
      cases h1' : e.key with
      | int q a =>
        rw [h1'] at h1
        cases h1
        exact ⟨by simp [h1', i1], by simp [h3, i2], by simp [i3]⟩
      | _ => rw [h1'] at h1; cases h1

theorem cells_rd {φ : Emb} {W : World} {l : Loc} {cs : List Value} (h : CellsRel φ W l cs) {i : Nat} {v : Value} (hv : cs[i]? = some v) : ∃ v', W.cell? ⟨l.b, l.base + i, none⟩ = some v' ∧ RelV φ v v' := (h i v hv).2

section
variable {P : Program} {G : Nat}

/-- memory to which the model has added blocks of which nothing is known, and one row -/
theorem good_row {B : Nat} {W0 : World} {φ : Emb} {h : Heap} {W W' : World} (s : Sim B W0 φ h.get? W) {cs : List Value} (free : Free φ h (h.push (.loose 1 cs))) (hb : Below W.heap.size W W') {e : TypeId} {v' : Value} (hne : cs ≠ []) (hone : cs.all plain1 = true)
    (hrow : W'.ownsRow W.heap.size e 1 v' cs.length cs) :
    ∃ φ', RelV φ' (.slice (some ⟨h.n, 0, none⟩) cs.length cs.length) v' ∧ Sim B W0 φ' (h.push (.loose 1 cs)).get? W' ∧ Ext φ φ' h (h.push (.loose 1 cs)) W W' := by
  obtain ⟨_, hr⟩ := hrow
  rcases hr with ⟨_, hz⟩ | ⟨gb, cap, cur, rfl, hbase, hgb, r1, r2, r3, r4⟩
  · exact absurd (List.eq_nil_of_length_eq_zero hz) hne
  have hgl : gb < W'.heap.size := (Array.getElem?_eq_some_iff.1 hgb).1
  rw [Nat.mul_one] at r3 r4
  let L : Loc := ⟨gb, 0, some ⟨cs.length, 1, cap⟩⟩
  let ψ : Emb := fun c => if c = h.n then some L else φ c
  have hfree : φ h.n = none := free h.n (Nat.le_refl _) (by simp [Heap.push])
  have hψ0 : ∀ c l, φ c = some l → ψ c = some l := by
    intro c l hc
    simp only [ψ]
    by_cases h0 : c = h.n
    · subst h0; rw [hfree] at hc; cases hc
    · rw [if_neg h0]; exact hc
  have hψn : ψ h.n = some L := by simp [ψ]
  have hψo : ∀ c l, c ≠ h.n → ψ c = some l → φ c = some l := by
    intro c l hc hl
    simp only [ψ] at hl
    rwa [if_neg hc] at hl
  have hcell : ∀ i v, cs[i]? = some v → W'.cell? ⟨gb, i, none⟩ = some v := by
    intro i v hv
    have hi : i < cs.length := by
      rcases Nat.lt_or_ge i cs.length with g | g
      · exact g
      · rw [List.getElem?_eq_none g] at hv; cases hv
    have : cur.toList[i]? = some v := by rw [← r4, List.getElem?_take_of_lt hi] at hv; exact hv
    rw [World.cell?]
    simp only [hgb, Option.isSome_none, Bool.false_eq_true, if_false]
    simpa using this
  refine ⟨ψ, .sl (l := L) hψn ?_ (Nat.le_refl _), ⟨(s.below' hb).below, Nat.le_trans s.inB hb.size, ?_, ?_, ?_⟩, ⟨hψ0, ?_, ?_, fun b hlt _ => hb.block b hlt, ?_, ?_, hb.size, by simp [Heap.push]⟩⟩
  · exact .inr ⟨⟨cs.length, 1, cap⟩, rfl, by simp, r1, by simp [L]⟩
  · intro c l hc
    by_cases h0 : c = h.n
    · subst h0; rw [hψn] at hc; cases hc; exact hgl
    · exact Nat.lt_of_lt_of_le (s.lt c l (hψo c l h0 hc)) hb.size
  · intro c l o hc ho
    by_cases h0 : c = h.n
    · subst h0
      rw [hψn] at hc; cases hc
      rw [Heap.get?_push_new] at ho; cases ho
      refine ⟨Nat.le_trans s.inB hbase, ⟨cs.length, 1, cap⟩, rfl, rfl, rfl, Nat.one_pos, by simpa [L] using r1, ?_, ?_, ?_⟩
      · intro i v hv
        have hp := (List.all_eq_true.1 hone) v (List.mem_of_getElem? hv)
        refine ⟨?_, v, by simpa [L] using hcell i v hv, ?_⟩
        · unfold plain1 at hp; unfold one; split at hp <;> first | rfl | cases hp
        · unfold plain1 at hp; split at hp <;> first | (constructor; done) | cases hp
      · intro j _ _
        simp [L, World.frozen?, hgb]
      · intro j _ hj
        simp only [L] at hj ⊢
        rw [World.cell?]
        simp only [hgb, Option.isSome_none, Bool.false_eq_true, if_false]
        rw [Array.getElem?_eq_getElem (by omega)]
        rfl
    · have ho' : h.get? c = some o := by rw [Heap.get?_push, if_neg h0] at ho; exact ho
      exact ((s.below' hb).obj c l o (hψo c l h0 hc) ho').keep hψ0 rfl
  · intro c1 c2 l1 l2 o1 o2 g1 g2 p1 p2 e1 e2 e
    by_cases a1 : c1 = h.n
    · by_cases a2 : c2 = h.n
      · rw [a1, a2]
      · subst a1
        rw [hψn] at g1; cases g1
        have := s.lt c2 l2 (hψo c2 l2 a2 g2)
        simp only [L] at e
        omega
    · by_cases a2 : c2 = h.n
      · subst a2
        rw [hψn] at g2; cases g2
        have := s.lt c1 l1 (hψo c1 l1 a1 g1)
        simp only [L] at e
        omega
      · rw [Heap.get?_push, if_neg a1] at p1
        rw [Heap.get?_push, if_neg a2] at p2
        exact s.inj c1 c2 l1 l2 o1 o2 (hψo c1 l1 a1 g1) (hψo c2 l2 a2 g2) p1 p2 e1 e2 e
  · intro c l hn hc
    by_cases h0 : c = h.n
    · subst h0; exact ⟨Nat.le_refl _, by simp [Heap.push]⟩
    · rw [hψo c l h0 hc] at hn; cases hn
  · intro c l hn hc
    by_cases h0 : c = h.n
    · subst h0; rw [hψn] at hc; cases hc; exact .inl hbase
    · rw [hψo c l h0 hc] at hn; cases hn
  · intro c hc _
    exact Heap.get?_push_old hc
  · intro c o' hc ho e
    rw [Heap.get?_push_old hc] at ho
    exact ⟨o', ho, e⟩

theorem sorted_good {ρk ρs : Ren} (K : SlLaysZI.n10 P ρk) (S : SlLaysZI.n6 P ρs) (hcall : Callable P (ρs.f 6)) (hsort : ∀ m, AnyZI.SortsIn P ρs Fence.wide m)
    (e9 : ∀ args w, (callFunc (ρs.f 9) args).run P w = .ok (.enter (ρs.f 9) args) w) (eK : ∀ args w, (callFunc (ρk.f 10) args).run P w = .ok (.enter (ρk.f 10) args) w)
    {B : Nat} {W0 : World} {g : FuncId} {args : List Value} {h h' : Heap} {v : Value} (H : SortedAns (ρs.f 6) (ρk.f 10) g args h v h') : h.n ≤ h'.n ∧ GoodCall P G B W0 g args h v h' := by
  obtain ⟨rfl, c, rfl, H⟩ := H
  have hle : h.n ≤ h'.n := by
    rcases H with ⟨_, H⟩ | ⟨_, _, _, ks, _, _, _, H⟩
    · cases H; exact Nat.le_refl _
    · unfold sortedRes at H
      split at H <;> cases H
      · exact Nat.le_refl _
      · simp [Heap.push]
  refine ⟨hle, hcall, fun φ W args' s gl hr free => ?_⟩
  obtain ⟨args'⟩ := args'
  have hlen : args'.length = 1 := hr.1.symm
  match args', hlen with
  | [v0], _ =>
    obtain ⟨l, hl, rfl⟩ := relFn (hr.2 0 _ _ rfl rfl)
    have hlt := s.lt c l hl
    rcases H with ⟨hc, H⟩ | ⟨m, es, clock, ks, hc, hm, hk, H⟩
    · obtain ⟨_, hlo, hcs, _, hb0⟩ := s.obj c l _ hl hc
      obtain ⟨u, hu, hru⟩ := cells_rd hcs (i := 0) rfl
      cases hru
      rw [hb0] at hu ⊢
      refine (callsIn_wide (n := 5)).1 ((AnyZI.sorted_in S Fence.wide 5 trivial trivial trivial trivial rfl (by omega) (hsort _) e9 (ρk.f 10) #[.pointer (some ⟨l.b, 0, none⟩)] trivial eK _ 0 (Nat.zero_le _) (by omega) W
        (AnyZI.keys_gives_nil K Fence.wide 2 trivial rfl l.b W hlt (by simpa using hu))).mono ?_)
      rintro e W' ⟨v, ss, rfl, rfl, hrow, hnil, hb⟩
      cases H
      exact ⟨φ, v, rfl, by rw [hnil.2 rfl]; exact .nils, s.below' hb, .below hb⟩
    · obtain ⟨_, hlo, hcs, _, hb0⟩ := s.obj c l _ hl hc
      obtain ⟨u, hu, hru⟩ := cells_rd hcs (i := 0) rfl
      cases hru with
      | @map _ lm hlm hbm =>
      rw [hb0] at hu ⊢
      obtain ⟨_, _, _, es', hes, hent⟩ := s.obj m lm _ hlm hm
      obtain ⟨k1, k2, k3⟩ := entRel_keys hent hk.keys
      have hint : P.underlying (ρs.t 26) = P.underlying (ρs.t 26) := rfl
      have u26 := K.t26
      have hlen : ks.length = es.length := by
        have := congrArg List.length hk.keys
        simpa using this.symm
      let R : Value → Option (DataW Unit × List MemPlace) := fun _ => some (.nil, [])
      let D : DataW Unit := .map ((es'.toList.map (rg P (ρk.t 26) R)).foldr DataW.insert [])
      have hwf : ∀ x ∈ es'.toList, ∃ a, x.key = .int .i64 a ∧ a ∈ ks ∧ (Lit.int .i64 a).wf = true := by
        intro x hx
        have : x.key ∈ es'.toList.map (·.key) := List.mem_map.2 ⟨x, hx, rfl⟩
        rw [k1, List.mem_map] at this
        obtain ⟨a, ha, e⟩ := this
        exact ⟨a, e.symm, ha, hk.wf a ha⟩
      have hkeyOf : ∀ a, (Lit.int .i64 a).wf = true → keyOf P (ρk.t 26) (.int .i64 a) = some (.int .i64 a) := fun a ha => keyOf_int_mk u26 ha
      have hown : W.ownsMap P (ρk.t 26) R lm.b es.length D := by
        refine ⟨es', clock, hes, ⟨?_, ⟨?_, ?_, ?_⟩, ?_⟩, ?_, rfl⟩
        · have := hk.few
          rw [← Array.length_toList, k3]
          simp only [maxLen]; omega
        · intro x hx
          have : x.born ∈ es'.toList.map (·.born) := List.mem_map.2 ⟨x, hx, rfl⟩
          rw [k2, List.mem_map] at this
          obtain ⟨e, he, h1⟩ := this
          rw [← h1]; exact hk.born e he
        · rw [k2]; exact hk.once
        · rw [k1]; exact List.Pairwise.map _ (fun a b hab e => hab (by simpa using e)) hk.nodup
        · intro x hx
          obtain ⟨a, e1, _, e2⟩ := hwf x hx
          obtain ⟨xk, xv, xb⟩ := x
          simp only at e1
          subst e1
          exact ⟨_, rd_mk (hkeyOf a e2) rfl⟩
        · rw [← Array.length_toList, k3]; exact Nat.le_refl _
      have hsize : Maps.size D = es.length := by
        show ((es'.toList.map (rg P (ρk.t 26) R)).foldr DataW.insert []).length = _
        rw [length_sorted, List.length_map, k3]
      have hkeys : (intKeys D).Perm ks := by
        refine (List.perm_ext_iff_of_nodup ?_ hk.nodup).2 fun x => ?_
        · obtain ⟨es2, hD, hpw, _⟩ := hown.entries (int_keyed u26)
          obtain ⟨es3, hD3, hko⟩ := hown.keysOf
          obtain rfl : es2 = es3 := by rw [hD] at hD3; simpa using hD3
          rw [hD]
          show (es2.map fun p => intOf p.1).Nodup
          refine List.pairwise_map.2 (hpw.imp_of_mem fun {p q} hp' hq' hne e => hne ?_)
          obtain ⟨vp, hvp⟩ := hko p hp'
          obtain ⟨vq, hvq⟩ := hko q hq'
          obtain ⟨a, _, ha, _⟩ := Maps.keyOf_i64 u26 hvp
          obtain ⟨b, _, hb, _⟩ := Maps.keyOf_i64 u26 hvq
          rw [ha, hb] at e ⊢
          exact congrArg _ e
        · show x ∈ ((es'.toList.map (rg P (ρk.t 26) R)).foldr DataW.insert []).map (fun p => intOf p.1) ↔ _
          have hmem : ∀ (l : List (Lit × DataW Unit)) (p : Lit × DataW Unit), p ∈ l.foldr DataW.insert [] ↔ p ∈ l := by
            have hins : ∀ (q : Lit × DataW Unit) (l : List (Lit × DataW Unit)) (p : Lit × DataW Unit), p ∈ DataW.insert q l ↔ p = q ∨ p ∈ l := by
              intro q l p
              induction l with
              | nil => simp [DataW.insert]
              | cons y r ih =>
                unfold DataW.insert
                split
                · simp
                · simp only [List.mem_cons, ih]
                  constructor
                  · rintro (h | h | h) <;> simp [h]
                  · rintro (h | h | h) <;> simp [h]
            intro l p
            induction l with
            | nil => simp
            | cons y r ih => rw [List.foldr_cons, hins, ih]; simp
          rw [List.mem_map]
          constructor
          · rintro ⟨p, hp, rfl⟩
            rw [hmem, List.mem_map] at hp
            obtain ⟨y, hy, rfl⟩ := hp
            obtain ⟨a, e1, e3, e2⟩ := hwf y hy
            obtain ⟨yk, yv, yb⟩ := y
            simp only at e1
            subst e1
            rw [rg_of (rd_mk (hkeyOf a e2) rfl)]
            exact e3
          · intro hx
            have : Value.int .i64 x ∈ es'.toList.map (·.key) := by rw [k1]; exact List.mem_map.2 ⟨x, hx, rfl⟩
            rw [List.mem_map] at this
            obtain ⟨y, hy, e1⟩ := this
            refine ⟨rg P (ρk.t 26) R y, by rw [hmem]; exact List.mem_map.2 ⟨y, hy, rfl⟩, ?_⟩
            obtain ⟨yk, yv, yb⟩ := y
            simp only at e1
            subst e1
            rw [rg_of (rd_mk (hkeyOf x (hk.wf x hx)) rfl)]
            rfl
      have hfew := hk.few
      refine (callsIn_wide (n := 5)).1 ((AnyZI.sorted_in S Fence.wide 5 trivial trivial trivial trivial rfl (by omega) (hsort _) e9 (ρk.f 10) #[.pointer (some ⟨l.b, 0, none⟩)] trivial eK _ (Maps.size D) (by rw [hsize]; simp only [maxLen]; omega) (by rw [hsize]; omega) W
        (AnyZI.keys_gives K Fence.wide 2 trivial rfl (by omega) l.b lm.b es.length D W hlt (by simpa using hu) hown)).mono ?_)
      rintro e W' ⟨v', ss, rfl, hperm, hrow, hnil, hb⟩
      have hss : isort ss = isort ks := isort_of_perm (hperm.trans hkeys)
      rw [isort_eq, hss] at hrow
      have hsl : ss.length = (isort ks).length := ((hperm.trans hkeys).trans (isort_perm ks).symm).length_eq
      rw [hsl] at hrow
      cases hi : isort ks with
      | nil =>
        rw [hi] at H hsl
        cases H
        have : ss = [] := List.eq_nil_of_length_eq_zero hsl
        exact ⟨φ, v', rfl, by rw [hnil.2 this]; exact .nils, s.below' hb, .below hb⟩
      | cons x r =>
        rw [hi] at H hrow
        cases H
        have hrow2 : W'.ownsRow W.heap.size (ρs.t 26) 1 v' ((x :: r).map (Value.int .i64)).length ((x :: r).map (Value.int .i64)) := by rw [List.length_map]; exact hrow
        obtain ⟨φ', g1, g2, g3⟩ := good_row (cs := (x :: r).map (Value.int .i64)) s free hb (by simp) (by rw [List.all_eq_true]; intro y hy; obtain ⟨a, _, rfl⟩ := List.mem_map.1 hy; rfl) hrow2
        exact ⟨φ', v', rfl, by simpa using g1, g2, g3⟩
end
end Go.Cm

/- The canonical machine: the answer for slices.Sorted(maps.Keys(m)) as a function. Conditions: none. -/
namespace Go.Cm
open Go.RowKit
set_option linter.unusedVariables false

def keysI : List (Value × Value × Nat) → Option (List Int)
  | [] => some []
  | (.int .i64 n, _, _) :: r => (match keysI r with | some l => some (n :: l) | none => none)
  | _ :: _ => none
def nodupI : List Int → Bool
  | [] => true
  | x :: r => !(r.any fun y => decide (x = y)) && nodupI r
def nodupN : List Nat → Bool
  | [] => true
  | x :: r => !(r.any fun y => Nat.beq x y) && nodupN r
def keysB (es : List (Value × Value × Nat)) (clock : Nat) (ks : List Int) : Bool :=
  nodupI ks && (ks.all fun x => (Lit.int .i64 x).wf) && Nat.ble es.length 1099511627776 && (es.all fun e => Nat.blt e.2.2 clock) && nodupN (es.map (·.2.2))
def orcSorted (fS fK : Nat) : CallF := fun g args h => match Nat.beq g fS with
  | false => none
  | true => match args with
    | [.func (.func k) a b] => (match Nat.beq k fK, a.toList, b.toList with
      | true, [], [.pointer (some ⟨c, 0, none⟩)] => (match h.get? c with
        | some (.rw [.map none]) => some (sortedRes h [])
        | some (.rw [.map (some m)]) => (match h.get? m with
          | some (.map es clock) => (match keysI es with
            | some ks => (match keysB es clock ks with | true => some (sortedRes h (isort ks)) | false => none)
            | none => none)
          | _ => none)
        | _ => none)
      | _, _, _ => none)
    | _ => none

theorem keysI_ok : ∀ {es : List (Value × Value × Nat)} {ks : List Int}, keysI es = some ks → es.map (·.1) = ks.map (Value.int .i64)
  | [], ks, h => by cases h; rfl
  | (k, v, n) :: r, ks, h => by
    unfold keysI at h
    split at h
    · rename_i heq; cases heq
    · rename_i heq
      cases heq
      split at h
      · rename_i l hl
        cases h
        simp [keysI_ok hl]
      · cases h
    · cases h
theorem nodupI_ok : ∀ {l : List Int}, nodupI l = true → l.Nodup
  | [], _ => List.nodup_nil
  | x :: r, h => by
    simp only [nodupI, Bool.and_eq_true, Bool.not_eq_true', List.any_eq_false, decide_eq_true_eq] at h
    exact List.nodup_cons.2 ⟨fun hx => h.1 x hx rfl, nodupI_ok h.2⟩
theorem nodupN_ok : ∀ {l : List Nat}, nodupN l = true → l.Nodup
  | [], _ => List.nodup_nil
  | x :: r, h => by
    simp only [nodupN, Bool.and_eq_true, Bool.not_eq_true', List.any_eq_false] at h
    exact List.nodup_cons.2 ⟨fun hx => h.1 x hx (Nat.beq_refl x), nodupN_ok h.2⟩
theorem keysB_ok {es : List (Value × Value × Nat)} {clock : Nat} {ks : List Int} (h : keysI es = some ks) (hb : keysB es clock ks = true) : KeysOK es clock ks := by
  unfold keysB at hb
  simp only [Bool.and_eq_true] at hb
  obtain ⟨⟨⟨⟨h1, h2⟩, h3⟩, h4⟩, h5⟩ := hb
  refine ⟨keysI_ok h, nodupI_ok h1, fun x hx => ?_, Nat.le_of_ble_eq_true h3, fun e he => ?_, nodupN_ok h5⟩
  · exact (List.all_eq_true.1 h2) x hx
  · have := (List.all_eq_true.1 h4) e he
    exact Nat.le_of_ble_eq_true this
theorem orcSorted_ok {fS fK : Nat} {g : FuncId} {args : List Value} {h h' : Heap} {v : Value} (H : orcSorted fS fK g args h = some (v, h')) : SortedAns fS fK g args h v h' := by
  unfold orcSorted at H
  split at H
  · cases H
  rename_i hg
  have hg := Nat.eq_of_beq_eq_true hg
  split at H
  rotate_left
  · cases H
  rename_i k a b
  split at H
  rotate_left
  · cases H
  rename_i c hk ha hb
  have hk := Nat.eq_of_beq_eq_true hk
  obtain ⟨a⟩ := a
  obtain ⟨b⟩ := b
  simp only at ha hb
  subst hk ha hb hg
  refine ⟨rfl, c, rfl, ?_⟩
  split at H
  · rename_i hc
    exact .inl ⟨hc, (Option.some.inj H).symm⟩
  · rename_i m hc
    split at H
    rotate_left
    · cases H
    rename_i es clock hm
    split at H
    rotate_left
    · cases H
    rename_i ks hks
    split at H
    rotate_left
    · cases H
    rename_i hB
    exact .inr ⟨m, es, clock, ks, hc, hm, keysB_ok hks hB, (Option.some.inj H).symm⟩
  · cases H
end Go.Cm

/- The canonical machine: rules to walk where truths are not known: what has been asked once is known from then on. Conditions: none. -/
namespace Go.Cm
open Go.RowKit
set_option linter.unusedVariables false
set_option linter.unusedSimpArgs false

section
variable {M : Prg} {Q : Ex → Fr → Heap → Prop} {K : Fr → Heap → Prop} {T : List Tr → Fr → Heap → Prop} {f : Fr} {h : Heap}

theorem w_condY {c : Operand} {a b : MCode} {t : Bool} (hc : evO f c = some (.bool t)) (ht : t = true) (H : wp M a Q f h) : wp M (.cond c a b) Q f h := w_condT (by rw [hc, ht]) H
theorem w_condN {c : Operand} {a b : MCode} {t : Bool} (hc : evO f c = some (.bool t)) (ht : t = false) (H : wp M b Q f h) : wp M (.cond c a b) Q f h := w_condF (by rw [hc, ht]) H

theorem wanted_eq {t : Nat} {w b : Bool} (hl : f.look t = some (.bool b)) : wantedC f (some (t, w)) = some (b == w) := by simp only [wantedC, Fr.look_get hl]
theorem o_gdY {d : Option Nat} {op : MOp} {t : Nat} {w b : Bool} {r : List MO} (hl : f.look t = some (.bool b)) (hb : b = w) (H : wpO M (⟨d, op, none⟩ :: r) K f h) : wpO M (⟨d, op, some (t, w)⟩ :: r) K f h := by
  obtain ⟨trs, f1, h1, he, hk⟩ := H
  cases he with
  | run hw ho hr => exact ⟨_, f1, h1, .run (by rw [wanted_eq hl, hb]; simp) ho hr, hk⟩
  | pass hw hr => simp [wantedC] at hw
theorem o_gdN {d : Nat} {op : MOp} {t : Nat} {w b : Bool} {r : List MO} (hl : f.look t = some (.bool b)) (hb : b = !w) (H : wpO M r K ((d, undef) :: f) h) : wpO M (⟨some d, op, some (t, w)⟩ :: r) K f h :=
  o_pass (by rw [wanted_eq hl, hb]; cases w <;> rfl) H
theorem o_gd {d : Nat} {op : MOp} {t : Nat} {w b : Bool} {r : List MO} (hl : f.look t = some (.bool b)) (H1 : b = w → wpO M (⟨some d, op, none⟩ :: r) K f h) (H2 : b = !w → wpO M r K ((d, undef) :: f) h) : wpO M (⟨some d, op, some (t, w)⟩ :: r) K f h := by
  by_cases hb : b = w
  · exact o_gdY hl hb (H1 hb)
  · have hb' : b = !w := by revert hb; cases b <;> cases w <;> simp
    exact o_gdN hl hb' (H2 hb')
theorem o_pickY {t : Nat} {c x y : Operand} {g : Option (Nat × Bool)} {r : List MO} {v : Value} {b : Bool} (hw : wantedC f g = some true) (hc : evO f c = some (.bool b)) (hb : b = true) (hx : evO f x = some v) (H : wpO M r K ((t, v) :: f) h) : wpO M (⟨some t, .pick c x y, g⟩ :: r) K f h :=
  o_pickT hw (by rw [hc, hb]) hx H
theorem o_pickN {t : Nat} {c x y : Operand} {g : Option (Nat × Bool)} {r : List MO} {v : Value} {b : Bool} (hw : wantedC f g = some true) (hc : evO f c = some (.bool b)) (hb : b = false) (hx : evO f y = some v) (H : wpO M r K ((t, v) :: f) h) : wpO M (⟨some t, .pick c x y, g⟩ :: r) K f h :=
  o_pickF hw (by rw [hc, hb]) hx H

theorem y1 {p : Prop} [Decidable p] (h : p) : decide p = true := decide_eq_true h
theorem y2 {p : Prop} [Decidable p] (h : ¬p) : decide p = false := decide_eq_false h
theorem y3 {a b : Int} (h : a = b) : (a == b) = true := by simp [h]
theorem y4 {a b : Int} (h : a ≠ b) : (a == b) = false := by simp [h]
theorem y5 {a b : Int} (h : a ≠ b) : (a != b) = true := by simp [h]
theorem y6 {a b : Int} (h : a = b) : (a != b) = false := by simp [h]
/-! the same, where what each did is kept -/
theorem t_gdY {d : Option Nat} {op : MOp} {t : Nat} {w b : Bool} {r : List MO} (hl : f.look t = some (.bool b)) (hb : b = w) (H : wpT M (⟨d, op, none⟩ :: r) T f h) : wpT M (⟨d, op, some (t, w)⟩ :: r) T f h := by
  obtain ⟨trs, f1, h1, he, hk⟩ := H
  cases he with
  | run hw ho hr => exact ⟨_, f1, h1, .run (by rw [wanted_eq hl, hb]; simp) ho hr, hk⟩
  | pass hw hr => simp [wantedC] at hw
theorem t_gdN {d : Nat} {op : MOp} {t : Nat} {w b : Bool} {r : List MO} (hl : f.look t = some (.bool b)) (hb : b = !w) (H : wpT M r (fun trs => T (⟨false, f, h, h, undef⟩ :: trs)) ((d, undef) :: f) h) : wpT M (⟨some d, op, some (t, w)⟩ :: r) T f h :=
  t_pass (by rw [wanted_eq hl, hb]; cases w <;> rfl) H
theorem t_gd {d : Nat} {op : MOp} {t : Nat} {w b : Bool} {r : List MO} (hl : f.look t = some (.bool b)) (H1 : b = w → wpT M (⟨some d, op, none⟩ :: r) T f h) (H2 : b = !w → wpT M r (fun trs => T (⟨false, f, h, h, undef⟩ :: trs)) ((d, undef) :: f) h) : wpT M (⟨some d, op, some (t, w)⟩ :: r) T f h := by
  by_cases hb : b = w
  · exact t_gdY hl hb (H1 hb)
  · have hb' : b = !w := by revert hb; cases b <;> cases w <;> simp
    exact t_gdN hl hb' (H2 hb')
theorem t_pickY {t : Nat} {c x y : Operand} {g : Option (Nat × Bool)} {r : List MO} {v : Value} {b : Bool} (hw : wantedC f g = some true) (hc : evO f c = some (.bool b)) (hb : b = true) (hx : evO f x = some v) (H : wpT M r (fun trs => T (⟨true, f, h, h, v⟩ :: trs)) ((t, v) :: f) h) : wpT M (⟨some t, .pick c x y, g⟩ :: r) T f h :=
  t_pickT hw (by rw [hc, hb]) hx H
theorem t_pickN {t : Nat} {c x y : Operand} {g : Option (Nat × Bool)} {r : List MO} {v : Value} {b : Bool} (hw : wantedC f g = some true) (hc : evO f c = some (.bool b)) (hb : b = false) (hx : evO f y = some v) (H : wpT M r (fun trs => T (⟨true, f, h, h, v⟩ :: trs)) ((t, v) :: f) h) : wpT M (⟨some t, .pick c x y, g⟩ :: r) T f h :=
  t_pickF hw (by rw [hc, hb]) hx H
theorem t_any {t : Nat} {op : MOp} {g : Option (Nat × Bool)} {r : List MO} {v : Value} {h' : Heap} (hw : wantedC f g = some true) (hc : cop f.ev h op = some (v, h')) (H : wpT M r (fun trs => T (⟨true, f, h, h', v⟩ :: trs)) ((t, v) :: f) h') : wpT M (⟨some t, op, g⟩ :: r) T f h := t_op hw (.prim hc) H
theorem t_anyN {op : MOp} {g : Option (Nat × Bool)} {r : List MO} {v : Value} {h' : Heap} (hw : wantedC f g = some true) (hc : cop f.ev h op = some (v, h')) (H : wpT M r (fun trs => T (⟨true, f, h, h', v⟩ :: trs)) f h') : wpT M (⟨none, op, g⟩ :: r) T f h := t_op hw (.prim hc) H
theorem o_anyN {op : MOp} {g : Option (Nat × Bool)} {r : List MO} {v : Value} {h' : Heap} (hw : wantedC f g = some true) (hc : cop f.ev h op = some (v, h')) (H : wpO M r K f h') : wpO M (⟨none, op, g⟩ :: r) K f h := o_op hw (.prim hc) H

/-- what an open order asks, reckoned -/
def CrossV (l : List MO) (trs : List Tr) (ij : Nat × Nat) : Prop :=
  match l[ij.1]?, trs[ij.1]?, trs[ij.2]? with
  | some o, some ti, some tj => (match ti.ran, tj.ran with
    | true, true => reread ti.f.ev (match Nat.blt ij.1 ij.2 with | true => tj.h' | false => tj.h) o.op = some ti.v
    | _, _ => True)
  | _, _, _ => True
theorem CrossV.ok {l : List MO} {trs : List Tr} {ij : Nat × Nat} (h : CrossV l trs ij) : CrossOK l trs ij := by
  intro o ti tj h1 h2 h3 r1 r2
  unfold CrossV at h
  rw [h1, h2, h3] at h
  simp only [r1, r2] at h
  rw [← h]
  congr 1
  by_cases hl : ij.1 < ij.2
  · rw [if_pos hl, show Nat.blt ij.1 ij.2 = true from by simpa using hl]
  · rw [if_neg hl, show Nat.blt ij.1 ij.2 = false from by cases hb : Nat.blt ij.1 ij.2 with | false => rfl | true => exact absurd (by simpa using hb) hl]
def CrossAll (l : List MO) (trs : List Tr) : List (Nat × Nat) → Prop
  | [] => True
  | ij :: r => CrossV l trs ij ∧ CrossAll l trs r
theorem CrossAll.ok {l : List MO} {trs : List Tr} : ∀ {x : List (Nat × Nat)}, CrossAll l trs x → ∀ ij ∈ x, CrossOK l trs ij
  | [], _ => fun _ h => by cases h
  | ij :: r, h => fun k hk => by
    rcases List.mem_cons.1 hk with rfl | hk
    · exact h.1.ok
    · exact CrossAll.ok h.2 k hk
theorem w_opsX {l : List MO} {x : List (Nat × Nat)} (H : wpT M l (fun trs f' h' => CrossAll l trs x ∧ Q .norm f' h') f h) : wp M (.region l x) Q f h := by
  obtain ⟨trs, f1, h1, ho, hx, hq⟩ := H
  exact ⟨_, _, _, .region ho hx.ok, hq⟩

/-- sums, differences and products of numbers of 64 bits that stay within their bounds -/
theorem wrap64' {n : Int} (hn : -9223372036854775808 ≤ n ∧ n < 9223372036854775808) : IntKind.i64.wrap n = n := by
  simp only [IntKind.wrap, IntKind.bits, IntKind.signed]
  simp
  omega
theorem wrapU64 {n : Int} (hn : 0 ≤ n ∧ n < 18446744073709551616) : IntKind.u64.wrap n = n := by
  simp only [IntKind.wrap, IntKind.bits, IntKind.signed]
  simp
  omega
theorem wrapU32 {n : Int} (hn : 0 ≤ n ∧ n < 4294967296) : IntKind.u32.wrap n = n := by
  simp only [IntKind.wrap, IntKind.bits, IntKind.signed]
  simp
  omega
theorem wrapU8 {n : Int} (hn : 0 ≤ n ∧ n < 256) : IntKind.u8.wrap n = n := by
  simp only [IntKind.wrap, IntKind.bits, IntKind.signed]
  simp
  omega
theorem ar_quo {k : IntKind} {a b : Int} (ha : 0 ≤ a) (hb : 0 < b) (hn : k.wrap (a / b) = a / b) : arith .quo (.int k a) (.int k b) = some (.int k (a / b)) := by
  simp only [arith]
  rw [if_neg (by simp), if_neg (by omega), Int.tdiv_eq_ediv_of_nonneg ha, hn]
theorem ar_rem {k : IntKind} {a b : Int} (ha : 0 ≤ a) (hb : 0 < b) : arith .rem (.int k a) (.int k b) = some (.int k (a % b)) := by
  simp only [arith]
  rw [if_neg (by simp), if_neg (by omega), Int.tmod_eq_emod_of_nonneg ha]
theorem o_add {t : Nat} {x y : Operand} {g : Option (Nat × Bool)} {r : List MO} {k : IntKind} {a b : Int} (hw : wantedC f g = some true) (hx : evO f x = some (.int k a)) (hy : evO f y = some (.int k b)) (hn : k.wrap (a + b) = a + b)
    (H : wpO M r K ((t, .int k (a + b)) :: f) h) : wpO M (⟨some t, .ar .add x y, g⟩ :: r) K f h :=
  o_ar hw hx hy (w := .int k (k.wrap (a + b))) (by simp [arith]) (w' := .int k (a + b)) (by rw [hn]) H
theorem o_sub {t : Nat} {x y : Operand} {g : Option (Nat × Bool)} {r : List MO} {k : IntKind} {a b : Int} (hw : wantedC f g = some true) (hx : evO f x = some (.int k a)) (hy : evO f y = some (.int k b)) (hn : k.wrap (a - b) = a - b)
    (H : wpO M r K ((t, .int k (a - b)) :: f) h) : wpO M (⟨some t, .ar .sub x y, g⟩ :: r) K f h :=
  o_ar hw hx hy (w := .int k (k.wrap (a - b))) (by simp [arith]) (w' := .int k (a - b)) (by rw [hn]) H
theorem o_mul {t : Nat} {x y : Operand} {g : Option (Nat × Bool)} {r : List MO} {k : IntKind} {a b : Int} (hw : wantedC f g = some true) (hx : evO f x = some (.int k a)) (hy : evO f y = some (.int k b)) (hn : k.wrap (a * b) = a * b)
    (H : wpO M r K ((t, .int k (a * b)) :: f) h) : wpO M (⟨some t, .ar .mul x y, g⟩ :: r) K f h :=
  o_ar hw hx hy (w := .int k (k.wrap (a * b))) (by simp [arith]) (w' := .int k (a * b)) (by rw [hn]) H
theorem o_quo {t : Nat} {x y : Operand} {g : Option (Nat × Bool)} {r : List MO} {k : IntKind} {a b : Int} (hw : wantedC f g = some true) (hx : evO f x = some (.int k a)) (hy : evO f y = some (.int k b)) (ha : 0 ≤ a) (hb : 0 < b) (hn : k.wrap (a / b) = a / b)
    (H : wpO M r K ((t, .int k (a / b)) :: f) h) : wpO M (⟨some t, .ar .quo x y, g⟩ :: r) K f h :=
  o_ar hw hx hy (ar_quo ha hb hn) rfl H
theorem o_rem {t : Nat} {x y : Operand} {g : Option (Nat × Bool)} {r : List MO} {k : IntKind} {a b : Int} (hw : wantedC f g = some true) (hx : evO f x = some (.int k a)) (hy : evO f y = some (.int k b)) (ha : 0 ≤ a) (hb : 0 < b)
    (H : wpO M r K ((t, .int k (a % b)) :: f) h) : wpO M (⟨some t, .ar .rem x y, g⟩ :: r) K f h :=
  o_ar hw hx hy (ar_rem ha hb) rfl H
theorem o_conv {t : Nat} {x : Operand} {g : Option (Nat × Bool)} {r : List MO} {k k' : IntKind} {n : Int} (hw : wantedC f g = some true) (hx : evO f x = some (.int k' n)) (hn : k.wrap n = n)
    (H : wpO M r K ((t, .int k n) :: f) h) : wpO M (⟨some t, .conv k x, g⟩ :: r) K f h :=
  o_op hw (.prim (by simp only [cop, evO_ok hx]; rw [hn])) H
theorem t_add {t : Nat} {x y : Operand} {g : Option (Nat × Bool)} {r : List MO} {k : IntKind} {a b : Int} (hw : wantedC f g = some true) (hx : evO f x = some (.int k a)) (hy : evO f y = some (.int k b)) (hn : k.wrap (a + b) = a + b)
    (H : wpT M r (fun trs => T (⟨true, f, h, h, .int k (a + b)⟩ :: trs)) ((t, .int k (a + b)) :: f) h) : wpT M (⟨some t, .ar .add x y, g⟩ :: r) T f h :=
  t_ar hw hx hy (w := .int k (k.wrap (a + b))) (by simp [arith]) (w' := .int k (a + b)) (by rw [hn]) H
theorem t_sub {t : Nat} {x y : Operand} {g : Option (Nat × Bool)} {r : List MO} {k : IntKind} {a b : Int} (hw : wantedC f g = some true) (hx : evO f x = some (.int k a)) (hy : evO f y = some (.int k b)) (hn : k.wrap (a - b) = a - b)
    (H : wpT M r (fun trs => T (⟨true, f, h, h, .int k (a - b)⟩ :: trs)) ((t, .int k (a - b)) :: f) h) : wpT M (⟨some t, .ar .sub x y, g⟩ :: r) T f h :=
  t_ar hw hx hy (w := .int k (k.wrap (a - b))) (by simp [arith]) (w' := .int k (a - b)) (by rw [hn]) H
theorem t_mul {t : Nat} {x y : Operand} {g : Option (Nat × Bool)} {r : List MO} {k : IntKind} {a b : Int} (hw : wantedC f g = some true) (hx : evO f x = some (.int k a)) (hy : evO f y = some (.int k b)) (hn : k.wrap (a * b) = a * b)
    (H : wpT M r (fun trs => T (⟨true, f, h, h, .int k (a * b)⟩ :: trs)) ((t, .int k (a * b)) :: f) h) : wpT M (⟨some t, .ar .mul x y, g⟩ :: r) T f h :=
  t_ar hw hx hy (w := .int k (k.wrap (a * b))) (by simp [arith]) (w' := .int k (a * b)) (by rw [hn]) H
theorem t_quo {t : Nat} {x y : Operand} {g : Option (Nat × Bool)} {r : List MO} {k : IntKind} {a b : Int} (hw : wantedC f g = some true) (hx : evO f x = some (.int k a)) (hy : evO f y = some (.int k b)) (ha : 0 ≤ a) (hb : 0 < b) (hn : k.wrap (a / b) = a / b)
    (H : wpT M r (fun trs => T (⟨true, f, h, h, .int k (a / b)⟩ :: trs)) ((t, .int k (a / b)) :: f) h) : wpT M (⟨some t, .ar .quo x y, g⟩ :: r) T f h :=
  t_ar hw hx hy (ar_quo ha hb hn) rfl H
theorem t_rem {t : Nat} {x y : Operand} {g : Option (Nat × Bool)} {r : List MO} {k : IntKind} {a b : Int} (hw : wantedC f g = some true) (hx : evO f x = some (.int k a)) (hy : evO f y = some (.int k b)) (ha : 0 ≤ a) (hb : 0 < b)
    (H : wpT M r (fun trs => T (⟨true, f, h, h, .int k (a % b)⟩ :: trs)) ((t, .int k (a % b)) :: f) h) : wpT M (⟨some t, .ar .rem x y, g⟩ :: r) T f h :=
  t_ar hw hx hy (ar_rem ha hb) rfl H
theorem t_conv {t : Nat} {x : Operand} {g : Option (Nat × Bool)} {r : List MO} {k k' : IntKind} {n : Int} (hw : wantedC f g = some true) (hx : evO f x = some (.int k' n)) (hn : k.wrap n = n)
    (H : wpT M r (fun trs => T (⟨true, f, h, h, .int k n⟩ :: trs)) ((t, .int k n) :: f) h) : wpT M (⟨some t, .conv k x, g⟩ :: r) T f h :=
  t_op hw (.prim (by simp only [cop, evO_ok hx]; rw [hn])) H

/-- any operation that is reckoned -/
theorem o_any {t : Nat} {op : MOp} {g : Option (Nat × Bool)} {r : List MO} {v : Value} {h' : Heap} (hw : wantedC f g = some true) (hc : cop f.ev h op = some (v, h')) (H : wpO M r K ((t, v) :: f) h') : wpO M (⟨some t, op, g⟩ :: r) K f h := o_op hw (.prim hc) H
end
end Go.Cm

/- The canonical machine: rules for slices whose lengths are not known. Conditions: none. -/
namespace Go.Cm
open Go.RowKit
set_option linter.unusedVariables false
set_option linter.unusedSimpArgs false

theorem toBytes_take : ∀ (l : List UInt8) (n : Nat), toBytes ((l.map fun b => Value.int .u8 b.toNat).take n) = some (l.take n)
  | [], n => by simp [toBytes]
  | b :: l, 0 => by simp [toBytes]
  | b :: l, n + 1 => by simp [toBytes, toBytes_take l n]
theorem toBytes_of (l : List UInt8) : toBytes (l.map fun b => Value.int .u8 b.toNat) = some l := by
  have := toBytes_take l l.length
  rwa [List.take_of_length_le (by simp), List.take_of_length_le (Nat.le_refl _)] at this
theorem splice_zero {cs vs : List Value} : splice cs 0 vs = vs ++ cs.drop vs.length := by cases cs <;> rfl

theorem splice_mid (x v : Value) (B : List Value) : ∀ (A : List Value) (o : Nat), o = A.length → splice (A ++ x :: B) o [v] = A ++ v :: B
  | [], o, h => by subst h; rfl
  | a :: A, o, h => by subst h; simp only [List.cons_append, List.length_cons, splice]; rw [splice_mid x v B A _ rfl]
theorem splice_set : ∀ (cs : List Value) (o : Nat) (v : Value), o < cs.length → splice cs o [v] = cs.set o v
  | [], o, v, h => by simp at h
  | c :: cs, 0, v, h => by simp [splice]
  | c :: cs, o + 1, v, h => by simp only [splice, List.set_cons_succ]; rw [splice_set cs o v (by simpa using h)]

section
variable {M : Prg} {Q : Ex → Fr → Heap → Prop} {K : Fr → Heap → Prop} {T : List Tr → Fr → Heap → Prop} {f : Fr} {h : Heap}

theorem o_mkSl {t bytes : Nat} {zero : List Value} {l c : Operand} {g : Option (Nat × Bool)} {r : List MO} {k1 k2 : IntKind} {a b : Int} (hw : wantedC f g = some true) (hl : evO f l = some (.int k1 a)) (hc : evO f c = some (.int k2 b))
    (hb : 0 ≤ a ∧ a ≤ b ∧ bytes * b ≤ 281474976710656 ∧ b ≤ 9223372036854775807) (H : wpO M r K ((t, .slice (some ⟨h.n, 0, none⟩) a.toNat b.toNat) :: f) (h.push (.rw (repL zero b.toNat)))) : wpO M (⟨some t, .mkSl bytes zero l c, g⟩ :: r) K f h :=
  o_op hw (.prim (by simp only [cop, evO_ok hl, evO_ok hc]; rw [if_pos hb])) H
theorem o_ixS {t : Nat} {x i : Operand} {g : Option (Nat × Bool)} {r : List MO} {s : ByteArray} {k : IntKind} {n : Int} {b : UInt8} (hw : wantedC f g = some true) (hx : evO f x = some (.string s)) (hi : evO f i = some (.int k n)) (hn : 0 ≤ n) (hb : s[n.toNat]? = some b)
    (H : wpO M r K ((t, .int .u8 b.toNat) :: f) h) : wpO M (⟨some t, .ixS x i, g⟩ :: r) K f h :=
  o_op hw (.prim (by simp only [cop, evO_ok hx, evO_ok hi, hb]; rw [if_pos hn])) H
theorem o_convBS {t : Nat} {x : Operand} {g : Option (Nat × Bool)} {r : List MO} {a : Addr} {len cap : Nat} {cs : List Value} {l : List UInt8} (hw : wantedC f g = some true) (hx : evO f x = some (.slice (some a) len cap)) (hr : sliceCells h 1 len (.slice (some a) len cap) = some cs) (hl : toBytes cs = some l)
    (H : wpO M r K ((t, .string ⟨l.toArray⟩) :: f) h) : wpO M (⟨some t, .convBS x, g⟩ :: r) K f h :=
  o_op hw (.prim (by simp only [cop, evO_ok hx, hr, hl])) H
/-- an append of a text that fits -/
theorem o_appSfit {t : Nat} {x y : Operand} {g : Option (Nat × Bool)} {r : List MO} {a : Addr} {len cap : Nat} {s : ByteArray} {h' : Heap} (hw : wantedC f g = some true) (hx : evO f x = some (.slice (some a) len cap)) (hy : evO f y = some (.string s)) (hs : 0 < s.size)
    (hfit : len + s.size ≤ cap) (hmax : len + s.size ≤ 140737488355328) (hwr : h.wr ⟨a.block, a.off + len, a.spot⟩ (ofBytes s) = some h') (H : wpO M r K ((t, .slice (some a) (len + s.size) cap) :: f) h') : wpO M (⟨some t, .appS x y, g⟩ :: r) K f h := by
  refine o_op hw (.prim ?_) H
  simp only [cop, evO_ok hx, evO_ok hy, appendTo, ofBytes_length, Nat.mul_one]
  rw [if_neg (by omega), if_pos hfit, if_neg (by omega), hwr]

def objCells : CObj → Option (List Value)
  | .ro cs | .rw cs | .loose _ cs => some cs
  | _ => none
theorem rd1_obj {c off : Nat} {o : CObj} {cs : List Value} {v : Value} (hg : h.get? c = some o) (ho : objCells o = some cs) (hv : cs[off]? = some v) : h.rd1 ⟨c, off, none⟩ = some v := by
  unfold Heap.rd1 Heap.cells
  rw [hg]
  cases o <;> simp_all [objCells]
theorem rdN_obj {c off n : Nat} {o : CObj} {cs : List Value} (hg : h.get? c = some o) (ho : objCells o = some cs) (hn : off + n ≤ cs.length) : h.rdN ⟨c, off, none⟩ n = some ((cs.drop off).take n) := by
  unfold Heap.rdN Heap.cells
  rw [hg]
  cases o <;> simp_all [objCells]
theorem wr_rw {c off : Nat} {cs vs : List Value} (hg : h.get? c = some (.rw cs)) (hn : off + vs.length ≤ cs.length) : h.wr ⟨c, off, none⟩ vs = some (h.set c (.rw (splice cs off vs))) := by
  unfold Heap.wr
  rw [hg]
  simp [hn]
theorem wr_loose {c off e : Nat} {cs vs : List Value} (hg : h.get? c = some (.loose e cs)) (hn : off + vs.length ≤ cs.length) : h.wr ⟨c, off, none⟩ vs = some (h.set c (.loose e (splice cs off vs))) := by
  unfold Heap.wr
  rw [hg]
  simp [hn]
theorem o_load1R {t : Nat} {x : Operand} {g : Option (Nat × Bool)} {r : List MO} {c off : Nat} {o : CObj} {cs : List Value} {v : Value} (hw : wantedC f g = some true) (hx : evO f x = some (.pointer (some ⟨c, off, none⟩))) (hg : h.get? c = some o) (ho : objCells o = some cs) (hv : cs[off]? = some v)
    (H : wpO M r K ((t, v) :: f) h) : wpO M (⟨some t, .load1 x, g⟩ :: r) K f h := o_load1 hw hx (rd1_obj hg ho hv) H
theorem o_loadNR {t n : Nat} {x : Operand} {g : Option (Nat × Bool)} {r : List MO} {c off : Nat} {o : CObj} {cs vs : List Value} (hw : wantedC f g = some true) (hx : evO f x = some (.pointer (some ⟨c, off, none⟩))) (hg : h.get? c = some o) (ho : objCells o = some cs) (hn : off + n ≤ cs.length) (hv : (cs.drop off).take n = vs)
    (H : wpO M r K ((t, .agg vs.toArray) :: f) h) : wpO M (⟨some t, .loadN n x, g⟩ :: r) K f h := o_loadN hw hx (by rw [rdN_obj hg ho hn, hv]) H
theorem t_load1R {t : Nat} {x : Operand} {g : Option (Nat × Bool)} {r : List MO} {c off : Nat} {o : CObj} {cs : List Value} {v : Value} (hw : wantedC f g = some true) (hx : evO f x = some (.pointer (some ⟨c, off, none⟩))) (hg : h.get? c = some o) (ho : objCells o = some cs) (hv : cs[off]? = some v)
    (H : wpT M r (fun trs => T (⟨true, f, h, h, v⟩ :: trs)) ((t, v) :: f) h) : wpT M (⟨some t, .load1 x, g⟩ :: r) T f h := t_load1 hw hx (rd1_obj hg ho hv) H
theorem t_loadNR {t n : Nat} {x : Operand} {g : Option (Nat × Bool)} {r : List MO} {c off : Nat} {o : CObj} {cs vs : List Value} (hw : wantedC f g = some true) (hx : evO f x = some (.pointer (some ⟨c, off, none⟩))) (hg : h.get? c = some o) (ho : objCells o = some cs) (hn : off + n ≤ cs.length) (hv : (cs.drop off).take n = vs)
    (H : wpT M r (fun trs => T (⟨true, f, h, h, .agg vs.toArray⟩ :: trs)) ((t, .agg vs.toArray) :: f) h) : wpT M (⟨some t, .loadN n x, g⟩ :: r) T f h := t_loadN hw hx (by rw [rdN_obj hg ho hn, hv]) H
theorem o_storeR {n : Nat} {x y : Operand} {g : Option (Nat × Bool)} {r : List MO} {c off : Nat} {cs vs : List Value} {v : Value} (hw : wantedC f g = some true) (hx : evO f x = some (.pointer (some ⟨c, off, none⟩))) (hy : evO f y = some v) (hv : cellsOf v = some vs) (hl : vs.length = n) (hg : h.get? c = some (.rw cs)) (hn : off + vs.length ≤ cs.length)
    (H : wpO M r K f (h.set c (.rw (splice cs off vs)))) : wpO M (⟨none, .store n x y, g⟩ :: r) K f h := by
  refine o_op (v := undef) hw (.prim ?_) H
  simp only [cop, evO_ok hx, evO_ok hy, hv]
  rw [if_pos hl, wr_rw hg hn]

/-- memory in which one object alone has turned -/
structure Only (h h' : Heap) (c : Nat) : Prop where
  le : h.n ≤ h'.n
  old : ∀ d, d < h.n → d ≠ c → h'.get? d = h.get? d
theorem Only.refl {h : Heap} {c : Nat} : Only h h c := ⟨Nat.le_refl _, fun _ _ _ => rfl⟩
theorem Only.trans {a b e : Heap} {c : Nat} (h1 : Only a b c) (h2 : Only b e c) : Only a e c := ⟨Nat.le_trans h1.le h2.le, fun d hd hc => (h2.old d (Nat.lt_of_lt_of_le hd h1.le) hc).trans (h1.old d hd hc)⟩
theorem Only.of_le {a b : Heap} {c : Nat} (l : Le a b) : Only a b c := ⟨l.1, fun d hd _ => l.2 d hd⟩
theorem Only.set {a : Heap} {c : Nat} {o o' : CObj} (hg : a.get? c = some o') : Only a (a.set c o) c := ⟨Nat.le_refl _, fun d hd hc => Heap.get?_set_other (Heap.get?_lt hg) hc⟩
theorem Only.get {a b : Heap} {c d : Nat} {o : CObj} (h : Only a b c) (hc : d ≠ c) (ho : a.get? d = some o) : b.get? d = some o := by rw [h.old d (Heap.get?_lt ho) hc]; exact ho
theorem get_add_old {h h1 : Heap} (hm : madeOnly h1 = true) {c : Nat} {o : CObj} (ho : h.get? c = some o) : (h.add h1).get? c = some o := by
  rw [get_add (madeOnly_len hm), if_pos (Heap.get?_lt ho)]; exact ho
theorem get_add_new {h h1 : Heap} (hm : madeOnly h1 = true) {c : Nat} {o : CObj} (ho : h1.get? c = some o) : (h.add h1).get? (h.n + c) = some (shO h.n o) := by
  rw [get_add (madeOnly_len hm), if_neg (by omega), show h.n + c - h.n = c from by omega, ho]; rfl
theorem o_ext {t i : Nat} {x : Operand} {g : Option (Nat × Bool)} {r : List MO} {vs : Array Value} {v : Value} (hw : wantedC f g = some true) (hx : evO f x = some (.tuple vs)) (hv : vs.toList[i]? = some v)
    (H : wpO M r K ((t, v) :: f) h) : wpO M (⟨some t, .ext x i, g⟩ :: r) K f h :=
  o_op hw (.prim (by simp only [cop, evO_ok hx]; rw [← Array.getElem?_toList, hv])) H
theorem t_ext {t i : Nat} {x : Operand} {g : Option (Nat × Bool)} {r : List MO} {vs : Array Value} {v : Value} (hw : wantedC f g = some true) (hx : evO f x = some (.tuple vs)) (hv : vs.toList[i]? = some v)
    (H : wpT M r (fun trs => T (⟨true, f, h, h, v⟩ :: trs)) ((t, v) :: f) h) : wpT M (⟨some t, .ext x i, g⟩ :: r) T f h :=
  t_op hw (.prim (by simp only [cop, evO_ok hx]; rw [← Array.getElem?_toList, hv])) H
theorem cross_nil {l : List MO} {trs : List Tr} {R : Prop} (H : R) : CrossAll l trs [] ∧ R := ⟨trivial, H⟩
theorem cross_cons {l : List MO} {trs : List Tr} {ij : Nat × Nat} {r : List (Nat × Nat)} {R : Prop} (h : CrossV l trs ij) (H : CrossAll l trs r ∧ R) : CrossAll l trs (ij :: r) ∧ R := ⟨⟨h, H.1⟩, H.2⟩
theorem rereadLoad1 {ρ : Operand → Value} {h : Heap} {x : Operand} {a : Addr} {v : Value} (hx : ρ x = .pointer (some a)) (hr : h.rd1 a = some v) : reread ρ h (.load1 x) = some v := by
  simp only [reread, cop, hx, hr]
theorem rereadLoadN {ρ : Operand → Value} {h : Heap} {n : Nat} {x : Operand} {a : Addr} {vs : List Value} (hx : ρ x = .pointer (some a)) (hr : h.rdN a n = some vs) : reread ρ h (.loadN n x) = some (.agg vs.toArray) := by
  simp only [reread, cop, hx, hr]
/-- a number within its kind's bounds -/
def inKind (n : Int) : IntKind → Prop
  | .i64 => -9223372036854775808 ≤ n ∧ n < 9223372036854775808
  | .u64 => 0 ≤ n ∧ n < 18446744073709551616
  | .u32 => 0 ≤ n ∧ n < 4294967296
  | .u8 => 0 ≤ n ∧ n < 256
  | _ => False
theorem wrapAny {k : IntKind} {n : Int} (h : inKind n k) : k.wrap n = n := by
  cases k <;> first | exact wrap64' h | exact wrapU64 h | exact wrapU32 h | exact wrapU8 h | exact h.elim
/-- one more round -/
theorem rnd_again {live : List Nat} {again : Fr → Heap → Prop} {f' : Fr} (hk : keepO f live = some f') (H : again f' h) : Ex.round live again Q .norm f h := ⟨f', hk, H⟩
theorem bounds_lo {len cap : Nat} {k : IntKind} {a : Int} (h : 0 ≤ a ∧ a ≤ len ∧ len ≤ cap) : bounds len cap (some (.int k a)) none none = some (a.toNat, len, cap) := by
  simp only [bounds, asNat?]
  rw [if_pos h.1]
  simp only [Option.isSome_none, Bool.false_eq_true, if_false]
  rw [if_pos (by omega)]
theorem bounds_hi {len cap : Nat} {k : IntKind} {a : Int} (h : 0 ≤ a ∧ a ≤ cap) : bounds len cap none (some (.int k a)) none = some (0, a.toNat, cap) := by
  simp only [bounds, asNat?]
  rw [if_pos h.1]
  simp only
  rw [if_pos (by omega)]
  try simp
theorem bounds_both {len cap : Nat} {k k' : IntKind} {a b : Int} (h : 0 ≤ a ∧ a ≤ b ∧ b ≤ cap) : bounds len cap (some (.int k a)) (some (.int k' b)) none = some (a.toNat, b.toNat, cap) := by
  simp only [bounds, asNat?]
  rw [if_pos h.1, if_pos (show 0 ≤ b by omega)]
  simp only
  rw [if_pos (show b.toNat ≤ cap by omega)]
  simp only
  rw [if_pos (show a.toNat ≤ b.toNat by omega)]
/-- a part of a slice of an own block, or of one that is only read -/
theorem o_slV {t esz : Nat} {x : Operand} {lo hi : Option Operand} {g : Option (Nat × Bool)} {r : List MO} {a : Addr} {len cap l e m : Nat} {o : CObj} (hw : wantedC f g = some true) (hx : evO f x = some (.slice (some a) len cap)) (hb : bounds len cap (lo.map f.ev) (hi.map f.ev) none = some (l, e, m))
    (ho : h.get? a.block = some o) (hk : (∃ cs, o = .ro cs) ∨ ∃ cs, o = .rw cs) (H : wpO M r K ((t, .slice (some (if m = l then a else addOff a (l * esz))) (e - l) (m - l)) :: f) h) : wpO M (⟨some t, .slV esz x lo hi none, g⟩ :: r) K f h := by
  refine o_op hw (.prim ?_) H
  rcases hk with ⟨cs, rfl⟩ | ⟨cs, rfl⟩ <;> simp only [cop, evO_ok hx, hb, Option.map_none, ho, Option.isSome_none, Bool.false_eq_true, if_false]
/-- the same of a block that appends have made; the part does not begin behind its last place -/
theorem o_slVl {t esz : Nat} {x : Operand} {lo hi : Option Operand} {g : Option (Nat × Bool)} {r : List MO} {a : Addr} {len cap l e m : Nat} {cs : List Value} (hw : wantedC f g = some true) (hx : evO f x = some (.slice (some a) len cap)) (hb : bounds len cap (lo.map f.ev) (hi.map f.ev) none = some (l, e, m))
    (ho : h.get? a.block = some (.loose esz cs)) (hm : m ≠ l) (H : wpO M r K ((t, .slice (some (addOff a (l * esz))) (e - l) (m - l)) :: f) h) : wpO M (⟨some t, .slV esz x lo hi none, g⟩ :: r) K f h := by
  refine o_op hw (.prim ?_) H
  simp only [cop, evO_ok hx, hb, Option.map_none, ho, Option.isSome_none, Bool.false_eq_true, if_false]
  rw [if_neg hm, if_pos trivial]
theorem o_slS {t : Nat} {x : Operand} {lo hi : Option Operand} {g : Option (Nat × Bool)} {r : List MO} {s : ByteArray} {l e m : Nat} (hw : wantedC f g = some true) (hx : evO f x = some (.string s)) (hb : bounds s.size s.size (lo.map f.ev) (hi.map f.ev) none = some (l, e, m))
    (H : wpO M r K ((t, .string (s.extract l e)) :: f) h) : wpO M (⟨some t, .slS x lo hi, g⟩ :: r) K f h :=
  o_op hw (.prim (by simp only [cop, evO_ok hx, hb])) H
end
theorem sliceCells_of {h : Heap} {a : Addr} {esz n len cap : Nat} {vs : List Value} (hn : 0 < n) (hl : n ≤ len) (hr : h.rdN a (n * esz) = some vs) : sliceCells h esz n (.slice (some a) len cap) = some vs := by
  simp only [sliceCells]
  rw [if_neg (by omega), if_pos hl, hr]
end Go.Cm

/- The canonical machine: lists that a call makes by appends; lists that are read. Conditions: none. -/
namespace Go.Cm
open Go.RowKit
set_option linter.unusedVariables false
set_option linter.unusedSimpArgs false

/-- a slice that appends alone have made: its cells -/
def Own (h : Heap) (esz : Nat) (v : Value) (cs : List Value) : Prop :=
  (v = .slice none 0 0 ∧ cs = []) ∨ ∃ c m, v = .slice (some ⟨c, 0, none⟩) m m ∧ h.get? c = some (.loose esz cs) ∧ cs.length = m * esz ∧ 0 < m
/-- what an append onto v leaves as it was -/
def AppRel (h h' : Heap) (v : Value) : Prop := h.n ≤ h'.n ∧ ∀ d, d < h.n → (∀ m k, v ≠ .slice (some ⟨d, 0, none⟩) m k) → h'.get? d = h.get? d

theorem Own.nil {h : Heap} {esz : Nat} : Own h esz (.slice none 0 0) [] := .inl ⟨rfl, rfl⟩
theorem Own.keep {h h' : Heap} {esz : Nat} {v : Value} {cs : List Value} (H : Own h esz v cs) (k : ∀ c m n, v = .slice (some ⟨c, 0, none⟩) m n → h'.get? c = h.get? c) : Own h' esz v cs := by
  rcases H with H | ⟨c, m, rfl, h1, h2, h3⟩
  · exact .inl H
  · exact .inr ⟨c, m, rfl, by rw [k c m m rfl]; exact h1, h2, h3⟩
theorem Own.le {h h' : Heap} {esz : Nat} {v : Value} {cs : List Value} (H : Own h esz v cs) (l : Le h h') : Own h' esz v cs := by
  rcases H with H | ⟨c, m, rfl, h1, h2, h3⟩
  · exact .inl H
  · exact .inr ⟨c, m, rfl, l.get h1, h2, h3⟩
theorem Own.lt {h : Heap} {esz : Nat} {v : Value} {cs : List Value} (H : Own h esz v cs) {c m n : Nat} (e : v = .slice (some ⟨c, 0, none⟩) m n) : c < h.n := by
  rcases H with ⟨rfl, _⟩ | ⟨c', m', rfl, h1, _, _⟩
  · cases e
  · cases e; exact Heap.get?_lt h1

theorem app_own {h : Heap} {esz bytes n : Nat} {v : Value} {cs ys : List Value} (H : Own h esz v cs) (he : 0 < esz) (hn : 0 < n) (hy : ys.length = n * esz) (hb : ∀ m, cs.length = m * esz → (m + n) * bytes ≤ 140737488355328) :
    ∃ m h', appendTo h esz bytes v n ys = some (.slice (some ⟨h.n, 0, none⟩) m m, h') ∧ Own h' esz (.slice (some ⟨h.n, 0, none⟩) m m) (cs ++ ys) ∧ h'.n = h.n + 1 ∧ AppRel h h' v := by
  rcases H with ⟨rfl, rfl⟩ | ⟨c, m, rfl, h1, h2, h3⟩
  · have := hb 0 (by simp)
    refine ⟨n, h.push (.loose esz ys), ?_, .inr ⟨h.n, n, rfl, by rw [Heap.get?_push_new]; rfl, by simpa using hy, hn⟩, rfl, by simp [Heap.push], fun d hd _ => Heap.get?_push_old hd⟩
    simp only [appendTo]
    rw [if_neg (by omega), if_neg (by omega)]
  · have := hb m h2
    have hlt := Heap.get?_lt h1
    refine ⟨m + n, (h.set c .dead).push (.loose esz (cs ++ ys)), ?_, .inr ⟨h.n, m + n, rfl, ?_, ?_, by omega⟩, rfl, by simp [Heap.push, Heap.set], ?_⟩
    · simp only [appendTo]
      rw [if_neg (by omega), if_neg (by omega)]
      rw [rdN_obj h1 rfl (by simp; omega)]
      simp only [h1]
      rw [if_pos (by simp; omega), if_pos trivial]
      simp only [List.drop_zero]
      rw [← h2, List.take_length]
    · have : (h.set c .dead).n = h.n := rfl
      rw [← this, Heap.get?_push_new]
    · rw [List.length_append, h2, hy, Nat.add_mul]
    · intro d hd hne
      have e1 : d < (h.set c .dead).n := hd
      rw [Heap.get?_push_old e1]
      exact Heap.get?_set_other hlt (fun e => hne m m (by rw [e]))

section
variable {M : Prg} {Q : Ex → Fr → Heap → Prop} {K : Fr → Heap → Prop} {T : List Tr → Fr → Heap → Prop} {f : Fr} {h : Heap}

/-- one element appended: the list of one, then the append -/
theorem o_push {t1 t2 esz bytes : Nat} {zero : List Value} {parts : List (Nat × Nat × Operand)} {x : Operand} {r : List MO} {vx : Value} {cs ys : List Value} (hl : lay f.ev parts zero = some ys) (hy : ys.length = esz) (he : 0 < esz) (hx : evO ((t1, .slice (some ⟨h.n, 0, none⟩) 1 1) :: f) x = some vx) (H : Own h esz vx cs)
    (hb : ∀ m, cs.length = m * esz → (m + 1) * bytes ≤ 140737488355328) (hk : ∀ m h', Own h' esz (.slice (some ⟨h.n + 1, 0, none⟩) m m) (cs ++ ys) → h'.n = h.n + 2 → AppRel h h' vx → wpO M r K ((t2, .slice (some ⟨h.n + 1, 0, none⟩) m m) :: (t1, .slice (some ⟨h.n, 0, none⟩) 1 1) :: f) h') :
    wpO M (⟨some t1, .buildSlice zero 1 parts, none⟩ :: ⟨some t2, .app esz bytes x (.tmp t1), none⟩ :: r) K f h := by
  have H1 : Own (h.push (.rw ys)) esz vx cs := H.le Le.push
  obtain ⟨m, h', e1, e2, e3, e4⟩ := app_own (bytes := bytes) (n := 1) (ys := ys) H1 he Nat.one_pos (by omega) hb
  refine o_op (v := .slice (some ⟨h.n, 0, none⟩) 1 1) (h' := h.push (.rw ys)) rfl (.prim (by simp only [cop, hl])) ?_
  refine o_op (v := .slice (some ⟨h.n + 1, 0, none⟩) m m) (h' := h') rfl (.prim ?_) ?_
  · show cop (Fr.ev ((t1, .slice (some ⟨h.n, 0, none⟩) 1 1) :: f)) (h.push (.rw ys)) (.app esz bytes x (.tmp t1)) = _
    have ht : Fr.ev ((t1, .slice (some ⟨h.n, 0, none⟩) 1 1) :: f) (.tmp t1) = .slice (some ⟨h.n, 0, none⟩) 1 1 := by simp [Fr.ev, Fr.get]
    simp only [cop, ht, evO_ok hx]
    rw [sliceCells_of (vs := ys) Nat.one_pos (Nat.le_refl _) (by rw [rdN_obj (c := h.n) (off := 0) (n := 1 * esz) (cs := ys) Heap.get?_push_new rfl (by omega)]; rw [List.drop_zero, Nat.one_mul, ← hy, List.take_length])]
    exact e1
  · refine hk m h' e2 (by rw [e3]; rfl) ⟨by rw [e3]; simp [Heap.push]; omega, fun d hd hne => ?_⟩
    rw [e4.2 d (by simp [Heap.push]; omega) hne, Heap.get?_push_old hd]
/-- an append of one element, of a list of one that has just been made -/
theorem o_app1 {t esz bytes : Nat} {x y : Operand} {r : List MO} {vx : Value} {cs ys : List Value} {c : Nat} (hx : evO f x = some vx) (hy : evO f y = some (.slice (some ⟨c, 0, none⟩) 1 1)) (hg : h.get? c = some (.rw ys)) (hl : ys.length = esz) (he : 0 < esz) (H : Own h esz vx cs)
    (hb : ∀ m, cs.length = m * esz → (m + 1) * bytes ≤ 140737488355328) (hk : ∀ m h', Own h' esz (.slice (some ⟨h.n, 0, none⟩) m m) (cs ++ ys) → h'.n = h.n + 1 → AppRel h h' vx → wpO M r K ((t, .slice (some ⟨h.n, 0, none⟩) m m) :: f) h') :
    wpO M (⟨some t, .app esz bytes x y, none⟩ :: r) K f h := by
  obtain ⟨m, h', e1, e2, e3, e4⟩ := app_own (bytes := bytes) (n := 1) (ys := ys) H he Nat.one_pos (by omega) hb
  refine o_op (v := .slice (some ⟨h.n, 0, none⟩) m m) (h' := h') rfl (.prim ?_) (hk m h' e2 e3 e4)
  simp only [cop, evO_ok hx, evO_ok hy]
  rw [sliceCells_of (vs := ys) Nat.one_pos (Nat.le_refl _) (by rw [rdN_obj (n := 1 * esz) (cs := ys) hg rfl (by omega)]; rw [List.drop_zero, Nat.one_mul, ← hl, List.take_length])]
  exact e1
theorem o_ixA {t e len : Nat} {x i : Operand} {g : Option (Nat × Bool)} {r : List MO} {a : Addr} {k : IntKind} {n : Int} (hw : wantedC f g = some true) (hx : evO f x = some (.pointer (some a))) (hi : evO f i = some (.int k n)) (hb : 0 ≤ n ∧ n < len)
    (H : wpO M r K ((t, .pointer (some (addOff a (n.toNat * e)))) :: f) h) : wpO M (⟨some t, .ixA e len x i, g⟩ :: r) K f h :=
  o_op hw (.prim (by simp only [cop, evO_ok hx, evO_ok hi]; rw [if_pos hb])) H
end

theorem Heap.set_set {h : Heap} {c : Nat} {o o' : CObj} : (h.set c o).set c o' = h.set c o' := by simp [Heap.set, List.set_set]
section
variable {M : Prg} {Q : Ex → Fr → Heap → Prop} {K : Fr → Heap → Prop} {T : List Tr → Fr → Heap → Prop} {f : Fr} {h : Heap}
theorem o_ixG {t e len : Nat} {x i : Operand} {g : Option (Nat × Bool)} {r : List MO} {cs : Array Value} {k : IntKind} {n : Int} {v : Value} (hw : wantedC f g = some true) (hx : evO f x = some (.agg cs)) (hi : evO f i = some (.int k n)) (hb : 0 ≤ n ∧ n < len) (hv : cs[n.toNat * e]? = some v)
    (H : wpO M r K ((t, v) :: f) h) : wpO M (⟨some t, .ixG e len false x i, g⟩ :: r) K f h :=
  o_op hw (.prim (by simp only [cop, evO_ok hx, evO_ok hi]; rw [if_pos hb]; simp [hv])) H
theorem o_storeL {n e : Nat} {x y : Operand} {g : Option (Nat × Bool)} {r : List MO} {c off : Nat} {cs vs : List Value} {v : Value} (hw : wantedC f g = some true) (hx : evO f x = some (.pointer (some ⟨c, off, none⟩))) (hy : evO f y = some v) (hv : cellsOf v = some vs) (hl : vs.length = n) (hg : h.get? c = some (.loose e cs)) (hn : off + vs.length ≤ cs.length)
    (H : wpO M r K f (h.set c (.loose e (splice cs off vs)))) : wpO M (⟨none, .store n x y, g⟩ :: r) K f h := by
  refine o_op (v := undef) hw (.prim ?_) H
  simp only [cop, evO_ok hx, evO_ok hy, hv]
  rw [if_pos hl, wr_loose hg hn]
/-- an append of several elements onto a list that appends have made -/
theorem o_appOwn {t esz bytes : Nat} {x y : Operand} {r : List MO} {vx : Value} {cs ys : List Value} {c n bcap : Nat} {o : CObj} {all : List Value} (hx : evO f x = some vx) (hy : evO f y = some (.slice (some ⟨c, 0, none⟩) n bcap)) (hg : h.get? c = some o) (ho : objCells o = some all) (hl : all.take (n * esz) = ys) (hn : 0 < n) (hlen : ys.length = n * esz) (he : 0 < esz) (H : Own h esz vx cs)
    (hb : ∀ m, cs.length = m * esz → (m + n) * bytes ≤ 140737488355328) (hk : ∀ m h', Own h' esz (.slice (some ⟨h.n, 0, none⟩) m m) (cs ++ ys) → h'.n = h.n + 1 → AppRel h h' vx → wpO M r K ((t, .slice (some ⟨h.n, 0, none⟩) m m) :: f) h') :
    wpO M (⟨some t, .app esz bytes x y, none⟩ :: r) K f h := by
  obtain ⟨m, h', e1, e2, e3, e4⟩ := app_own (bytes := bytes) (n := n) (ys := ys) H he hn hlen hb
  refine o_op (v := .slice (some ⟨h.n, 0, none⟩) m m) (h' := h') rfl (.prim ?_) (hk m h' e2 e3 e4)
  have hle : n * esz ≤ all.length := by rw [← hlen, ← hl, List.length_take]; exact Nat.min_le_right _ _
  simp only [cop, evO_ok hx, evO_ok hy]
  rw [sliceCells_of (vs := ys) hn (Nat.le_refl _) (by rw [rdN_obj hg ho (by omega), List.drop_zero, hl])]
  exact e1
/-- two texts, one behind the other -/
theorem o_addS {t : Nat} {x y : Operand} {g : Option (Nat × Bool)} {r : List MO} {a b : ByteArray} (hw : wantedC f g = some true) (hx : evO f x = some (.string a)) (hy : evO f y = some (.string b)) (hs : a.size + b.size ≤ 9223372036854775807)
    (H : wpO M r K ((t, .string (a ++ b)) :: f) h) : wpO M (⟨some t, .ar .add x y, g⟩ :: r) K f h :=
  o_op hw (.prim (by simp only [cop, evO_ok hx, evO_ok hy, arith]; rw [if_neg (by omega)])) H
theorem gG {d : Option Nat} {op : MOp} {g : Nat × Bool} {r : List MO} (H : wpO M (⟨d, op, some g⟩ :: r) K f h) : wpO M (⟨d, op, some g⟩ :: r) K f h := H
theorem gP {d : Option Nat} {a b c : Operand} {g : Option (Nat × Bool)} {r : List MO} (H : wpO M (⟨d, .pick a b c, g⟩ :: r) K f h) : wpO M (⟨d, .pick a b c, g⟩ :: r) K f h := H
theorem gC {d : Option Nat} {a : FuncId} {b : List Operand} {g : Option (Nat × Bool)} {r : List MO} (H : wpO M (⟨d, .call a b, g⟩ :: r) K f h) : wpO M (⟨d, .call a b, g⟩ :: r) K f h := H
theorem gA {d : Option Nat} {a : BinOp} {b c : Operand} {g : Option (Nat × Bool)} {r : List MO} (H : wpO M (⟨d, .ar a b c, g⟩ :: r) K f h) : wpO M (⟨d, .ar a b c, g⟩ :: r) K f h := H
theorem gV {d : Option Nat} {a : IntKind} {b : Operand} {g : Option (Nat × Bool)} {r : List MO} (H : wpO M (⟨d, .conv a b, g⟩ :: r) K f h) : wpO M (⟨d, .conv a b, g⟩ :: r) K f h := H
theorem gL {d : Option Nat} {b : Operand} {g : Option (Nat × Bool)} {r : List MO} (H : wpO M (⟨d, .load1 b, g⟩ :: r) K f h) : wpO M (⟨d, .load1 b, g⟩ :: r) K f h := H
theorem gN {d : Option Nat} {a : Nat} {b : Operand} {g : Option (Nat × Bool)} {r : List MO} (H : wpO M (⟨d, .loadN a b, g⟩ :: r) K f h) : wpO M (⟨d, .loadN a b, g⟩ :: r) K f h := H
theorem gS {d : Option Nat} {a : Nat} {b c : Operand} {g : Option (Nat × Bool)} {r : List MO} (H : wpO M (⟨d, .store a b c, g⟩ :: r) K f h) : wpO M (⟨d, .store a b c, g⟩ :: r) K f h := H
theorem gW {c : Operand} {a b : MCode} (H : wp M (.cond c a b) Q f h) : wp M (.cond c a b) Q f h := H
def isIxS : MOp → Bool
  | .ixS _ _ => true
  | _ => false
/-- any operation that is reckoned, but a text's letter -/
theorem o_anyX {t : Nat} {op : MOp} {g : Option (Nat × Bool)} {r : List MO} {v : Value} {h' : Heap} (hs : isIxS op = false) (hw : wantedC f g = some true) (hc : cop f.ev h op = some (v, h')) (H : wpO M r K ((t, v) :: f) h') : wpO M (⟨some t, op, g⟩ :: r) K f h := o_op hw (.prim hc) H
/-- an append that fits -/
theorem o_appFit {t esz bytes : Nat} {x y : Operand} {g : Option (Nat × Bool)} {r : List MO} {a : Addr} {len cap n : Nat} {b : Addr} {bcap : Nat} {vs : List Value} {h' : Heap} (hw : wantedC f g = some true) (hx : evO f x = some (.slice (some a) len cap)) (hy : evO f y = some (.slice (some b) n bcap)) (hn : 0 < n)
    (hr : h.rdN b (n * esz) = some vs) (hl : vs.length = n * esz) (hfit : len + n ≤ cap) (hmax : (len + n) * bytes ≤ 140737488355328) (hwr : h.wr ⟨a.block, a.off + len * esz, a.spot⟩ vs = some h') (H : wpO M r K ((t, .slice (some a) (len + n) cap) :: f) h') : wpO M (⟨some t, .app esz bytes x y, g⟩ :: r) K f h := by
  refine o_op hw (.prim ?_) H
  simp only [cop, evO_ok hx, evO_ok hy]
  rw [sliceCells_of hn (Nat.le_refl _) hr]
  simp only [appendTo]
  rw [if_neg (by omega), if_pos hfit, if_neg (by omega), hwr]
end
theorem splice_app (vs B : List Value) : ∀ (A : List Value) (o : Nat), o = A.length → splice (A ++ B) o vs = A ++ (vs ++ B.drop vs.length)
  | [], o, h => by subst h; exact splice_zero
  | a :: A, o, h => by subst h; simp only [List.cons_append, List.length_cons, splice]; rw [splice_app vs B A _ rfl]
theorem toBytes_map : ∀ (l : List Int), toBytes (l.map (Value.int .u8)) = some (l.map fun n => UInt8.ofNat n.toNat)
  | [] => rfl
  | n :: l => by simp [toBytes, toBytes_map l]
section
variable {M : Prg} {Q : Ex → Fr → Heap → Prop} {f : Fr} {h : Heap}
theorem w_assoc {a b c : MCode} (H : wp M (.seq (.seq a b) c) Q f h) : wp M (.seq a (.seq b c)) Q f h := by
  obtain ⟨e, f1, h1, he, hq⟩ := H
  refine ⟨e, f1, h1, ?_, hq⟩
  cases he with
  | seqN hab hc =>
    cases hab with
    | seqN ha hb => exact .seqN ha (.seqN hb hc)
    | seqX ha hne => exact absurd rfl hne
  | seqX hab hne =>
    cases hab with
    | seqN ha hb => exact .seqN ha (.seqX hb hne)
    | seqX ha hne' => exact .seqX ha hne'
/-- a piece of code that is reckoned -/
theorem w_eval {tab : List (Nat × MFun)} (hf : M.fn = lookF tab) (n m : Nat) {c : MCode} {e : Ex} {f' : Fr} {h' : Heap} (hr : evalCode (evalCall (lookF tab) n) m c f h = some (e, f', h')) (H : Q e f' h') : wp M c Q f h :=
  ⟨e, f', h', code_ev (fun g args h v h' hc => call_ev n (by rw [hf]; exact hc)) hr, H⟩
end
/-- numbers of one kind in cells -/
theorem getK {q : IntKind} {l : List Int} {i o : Nat} (ho : o = i) (hi : i < l.length) : (l.map (Value.int q))[o]? = some (.int q (l.getD i 0)) := by
  subst ho
  rw [List.getElem?_map, List.getElem?_eq_getElem hi]
  simp [hi]
theorem setK {q : IntKind} {l : List Int} {i o : Nat} {x : Int} (ho : o = i) (hi : i < l.length) : splice (l.map (Value.int q)) o [.int q x] = (l.set i x).map (Value.int q) := by
  subst ho
  rw [splice_set _ _ _ (by simpa using hi), List.map_set]

/-- a list that is read: elements of esz cells -/
def Sl (h : Heap) (esz : Nat) (v : Value) (n : Nat) (cs : List Value) : Prop :=
  (∃ a cap, v = .slice a 0 cap ∧ n = 0 ∧ cs = []) ∨ ∃ c off cap o all, v = .slice (some ⟨c, off, none⟩) n cap ∧ h.get? c = some o ∧ objCells o = some all ∧ off + n * esz ≤ all.length ∧ (all.drop off).take (n * esz) = cs ∧ 0 < n
theorem Sl.length {h : Heap} {esz n : Nat} {v : Value} {cs : List Value} (H : Sl h esz v n cs) : cs.length = n * esz := by
  rcases H with ⟨_, _, _, rfl, rfl⟩ | ⟨c, off, cap, o, all, rfl, h1, h2, h3, rfl, h4⟩
  · simp
  · rw [List.length_take, List.length_drop]; omega
theorem Sl.keep {h h' : Heap} {esz n : Nat} {v : Value} {cs : List Value} (H : Sl h esz v n cs) (k : ∀ c off m cap, v = .slice (some ⟨c, off, none⟩) m cap → h'.get? c = h.get? c) : Sl h' esz v n cs := by
  rcases H with H | ⟨c, off, cap, o, all, rfl, h1, h2, h3, h4, h5⟩
  · exact .inl H
  · exact .inr ⟨c, off, cap, o, all, rfl, by rw [k c off n cap rfl]; exact h1, h2, h3, h4, h5⟩
theorem Sl.le {h h' : Heap} {esz n : Nat} {v : Value} {cs : List Value} (H : Sl h esz v n cs) (l : Le h h') : Sl h' esz v n cs := by
  rcases H with H | ⟨c, off, cap, o, all, rfl, h1, h2, h3, h4, h5⟩
  · exact .inl H
  · exact .inr ⟨c, off, cap, o, all, rfl, l.get h1, h2, h3, h4, h5⟩
theorem Sl.only {h h' : Heap} {esz n s : Nat} {v : Value} {cs : List Value} (H : Sl h esz v n cs) (o : Only h h' s) (hne : ∀ c off m k, v = .slice (some ⟨c, off, none⟩) m k → 0 < n → c ≠ s) : Sl h' esz v n cs := by
  rcases H with H | ⟨c, off, cap, ob, all, rfl, h1, h2, h3, h4, h5⟩
  · exact .inl H
  · exact .inr ⟨c, off, cap, ob, all, rfl, o.get (hne c off n cap rfl h5) h1, h2, h3, h4, h5⟩
theorem Own.sl {h : Heap} {esz : Nat} {v : Value} {cs : List Value} (H : Own h esz v cs) : ∃ n, cs.length = n * esz ∧ Sl h esz v n cs := by
  rcases H with ⟨rfl, rfl⟩ | ⟨c, m, rfl, h1, h2, h3⟩
  · exact ⟨0, by simp, .inl ⟨_, _, rfl, rfl, rfl⟩⟩
  · exact ⟨m, h2, .inr ⟨c, 0, m, _, cs, rfl, h1, rfl, by omega, by rw [List.drop_zero, ← h2, List.take_length], h3⟩⟩
/-- the slice's value -/
theorem Sl.val {h : Heap} {esz n : Nat} {v : Value} {cs : List Value} (H : Sl h esz v n cs) : ∃ a cap, v = .slice a n cap := by
  rcases H with ⟨a, cap, rfl, rfl, rfl⟩ | ⟨c, off, cap, o, all, rfl, _⟩
  · exact ⟨a, cap, rfl⟩
  · exact ⟨_, cap, rfl⟩
/-- an element of one cell -/
theorem Sl.at1 {h : Heap} {n : Nat} {v : Value} {cs : List Value} (H : Sl h 1 v n cs) {i : Nat} {u : Value} (hu : cs[i]? = some u) : ∃ a cap, v = .slice (some a) n cap ∧ i < n ∧ h.rd1 (addOff a (i * 1)) = some u := by
  have hl := H.length
  rcases H with ⟨a, cap, rfl, rfl, rfl⟩ | ⟨c, off, cap, o, all, rfl, h1, h2, h3, rfl, h4⟩
  · simp at hu
  · have hi : i < n := by
      rcases Nat.lt_or_ge i (n * 1) with g | g
      · omega
      · rw [List.getElem?_eq_none (by omega)] at hu; cases hu
    refine ⟨_, cap, rfl, hi, rd1_obj h1 h2 ?_⟩
    rw [List.getElem?_take_of_lt (by omega), List.getElem?_drop] at hu
    simpa using hu
/-- an element of several cells -/
theorem Sl.atN {h : Heap} {esz n : Nat} {v : Value} {cs : List Value} (H : Sl h esz v n cs) {i k m : Nat} (hi : i < n) (hk : k + m ≤ esz) : ∃ a cap, v = .slice (some a) n cap ∧ h.rdN (addOff (addOff a (i * esz)) k) m = some ((cs.drop (i * esz + k)).take m) := by
  rcases H with ⟨a, cap, rfl, rfl, rfl⟩ | ⟨c, off, cap, o, all, rfl, h1, h2, h3, rfl, h4⟩
  · omega
  · have h5 : (i + 1) * esz ≤ n * esz := Nat.mul_le_mul_right _ hi
    rw [Nat.add_mul, Nat.one_mul] at h5
    refine ⟨_, cap, rfl, ?_⟩
    rw [show addOff (addOff (⟨c, off, none⟩ : Addr) (i * esz)) k = ⟨c, off + i * esz + k, none⟩ from rfl, rdN_obj h1 h2 (by omega)]
    congr 1
    rw [List.drop_take, List.drop_drop, List.take_take, Nat.min_eq_left (by omega), show off + (i * esz + k) = off + i * esz + k by omega]
end Go.Cm
