/- The program's functions, resolved for the canonical machine. Conditions: none. Made by program. -/
import Derived.Test.YtfbhmogjnjejmaaRows
import Derived.Test.YtfbhmogjnjejmaaCm27
namespace Go.Proofs.Ytfbhmogjnjejmaa
open Go.Cm
def c_law33_ServeChecks_1 : MCode := .seq (.region [⟨(some 3), .loadN 7 (.tmp 1), none⟩,
   ⟨(some 4), .call 7 [(.tmp 3)], none⟩,
   ⟨(some 5), .loadN 7 (.tmp 1), none⟩,
   ⟨(some 6), .call 8 [(.tmp 5)], none⟩,
   ⟨(some 7), .ar .eql (.tmp 4) (.tmp 6), none⟩,
   ⟨(some 8), .mv (.tmp 7), none⟩,
   ⟨(some 9), .call 9 [], (some (8, true))⟩,
   ⟨(some 10), .pick (.tmp 8) (.tmp 9) (.const (.bool false)), none⟩,
   ⟨(some 2), .mv (.tmp 10), none⟩] [(2, 1)]) .ret
def c_law33_ServeChecks_0 : MCode := .seq (.region [⟨(some 1), .box (.tmp 0), none⟩,
   ⟨(some 2), .mv (.const (.bool false)), none⟩] []) c_law33_ServeChecks_1
/-- trefoil/trefoillaw33.ServeChecks -/
def M_law33_ServeChecks : MFun := ⟨1, c_law33_ServeChecks_0, [.tmp 2]⟩
abbrev F_law33_ServeChecks : Nat := 3
set_option maxRecDepth 100000 in
theorem m_law33_ServeChecks : InProg Try.prog 0 3 M_law33_ServeChecks := ⟨Try.f3, [], Try.func3, by kernel_rfl⟩
def c_law33_ServeOnce_6 : MCode := .seq (.region [⟨(some 27), .loadN 7 (.tmp 10), none⟩,
   ⟨(some 28), .call 8 [(.tmp 27)], none⟩,
   ⟨(some 29), .ar .neq (.tmp 28) (.const (.int .i64 0)), none⟩,
   ⟨(some 30), .mv (.tmp 29), none⟩,
   ⟨(some 31), .call 9 [], (some (30, true))⟩,
   ⟨(some 32), .pick (.tmp 30) (.tmp 31) (.const (.bool false)), none⟩,
   ⟨(some 8), .mv (.tmp 32), none⟩] []) .ret
def c_law33_ServeOnce_5 : MCode := .cond (.tmp 26) c_law33_ServeOnce_6 .skip
def c_law33_ServeOnce_4 : MCode := .seq (.region [⟨(some 23), .mv (.tmp 9), none⟩,
   ⟨(some 24), .loadN 7 (.tmp 10), none⟩,
   ⟨(some 25), .call 11 [(.tmp 23), (.tmp 24)], none⟩,
   ⟨(some 26), .ar .neq (.tmp 25) (.const (.int .i64 0)), none⟩] []) c_law33_ServeOnce_5
def c_law33_ServeOnce_13 : MCode := (.region [⟨(some 2), .mv (.const (.int .i64 1)), none⟩] [])
def c_law33_ServeOnce_12 : MCode := .cond (.tmp 39) c_law33_ServeOnce_13 .skip
def c_law33_ServeOnce_11 : MCode := .seq (.region [⟨(some 38), .mv (.tmp 2), none⟩,
   ⟨(some 39), .ar .eql (.tmp 38) (.const (.int .i64 0)), none⟩] []) c_law33_ServeOnce_12
def c_law33_ServeOnce_16 : MCode := .seq (.region [⟨(some 8), .mv (.const (.bool false)), none⟩] []) .ret
def c_law33_ServeOnce_15 : MCode := .cond (.tmp 54) c_law33_ServeOnce_16 .skip
def c_law33_ServeOnce_14 : MCode := .seq (.region [⟨(some 40), .fld 1 (.tmp 5), none⟩,
   ⟨(some 41), .load1 (.tmp 40), none⟩,
   ⟨(some 42), .ar .geq (.tmp 41) (.const (.int .i64 0)), none⟩,
   ⟨(some 43), .mv (.tmp 42), none⟩,
   ⟨(some 44), .fld 0 (.tmp 5), (some (43, true))⟩,
   ⟨(some 45), .load1 (.tmp 44), (some (43, true))⟩,
   ⟨(some 46), .ar .geq (.tmp 45) (.const (.int .i64 0)), (some (43, true))⟩,
   ⟨(some 47), .pick (.tmp 43) (.tmp 46) (.const (.bool false)), none⟩,
   ⟨(some 48), .mv (.tmp 47), none⟩,
   ⟨(some 49), .mv (.tmp 9), (some (48, false))⟩,
   ⟨(some 50), .mv (.tmp 0), (some (48, false))⟩,
   ⟨(some 51), .mv (.tmp 2), (some (48, false))⟩,
   ⟨(some 52), .call 13 [(.tmp 49), (.tmp 50), (.tmp 51)], (some (48, false))⟩,
   ⟨(some 53), .ar .neq (.tmp 52) (.const (.int .i64 0)), (some (48, false))⟩,
   ⟨(some 54), .pick (.tmp 48) (.const (.bool true)) (.tmp 53), none⟩] []) c_law33_ServeOnce_15
def c_law33_ServeOnce_10 : MCode := .seq c_law33_ServeOnce_11 c_law33_ServeOnce_14
def c_law33_ServeOnce_9 : MCode := .cond (.tmp 37) c_law33_ServeOnce_10 .skip
def c_law33_ServeOnce_8 : MCode := .seq (.region [⟨(some 33), .mv (.tmp 9), none⟩,
   ⟨(some 34), .mv (.tmp 0), none⟩,
   ⟨(some 35), .loadN 3 (.tmp 5), none⟩,
   ⟨(some 36), .call 12 [(.tmp 33), (.tmp 34), (.tmp 35)], none⟩,
   ⟨(some 37), .ar .neq (.tmp 36) (.const (.int .i64 0)), none⟩] []) c_law33_ServeOnce_9
def c_law33_ServeOnce_24 : MCode := .cond (.tmp 68) .skip (.exit 0)
def c_law33_ServeOnce_23 : MCode := .seq (.region [⟨(some 61), .mv (.tmp 13), none⟩,
   ⟨(some 62), .mv (.tmp 3), none⟩,
   ⟨(some 63), .lenV (.tmp 62), none⟩,
   ⟨(some 64), .ar .lss (.tmp 61) (.tmp 63), none⟩,
   ⟨(some 65), .mv (.tmp 64), none⟩,
   ⟨(some 66), .mv (.tmp 13), (some (65, true))⟩,
   ⟨(some 67), .ar .lss (.tmp 66) (.const (.int .i64 40)), (some (65, true))⟩,
   ⟨(some 68), .pick (.tmp 65) (.tmp 67) (.const (.bool false)), none⟩] []) c_law33_ServeOnce_24
def c_law33_ServeOnce_33 : MCode := (.region [⟨(some 79), .mv (.tmp 9), none⟩,
   ⟨(some 80), .fld 1 (.tmp 14), none⟩,
   ⟨(some 81), .loadN 7 (.tmp 80), none⟩,
   ⟨(some 82), .call 11 [(.tmp 79), (.tmp 81)], none⟩] [])
def c_law33_ServeOnce_36 : MCode := (.region [⟨(some 85), .mv (.tmp 9), none⟩,
   ⟨(some 86), .fld 1 (.tmp 14), none⟩,
   ⟨(some 87), .loadN 7 (.tmp 86), none⟩,
   ⟨(some 88), .call 15 [(.tmp 85), (.tmp 87)], none⟩] [])
def c_law33_ServeOnce_41 : MCode := .seq (.region [⟨(some 8), .mv (.const (.bool false)), none⟩] []) .ret
def c_law33_ServeOnce_40 : MCode := .cond (.tmp 96) c_law33_ServeOnce_41 .skip
def c_law33_ServeOnce_39 : MCode := .seq (.region [⟨(some 91), .mv (.tmp 9), none⟩,
   ⟨(some 92), .mv (.tmp 0), none⟩,
   ⟨(some 93), .fld 8 (.tmp 14), none⟩,
   ⟨(some 94), .loadN 3 (.tmp 93), none⟩,
   ⟨(some 95), .call 12 [(.tmp 91), (.tmp 92), (.tmp 94)], none⟩,
   ⟨(some 96), .ar .neq (.tmp 95) (.const (.int .i64 8)), none⟩] []) c_law33_ServeOnce_40
def c_law33_ServeOnce_46 : MCode := .seq (.region [⟨(some 8), .mv (.const (.bool false)), none⟩] []) .ret
def c_law33_ServeOnce_45 : MCode := .cond (.tmp 104) c_law33_ServeOnce_46 .skip
def c_law33_ServeOnce_44 : MCode := .seq (.region [⟨(some 99), .mv (.tmp 9), none⟩,
   ⟨(some 100), .mv (.tmp 0), none⟩,
   ⟨(some 101), .fld 11 (.tmp 14), none⟩,
   ⟨(some 102), .load1 (.tmp 101), none⟩,
   ⟨(some 103), .call 13 [(.tmp 99), (.tmp 100), (.tmp 102)], none⟩,
   ⟨(some 104), .ar .neq (.tmp 103) (.const (.int .i64 8)), none⟩] []) c_law33_ServeOnce_45
def c_law33_ServeOnce_43 : MCode := .cond (.tmp 97) c_law33_ServeOnce_44 .skip
def c_law33_ServeOnce_42 : MCode := .seq (.region [⟨(some 98), .ar .eql (.tmp 76) (.const (.int .i64 3)), none⟩,
   ⟨(some 97), .mv (.tmp 98), none⟩] []) c_law33_ServeOnce_43
def c_law33_ServeOnce_38 : MCode := .cond (.tmp 89) c_law33_ServeOnce_39 c_law33_ServeOnce_42
def c_law33_ServeOnce_37 : MCode := .seq (.region [⟨(some 90), .ar .eql (.tmp 76) (.const (.int .i64 2)), none⟩,
   ⟨(some 89), .mv (.tmp 90), none⟩] []) c_law33_ServeOnce_38
def c_law33_ServeOnce_35 : MCode := .cond (.tmp 83) c_law33_ServeOnce_36 c_law33_ServeOnce_37
def c_law33_ServeOnce_34 : MCode := .seq (.region [⟨(some 84), .ar .eql (.tmp 76) (.const (.int .i64 1)), none⟩,
   ⟨(some 83), .mv (.tmp 84), none⟩] []) c_law33_ServeOnce_35
def c_law33_ServeOnce_32 : MCode := .cond (.tmp 77) c_law33_ServeOnce_33 c_law33_ServeOnce_34
def c_law33_ServeOnce_31 : MCode := .seq (.region [⟨(some 78), .ar .eql (.tmp 76) (.const (.int .i64 0)), none⟩,
   ⟨(some 77), .mv (.tmp 78), none⟩] []) c_law33_ServeOnce_32
def c_law33_ServeOnce_30 : MCode := .block 2 c_law33_ServeOnce_31
def c_law33_ServeOnce_29 : MCode := .seq (.region [⟨(some 75), .fld 0 (.tmp 14), none⟩,
   ⟨(some 76), .load1 (.tmp 75), none⟩] []) c_law33_ServeOnce_30
def c_law33_ServeOnce_50 : MCode := .seq (.region [⟨(some 8), .mv (.const (.bool false)), none⟩] []) .ret
def c_law33_ServeOnce_49 : MCode := .cond (.tmp 118) c_law33_ServeOnce_50 .skip
def c_law33_ServeOnce_48 : MCode := .seq (.region [⟨(some 111), .loadN 12 (.tmp 15), none⟩,
   ⟨(some 112), .loadN 12 (.tmp 11), none⟩,
   ⟨(some 113), .eq true (.plain (.st [(0, 7, true, (.st [(0, 1, false, .int), (1, 5, true, (.st [(0, 1, false, .int), (1, 1, false, .int), (2, 1, false, .int), (3, 1, false, .int), (4, 1, false, .int)])), (6, 1, false, .int)])), (7, 1, false, .int), (8, 1, false, .int), (9, 3, true, (.st [(0, 1, false, .int), (1, 1, false, .int), (2, 1, false, .int)]))])) (.tmp 111) (.tmp 112), none⟩,
   ⟨(some 114), .mv (.tmp 113), none⟩,
   ⟨(some 115), .mv (.tmp 16), (some (114, false))⟩,
   ⟨(some 116), .mv (.tmp 12), (some (114, false))⟩,
   ⟨(some 117), .eq true .bool (.tmp 115) (.tmp 116), (some (114, false))⟩,
   ⟨(some 118), .pick (.tmp 114) (.const (.bool true)) (.tmp 117), none⟩] []) c_law33_ServeOnce_49
def c_law33_ServeOnce_47 : MCode := .seq (.region [⟨(some 106), .mv (.tmp 9), none⟩,
   ⟨(some 107), .mv (.tmp 0), none⟩,
   ⟨(some 108), .call 14 [(.tmp 106), (.tmp 107)], none⟩,
   ⟨(some 105), .mv (.tmp 108), none⟩,
   ⟨(some 109), .ext (.tmp 105) 0, none⟩,
   ⟨(some 110), .ext (.tmp 105) 1, none⟩,
   ⟨(some 15), .new [(.int .i64 0), (.int .i64 0), (.int .i64 0), (.int .i64 0), (.int .i64 0), (.int .i64 0), (.int .i64 0), (.int .i64 0), (.int .i64 0), (.int .i64 0), (.int .i64 0), (.int .i64 0)], none⟩,
   ⟨none, .store 12 (.tmp 15) (.tmp 109), none⟩,
   ⟨(some 16), .mv (.tmp 110), none⟩] []) c_law33_ServeOnce_48
def c_law33_ServeOnce_28 : MCode := .seq c_law33_ServeOnce_29 c_law33_ServeOnce_47
def c_law33_ServeOnce_27 : MCode := .seq (.region [⟨(some 71), .mv (.tmp 3), none⟩,
   ⟨(some 72), .mv (.tmp 13), none⟩,
   ⟨(some 73), .ixV 12 (.tmp 71) (.tmp 72), none⟩,
   ⟨(some 74), .loadN 12 (.tmp 73), none⟩,
   ⟨(some 14), .new [(.int .i64 0), (.int .i64 0), (.int .i64 0), (.int .i64 0), (.int .i64 0), (.int .i64 0), (.int .i64 0), (.int .i64 0), (.int .i64 0), (.int .i64 0), (.int .i64 0), (.int .i64 0)], none⟩,
   ⟨none, .store 12 (.tmp 14) (.tmp 74), none⟩] []) c_law33_ServeOnce_28
def c_law33_ServeOnce_26 : MCode := .block 1 c_law33_ServeOnce_27
def c_law33_ServeOnce_51 : MCode := (.region [⟨(some 69), .mv (.tmp 13), none⟩,
   ⟨(some 70), .ar .add (.tmp 69) (.const (.int .i64 1)), none⟩,
   ⟨(some 13), .mv (.tmp 70), none⟩] [])
def c_law33_ServeOnce_25 : MCode := .seq c_law33_ServeOnce_26 c_law33_ServeOnce_51
def c_law33_ServeOnce_22 : MCode := .seq c_law33_ServeOnce_23 c_law33_ServeOnce_25
def c_law33_ServeOnce_21 : MCode := .loop [0, 2, 3, 5, 9, 10, 11, 12, 13] c_law33_ServeOnce_22
def c_law33_ServeOnce_20 : MCode := .block 0 c_law33_ServeOnce_21
def c_law33_ServeOnce_19 : MCode := .seq (.region [⟨(some 13), .mv (.const (.int .i64 0)), none⟩] []) c_law33_ServeOnce_20
def c_law33_ServeOnce_52 : MCode := .seq (.region [⟨(some 119), .mv (.tmp 12), none⟩,
   ⟨(some 120), .mv (.tmp 119), none⟩,
   ⟨(some 121), .fld 7 (.tmp 11), (some (120, true))⟩,
   ⟨(some 122), .load1 (.tmp 121), (some (120, true))⟩,
   ⟨(some 123), .ar .eql (.tmp 122) (.const (.int .i64 2)), (some (120, true))⟩,
   ⟨(some 124), .mv (.tmp 123), (some (120, true))⟩,
   ⟨(some 125), .fld 9 (.tmp 11), (some (124, true))⟩,
   ⟨(some 126), .loadN 3 (.tmp 125), (some (124, true))⟩,
   ⟨(some 127), .loadN 3 (.tmp 5), (some (124, true))⟩,
   ⟨(some 128), .eq false (.plain (.st [(0, 1, false, .int), (1, 1, false, .int), (2, 1, false, .int)])) (.tmp 126) (.tmp 127), (some (124, true))⟩,
   ⟨(some 129), .pick (.tmp 124) (.tmp 128) (.const (.bool false)), (some (120, true))⟩,
   ⟨(some 130), .mv (.tmp 129), (some (120, true))⟩,
   ⟨(some 131), .fld 7 (.tmp 11), (some (130, false))⟩,
   ⟨(some 132), .load1 (.tmp 131), (some (130, false))⟩,
   ⟨(some 133), .ar .eql (.tmp 132) (.const (.int .i64 3)), (some (130, false))⟩,
   ⟨(some 134), .mv (.tmp 133), (some (130, false))⟩,
   ⟨(some 135), .fld 8 (.tmp 11), (some (134, true))⟩,
   ⟨(some 136), .load1 (.tmp 135), (some (134, true))⟩,
   ⟨(some 137), .mv (.tmp 2), (some (134, true))⟩,
   ⟨(some 138), .ar .eql (.tmp 136) (.tmp 137), (some (134, true))⟩,
   ⟨(some 139), .pick (.tmp 134) (.tmp 138) (.const (.bool false)), (some (130, false))⟩,
   ⟨(some 140), .pick (.tmp 130) (.const (.bool true)) (.tmp 139), (some (120, true))⟩,
   ⟨(some 141), .pick (.tmp 120) (.tmp 140) (.const (.bool false)), none⟩,
   ⟨(some 142), .mv (.tmp 141), none⟩,
   ⟨(some 143), .mv (.tmp 9), (some (142, true))⟩,
   ⟨(some 144), .loadN 7 (.tmp 10), (some (142, true))⟩,
   ⟨(some 145), .call 11 [(.tmp 143), (.tmp 144)], (some (142, true))⟩,
   ⟨(some 146), .ar .eql (.tmp 145) (.const (.int .i64 41)), (some (142, true))⟩,
   ⟨(some 147), .pick (.tmp 142) (.tmp 146) (.const (.bool false)), none⟩,
   ⟨(some 148), .mv (.tmp 147), none⟩,
   ⟨(some 149), .call 9 [], (some (148, true))⟩,
   ⟨(some 150), .pick (.tmp 148) (.tmp 149) (.const (.bool false)), none⟩,
   ⟨(some 8), .mv (.tmp 150), none⟩] []) .ret
def c_law33_ServeOnce_18 : MCode := .seq c_law33_ServeOnce_19 c_law33_ServeOnce_52
def c_law33_ServeOnce_17 : MCode := .seq (.region [⟨(some 56), .mv (.tmp 9), none⟩,
   ⟨(some 57), .mv (.tmp 0), none⟩,
   ⟨(some 58), .call 14 [(.tmp 56), (.tmp 57)], none⟩,
   ⟨(some 55), .mv (.tmp 58), none⟩,
   ⟨(some 59), .ext (.tmp 55) 0, none⟩,
   ⟨(some 60), .ext (.tmp 55) 1, none⟩,
   ⟨(some 11), .new [(.int .i64 0), (.int .i64 0), (.int .i64 0), (.int .i64 0), (.int .i64 0), (.int .i64 0), (.int .i64 0), (.int .i64 0), (.int .i64 0), (.int .i64 0), (.int .i64 0), (.int .i64 0)], none⟩,
   ⟨none, .store 12 (.tmp 11) (.tmp 59), none⟩,
   ⟨(some 12), .mv (.tmp 60), none⟩] []) c_law33_ServeOnce_18
def c_law33_ServeOnce_7 : MCode := .seq c_law33_ServeOnce_8 c_law33_ServeOnce_17
def c_law33_ServeOnce_3 : MCode := .seq c_law33_ServeOnce_4 c_law33_ServeOnce_7
def c_law33_ServeOnce_2 : MCode := .seq (.region [⟨(some 18), .mv (.tmp 0), none⟩,
   ⟨(some 19), .build [(.int .i64 0), (.int .i64 0), (.int .i64 0), (.int .i64 0), (.int .i64 0)] [(0, 1, (.const (.int .i64 3))), (1, 1, (.const (.int .i64 1)))], none⟩,
   ⟨(some 20), .fld 2 (.tmp 5), none⟩,
   ⟨(some 21), .load1 (.tmp 20), none⟩,
   ⟨(some 22), .build [(.int .i64 0), (.int .i64 0), (.int .i64 0), (.int .i64 0), (.int .i64 0), (.int .i64 0), (.int .i64 0)] [(0, 1, (.tmp 18)), (1, 5, (.tmp 19)), (6, 1, (.tmp 21))], none⟩,
   ⟨(some 10), .new [(.int .i64 0), (.int .i64 0), (.int .i64 0), (.int .i64 0), (.int .i64 0), (.int .i64 0), (.int .i64 0)], none⟩,
   ⟨none, .store 7 (.tmp 10) (.tmp 22), none⟩] []) c_law33_ServeOnce_3
def c_law33_ServeOnce_1 : MCode := .seq (.region [⟨(some 17), .call 10 [], none⟩,
   ⟨(some 9), .mv (.tmp 17), none⟩] []) c_law33_ServeOnce_2
def c_law33_ServeOnce_0 : MCode := .seq (.region [⟨(some 5), .box (.tmp 1), none⟩,
   ⟨(some 8), .mv (.const (.bool false)), none⟩] []) c_law33_ServeOnce_1
/-- trefoil/trefoillaw33.ServeOnce -/
def M_law33_ServeOnce : MFun := ⟨4, c_law33_ServeOnce_0, [.tmp 8]⟩
abbrev F_law33_ServeOnce : Nat := 4
set_option maxRecDepth 100000 in
theorem m_law33_ServeOnce : InProg Try.prog 0 4 M_law33_ServeOnce := ⟨Try.f4, [[0, 2, 3, 5, 9, 10, 11, 12, 13]], Try.func4, by kernel_rfl⟩
def c_law33_ServePlays_9 : MCode := .cond (.tmp 20) .skip (.exit 0)
def c_law33_ServePlays_8 : MCode := .seq (.region [⟨(some 13), .mv (.tmp 5), none⟩,
   ⟨(some 14), .mv (.tmp 0), none⟩,
   ⟨(some 15), .lenV (.tmp 14), none⟩,
   ⟨(some 16), .ar .lss (.tmp 13) (.tmp 15), none⟩,
   ⟨(some 17), .mv (.tmp 16), none⟩,
   ⟨(some 18), .mv (.tmp 5), (some (17, true))⟩,
   ⟨(some 19), .ar .lss (.tmp 18) (.const (.int .i64 100)), (some (17, true))⟩,
   ⟨(some 20), .pick (.tmp 17) (.tmp 19) (.const (.bool false)), none⟩] []) c_law33_ServePlays_9
def c_law33_ServePlays_15 : MCode := .seq (.region [⟨(some 2), .mv (.const (.bool false)), none⟩] []) .ret
def c_law33_ServePlays_14 : MCode := .cond (.tmp 29) c_law33_ServePlays_15 .skip
def c_law33_ServePlays_13 : MCode := .seq (.region [⟨(some 23), .mv (.tmp 3), none⟩,
   ⟨(some 24), .mv (.tmp 0), none⟩,
   ⟨(some 25), .mv (.tmp 5), none⟩,
   ⟨(some 26), .ixV 12 (.tmp 24) (.tmp 25), none⟩,
   ⟨(some 27), .loadN 12 (.tmp 26), none⟩,
   ⟨(some 28), .call 16 [(.tmp 23), (.tmp 4), (.tmp 27)], none⟩,
   ⟨(some 29), .un .not (.tmp 28), none⟩] []) c_law33_ServePlays_14
def c_law33_ServePlays_20 : MCode := .seq (.region [⟨(some 2), .mv (.const (.bool false)), none⟩] []) .ret
def c_law33_ServePlays_19 : MCode := .cond (.tmp 62) c_law33_ServePlays_20 .skip
def c_law33_ServePlays_18 : MCode := .seq (.region [⟨(some 35), .mv (.tmp 3), none⟩,
   ⟨(some 36), .call 19 [(.tmp 35)], none⟩,
   ⟨(some 37), .mv (.tmp 6), none⟩,
   ⟨(some 38), .call 18 [(.tmp 36), (.tmp 37)], none⟩,
   ⟨(some 39), .un .not (.tmp 38), none⟩,
   ⟨(some 40), .mv (.tmp 39), none⟩,
   ⟨(some 41), .mv (.tmp 3), (some (40, false))⟩,
   ⟨(some 42), .call 21 [(.tmp 41)], (some (40, false))⟩,
   ⟨(some 43), .mv (.tmp 7), (some (40, false))⟩,
   ⟨(some 44), .call 20 [(.tmp 42), (.tmp 43)], (some (40, false))⟩,
   ⟨(some 45), .un .not (.tmp 44), (some (40, false))⟩,
   ⟨(some 46), .pick (.tmp 40) (.const (.bool true)) (.tmp 45), none⟩,
   ⟨(some 47), .mv (.tmp 46), none⟩,
   ⟨(some 48), .mv (.tmp 3), (some (47, false))⟩,
   ⟨(some 49), .call 22 [(.tmp 48)], (some (47, false))⟩,
   ⟨(some 50), .loadN 1 (.tmp 4), (some (47, false))⟩,
   ⟨(some 51), .call 23 [(.tmp 50)], (some (47, false))⟩,
   ⟨(some 52), .call 18 [(.tmp 49), (.tmp 51)], (some (47, false))⟩,
   ⟨(some 53), .un .not (.tmp 52), (some (47, false))⟩,
   ⟨(some 54), .pick (.tmp 47) (.const (.bool true)) (.tmp 53), none⟩,
   ⟨(some 55), .mv (.tmp 54), none⟩,
   ⟨(some 56), .mv (.tmp 3), (some (55, false))⟩,
   ⟨(some 57), .call 24 [(.tmp 56)], (some (55, false))⟩,
   ⟨(some 58), .fld 0 (.tmp 4), (some (55, false))⟩,
   ⟨(some 59), .load1 (.tmp 58), (some (55, false))⟩,
   ⟨(some 60), .lenV (.tmp 59), (some (55, false))⟩,
   ⟨(some 61), .ar .neq (.tmp 57) (.tmp 60), (some (55, false))⟩,
   ⟨(some 62), .pick (.tmp 55) (.const (.bool true)) (.tmp 61), none⟩] [(15, 14), (24, 22)]) c_law33_ServePlays_19
def c_law33_ServePlays_29 : MCode := .seq (.region [⟨(some 2), .mv (.const (.bool false)), none⟩] []) .ret
def c_law33_ServePlays_28 : MCode := .cond (.tmp 98) c_law33_ServePlays_29 .skip
def c_law33_ServePlays_27 : MCode := .seq (.region [⟨(some 93), .mv (.tmp 9), none⟩,
   ⟨(some 94), .mv (.tmp 93), none⟩,
   ⟨(some 95), .loadN 12 (.tmp 8), (some (94, false))⟩,
   ⟨(some 96), .build [(.int .i64 0), (.int .i64 0), (.int .i64 0), (.int .i64 0), (.int .i64 0), (.int .i64 0), (.int .i64 0), (.int .i64 0), (.int .i64 0), (.int .i64 0), (.int .i64 0), (.int .i64 0)] [], (some (94, false))⟩,
   ⟨(some 97), .eq true (.plain (.st [(0, 7, true, (.st [(0, 1, false, .int), (1, 5, true, (.st [(0, 1, false, .int), (1, 1, false, .int), (2, 1, false, .int), (3, 1, false, .int), (4, 1, false, .int)])), (6, 1, false, .int)])), (7, 1, false, .int), (8, 1, false, .int), (9, 3, true, (.st [(0, 1, false, .int), (1, 1, false, .int), (2, 1, false, .int)]))])) (.tmp 95) (.tmp 96), (some (94, false))⟩,
   ⟨(some 98), .pick (.tmp 94) (.const (.bool true)) (.tmp 97), none⟩] []) c_law33_ServePlays_28
def c_law33_ServePlays_26 : MCode := .seq c_law33_ServePlays_27 (.exit 1)
def c_law33_ServePlays_25 : MCode := .cond (.tmp 92) c_law33_ServePlays_26 .skip
def c_law33_ServePlays_24 : MCode := .seq (.region [⟨(some 82), .mv (.tmp 10), none⟩,
   ⟨(some 83), .ar .lss (.tmp 82) (.const (.int .i64 0)), none⟩,
   ⟨(some 84), .mv (.tmp 83), none⟩,
   ⟨(some 85), .fld 0 (.tmp 4), (some (84, false))⟩,
   ⟨(some 86), .load1 (.tmp 85), (some (84, false))⟩,
   ⟨(some 87), .mv (.tmp 10), (some (84, false))⟩,
   ⟨(some 88), .ixV 22 (.tmp 86) (.tmp 87), (some (84, false))⟩,
   ⟨(some 89), .fld 15 (.tmp 88), (some (84, false))⟩,
   ⟨(some 90), .load1 (.tmp 89), (some (84, false))⟩,
   ⟨(some 91), .un .not (.tmp 90), (some (84, false))⟩,
   ⟨(some 92), .pick (.tmp 84) (.const (.bool true)) (.tmp 91), none⟩] []) c_law33_ServePlays_25
def c_law33_ServePlays_33 : MCode := .seq (.region [⟨(some 2), .mv (.const (.bool false)), none⟩] []) .ret
def c_law33_ServePlays_32 : MCode := .cond (.tmp 133) c_law33_ServePlays_33 .skip
def c_law33_ServePlays_31 : MCode := .seq (.region [⟨(some 104), .mv (.tmp 9), none⟩,
   ⟨(some 105), .un .not (.tmp 104), none⟩,
   ⟨(some 106), .mv (.tmp 105), none⟩,
   ⟨(some 107), .fld 0 (.tmp 8), (some (106, false))⟩,
   ⟨(some 108), .loadN 7 (.tmp 107), (some (106, false))⟩,
   ⟨(some 109), .fld 1 (.tmp 11), (some (106, false))⟩,
   ⟨(some 110), .loadN 7 (.tmp 109), (some (106, false))⟩,
   ⟨(some 111), .eq true (.plain (.st [(0, 1, false, .int), (1, 5, true, (.st [(0, 1, false, .int), (1, 1, false, .int), (2, 1, false, .int), (3, 1, false, .int), (4, 1, false, .int)])), (6, 1, false, .int)])) (.tmp 108) (.tmp 110), (some (106, false))⟩,
   ⟨(some 112), .pick (.tmp 106) (.const (.bool true)) (.tmp 111), none⟩,
   ⟨(some 113), .mv (.tmp 112), none⟩,
   ⟨(some 114), .fld 7 (.tmp 8), (some (113, false))⟩,
   ⟨(some 115), .load1 (.tmp 114), (some (113, false))⟩,
   ⟨(some 116), .fld 17 (.tmp 11), (some (113, false))⟩,
   ⟨(some 117), .load1 (.tmp 116), (some (113, false))⟩,
   ⟨(some 118), .ar .neq (.tmp 115) (.tmp 117), (some (113, false))⟩,
   ⟨(some 119), .pick (.tmp 113) (.const (.bool true)) (.tmp 118), none⟩,
   ⟨(some 120), .mv (.tmp 119), none⟩,
   ⟨(some 121), .fld 8 (.tmp 8), (some (120, false))⟩,
   ⟨(some 122), .load1 (.tmp 121), (some (120, false))⟩,
   ⟨(some 123), .fld 18 (.tmp 11), (some (120, false))⟩,
   ⟨(some 124), .load1 (.tmp 123), (some (120, false))⟩,
   ⟨(some 125), .ar .neq (.tmp 122) (.tmp 124), (some (120, false))⟩,
   ⟨(some 126), .pick (.tmp 120) (.const (.bool true)) (.tmp 125), none⟩,
   ⟨(some 127), .mv (.tmp 126), none⟩,
   ⟨(some 128), .fld 9 (.tmp 8), (some (127, false))⟩,
   ⟨(some 129), .loadN 3 (.tmp 128), (some (127, false))⟩,
   ⟨(some 130), .fld 19 (.tmp 11), (some (127, false))⟩,
   ⟨(some 131), .loadN 3 (.tmp 130), (some (127, false))⟩,
   ⟨(some 132), .eq true (.plain (.st [(0, 1, false, .int), (1, 1, false, .int), (2, 1, false, .int)])) (.tmp 129) (.tmp 131), (some (127, false))⟩,
   ⟨(some 133), .pick (.tmp 127) (.const (.bool true)) (.tmp 132), none⟩] []) c_law33_ServePlays_32
def c_law33_ServePlays_30 : MCode := .seq (.region [⟨(some 99), .fld 0 (.tmp 4), none⟩,
   ⟨(some 100), .load1 (.tmp 99), none⟩,
   ⟨(some 101), .mv (.tmp 10), none⟩,
   ⟨(some 102), .ixV 22 (.tmp 100) (.tmp 101), none⟩,
   ⟨(some 103), .loadN 22 (.tmp 102), none⟩,
   ⟨(some 11), .new [(.int .i64 0), (.int .i64 0), (.int .i64 0), (.int .i64 0), (.int .i64 0), (.int .i64 0), (.int .i64 0), (.int .i64 0), (.int .i64 0), (.int .i64 0), (.int .i64 0), (.int .i64 0), (.int .i64 0), (.int .i64 0), (.int .i64 0), (.bool false), (.bool false), (.int .i64 0), (.int .i64 0), (.int .i64 0), (.int .i64 0), (.int .i64 0)], none⟩,
   ⟨none, .store 22 (.tmp 11) (.tmp 103), none⟩] []) c_law33_ServePlays_31
def c_law33_ServePlays_23 : MCode := .seq c_law33_ServePlays_24 c_law33_ServePlays_30
def c_law33_ServePlays_22 : MCode := .seq (.region [⟨(some 74), .loadN 1 (.tmp 4), none⟩,
   ⟨(some 75), .mv (.tmp 0), none⟩,
   ⟨(some 76), .mv (.tmp 5), none⟩,
   ⟨(some 77), .ixV 12 (.tmp 75) (.tmp 76), none⟩,
   ⟨(some 78), .fld 1 (.tmp 77), none⟩,
   ⟨(some 79), .fld 0 (.tmp 78), none⟩,
   ⟨(some 80), .load1 (.tmp 79), none⟩,
   ⟨(some 81), .call 25 [(.tmp 74), (.tmp 80)], none⟩,
   ⟨(some 10), .mv (.tmp 81), none⟩] []) c_law33_ServePlays_23
def c_law33_ServePlays_21 : MCode := .seq (.region [⟨(some 64), .mv (.tmp 3), none⟩,
   ⟨(some 65), .mv (.tmp 0), none⟩,
   ⟨(some 66), .mv (.tmp 5), none⟩,
   ⟨(some 67), .ixV 12 (.tmp 65) (.tmp 66), none⟩,
   ⟨(some 68), .fld 1 (.tmp 67), none⟩,
   ⟨(some 69), .fld 0 (.tmp 68), none⟩,
   ⟨(some 70), .load1 (.tmp 69), none⟩,
   ⟨(some 71), .call 14 [(.tmp 64), (.tmp 70)], none⟩,
   ⟨(some 63), .mv (.tmp 71), none⟩,
   ⟨(some 72), .ext (.tmp 63) 0, none⟩,
   ⟨(some 73), .ext (.tmp 63) 1, none⟩,
   ⟨(some 8), .new [(.int .i64 0), (.int .i64 0), (.int .i64 0), (.int .i64 0), (.int .i64 0), (.int .i64 0), (.int .i64 0), (.int .i64 0), (.int .i64 0), (.int .i64 0), (.int .i64 0), (.int .i64 0)], none⟩,
   ⟨none, .store 12 (.tmp 8) (.tmp 72), none⟩,
   ⟨(some 9), .mv (.tmp 73), none⟩] []) c_law33_ServePlays_22
def c_law33_ServePlays_17 : MCode := .seq c_law33_ServePlays_18 c_law33_ServePlays_21
def c_law33_ServePlays_16 : MCode := .seq (.region [⟨(some 31), .loadN 1 (.tmp 4), none⟩,
   ⟨(some 32), .call 17 [(.tmp 31)], none⟩,
   ⟨(some 30), .mv (.tmp 32), none⟩,
   ⟨(some 33), .ext (.tmp 30) 0, none⟩,
   ⟨(some 34), .ext (.tmp 30) 1, none⟩,
   ⟨(some 6), .mv (.tmp 33), none⟩,
   ⟨(some 7), .mv (.tmp 34), none⟩] []) c_law33_ServePlays_17
def c_law33_ServePlays_12 : MCode := .seq c_law33_ServePlays_13 c_law33_ServePlays_16
def c_law33_ServePlays_11 : MCode := .block 1 c_law33_ServePlays_12
def c_law33_ServePlays_34 : MCode := (.region [⟨(some 21), .mv (.tmp 5), none⟩,
   ⟨(some 22), .ar .add (.tmp 21) (.const (.int .i64 1)), none⟩,
   ⟨(some 5), .mv (.tmp 22), none⟩] [])
def c_law33_ServePlays_10 : MCode := .seq c_law33_ServePlays_11 c_law33_ServePlays_34
def c_law33_ServePlays_7 : MCode := .seq c_law33_ServePlays_8 c_law33_ServePlays_10
def c_law33_ServePlays_6 : MCode := .loop [0, 3, 4, 5] c_law33_ServePlays_7
def c_law33_ServePlays_5 : MCode := .block 0 c_law33_ServePlays_6
def c_law33_ServePlays_4 : MCode := .seq (.region [⟨(some 5), .mv (.const (.int .i64 0)), none⟩] []) c_law33_ServePlays_5
def c_law33_ServePlays_35 : MCode := .seq (.region [⟨(some 134), .call 9 [], none⟩,
   ⟨(some 2), .mv (.tmp 134), none⟩] []) .ret
def c_law33_ServePlays_3 : MCode := .seq c_law33_ServePlays_4 c_law33_ServePlays_35
def c_law33_ServePlays_2 : MCode := .seq (.region [⟨(some 4), .new [(.slice none 0 0)], none⟩] []) c_law33_ServePlays_3
def c_law33_ServePlays_1 : MCode := .seq (.region [⟨(some 12), .call 10 [], none⟩,
   ⟨(some 3), .mv (.tmp 12), none⟩] []) c_law33_ServePlays_2
def c_law33_ServePlays_0 : MCode := .seq (.region [⟨(some 2), .mv (.const (.bool false)), none⟩] []) c_law33_ServePlays_1
/-- trefoil/trefoillaw33.ServePlays -/
def M_law33_ServePlays : MFun := ⟨1, c_law33_ServePlays_0, [.tmp 2]⟩
abbrev F_law33_ServePlays : Nat := 5
set_option maxRecDepth 100000 in
theorem m_law33_ServePlays : InProg Try.prog 0 5 M_law33_ServePlays := ⟨Try.f5, [[0, 3, 4, 5]], Try.func5, by kernel_rfl⟩
def c_law33_ServeNobody_7 : MCode := .cond (.tmp 12) .skip (.exit 0)
def c_law33_ServeNobody_14 : MCode := .seq (.region [⟨(some 2), .mv (.const (.bool false)), none⟩] []) .ret
def c_law33_ServeNobody_13 : MCode := .cond (.tmp 91) c_law33_ServeNobody_14 .skip
def c_law33_ServeNobody_12 : MCode := .seq (.region [⟨(some 23), .mv (.tmp 4), none⟩,
   ⟨(some 24), .fld 1 (.tmp 1), none⟩,
   ⟨(some 25), .loadN 7 (.tmp 24), none⟩,
   ⟨(some 26), .call 11 [(.tmp 23), (.tmp 25)], none⟩,
   ⟨(some 27), .ar .neq (.tmp 26) (.const (.int .i64 3)), none⟩,
   ⟨(some 28), .mv (.tmp 27), none⟩,
   ⟨(some 29), .mv (.tmp 4), (some (28, false))⟩,
   ⟨(some 30), .fld 1 (.tmp 1), (some (28, false))⟩,
   ⟨(some 31), .loadN 7 (.tmp 30), (some (28, false))⟩,
   ⟨(some 32), .call 15 [(.tmp 29), (.tmp 31)], (some (28, false))⟩,
   ⟨(some 33), .ar .neq (.tmp 32) (.const (.int .i64 3)), (some (28, false))⟩,
   ⟨(some 34), .pick (.tmp 28) (.const (.bool true)) (.tmp 33), none⟩,
   ⟨(some 35), .mv (.tmp 34), none⟩,
   ⟨(some 36), .mv (.tmp 4), (some (35, false))⟩,
   ⟨(some 37), .fld 1 (.tmp 1), (some (35, false))⟩,
   ⟨(some 38), .fld 0 (.tmp 37), (some (35, false))⟩,
   ⟨(some 39), .load1 (.tmp 38), (some (35, false))⟩,
   ⟨(some 40), .fld 8 (.tmp 1), (some (35, false))⟩,
   ⟨(some 41), .loadN 3 (.tmp 40), (some (35, false))⟩,
   ⟨(some 42), .call 12 [(.tmp 36), (.tmp 39), (.tmp 41)], (some (35, false))⟩,
   ⟨(some 43), .ar .neq (.tmp 42) (.const (.int .i64 3)), (some (35, false))⟩,
   ⟨(some 44), .pick (.tmp 35) (.const (.bool true)) (.tmp 43), none⟩,
   ⟨(some 45), .mv (.tmp 44), none⟩,
   ⟨(some 46), .mv (.tmp 4), (some (45, false))⟩,
   ⟨(some 47), .fld 1 (.tmp 1), (some (45, false))⟩,
   ⟨(some 48), .fld 0 (.tmp 47), (some (45, false))⟩,
   ⟨(some 49), .load1 (.tmp 48), (some (45, false))⟩,
   ⟨(some 50), .fld 11 (.tmp 1), (some (45, false))⟩,
   ⟨(some 51), .load1 (.tmp 50), (some (45, false))⟩,
   ⟨(some 52), .call 13 [(.tmp 46), (.tmp 49), (.tmp 51)], (some (45, false))⟩,
   ⟨(some 53), .ar .neq (.tmp 52) (.const (.int .i64 3)), (some (45, false))⟩,
   ⟨(some 54), .pick (.tmp 45) (.const (.bool true)) (.tmp 53), none⟩,
   ⟨(some 55), .mv (.tmp 54), none⟩,
   ⟨(some 56), .loadN 12 (.tmp 5), (some (55, false))⟩,
   ⟨(some 57), .build [(.int .i64 0), (.int .i64 0), (.int .i64 0), (.int .i64 0), (.int .i64 0), (.int .i64 0), (.int .i64 0), (.int .i64 0), (.int .i64 0), (.int .i64 0), (.int .i64 0), (.int .i64 0)] [], (some (55, false))⟩,
   ⟨(some 58), .eq true (.plain (.st [(0, 7, true, (.st [(0, 1, false, .int), (1, 5, true, (.st [(0, 1, false, .int), (1, 1, false, .int), (2, 1, false, .int), (3, 1, false, .int), (4, 1, false, .int)])), (6, 1, false, .int)])), (7, 1, false, .int), (8, 1, false, .int), (9, 3, true, (.st [(0, 1, false, .int), (1, 1, false, .int), (2, 1, false, .int)]))])) (.tmp 56) (.tmp 57), (some (55, false))⟩,
   ⟨(some 59), .pick (.tmp 55) (.const (.bool true)) (.tmp 58), none⟩,
   ⟨(some 60), .mv (.tmp 59), none⟩,
   ⟨(some 61), .mv (.tmp 6), (some (60, false))⟩,
   ⟨(some 62), .pick (.tmp 60) (.const (.bool true)) (.tmp 61), none⟩,
   ⟨(some 63), .mv (.tmp 62), none⟩,
   ⟨(some 64), .mv (.tmp 4), (some (63, false))⟩,
   ⟨(some 65), .call 19 [(.tmp 64)], (some (63, false))⟩,
   ⟨(some 66), .lenV (.tmp 65), (some (63, false))⟩,
   ⟨(some 67), .ar .neq (.tmp 66) (.const (.int .i64 0)), (some (63, false))⟩,
   ⟨(some 68), .pick (.tmp 63) (.const (.bool true)) (.tmp 67), none⟩,
   ⟨(some 69), .mv (.tmp 68), none⟩,
   ⟨(some 70), .mv (.tmp 4), (some (69, false))⟩,
   ⟨(some 71), .call 21 [(.tmp 70)], (some (69, false))⟩,
   ⟨(some 72), .lenV (.tmp 71), (some (69, false))⟩,
   ⟨(some 73), .ar .neq (.tmp 72) (.const (.int .i64 0)), (some (69, false))⟩,
   ⟨(some 74), .pick (.tmp 69) (.const (.bool true)) (.tmp 73), none⟩,
   ⟨(some 75), .mv (.tmp 74), none⟩,
   ⟨(some 76), .mv (.tmp 4), (some (75, false))⟩,
   ⟨(some 77), .call 22 [(.tmp 76)], (some (75, false))⟩,
   ⟨(some 78), .lenV (.tmp 77), (some (75, false))⟩,
   ⟨(some 79), .ar .neq (.tmp 78) (.const (.int .i64 0)), (some (75, false))⟩,
   ⟨(some 80), .pick (.tmp 75) (.const (.bool true)) (.tmp 79), none⟩,
   ⟨(some 81), .mv (.tmp 80), none⟩,
   ⟨(some 82), .mv (.tmp 4), (some (81, false))⟩,
   ⟨(some 83), .call 26 [(.tmp 82)], (some (81, false))⟩,
   ⟨(some 84), .lenV (.tmp 83), (some (81, false))⟩,
   ⟨(some 85), .ar .neq (.tmp 84) (.const (.int .i64 0)), (some (81, false))⟩,
   ⟨(some 86), .pick (.tmp 81) (.const (.bool true)) (.tmp 85), none⟩,
   ⟨(some 87), .mv (.tmp 86), none⟩,
   ⟨(some 88), .mv (.tmp 4), (some (87, false))⟩,
   ⟨(some 89), .call 24 [(.tmp 88)], (some (87, false))⟩,
   ⟨(some 90), .ar .neq (.tmp 89) (.const (.int .i64 0)), (some (87, false))⟩,
   ⟨(some 91), .pick (.tmp 87) (.const (.bool true)) (.tmp 90), none⟩] []) c_law33_ServeNobody_13
def c_law33_ServeNobody_11 : MCode := .seq (.region [⟨(some 16), .mv (.tmp 4), none⟩,
   ⟨(some 17), .fld 1 (.tmp 1), none⟩,
   ⟨(some 18), .fld 0 (.tmp 17), none⟩,
   ⟨(some 19), .load1 (.tmp 18), none⟩,
   ⟨(some 20), .call 14 [(.tmp 16), (.tmp 19)], none⟩,
   ⟨(some 15), .mv (.tmp 20), none⟩,
   ⟨(some 21), .ext (.tmp 15) 0, none⟩,
   ⟨(some 22), .ext (.tmp 15) 1, none⟩,
   ⟨(some 5), .new [(.int .i64 0), (.int .i64 0), (.int .i64 0), (.int .i64 0), (.int .i64 0), (.int .i64 0), (.int .i64 0), (.int .i64 0), (.int .i64 0), (.int .i64 0), (.int .i64 0), (.int .i64 0)], none⟩,
   ⟨none, .store 12 (.tmp 5) (.tmp 21), none⟩,
   ⟨(some 6), .mv (.tmp 22), none⟩] []) c_law33_ServeNobody_12
def c_law33_ServeNobody_10 : MCode := .seq (.region [⟨(some 13), .ixV 1 (.tmp 9) (.tmp 11), none⟩,
   ⟨(some 14), .load1 (.tmp 13), none⟩,
   ⟨(some 4), .mv (.tmp 14), none⟩] []) c_law33_ServeNobody_11
def c_law33_ServeNobody_9 : MCode := .block 1 c_law33_ServeNobody_10
def c_law33_ServeNobody_15 : MCode := (.region [⟨(some 92), .ar .add (.tmp 11) (.const (.int .i64 1)), none⟩,
   ⟨(some 11), .mv (.tmp 92), none⟩] [])
def c_law33_ServeNobody_8 : MCode := .seq c_law33_ServeNobody_9 c_law33_ServeNobody_15
def c_law33_ServeNobody_6 : MCode := .seq c_law33_ServeNobody_7 c_law33_ServeNobody_8
def c_law33_ServeNobody_5 : MCode := .seq (.region [⟨(some 12), .ar .lss (.tmp 11) (.tmp 10), none⟩] []) c_law33_ServeNobody_6
def c_law33_ServeNobody_4 : MCode := .loop [1, 9, 10, 11] c_law33_ServeNobody_5
def c_law33_ServeNobody_3 : MCode := .block 0 c_law33_ServeNobody_4
def c_law33_ServeNobody_2 : MCode := .seq (.region [⟨(some 7), .build [(.map none), (.int .i64 0), (.bool false)] [], none⟩,
   ⟨(some 8), .box (.tmp 7), none⟩,
   ⟨(some 9), .buildSlice [(.pointer none), (.pointer none)] 2 [(0, 1, (.const (.pointer none))), (1, 1, (.tmp 8))], none⟩,
   ⟨(some 10), .lenV (.tmp 9), none⟩,
   ⟨(some 11), .mv (.const (.int .i64 0)), none⟩] []) c_law33_ServeNobody_3
def c_law33_ServeNobody_16 : MCode := .seq (.region [⟨(some 93), .call 9 [], none⟩,
   ⟨(some 2), .mv (.tmp 93), none⟩] []) .ret
def c_law33_ServeNobody_1 : MCode := .seq c_law33_ServeNobody_2 c_law33_ServeNobody_16
def c_law33_ServeNobody_0 : MCode := .seq (.region [⟨(some 1), .box (.tmp 0), none⟩,
   ⟨(some 2), .mv (.const (.bool false)), none⟩] []) c_law33_ServeNobody_1
/-- trefoil/trefoillaw33.ServeNobody -/
def M_law33_ServeNobody : MFun := ⟨1, c_law33_ServeNobody_0, [.tmp 2]⟩
abbrev F_law33_ServeNobody : Nat := 6
set_option maxRecDepth 100000 in
theorem m_law33_ServeNobody : InProg Try.prog 0 6 M_law33_ServeNobody := ⟨Try.f6, [[1, 9, 10, 11]], Try.func6, by kernel_rfl⟩
def c_serve_Check_5 : MCode := .seq (.region [⟨(some 9), .mv (.tmp 3), none⟩,
   ⟨(some 2), .mv (.tmp 9), none⟩] []) .ret
def c_serve_Check_4 : MCode := .cond (.tmp 8) c_serve_Check_5 .skip
def c_serve_Check_3 : MCode := .seq (.region [⟨(some 7), .mv (.tmp 3), none⟩,
   ⟨(some 8), .ar .neq (.tmp 7) (.const (.int .i64 0)), none⟩] []) c_serve_Check_4
def c_serve_Check_2 : MCode := .seq (.region [⟨(some 4), .fld 1 (.tmp 1), none⟩,
   ⟨(some 5), .loadN 5 (.tmp 4), none⟩,
   ⟨(some 6), .call 27 [(.tmp 5)], none⟩,
   ⟨(some 3), .mv (.tmp 6), none⟩] []) c_serve_Check_3
def c_serve_Check_9 : MCode := .seq (.region [⟨(some 2), .mv (.const (.int .i64 1)), none⟩] []) .ret
def c_serve_Check_8 : MCode := .cond (.tmp 27) c_serve_Check_9 .skip
def c_serve_Check_7 : MCode := .seq (.region [⟨(some 10), .fld 0 (.tmp 1), none⟩,
   ⟨(some 11), .load1 (.tmp 10), none⟩,
   ⟨(some 12), .ar .lss (.tmp 11) (.const (.int .i64 0)), none⟩,
   ⟨(some 13), .mv (.tmp 12), none⟩,
   ⟨(some 14), .fld 0 (.tmp 1), (some (13, false))⟩,
   ⟨(some 15), .load1 (.tmp 14), (some (13, false))⟩,
   ⟨(some 16), .ar .gtr (.tmp 15) (.const (.int .i64 4294967295)), (some (13, false))⟩,
   ⟨(some 17), .pick (.tmp 13) (.const (.bool true)) (.tmp 16), none⟩,
   ⟨(some 18), .mv (.tmp 17), none⟩,
   ⟨(some 19), .fld 6 (.tmp 1), (some (18, false))⟩,
   ⟨(some 20), .load1 (.tmp 19), (some (18, false))⟩,
   ⟨(some 21), .ar .lss (.tmp 20) (.const (.int .i64 1)), (some (18, false))⟩,
   ⟨(some 22), .pick (.tmp 18) (.const (.bool true)) (.tmp 21), none⟩,
   ⟨(some 23), .mv (.tmp 22), none⟩,
   ⟨(some 24), .fld 6 (.tmp 1), (some (23, false))⟩,
   ⟨(some 25), .load1 (.tmp 24), (some (23, false))⟩,
   ⟨(some 26), .ar .gtr (.tmp 25) (.const (.int .i64 64)), (some (23, false))⟩,
   ⟨(some 27), .pick (.tmp 23) (.const (.bool true)) (.tmp 26), none⟩] []) c_serve_Check_8
def c_serve_Check_10 : MCode := .seq (.region [⟨(some 2), .mv (.const (.int .i64 0)), none⟩] []) .ret
def c_serve_Check_6 : MCode := .seq c_serve_Check_7 c_serve_Check_10
def c_serve_Check_1 : MCode := .seq c_serve_Check_2 c_serve_Check_6
def c_serve_Check_0 : MCode := .seq (.region [⟨(some 1), .box (.tmp 0), none⟩,
   ⟨(some 2), .mv (.const (.int .i64 0)), none⟩] []) c_serve_Check_1
/-- trefoil/serve.Check -/
def M_serve_Check : MFun := ⟨1, c_serve_Check_0, [.tmp 2]⟩
abbrev F_serve_Check : Nat := 7
set_option maxRecDepth 100000 in
theorem m_serve_Check : InProg Try.prog 0 7 M_serve_Check := ⟨Try.f7, [], Try.func7, by kernel_rfl⟩
def c_ref33_Check_4 : MCode := .seq (.region [⟨(some 7), .fld 1 (.tmp 1), none⟩,
   ⟨(some 8), .loadN 5 (.tmp 7), none⟩,
   ⟨(some 9), .call 28 [(.tmp 8)], none⟩,
   ⟨(some 2), .mv (.tmp 9), none⟩] []) .ret
def c_ref33_Check_3 : MCode := .cond (.tmp 6) c_ref33_Check_4 .skip
def c_ref33_Check_2 : MCode := .seq (.region [⟨(some 3), .fld 1 (.tmp 1), none⟩,
   ⟨(some 4), .loadN 5 (.tmp 3), none⟩,
   ⟨(some 5), .call 28 [(.tmp 4)], none⟩,
   ⟨(some 6), .ar .neq (.tmp 5) (.const (.int .i64 0)), none⟩] []) c_ref33_Check_3
def c_ref33_Check_8 : MCode := .seq (.region [⟨(some 2), .mv (.const (.int .i64 1)), none⟩] []) .ret
def c_ref33_Check_7 : MCode := .cond (.tmp 27) c_ref33_Check_8 .skip
def c_ref33_Check_6 : MCode := .seq (.region [⟨(some 10), .fld 0 (.tmp 1), none⟩,
   ⟨(some 11), .load1 (.tmp 10), none⟩,
   ⟨(some 12), .ar .lss (.tmp 11) (.const (.int .i64 0)), none⟩,
   ⟨(some 13), .mv (.tmp 12), none⟩,
   ⟨(some 14), .fld 0 (.tmp 1), (some (13, false))⟩,
   ⟨(some 15), .load1 (.tmp 14), (some (13, false))⟩,
   ⟨(some 16), .ar .gtr (.tmp 15) (.const (.int .i64 4294967295)), (some (13, false))⟩,
   ⟨(some 17), .pick (.tmp 13) (.const (.bool true)) (.tmp 16), none⟩,
   ⟨(some 18), .mv (.tmp 17), none⟩,
   ⟨(some 19), .fld 6 (.tmp 1), (some (18, false))⟩,
   ⟨(some 20), .load1 (.tmp 19), (some (18, false))⟩,
   ⟨(some 21), .ar .lss (.tmp 20) (.const (.int .i64 1)), (some (18, false))⟩,
   ⟨(some 22), .pick (.tmp 18) (.const (.bool true)) (.tmp 21), none⟩,
   ⟨(some 23), .mv (.tmp 22), none⟩,
   ⟨(some 24), .fld 6 (.tmp 1), (some (23, false))⟩,
   ⟨(some 25), .load1 (.tmp 24), (some (23, false))⟩,
   ⟨(some 26), .ar .gtr (.tmp 25) (.const (.int .i64 64)), (some (23, false))⟩,
   ⟨(some 27), .pick (.tmp 23) (.const (.bool true)) (.tmp 26), none⟩] []) c_ref33_Check_7
def c_ref33_Check_9 : MCode := .seq (.region [⟨(some 2), .mv (.const (.int .i64 0)), none⟩] []) .ret
def c_ref33_Check_5 : MCode := .seq c_ref33_Check_6 c_ref33_Check_9
def c_ref33_Check_1 : MCode := .seq c_ref33_Check_2 c_ref33_Check_5
def c_ref33_Check_0 : MCode := .seq (.region [⟨(some 1), .box (.tmp 0), none⟩,
   ⟨(some 2), .mv (.const (.int .i64 0)), none⟩] []) c_ref33_Check_1
/-- trefoil/trefoilref33.Check -/
def M_ref33_Check : MFun := ⟨1, c_ref33_Check_0, [.tmp 2]⟩
abbrev F_ref33_Check : Nat := 8
set_option maxRecDepth 100000 in
theorem m_ref33_Check : InProg Try.prog 0 8 M_ref33_Check := ⟨Try.f8, [], Try.func8, by kernel_rfl⟩
def c_law33_awake_6 : MCode := .seq (.region [⟨(some 0), .mv (.const (.bool false)), none⟩] []) .ret
def c_law33_awake_5 : MCode := .cond (.tmp 32) c_law33_awake_6 .skip
def c_law33_awake_4 : MCode := .seq (.region [⟨(some 7), .mv (.tmp 1), none⟩,
   ⟨(some 8), .loadN 5 (.tmp 2), none⟩,
   ⟨(some 9), .build [(.int .i64 0), (.int .i64 0), (.int .i64 0), (.int .i64 0), (.int .i64 0), (.int .i64 0), (.int .i64 0)] [(0, 1, (.const (.int .i64 5))), (1, 5, (.tmp 8)), (6, 1, (.const (.int .i64 2)))], none⟩,
   ⟨(some 10), .call 11 [(.tmp 7), (.tmp 9)], none⟩,
   ⟨(some 11), .ar .neq (.tmp 10) (.const (.int .i64 0)), none⟩,
   ⟨(some 12), .mv (.tmp 11), none⟩,
   ⟨(some 13), .mv (.tmp 1), (some (12, false))⟩,
   ⟨(some 14), .loadN 5 (.tmp 2), (some (12, false))⟩,
   ⟨(some 15), .build [(.int .i64 0), (.int .i64 0), (.int .i64 0), (.int .i64 0), (.int .i64 0), (.int .i64 0), (.int .i64 0)] [(0, 1, (.const (.int .i64 5))), (1, 5, (.tmp 14)), (6, 1, (.const (.int .i64 3)))], (some (12, false))⟩,
   ⟨(some 16), .call 15 [(.tmp 13), (.tmp 15)], (some (12, false))⟩,
   ⟨(some 17), .ar .neq (.tmp 16) (.const (.int .i64 0)), (some (12, false))⟩,
   ⟨(some 18), .pick (.tmp 12) (.const (.bool true)) (.tmp 17), none⟩,
   ⟨(some 19), .mv (.tmp 18), none⟩,
   ⟨(some 20), .mv (.tmp 1), (some (19, false))⟩,
   ⟨(some 21), .loadN 5 (.tmp 3), (some (19, false))⟩,
   ⟨(some 22), .build [(.int .i64 0), (.int .i64 0), (.int .i64 0), (.int .i64 0), (.int .i64 0), (.int .i64 0), (.int .i64 0)] [(0, 1, (.const (.int .i64 6))), (1, 5, (.tmp 21)), (6, 1, (.const (.int .i64 1)))], (some (19, false))⟩,
   ⟨(some 23), .call 15 [(.tmp 20), (.tmp 22)], (some (19, false))⟩,
   ⟨(some 24), .ar .neq (.tmp 23) (.const (.int .i64 0)), (some (19, false))⟩,
   ⟨(some 25), .pick (.tmp 19) (.const (.bool true)) (.tmp 24), none⟩,
   ⟨(some 26), .mv (.tmp 25), none⟩,
   ⟨(some 27), .mv (.tmp 1), (some (26, false))⟩,
   ⟨(some 28), .loadN 5 (.tmp 3), (some (26, false))⟩,
   ⟨(some 29), .build [(.int .i64 0), (.int .i64 0), (.int .i64 0), (.int .i64 0), (.int .i64 0), (.int .i64 0), (.int .i64 0)] [(0, 1, (.const (.int .i64 6))), (1, 5, (.tmp 28)), (6, 1, (.const (.int .i64 1)))], (some (26, false))⟩,
   ⟨(some 30), .call 11 [(.tmp 27), (.tmp 29)], (some (26, false))⟩,
   ⟨(some 31), .ar .neq (.tmp 30) (.const (.int .i64 0)), (some (26, false))⟩,
   ⟨(some 32), .pick (.tmp 26) (.const (.bool true)) (.tmp 31), none⟩] []) c_law33_awake_5
def c_law33_awake_7 : MCode := .seq (.region [⟨(some 33), .mv (.tmp 1), none⟩,
   ⟨(some 34), .call 21 [(.tmp 33)], none⟩,
   ⟨(some 35), .buildSlice [(.int .i64 0)] 1 [(0, 1, (.const (.int .i64 5)))], none⟩,
   ⟨(some 36), .call 20 [(.tmp 34), (.tmp 35)], none⟩,
   ⟨(some 37), .mv (.tmp 36), none⟩,
   ⟨(some 38), .mv (.tmp 1), (some (37, true))⟩,
   ⟨(some 39), .call 19 [(.tmp 38)], (some (37, true))⟩,
   ⟨(some 40), .loadN 5 (.tmp 3), (some (37, true))⟩,
   ⟨(some 41), .build [(.int .i64 0), (.int .i64 0), (.int .i64 0), (.int .i64 0), (.int .i64 0), (.int .i64 0), (.int .i64 0)] [(0, 1, (.const (.int .i64 6))), (1, 5, (.tmp 40)), (6, 1, (.const (.int .i64 1)))], (some (37, true))⟩,
   ⟨(some 42), .buildSlice [(.int .i64 0), (.int .i64 0), (.int .i64 0), (.int .i64 0), (.int .i64 0), (.int .i64 0), (.int .i64 0)] 1 [(0, 7, (.tmp 41))], (some (37, true))⟩,
   ⟨(some 43), .call 18 [(.tmp 39), (.tmp 42)], (some (37, true))⟩,
   ⟨(some 44), .pick (.tmp 37) (.tmp 43) (.const (.bool false)), none⟩,
   ⟨(some 0), .mv (.tmp 44), none⟩] [(7, 6)]) .ret
def c_law33_awake_3 : MCode := .seq c_law33_awake_4 c_law33_awake_7
def c_law33_awake_2 : MCode := .seq (.region [⟨(some 5), .build [(.int .i64 0), (.int .i64 0), (.int .i64 0), (.int .i64 0), (.int .i64 0)] [(0, 1, (.const (.int .i64 1))), (1, 1, (.const (.int .i64 8)))], none⟩,
   ⟨(some 6), .build [(.int .i64 0), (.int .i64 0), (.int .i64 0), (.int .i64 0), (.int .i64 0)] [(0, 1, (.const (.int .i64 3))), (1, 1, (.const (.int .i64 1)))], none⟩,
   ⟨(some 2), .new [(.int .i64 0), (.int .i64 0), (.int .i64 0), (.int .i64 0), (.int .i64 0)], none⟩,
   ⟨(some 3), .new [(.int .i64 0), (.int .i64 0), (.int .i64 0), (.int .i64 0), (.int .i64 0)], none⟩,
   ⟨none, .store 5 (.tmp 2) (.tmp 5), none⟩,
   ⟨none, .store 5 (.tmp 3) (.tmp 6), none⟩] []) c_law33_awake_3
def c_law33_awake_1 : MCode := .seq (.region [⟨(some 4), .call 10 [], none⟩,
   ⟨(some 1), .mv (.tmp 4), none⟩] []) c_law33_awake_2
def c_law33_awake_0 : MCode := .seq (.region [⟨(some 0), .mv (.const (.bool false)), none⟩] []) c_law33_awake_1
/-- trefoil/trefoillaw33.awake -/
def M_law33_awake : MFun := ⟨0, c_law33_awake_0, [.tmp 0]⟩
abbrev F_law33_awake : Nat := 9
set_option maxRecDepth 100000 in
theorem m_law33_awake : InProg Try.prog 0 9 M_law33_awake := ⟨Try.f9, [], Try.func9, by kernel_rfl⟩
def c_serve_New_1 : MCode := .seq (.region [⟨(some 1), .mkMap, none⟩,
   ⟨(some 2), .build [(.map none), (.int .i64 0), (.bool false)] [(0, 1, (.tmp 1)), (2, 1, (.const (.bool true)))], none⟩,
   ⟨(some 3), .box (.tmp 2), none⟩,
   ⟨(some 0), .mv (.tmp 3), none⟩] []) .ret
def c_serve_New_0 : MCode := .seq (.region [⟨(some 0), .mv (.const (.pointer none)), none⟩] []) c_serve_New_1
/-- trefoil/serve.New -/
def M_serve_New : MFun := ⟨0, c_serve_New_0, [.tmp 0]⟩
abbrev F_serve_New : Nat := 10
set_option maxRecDepth 100000 in
theorem m_serve_New : InProg Try.prog 0 10 M_serve_New := ⟨Try.f10, [], Try.func10, by kernel_rfl⟩
def c_serve_Table_Ask_5 : MCode := .seq (.region [⟨(some 15), .mv (.tmp 5), none⟩,
   ⟨(some 4), .mv (.tmp 15), none⟩] []) .ret
def c_serve_Table_Ask_4 : MCode := .cond (.tmp 14) c_serve_Table_Ask_5 .skip
def c_serve_Table_Ask_3 : MCode := .seq (.region [⟨(some 13), .mv (.tmp 5), none⟩,
   ⟨(some 14), .ar .neq (.tmp 13) (.const (.int .i64 0)), none⟩] []) c_serve_Table_Ask_4
def c_serve_Table_Ask_2 : MCode := .seq (.region [⟨(some 10), .mv (.tmp 0), none⟩,
   ⟨(some 11), .loadN 7 (.tmp 3), none⟩,
   ⟨(some 12), .call 29 [(.tmp 10), (.tmp 11)], none⟩,
   ⟨(some 5), .mv (.tmp 12), none⟩] []) c_serve_Table_Ask_3
def c_serve_Table_Ask_10 : MCode := .seq (.region [⟨(some 4), .mv (.const (.int .i64 41)), none⟩] []) .ret
def c_serve_Table_Ask_9 : MCode := .cond (.tmp 32) c_serve_Table_Ask_10 .skip
def c_serve_Table_Ask_8 : MCode := .seq (.region [⟨(some 26), .mv (.tmp 7), none⟩,
   ⟨(some 27), .mv (.tmp 26), none⟩,
   ⟨(some 28), .mv (.tmp 6), (some (27, true))⟩,
   ⟨(some 29), .nilCheck (.tmp 28), (some (27, true))⟩,
   ⟨(some 30), .fld 14 (.tmp 29), (some (27, true))⟩,
   ⟨(some 31), .load1 (.tmp 30), (some (27, true))⟩,
   ⟨(some 32), .pick (.tmp 27) (.tmp 31) (.const (.bool false)), none⟩] []) c_serve_Table_Ask_9
def c_serve_Table_Ask_7 : MCode := .seq (.region [⟨(some 17), .mv (.tmp 0), none⟩,
   ⟨(some 18), .nilCheck (.tmp 17), none⟩,
   ⟨(some 19), .fld 0 (.tmp 18), none⟩,
   ⟨(some 20), .load1 (.tmp 19), none⟩,
   ⟨(some 21), .fld 0 (.tmp 3), none⟩,
   ⟨(some 22), .load1 (.tmp 21), none⟩,
   ⟨(some 23), .look .int (.pointer none) true (.tmp 20) (.tmp 22), none⟩,
   ⟨(some 16), .mv (.tmp 23), none⟩,
   ⟨(some 24), .ext (.tmp 16) 0, none⟩,
   ⟨(some 25), .ext (.tmp 16) 1, none⟩,
   ⟨(some 6), .mv (.tmp 24), none⟩,
   ⟨(some 7), .mv (.tmp 25), none⟩] []) c_serve_Table_Ask_8
def c_serve_Table_Ask_15 : MCode := .seq (.region [⟨(some 42), .mv (.tmp 9), none⟩,
   ⟨(some 4), .mv (.tmp 42), none⟩] []) .ret
def c_serve_Table_Ask_14 : MCode := .cond (.tmp 41) c_serve_Table_Ask_15 .skip
def c_serve_Table_Ask_13 : MCode := .seq (.region [⟨(some 40), .mv (.tmp 9), none⟩,
   ⟨(some 41), .ar .neq (.tmp 40) (.const (.int .i64 0)), none⟩] []) c_serve_Table_Ask_14
def c_serve_Table_Ask_17 : MCode := .seq (.region [⟨(some 4), .mv (.const (.int .i64 0)), none⟩] []) .ret
def c_serve_Table_Ask_16 : MCode := .seq (.region [⟨(some 43), .mv (.tmp 8), none⟩,
   ⟨(some 44), .mv (.tmp 8), none⟩,
   ⟨(some 45), .loadN 7 (.tmp 3), none⟩,
   ⟨(some 46), .nilCheck (.tmp 43), none⟩,
   ⟨(some 47), .fld 0 (.tmp 46), none⟩,
   ⟨none, .store 7 (.tmp 47) (.tmp 45), none⟩,
   ⟨(some 48), .nilCheck (.tmp 44), none⟩,
   ⟨(some 49), .fld 14 (.tmp 48), none⟩,
   ⟨none, .store 1 (.tmp 49) (.const (.bool true)), none⟩] []) c_serve_Table_Ask_17
def c_serve_Table_Ask_12 : MCode := .seq c_serve_Table_Ask_13 c_serve_Table_Ask_16
def c_serve_Table_Ask_11 : MCode := .seq (.region [⟨(some 34), .mv (.tmp 0), none⟩,
   ⟨(some 35), .fld 0 (.tmp 3), none⟩,
   ⟨(some 36), .load1 (.tmp 35), none⟩,
   ⟨(some 37), .call 30 [(.tmp 34), (.tmp 36)], none⟩,
   ⟨(some 33), .mv (.tmp 37), none⟩,
   ⟨(some 38), .ext (.tmp 33) 0, none⟩,
   ⟨(some 39), .ext (.tmp 33) 1, none⟩,
   ⟨(some 8), .mv (.tmp 38), none⟩,
   ⟨(some 9), .mv (.tmp 39), none⟩] []) c_serve_Table_Ask_12
def c_serve_Table_Ask_6 : MCode := .seq c_serve_Table_Ask_7 c_serve_Table_Ask_11
def c_serve_Table_Ask_1 : MCode := .seq c_serve_Table_Ask_2 c_serve_Table_Ask_6
def c_serve_Table_Ask_0 : MCode := .seq (.region [⟨(some 3), .box (.tmp 1), none⟩,
   ⟨(some 4), .mv (.const (.int .i64 0)), none⟩] []) c_serve_Table_Ask_1
/-- (*trefoil/serve.Table).Ask -/
def M_serve_Table_Ask : MFun := ⟨2, c_serve_Table_Ask_0, [.tmp 4]⟩
abbrev F_serve_Table_Ask : Nat := 11
set_option maxRecDepth 100000 in
theorem m_serve_Table_Ask : InProg Try.prog 0 11 M_serve_Table_Ask := ⟨Try.f11, [], Try.func11, by kernel_rfl⟩
def c_serve_Table_Grant_5 : MCode := .seq (.region [⟨(some 17), .mv (.tmp 8), none⟩,
   ⟨(some 6), .mv (.tmp 17), none⟩] []) .ret
def c_serve_Table_Grant_4 : MCode := .cond (.tmp 16) c_serve_Table_Grant_5 .skip
def c_serve_Table_Grant_3 : MCode := .seq (.region [⟨(some 15), .mv (.tmp 8), none⟩,
   ⟨(some 16), .ar .neq (.tmp 15) (.const (.int .i64 0)), none⟩] []) c_serve_Table_Grant_4
def c_serve_Table_Grant_9 : MCode := .seq (.region [⟨(some 6), .mv (.const (.int .i64 40)), none⟩] []) .ret
def c_serve_Table_Grant_8 : MCode := .cond (.tmp 35) c_serve_Table_Grant_9 .skip
def c_serve_Table_Grant_7 : MCode := .seq (.region [⟨(some 18), .fld 2 (.tmp 5), none⟩,
   ⟨(some 19), .load1 (.tmp 18), none⟩,
   ⟨(some 20), .mv (.tmp 7), none⟩,
   ⟨(some 21), .nilCheck (.tmp 20), none⟩,
   ⟨(some 22), .fld 0 (.tmp 21), none⟩,
   ⟨(some 23), .fld 6 (.tmp 22), none⟩,
   ⟨(some 24), .load1 (.tmp 23), none⟩,
   ⟨(some 25), .ar .neq (.tmp 19) (.tmp 24), none⟩,
   ⟨(some 26), .mv (.tmp 25), none⟩,
   ⟨(some 27), .fld 1 (.tmp 5), (some (26, false))⟩,
   ⟨(some 28), .load1 (.tmp 27), (some (26, false))⟩,
   ⟨(some 29), .ar .lss (.tmp 28) (.const (.int .i64 0)), (some (26, false))⟩,
   ⟨(some 30), .pick (.tmp 26) (.const (.bool true)) (.tmp 29), none⟩,
   ⟨(some 31), .mv (.tmp 30), none⟩,
   ⟨(some 32), .fld 0 (.tmp 5), (some (31, false))⟩,
   ⟨(some 33), .load1 (.tmp 32), (some (31, false))⟩,
   ⟨(some 34), .ar .lss (.tmp 33) (.const (.int .i64 0)), (some (31, false))⟩,
   ⟨(some 35), .pick (.tmp 31) (.const (.bool true)) (.tmp 34), none⟩] []) c_serve_Table_Grant_8
def c_serve_Table_Grant_11 : MCode := .seq (.region [⟨(some 6), .mv (.const (.int .i64 0)), none⟩] []) .ret
def c_serve_Table_Grant_10 : MCode := .seq (.region [⟨(some 36), .mv (.tmp 7), none⟩,
   ⟨(some 37), .mv (.tmp 7), none⟩,
   ⟨(some 38), .loadN 3 (.tmp 5), none⟩,
   ⟨(some 39), .nilCheck (.tmp 36), none⟩,
   ⟨(some 40), .fld 17 (.tmp 39), none⟩,
   ⟨none, .store 1 (.tmp 40) (.const (.int .i64 2)), none⟩,
   ⟨(some 41), .nilCheck (.tmp 37), none⟩,
   ⟨(some 42), .fld 19 (.tmp 41), none⟩,
   ⟨none, .store 3 (.tmp 42) (.tmp 38), none⟩] [(2, 5)]) c_serve_Table_Grant_11
def c_serve_Table_Grant_6 : MCode := .seq c_serve_Table_Grant_7 c_serve_Table_Grant_10
def c_serve_Table_Grant_2 : MCode := .seq c_serve_Table_Grant_3 c_serve_Table_Grant_6
def c_serve_Table_Grant_1 : MCode := .seq (.region [⟨(some 10), .mv (.tmp 0), none⟩,
   ⟨(some 11), .mv (.tmp 1), none⟩,
   ⟨(some 12), .call 31 [(.tmp 10), (.tmp 11)], none⟩,
   ⟨(some 9), .mv (.tmp 12), none⟩,
   ⟨(some 13), .ext (.tmp 9) 0, none⟩,
   ⟨(some 14), .ext (.tmp 9) 1, none⟩,
   ⟨(some 7), .mv (.tmp 13), none⟩,
   ⟨(some 8), .mv (.tmp 14), none⟩] []) c_serve_Table_Grant_2
def c_serve_Table_Grant_0 : MCode := .seq (.region [⟨(some 5), .box (.tmp 2), none⟩,
   ⟨(some 6), .mv (.const (.int .i64 0)), none⟩] []) c_serve_Table_Grant_1
/-- (*trefoil/serve.Table).Grant -/
def M_serve_Table_Grant : MFun := ⟨3, c_serve_Table_Grant_0, [.tmp 6]⟩
abbrev F_serve_Table_Grant : Nat := 12
set_option maxRecDepth 100000 in
theorem m_serve_Table_Grant : InProg Try.prog 0 12 M_serve_Table_Grant := ⟨Try.f12, [], Try.func12, by kernel_rfl⟩
def c_serve_Table_Refuse_5 : MCode := .seq (.region [⟨(some 17), .mv (.tmp 8), none⟩,
   ⟨(some 6), .mv (.tmp 17), none⟩] []) .ret
def c_serve_Table_Refuse_4 : MCode := .cond (.tmp 16) c_serve_Table_Refuse_5 .skip
def c_serve_Table_Refuse_3 : MCode := .seq (.region [⟨(some 15), .mv (.tmp 8), none⟩,
   ⟨(some 16), .ar .neq (.tmp 15) (.const (.int .i64 0)), none⟩] []) c_serve_Table_Refuse_4
def c_serve_Table_Refuse_9 : MCode := .seq (.region [⟨(some 6), .mv (.const (.int .i64 1)), none⟩] []) .ret
def c_serve_Table_Refuse_8 : MCode := .cond (.tmp 19) c_serve_Table_Refuse_9 .skip
def c_serve_Table_Refuse_7 : MCode := .seq (.region [⟨(some 18), .mv (.tmp 2), none⟩,
   ⟨(some 19), .ar .eql (.tmp 18) (.const (.int .i64 0)), none⟩] []) c_serve_Table_Refuse_8
def c_serve_Table_Refuse_11 : MCode := .seq (.region [⟨(some 6), .mv (.const (.int .i64 0)), none⟩] []) .ret
def c_serve_Table_Refuse_10 : MCode := .seq (.region [⟨(some 20), .mv (.tmp 7), none⟩,
   ⟨(some 21), .mv (.tmp 7), none⟩,
   ⟨(some 22), .mv (.tmp 2), none⟩,
   ⟨(some 23), .nilCheck (.tmp 20), none⟩,
   ⟨(some 24), .fld 17 (.tmp 23), none⟩,
   ⟨none, .store 1 (.tmp 24) (.const (.int .i64 3)), none⟩,
   ⟨(some 25), .nilCheck (.tmp 21), none⟩,
   ⟨(some 26), .fld 18 (.tmp 25), none⟩,
   ⟨none, .store 1 (.tmp 26) (.tmp 22), none⟩] []) c_serve_Table_Refuse_11
def c_serve_Table_Refuse_6 : MCode := .seq c_serve_Table_Refuse_7 c_serve_Table_Refuse_10
def c_serve_Table_Refuse_2 : MCode := .seq c_serve_Table_Refuse_3 c_serve_Table_Refuse_6
def c_serve_Table_Refuse_1 : MCode := .seq (.region [⟨(some 10), .mv (.tmp 0), none⟩,
   ⟨(some 11), .mv (.tmp 1), none⟩,
   ⟨(some 12), .call 31 [(.tmp 10), (.tmp 11)], none⟩,
   ⟨(some 9), .mv (.tmp 12), none⟩,
   ⟨(some 13), .ext (.tmp 9) 0, none⟩,
   ⟨(some 14), .ext (.tmp 9) 1, none⟩,
   ⟨(some 7), .mv (.tmp 13), none⟩,
   ⟨(some 8), .mv (.tmp 14), none⟩] []) c_serve_Table_Refuse_2
def c_serve_Table_Refuse_0 : MCode := .seq (.region [⟨(some 6), .mv (.const (.int .i64 0)), none⟩] []) c_serve_Table_Refuse_1
/-- (*trefoil/serve.Table).Refuse -/
def M_serve_Table_Refuse : MFun := ⟨3, c_serve_Table_Refuse_0, [.tmp 6]⟩
abbrev F_serve_Table_Refuse : Nat := 13
set_option maxRecDepth 100000 in
theorem m_serve_Table_Refuse : InProg Try.prog 0 13 M_serve_Table_Refuse := ⟨Try.f13, [], Try.func13, by kernel_rfl⟩
def c_serve_Table_Get_4 : MCode := .seq (.region [⟨(some 10), .build [(.int .i64 0), (.int .i64 0), (.int .i64 0), (.int .i64 0), (.int .i64 0), (.int .i64 0), (.int .i64 0), (.int .i64 0), (.int .i64 0), (.int .i64 0), (.int .i64 0), (.int .i64 0)] [], none⟩,
   ⟨none, .store 12 (.tmp 4) (.tmp 10), none⟩,
   ⟨(some 5), .mv (.const (.bool false)), none⟩] []) .ret
def c_serve_Table_Get_3 : MCode := .cond (.tmp 9) c_serve_Table_Get_4 .skip
def c_serve_Table_Get_2 : MCode := .seq (.region [⟨(some 8), .mv (.tmp 0), none⟩,
   ⟨(some 9), .eq false .ptr (.tmp 8) (.const (.pointer none)), none⟩] []) c_serve_Table_Get_3
def c_serve_Table_Get_9 : MCode := .seq (.region [⟨(some 29), .build [(.int .i64 0), (.int .i64 0), (.int .i64 0), (.int .i64 0), (.int .i64 0), (.int .i64 0), (.int .i64 0), (.int .i64 0), (.int .i64 0), (.int .i64 0), (.int .i64 0), (.int .i64 0)] [], none⟩,
   ⟨none, .store 12 (.tmp 4) (.tmp 29), none⟩,
   ⟨(some 5), .mv (.const (.bool false)), none⟩] []) .ret
def c_serve_Table_Get_8 : MCode := .cond (.tmp 28) c_serve_Table_Get_9 .skip
def c_serve_Table_Get_7 : MCode := .seq (.region [⟨(some 20), .mv (.tmp 7), none⟩,
   ⟨(some 21), .un .not (.tmp 20), none⟩,
   ⟨(some 22), .mv (.tmp 21), none⟩,
   ⟨(some 23), .mv (.tmp 6), (some (22, false))⟩,
   ⟨(some 24), .nilCheck (.tmp 23), (some (22, false))⟩,
   ⟨(some 25), .fld 14 (.tmp 24), (some (22, false))⟩,
   ⟨(some 26), .load1 (.tmp 25), (some (22, false))⟩,
   ⟨(some 27), .un .not (.tmp 26), (some (22, false))⟩,
   ⟨(some 28), .pick (.tmp 22) (.const (.bool true)) (.tmp 27), none⟩] []) c_serve_Table_Get_8
def c_serve_Table_Get_10 : MCode := .seq (.region [⟨(some 30), .mv (.tmp 6), none⟩,
   ⟨(some 31), .nilCheck (.tmp 30), none⟩,
   ⟨(some 32), .fld 0 (.tmp 31), none⟩,
   ⟨(some 33), .loadN 7 (.tmp 32), none⟩,
   ⟨(some 34), .mv (.tmp 6), none⟩,
   ⟨(some 35), .nilCheck (.tmp 34), none⟩,
   ⟨(some 36), .fld 17 (.tmp 35), none⟩,
   ⟨(some 37), .load1 (.tmp 36), none⟩,
   ⟨(some 38), .mv (.tmp 6), none⟩,
   ⟨(some 39), .nilCheck (.tmp 38), none⟩,
   ⟨(some 40), .fld 18 (.tmp 39), none⟩,
   ⟨(some 41), .load1 (.tmp 40), none⟩,
   ⟨(some 42), .mv (.tmp 6), none⟩,
   ⟨(some 43), .nilCheck (.tmp 42), none⟩,
   ⟨(some 44), .fld 19 (.tmp 43), none⟩,
   ⟨(some 45), .loadN 3 (.tmp 44), none⟩,
   ⟨(some 46), .build [(.int .i64 0), (.int .i64 0), (.int .i64 0), (.int .i64 0), (.int .i64 0), (.int .i64 0), (.int .i64 0), (.int .i64 0), (.int .i64 0), (.int .i64 0), (.int .i64 0), (.int .i64 0)] [(0, 7, (.tmp 33)), (7, 1, (.tmp 37)), (8, 1, (.tmp 41)), (9, 3, (.tmp 45))], none⟩,
   ⟨none, .store 12 (.tmp 4) (.tmp 46), none⟩,
   ⟨(some 5), .mv (.const (.bool true)), none⟩] []) .ret
def c_serve_Table_Get_6 : MCode := .seq c_serve_Table_Get_7 c_serve_Table_Get_10
def c_serve_Table_Get_5 : MCode := .seq (.region [⟨(some 12), .mv (.tmp 0), none⟩,
   ⟨(some 13), .nilCheck (.tmp 12), none⟩,
   ⟨(some 14), .fld 0 (.tmp 13), none⟩,
   ⟨(some 15), .load1 (.tmp 14), none⟩,
   ⟨(some 16), .mv (.tmp 1), none⟩,
   ⟨(some 17), .look .int (.pointer none) true (.tmp 15) (.tmp 16), none⟩,
   ⟨(some 11), .mv (.tmp 17), none⟩,
   ⟨(some 18), .ext (.tmp 11) 0, none⟩,
   ⟨(some 19), .ext (.tmp 11) 1, none⟩,
   ⟨(some 6), .mv (.tmp 18), none⟩,
   ⟨(some 7), .mv (.tmp 19), none⟩] []) c_serve_Table_Get_6
def c_serve_Table_Get_1 : MCode := .seq c_serve_Table_Get_2 c_serve_Table_Get_5
def c_serve_Table_Get_0 : MCode := .seq (.region [⟨(some 4), .new [(.int .i64 0), (.int .i64 0), (.int .i64 0), (.int .i64 0), (.int .i64 0), (.int .i64 0), (.int .i64 0), (.int .i64 0), (.int .i64 0), (.int .i64 0), (.int .i64 0), (.int .i64 0)], none⟩,
   ⟨(some 5), .mv (.const (.bool false)), none⟩] []) c_serve_Table_Get_1
/-- (*trefoil/serve.Table).Get -/
def M_serve_Table_Get : MFun := ⟨2, c_serve_Table_Get_0, [.cellN 4 12, .tmp 5]⟩
abbrev F_serve_Table_Get : Nat := 14
set_option maxRecDepth 100000 in
theorem m_serve_Table_Get : InProg Try.prog 0 14 M_serve_Table_Get := ⟨Try.f14, [], Try.func14, by kernel_rfl⟩
def c_serve_Table_Hear_5 : MCode := .seq (.region [⟨(some 15), .mv (.tmp 5), none⟩,
   ⟨(some 4), .mv (.tmp 15), none⟩] []) .ret
def c_serve_Table_Hear_4 : MCode := .cond (.tmp 14) c_serve_Table_Hear_5 .skip
def c_serve_Table_Hear_3 : MCode := .seq (.region [⟨(some 13), .mv (.tmp 5), none⟩,
   ⟨(some 14), .ar .neq (.tmp 13) (.const (.int .i64 0)), none⟩] []) c_serve_Table_Hear_4
def c_serve_Table_Hear_2 : MCode := .seq (.region [⟨(some 10), .mv (.tmp 0), none⟩,
   ⟨(some 11), .loadN 7 (.tmp 3), none⟩,
   ⟨(some 12), .call 29 [(.tmp 10), (.tmp 11)], none⟩,
   ⟨(some 5), .mv (.tmp 12), none⟩] []) c_serve_Table_Hear_3
def c_serve_Table_Hear_10 : MCode := .seq (.region [⟨(some 4), .mv (.const (.int .i64 7)), none⟩] []) .ret
def c_serve_Table_Hear_9 : MCode := .cond (.tmp 32) c_serve_Table_Hear_10 .skip
def c_serve_Table_Hear_8 : MCode := .seq (.region [⟨(some 26), .mv (.tmp 7), none⟩,
   ⟨(some 27), .mv (.tmp 26), none⟩,
   ⟨(some 28), .mv (.tmp 6), (some (27, true))⟩,
   ⟨(some 29), .nilCheck (.tmp 28), (some (27, true))⟩,
   ⟨(some 30), .fld 15 (.tmp 29), (some (27, true))⟩,
   ⟨(some 31), .load1 (.tmp 30), (some (27, true))⟩,
   ⟨(some 32), .pick (.tmp 27) (.tmp 31) (.const (.bool false)), none⟩] []) c_serve_Table_Hear_9
def c_serve_Table_Hear_7 : MCode := .seq (.region [⟨(some 17), .mv (.tmp 0), none⟩,
   ⟨(some 18), .nilCheck (.tmp 17), none⟩,
   ⟨(some 19), .fld 0 (.tmp 18), none⟩,
   ⟨(some 20), .load1 (.tmp 19), none⟩,
   ⟨(some 21), .fld 0 (.tmp 3), none⟩,
   ⟨(some 22), .load1 (.tmp 21), none⟩,
   ⟨(some 23), .look .int (.pointer none) true (.tmp 20) (.tmp 22), none⟩,
   ⟨(some 16), .mv (.tmp 23), none⟩,
   ⟨(some 24), .ext (.tmp 16) 0, none⟩,
   ⟨(some 25), .ext (.tmp 16) 1, none⟩,
   ⟨(some 6), .mv (.tmp 24), none⟩,
   ⟨(some 7), .mv (.tmp 25), none⟩] []) c_serve_Table_Hear_8
def c_serve_Table_Hear_15 : MCode := .seq (.region [⟨(some 42), .mv (.tmp 9), none⟩,
   ⟨(some 4), .mv (.tmp 42), none⟩] []) .ret
def c_serve_Table_Hear_14 : MCode := .cond (.tmp 41) c_serve_Table_Hear_15 .skip
def c_serve_Table_Hear_13 : MCode := .seq (.region [⟨(some 40), .mv (.tmp 9), none⟩,
   ⟨(some 41), .ar .neq (.tmp 40) (.const (.int .i64 0)), none⟩] []) c_serve_Table_Hear_14
def c_serve_Table_Hear_17 : MCode := .seq (.region [⟨(some 4), .mv (.const (.int .i64 0)), none⟩] []) .ret
def c_serve_Table_Hear_16 : MCode := .seq (.region [⟨(some 43), .mv (.tmp 8), none⟩,
   ⟨(some 44), .mv (.tmp 8), none⟩,
   ⟨(some 45), .loadN 7 (.tmp 3), none⟩,
   ⟨(some 46), .nilCheck (.tmp 43), none⟩,
   ⟨(some 47), .fld 7 (.tmp 46), none⟩,
   ⟨none, .store 7 (.tmp 47) (.tmp 45), none⟩,
   ⟨(some 48), .nilCheck (.tmp 44), none⟩,
   ⟨(some 49), .fld 15 (.tmp 48), none⟩,
   ⟨none, .store 1 (.tmp 49) (.const (.bool true)), none⟩] []) c_serve_Table_Hear_17
def c_serve_Table_Hear_12 : MCode := .seq c_serve_Table_Hear_13 c_serve_Table_Hear_16
def c_serve_Table_Hear_11 : MCode := .seq (.region [⟨(some 34), .mv (.tmp 0), none⟩,
   ⟨(some 35), .fld 0 (.tmp 3), none⟩,
   ⟨(some 36), .load1 (.tmp 35), none⟩,
   ⟨(some 37), .call 30 [(.tmp 34), (.tmp 36)], none⟩,
   ⟨(some 33), .mv (.tmp 37), none⟩,
   ⟨(some 38), .ext (.tmp 33) 0, none⟩,
   ⟨(some 39), .ext (.tmp 33) 1, none⟩,
   ⟨(some 8), .mv (.tmp 38), none⟩,
   ⟨(some 9), .mv (.tmp 39), none⟩] []) c_serve_Table_Hear_12
def c_serve_Table_Hear_6 : MCode := .seq c_serve_Table_Hear_7 c_serve_Table_Hear_11
def c_serve_Table_Hear_1 : MCode := .seq c_serve_Table_Hear_2 c_serve_Table_Hear_6
def c_serve_Table_Hear_0 : MCode := .seq (.region [⟨(some 3), .box (.tmp 1), none⟩,
   ⟨(some 4), .mv (.const (.int .i64 0)), none⟩] []) c_serve_Table_Hear_1
/-- (*trefoil/serve.Table).Hear -/
def M_serve_Table_Hear : MFun := ⟨2, c_serve_Table_Hear_0, [.tmp 4]⟩
abbrev F_serve_Table_Hear : Nat := 15
set_option maxRecDepth 100000 in
theorem m_serve_Table_Hear : InProg Try.prog 0 15 M_serve_Table_Hear := ⟨Try.f15, [], Try.func15, by kernel_rfl⟩
def c_law33_does_9 : MCode := (.region [⟨(some 41), .mv (.tmp 0), none⟩,
   ⟨(some 42), .fld 1 (.tmp 5), none⟩,
   ⟨(some 43), .loadN 7 (.tmp 42), none⟩,
   ⟨(some 44), .call 11 [(.tmp 41), (.tmp 43)], none⟩,
   ⟨(some 8), .mv (.tmp 44), none⟩] [])
def c_law33_does_8 : MCode := .seq (.region [⟨(some 31), .mv (.tmp 1), none⟩,
   ⟨(some 32), .mv (.tmp 1), none⟩,
   ⟨(some 33), .nilCheck (.tmp 32), none⟩,
   ⟨(some 34), .loadN 1 (.tmp 33), none⟩,
   ⟨(some 35), .fld 1 (.tmp 5), none⟩,
   ⟨(some 36), .loadN 7 (.tmp 35), none⟩,
   ⟨(some 37), .call 32 [(.tmp 34), (.tmp 36), (.const (.bool false))], none⟩,
   ⟨(some 30), .mv (.tmp 37), none⟩,
   ⟨(some 38), .ext (.tmp 30) 0, none⟩,
   ⟨(some 39), .ext (.tmp 30) 1, none⟩,
   ⟨(some 40), .nilCheck (.tmp 31), none⟩,
   ⟨none, .store 1 (.tmp 40) (.tmp 38), none⟩,
   ⟨(some 7), .mv (.tmp 39), none⟩] []) c_law33_does_9
def c_law33_does_13 : MCode := (.region [⟨(some 58), .mv (.tmp 0), none⟩,
   ⟨(some 59), .fld 1 (.tmp 5), none⟩,
   ⟨(some 60), .loadN 7 (.tmp 59), none⟩,
   ⟨(some 61), .call 15 [(.tmp 58), (.tmp 60)], none⟩,
   ⟨(some 8), .mv (.tmp 61), none⟩] [])
def c_law33_does_12 : MCode := .seq (.region [⟨(some 48), .mv (.tmp 1), none⟩,
   ⟨(some 49), .mv (.tmp 1), none⟩,
   ⟨(some 50), .nilCheck (.tmp 49), none⟩,
   ⟨(some 51), .loadN 1 (.tmp 50), none⟩,
   ⟨(some 52), .fld 1 (.tmp 5), none⟩,
   ⟨(some 53), .loadN 7 (.tmp 52), none⟩,
   ⟨(some 54), .call 32 [(.tmp 51), (.tmp 53), (.const (.bool true))], none⟩,
   ⟨(some 47), .mv (.tmp 54), none⟩,
   ⟨(some 55), .ext (.tmp 47) 0, none⟩,
   ⟨(some 56), .ext (.tmp 47) 1, none⟩,
   ⟨(some 57), .nilCheck (.tmp 48), none⟩,
   ⟨none, .store 1 (.tmp 57) (.tmp 55), none⟩,
   ⟨(some 7), .mv (.tmp 56), none⟩] []) c_law33_does_13
def c_law33_does_17 : MCode := (.region [⟨(some 78), .mv (.tmp 0), none⟩,
   ⟨(some 79), .fld 1 (.tmp 5), none⟩,
   ⟨(some 80), .fld 0 (.tmp 79), none⟩,
   ⟨(some 81), .load1 (.tmp 80), none⟩,
   ⟨(some 82), .fld 8 (.tmp 5), none⟩,
   ⟨(some 83), .loadN 3 (.tmp 82), none⟩,
   ⟨(some 84), .call 12 [(.tmp 78), (.tmp 81), (.tmp 83)], none⟩,
   ⟨(some 8), .mv (.tmp 84), none⟩] [])
def c_law33_does_16 : MCode := .seq (.region [⟨(some 65), .mv (.tmp 1), none⟩,
   ⟨(some 66), .mv (.tmp 1), none⟩,
   ⟨(some 67), .nilCheck (.tmp 66), none⟩,
   ⟨(some 68), .loadN 1 (.tmp 67), none⟩,
   ⟨(some 69), .fld 1 (.tmp 5), none⟩,
   ⟨(some 70), .fld 0 (.tmp 69), none⟩,
   ⟨(some 71), .load1 (.tmp 70), none⟩,
   ⟨(some 72), .fld 8 (.tmp 5), none⟩,
   ⟨(some 73), .loadN 3 (.tmp 72), none⟩,
   ⟨(some 74), .call 33 [(.tmp 68), (.tmp 71), (.tmp 73)], none⟩,
   ⟨(some 64), .mv (.tmp 74), none⟩,
   ⟨(some 75), .ext (.tmp 64) 0, none⟩,
   ⟨(some 76), .ext (.tmp 64) 1, none⟩,
   ⟨(some 77), .nilCheck (.tmp 65), none⟩,
   ⟨none, .store 1 (.tmp 77) (.tmp 75), none⟩,
   ⟨(some 7), .mv (.tmp 76), none⟩] []) c_law33_does_17
def c_law33_does_21 : MCode := (.region [⟨(some 101), .mv (.tmp 0), none⟩,
   ⟨(some 102), .fld 1 (.tmp 5), none⟩,
   ⟨(some 103), .fld 0 (.tmp 102), none⟩,
   ⟨(some 104), .load1 (.tmp 103), none⟩,
   ⟨(some 105), .fld 11 (.tmp 5), none⟩,
   ⟨(some 106), .load1 (.tmp 105), none⟩,
   ⟨(some 107), .call 13 [(.tmp 101), (.tmp 104), (.tmp 106)], none⟩,
   ⟨(some 8), .mv (.tmp 107), none⟩] [])
def c_law33_does_20 : MCode := .seq (.region [⟨(some 88), .mv (.tmp 1), none⟩,
   ⟨(some 89), .mv (.tmp 1), none⟩,
   ⟨(some 90), .nilCheck (.tmp 89), none⟩,
   ⟨(some 91), .loadN 1 (.tmp 90), none⟩,
   ⟨(some 92), .fld 1 (.tmp 5), none⟩,
   ⟨(some 93), .fld 0 (.tmp 92), none⟩,
   ⟨(some 94), .load1 (.tmp 93), none⟩,
   ⟨(some 95), .fld 11 (.tmp 5), none⟩,
   ⟨(some 96), .load1 (.tmp 95), none⟩,
   ⟨(some 97), .call 34 [(.tmp 91), (.tmp 94), (.tmp 96)], none⟩,
   ⟨(some 87), .mv (.tmp 97), none⟩,
   ⟨(some 98), .ext (.tmp 87) 0, none⟩,
   ⟨(some 99), .ext (.tmp 87) 1, none⟩,
   ⟨(some 100), .nilCheck (.tmp 88), none⟩,
   ⟨none, .store 1 (.tmp 100) (.tmp 98), none⟩,
   ⟨(some 7), .mv (.tmp 99), none⟩] []) c_law33_does_21
def c_law33_does_24 : MCode := .seq (.region [⟨(some 19), .mv (.tmp 0), none⟩,
   ⟨(some 20), .call 26 [(.tmp 19)], none⟩,
   ⟨(some 21), .mv (.tmp 9), none⟩,
   ⟨(some 22), .call 18 [(.tmp 20), (.tmp 21)], none⟩,
   ⟨(some 23), .mv (.tmp 22), none⟩,
   ⟨(some 24), .mv (.tmp 0), (some (23, true))⟩,
   ⟨(some 25), .call 24 [(.tmp 24)], (some (23, true))⟩,
   ⟨(some 26), .ar .eql (.tmp 25) (.const (.int .i64 0)), (some (23, true))⟩,
   ⟨(some 27), .pick (.tmp 23) (.tmp 26) (.const (.bool false)), none⟩,
   ⟨(some 6), .mv (.tmp 27), none⟩] []) .ret
def c_law33_does_23 : MCode := .seq (.region [⟨(some 16), .mv (.tmp 1), none⟩,
   ⟨(some 17), .build [(.slice none 0 0)] [], none⟩,
   ⟨(some 18), .nilCheck (.tmp 16), none⟩,
   ⟨none, .store 1 (.tmp 18) (.tmp 17), none⟩] []) c_law33_does_24
def c_law33_does_22 : MCode := .seq (.region [⟨(some 12), .mv (.tmp 1), none⟩,
   ⟨(some 13), .nilCheck (.tmp 12), none⟩,
   ⟨(some 14), .loadN 1 (.tmp 13), none⟩,
   ⟨(some 15), .call 23 [(.tmp 14)], none⟩,
   ⟨(some 9), .mv (.tmp 15), none⟩] []) c_law33_does_23
def c_law33_does_19 : MCode := .cond (.tmp 85) c_law33_does_20 c_law33_does_22
def c_law33_does_18 : MCode := .seq (.region [⟨(some 86), .ar .eql (.tmp 11) (.const (.int .i64 3)), none⟩,
   ⟨(some 85), .mv (.tmp 86), none⟩] []) c_law33_does_19
def c_law33_does_15 : MCode := .cond (.tmp 62) c_law33_does_16 c_law33_does_18
def c_law33_does_14 : MCode := .seq (.region [⟨(some 63), .ar .eql (.tmp 11) (.const (.int .i64 2)), none⟩,
   ⟨(some 62), .mv (.tmp 63), none⟩] []) c_law33_does_15
def c_law33_does_11 : MCode := .cond (.tmp 45) c_law33_does_12 c_law33_does_14
def c_law33_does_10 : MCode := .seq (.region [⟨(some 46), .ar .eql (.tmp 11) (.const (.int .i64 1)), none⟩,
   ⟨(some 45), .mv (.tmp 46), none⟩] []) c_law33_does_11
def c_law33_does_7 : MCode := .cond (.tmp 28) c_law33_does_8 c_law33_does_10
def c_law33_does_6 : MCode := .seq (.region [⟨(some 29), .ar .eql (.tmp 11) (.const (.int .i64 0)), none⟩,
   ⟨(some 28), .mv (.tmp 29), none⟩] []) c_law33_does_7
def c_law33_does_5 : MCode := .block 0 c_law33_does_6
def c_law33_does_4 : MCode := .seq (.region [⟨(some 10), .fld 0 (.tmp 5), none⟩,
   ⟨(some 11), .load1 (.tmp 10), none⟩] []) c_law33_does_5
def c_law33_does_25 : MCode := .seq (.region [⟨(some 108), .mv (.tmp 8), none⟩,
   ⟨(some 109), .mv (.tmp 7), none⟩,
   ⟨(some 110), .ar .eql (.tmp 108) (.tmp 109), none⟩,
   ⟨(some 6), .mv (.tmp 110), none⟩] []) .ret
def c_law33_does_3 : MCode := .seq c_law33_does_4 c_law33_does_25
def c_law33_does_2 : MCode := .seq (.region [⟨(some 8), .mv (.const (.int .i64 0)), none⟩] []) c_law33_does_3
def c_law33_does_1 : MCode := .seq (.region [⟨(some 7), .mv (.const (.int .i64 0)), none⟩] []) c_law33_does_2
def c_law33_does_0 : MCode := .seq (.region [⟨(some 5), .box (.tmp 2), none⟩,
   ⟨(some 6), .mv (.const (.bool false)), none⟩] []) c_law33_does_1
/-- trefoil/trefoillaw33.does -/
def M_law33_does : MFun := ⟨3, c_law33_does_0, [.tmp 6]⟩
abbrev F_law33_does : Nat := 16
set_option maxRecDepth 100000 in
theorem m_law33_does : InProg Try.prog 0 16 M_law33_does := ⟨Try.f16, [], Try.func16, by kernel_rfl⟩
def c_ref33_Table_Both_9 : MCode := .cond (.tmp 12) .skip (.exit 0)
def c_ref33_Table_Both_8 : MCode := .seq (.region [⟨(some 8), .mv (.tmp 6), none⟩,
   ⟨(some 9), .fld 0 (.tmp 1), none⟩,
   ⟨(some 10), .load1 (.tmp 9), none⟩,
   ⟨(some 11), .lenV (.tmp 10), none⟩,
   ⟨(some 12), .ar .lss (.tmp 8) (.tmp 11), none⟩] []) c_ref33_Table_Both_9
def c_ref33_Table_Both_15 : MCode := .cond (.tmp 32) (.exit 1) .skip
def c_ref33_Table_Both_14 : MCode := .seq (.region [⟨(some 20), .fld 17 (.tmp 7), none⟩,
   ⟨(some 21), .load1 (.tmp 20), none⟩,
   ⟨(some 22), .ar .neq (.tmp 21) (.const (.int .i64 1)), none⟩,
   ⟨(some 23), .mv (.tmp 22), none⟩,
   ⟨(some 24), .fld 15 (.tmp 7), (some (23, false))⟩,
   ⟨(some 25), .load1 (.tmp 24), (some (23, false))⟩,
   ⟨(some 26), .un .not (.tmp 25), (some (23, false))⟩,
   ⟨(some 27), .pick (.tmp 23) (.const (.bool true)) (.tmp 26), none⟩,
   ⟨(some 28), .mv (.tmp 27), none⟩,
   ⟨(some 29), .fld 16 (.tmp 7), (some (28, false))⟩,
   ⟨(some 30), .load1 (.tmp 29), (some (28, false))⟩,
   ⟨(some 31), .un .not (.tmp 30), (some (28, false))⟩,
   ⟨(some 32), .pick (.tmp 28) (.const (.bool true)) (.tmp 31), none⟩] []) c_ref33_Table_Both_15
def c_ref33_Table_Both_18 : MCode := (.region [⟨(some 49), .mv (.tmp 4), none⟩,
   ⟨(some 50), .fld 1 (.tmp 7), none⟩,
   ⟨(some 51), .loadN 7 (.tmp 50), none⟩,
   ⟨(some 52), .buildSlice [(.int .i64 0), (.int .i64 0), (.int .i64 0), (.int .i64 0), (.int .i64 0), (.int .i64 0), (.int .i64 0)] 1 [(0, 7, (.tmp 51))], none⟩,
   ⟨(some 53), .app 7 56 (.tmp 49) (.tmp 52), none⟩,
   ⟨(some 4), .mv (.tmp 53), none⟩] [])
def c_ref33_Table_Both_19 : MCode := (.region [⟨(some 54), .mv (.tmp 5), none⟩,
   ⟨(some 55), .fld 0 (.tmp 7), none⟩,
   ⟨(some 56), .load1 (.tmp 55), none⟩,
   ⟨(some 57), .buildSlice [(.int .i64 0)] 1 [(0, 1, (.tmp 56))], none⟩,
   ⟨(some 58), .app 1 8 (.tmp 54) (.tmp 57), none⟩,
   ⟨(some 5), .mv (.tmp 58), none⟩] [])
def c_ref33_Table_Both_17 : MCode := .cond (.tmp 48) c_ref33_Table_Both_18 c_ref33_Table_Both_19
def c_ref33_Table_Both_16 : MCode := .seq (.region [⟨(some 33), .fld 1 (.tmp 7), none⟩,
   ⟨(some 34), .fld 1 (.tmp 33), none⟩,
   ⟨(some 35), .loadN 5 (.tmp 34), none⟩,
   ⟨(some 36), .fld 8 (.tmp 7), none⟩,
   ⟨(some 37), .fld 1 (.tmp 36), none⟩,
   ⟨(some 38), .loadN 5 (.tmp 37), none⟩,
   ⟨(some 39), .eq false (.plain (.st [(0, 1, false, .int), (1, 1, false, .int), (2, 1, false, .int), (3, 1, false, .int), (4, 1, false, .int)])) (.tmp 35) (.tmp 38), none⟩,
   ⟨(some 40), .mv (.tmp 39), none⟩,
   ⟨(some 41), .fld 1 (.tmp 7), (some (40, true))⟩,
   ⟨(some 42), .fld 6 (.tmp 41), (some (40, true))⟩,
   ⟨(some 43), .load1 (.tmp 42), (some (40, true))⟩,
   ⟨(some 44), .fld 8 (.tmp 7), (some (40, true))⟩,
   ⟨(some 45), .fld 6 (.tmp 44), (some (40, true))⟩,
   ⟨(some 46), .load1 (.tmp 45), (some (40, true))⟩,
   ⟨(some 47), .ar .eql (.tmp 43) (.tmp 46), (some (40, true))⟩,
   ⟨(some 48), .pick (.tmp 40) (.tmp 47) (.const (.bool false)), none⟩] []) c_ref33_Table_Both_17
def c_ref33_Table_Both_13 : MCode := .seq c_ref33_Table_Both_14 c_ref33_Table_Both_16
def c_ref33_Table_Both_12 : MCode := .seq (.region [⟨(some 15), .fld 0 (.tmp 1), none⟩,
   ⟨(some 16), .load1 (.tmp 15), none⟩,
   ⟨(some 17), .mv (.tmp 6), none⟩,
   ⟨(some 18), .ixV 22 (.tmp 16) (.tmp 17), none⟩,
   ⟨(some 19), .loadN 22 (.tmp 18), none⟩,
   ⟨(some 7), .new [(.int .i64 0), (.int .i64 0), (.int .i64 0), (.int .i64 0), (.int .i64 0), (.int .i64 0), (.int .i64 0), (.int .i64 0), (.int .i64 0), (.int .i64 0), (.int .i64 0), (.int .i64 0), (.int .i64 0), (.int .i64 0), (.int .i64 0), (.bool false), (.bool false), (.int .i64 0), (.int .i64 0), (.int .i64 0), (.int .i64 0), (.int .i64 0)], none⟩,
   ⟨none, .store 22 (.tmp 7) (.tmp 19), none⟩] []) c_ref33_Table_Both_13
def c_ref33_Table_Both_11 : MCode := .block 1 c_ref33_Table_Both_12
def c_ref33_Table_Both_20 : MCode := (.region [⟨(some 13), .mv (.tmp 6), none⟩,
   ⟨(some 14), .ar .add (.tmp 13) (.const (.int .i64 1)), none⟩,
   ⟨(some 6), .mv (.tmp 14), none⟩] [])
def c_ref33_Table_Both_10 : MCode := .seq c_ref33_Table_Both_11 c_ref33_Table_Both_20
def c_ref33_Table_Both_7 : MCode := .seq c_ref33_Table_Both_8 c_ref33_Table_Both_10
def c_ref33_Table_Both_6 : MCode := .loop [1, 4, 5, 6] c_ref33_Table_Both_7
def c_ref33_Table_Both_5 : MCode := .block 0 c_ref33_Table_Both_6
def c_ref33_Table_Both_4 : MCode := .seq (.region [⟨(some 6), .mv (.const (.int .i64 0)), none⟩] []) c_ref33_Table_Both_5
def c_ref33_Table_Both_21 : MCode := .seq (.region [⟨(some 59), .mv (.tmp 4), none⟩,
   ⟨(some 60), .mv (.tmp 5), none⟩,
   ⟨(some 2), .mv (.tmp 59), none⟩,
   ⟨(some 3), .mv (.tmp 60), none⟩] []) .ret
def c_ref33_Table_Both_3 : MCode := .seq c_ref33_Table_Both_4 c_ref33_Table_Both_21
def c_ref33_Table_Both_2 : MCode := .seq (.region [⟨(some 5), .mv (.const (.slice none 0 0)), none⟩] []) c_ref33_Table_Both_3
def c_ref33_Table_Both_1 : MCode := .seq (.region [⟨(some 4), .mv (.const (.slice none 0 0)), none⟩] []) c_ref33_Table_Both_2
def c_ref33_Table_Both_0 : MCode := .seq (.region [⟨(some 1), .box (.tmp 0), none⟩,
   ⟨(some 2), .mv (.const (.slice none 0 0)), none⟩,
   ⟨(some 3), .mv (.const (.slice none 0 0)), none⟩] []) c_ref33_Table_Both_1
/-- (trefoil/trefoilref33.Table).Both -/
def M_ref33_Table_Both : MFun := ⟨1, c_ref33_Table_Both_0, [.tmp 2, .tmp 3]⟩
abbrev F_ref33_Table_Both : Nat := 17
set_option maxRecDepth 100000 in
theorem m_ref33_Table_Both : InProg Try.prog 0 17 M_ref33_Table_Both := ⟨Try.f17, [[1, 4, 5, 6]], Try.func17, by kernel_rfl⟩
def c_ref33_Tickets_4 : MCode := .seq (.region [⟨(some 4), .mv (.const (.bool false)), none⟩] []) .ret
def c_ref33_Tickets_3 : MCode := .cond (.tmp 10) c_ref33_Tickets_4 .skip
def c_ref33_Tickets_2 : MCode := .seq (.region [⟨(some 6), .mv (.tmp 0), none⟩,
   ⟨(some 7), .lenV (.tmp 6), none⟩,
   ⟨(some 8), .mv (.tmp 1), none⟩,
   ⟨(some 9), .lenV (.tmp 8), none⟩,
   ⟨(some 10), .ar .neq (.tmp 7) (.tmp 9), none⟩] []) c_ref33_Tickets_3
def c_ref33_Tickets_11 : MCode := .cond (.tmp 14) .skip (.exit 0)
def c_ref33_Tickets_10 : MCode := .seq (.region [⟨(some 11), .mv (.tmp 5), none⟩,
   ⟨(some 12), .mv (.tmp 0), none⟩,
   ⟨(some 13), .lenV (.tmp 12), none⟩,
   ⟨(some 14), .ar .lss (.tmp 11) (.tmp 13), none⟩] []) c_ref33_Tickets_11
def c_ref33_Tickets_16 : MCode := .seq (.region [⟨(some 4), .mv (.const (.bool false)), none⟩] []) .ret
def c_ref33_Tickets_15 : MCode := .cond (.tmp 25) c_ref33_Tickets_16 .skip
def c_ref33_Tickets_14 : MCode := .seq (.region [⟨(some 17), .mv (.tmp 0), none⟩,
   ⟨(some 18), .mv (.tmp 5), none⟩,
   ⟨(some 19), .ixV 7 (.tmp 17) (.tmp 18), none⟩,
   ⟨(some 20), .loadN 7 (.tmp 19), none⟩,
   ⟨(some 21), .mv (.tmp 1), none⟩,
   ⟨(some 22), .mv (.tmp 5), none⟩,
   ⟨(some 23), .ixV 7 (.tmp 21) (.tmp 22), none⟩,
   ⟨(some 24), .loadN 7 (.tmp 23), none⟩,
   ⟨(some 25), .eq true (.plain (.st [(0, 1, false, .int), (1, 5, true, (.st [(0, 1, false, .int), (1, 1, false, .int), (2, 1, false, .int), (3, 1, false, .int), (4, 1, false, .int)])), (6, 1, false, .int)])) (.tmp 20) (.tmp 24), none⟩] []) c_ref33_Tickets_15
def c_ref33_Tickets_13 : MCode := .block 1 c_ref33_Tickets_14
def c_ref33_Tickets_17 : MCode := (.region [⟨(some 15), .mv (.tmp 5), none⟩,
   ⟨(some 16), .ar .add (.tmp 15) (.const (.int .i64 1)), none⟩,
   ⟨(some 5), .mv (.tmp 16), none⟩] [])
def c_ref33_Tickets_12 : MCode := .seq c_ref33_Tickets_13 c_ref33_Tickets_17
def c_ref33_Tickets_9 : MCode := .seq c_ref33_Tickets_10 c_ref33_Tickets_12
def c_ref33_Tickets_8 : MCode := .loop [0, 1, 5] c_ref33_Tickets_9
def c_ref33_Tickets_7 : MCode := .block 0 c_ref33_Tickets_8
def c_ref33_Tickets_6 : MCode := .seq (.region [⟨(some 5), .mv (.const (.int .i64 0)), none⟩] []) c_ref33_Tickets_7
def c_ref33_Tickets_18 : MCode := .seq (.region [⟨(some 4), .mv (.const (.bool true)), none⟩] []) .ret
def c_ref33_Tickets_5 : MCode := .seq c_ref33_Tickets_6 c_ref33_Tickets_18
def c_ref33_Tickets_1 : MCode := .seq c_ref33_Tickets_2 c_ref33_Tickets_5
def c_ref33_Tickets_0 : MCode := .seq (.region [⟨(some 4), .mv (.const (.bool false)), none⟩] []) c_ref33_Tickets_1
/-- trefoil/trefoilref33.Tickets -/
def M_ref33_Tickets : MFun := ⟨2, c_ref33_Tickets_0, [.tmp 4]⟩
abbrev F_ref33_Tickets : Nat := 18
set_option maxRecDepth 100000 in
theorem m_ref33_Tickets : InProg Try.prog 0 18 M_ref33_Tickets := ⟨Try.f18, [[0, 1, 5]], Try.func18, by kernel_rfl⟩
def c_serve_Table_Matched_4 : MCode := .seq (.region [⟨(some 2), .mv (.const (.slice none 0 0)), none⟩] []) .ret
def c_serve_Table_Matched_3 : MCode := .cond (.tmp 7) c_serve_Table_Matched_4 .skip
def c_serve_Table_Matched_2 : MCode := .seq (.region [⟨(some 6), .mv (.tmp 0), none⟩,
   ⟨(some 7), .eq false .ptr (.tmp 6) (.const (.pointer none)), none⟩] []) c_serve_Table_Matched_3
def c_serve_Table_Matched_12 : MCode := .cond (.tmp 12) .skip (.exit 0)
def c_serve_Table_Matched_18 : MCode := (.region [⟨(some 24), .mv (.tmp 3), none⟩,
   ⟨(some 25), .mv (.tmp 5), none⟩,
   ⟨(some 26), .nilCheck (.tmp 25), none⟩,
   ⟨(some 27), .fld 0 (.tmp 26), none⟩,
   ⟨(some 28), .loadN 7 (.tmp 27), none⟩,
   ⟨(some 29), .buildSlice [(.int .i64 0), (.int .i64 0), (.int .i64 0), (.int .i64 0), (.int .i64 0), (.int .i64 0), (.int .i64 0)] 1 [(0, 7, (.tmp 28))], none⟩,
   ⟨(some 30), .app 7 56 (.tmp 24) (.tmp 29), none⟩,
   ⟨(some 3), .mv (.tmp 30), none⟩] [])
def c_serve_Table_Matched_17 : MCode := .cond (.tmp 23) c_serve_Table_Matched_18 .skip
def c_serve_Table_Matched_16 : MCode := .seq (.region [⟨(some 15), .mv (.tmp 5), none⟩,
   ⟨(some 16), .nilCheck (.tmp 15), none⟩,
   ⟨(some 17), .fld 0 (.tmp 16), none⟩,
   ⟨(some 18), .loadN 7 (.tmp 17), none⟩,
   ⟨(some 19), .mv (.tmp 5), none⟩,
   ⟨(some 20), .nilCheck (.tmp 19), none⟩,
   ⟨(some 21), .fld 7 (.tmp 20), none⟩,
   ⟨(some 22), .loadN 7 (.tmp 21), none⟩,
   ⟨(some 23), .eq false (.plain (.st [(0, 1, false, .int), (1, 5, true, (.st [(0, 1, false, .int), (1, 1, false, .int), (2, 1, false, .int), (3, 1, false, .int), (4, 1, false, .int)])), (6, 1, false, .int)])) (.tmp 18) (.tmp 22), none⟩] []) c_serve_Table_Matched_17
def c_serve_Table_Matched_15 : MCode := .seq (.region [⟨(some 13), .ixV 1 (.tmp 9) (.tmp 11), none⟩,
   ⟨(some 14), .load1 (.tmp 13), none⟩,
   ⟨(some 5), .mv (.tmp 14), none⟩] []) c_serve_Table_Matched_16
def c_serve_Table_Matched_14 : MCode := .block 1 c_serve_Table_Matched_15
def c_serve_Table_Matched_19 : MCode := (.region [⟨(some 31), .ar .add (.tmp 11) (.const (.int .i64 1)), none⟩,
   ⟨(some 11), .mv (.tmp 31), none⟩] [])
def c_serve_Table_Matched_13 : MCode := .seq c_serve_Table_Matched_14 c_serve_Table_Matched_19
def c_serve_Table_Matched_11 : MCode := .seq c_serve_Table_Matched_12 c_serve_Table_Matched_13
def c_serve_Table_Matched_10 : MCode := .seq (.region [⟨(some 12), .ar .lss (.tmp 11) (.tmp 10), none⟩] []) c_serve_Table_Matched_11
def c_serve_Table_Matched_9 : MCode := .loop [3, 9, 10, 11] c_serve_Table_Matched_10
def c_serve_Table_Matched_8 : MCode := .block 0 c_serve_Table_Matched_9
def c_serve_Table_Matched_7 : MCode := .seq (.region [⟨(some 8), .mv (.tmp 0), none⟩,
   ⟨(some 9), .call 35 [(.tmp 8)], none⟩,
   ⟨(some 10), .lenV (.tmp 9), none⟩,
   ⟨(some 11), .mv (.const (.int .i64 0)), none⟩] []) c_serve_Table_Matched_8
def c_serve_Table_Matched_20 : MCode := .seq (.region [⟨(some 32), .mv (.tmp 3), none⟩,
   ⟨(some 2), .mv (.tmp 32), none⟩] []) .ret
def c_serve_Table_Matched_6 : MCode := .seq c_serve_Table_Matched_7 c_serve_Table_Matched_20
def c_serve_Table_Matched_5 : MCode := .seq (.region [⟨(some 3), .mv (.const (.slice none 0 0)), none⟩] []) c_serve_Table_Matched_6
def c_serve_Table_Matched_1 : MCode := .seq c_serve_Table_Matched_2 c_serve_Table_Matched_5
def c_serve_Table_Matched_0 : MCode := .seq (.region [⟨(some 2), .mv (.const (.slice none 0 0)), none⟩] []) c_serve_Table_Matched_1
/-- (*trefoil/serve.Table).Matched -/
def M_serve_Table_Matched : MFun := ⟨1, c_serve_Table_Matched_0, [.tmp 2]⟩
abbrev F_serve_Table_Matched : Nat := 19
set_option maxRecDepth 100000 in
theorem m_serve_Table_Matched : InProg Try.prog 0 19 M_serve_Table_Matched := ⟨Try.f19, [[3, 9, 10, 11]], Try.func19, by kernel_rfl⟩
def c_ref01_Ints_4 : MCode := .seq (.region [⟨(some 4), .mv (.const (.bool false)), none⟩] []) .ret
def c_ref01_Ints_3 : MCode := .cond (.tmp 10) c_ref01_Ints_4 .skip
def c_ref01_Ints_2 : MCode := .seq (.region [⟨(some 6), .mv (.tmp 0), none⟩,
   ⟨(some 7), .lenV (.tmp 6), none⟩,
   ⟨(some 8), .mv (.tmp 1), none⟩,
   ⟨(some 9), .lenV (.tmp 8), none⟩,
   ⟨(some 10), .ar .neq (.tmp 7) (.tmp 9), none⟩] []) c_ref01_Ints_3
def c_ref01_Ints_11 : MCode := .cond (.tmp 14) .skip (.exit 0)
def c_ref01_Ints_10 : MCode := .seq (.region [⟨(some 11), .mv (.tmp 5), none⟩,
   ⟨(some 12), .mv (.tmp 0), none⟩,
   ⟨(some 13), .lenV (.tmp 12), none⟩,
   ⟨(some 14), .ar .lss (.tmp 11) (.tmp 13), none⟩] []) c_ref01_Ints_11
def c_ref01_Ints_16 : MCode := .seq (.region [⟨(some 4), .mv (.const (.bool false)), none⟩] []) .ret
def c_ref01_Ints_15 : MCode := .cond (.tmp 25) c_ref01_Ints_16 .skip
def c_ref01_Ints_14 : MCode := .seq (.region [⟨(some 17), .mv (.tmp 0), none⟩,
   ⟨(some 18), .mv (.tmp 5), none⟩,
   ⟨(some 19), .ixV 1 (.tmp 17) (.tmp 18), none⟩,
   ⟨(some 20), .load1 (.tmp 19), none⟩,
   ⟨(some 21), .mv (.tmp 1), none⟩,
   ⟨(some 22), .mv (.tmp 5), none⟩,
   ⟨(some 23), .ixV 1 (.tmp 21) (.tmp 22), none⟩,
   ⟨(some 24), .load1 (.tmp 23), none⟩,
   ⟨(some 25), .ar .neq (.tmp 20) (.tmp 24), none⟩] []) c_ref01_Ints_15
def c_ref01_Ints_13 : MCode := .block 1 c_ref01_Ints_14
def c_ref01_Ints_17 : MCode := (.region [⟨(some 15), .mv (.tmp 5), none⟩,
   ⟨(some 16), .ar .add (.tmp 15) (.const (.int .i64 1)), none⟩,
   ⟨(some 5), .mv (.tmp 16), none⟩] [])
def c_ref01_Ints_12 : MCode := .seq c_ref01_Ints_13 c_ref01_Ints_17
def c_ref01_Ints_9 : MCode := .seq c_ref01_Ints_10 c_ref01_Ints_12
def c_ref01_Ints_8 : MCode := .loop [0, 1, 5] c_ref01_Ints_9
def c_ref01_Ints_7 : MCode := .block 0 c_ref01_Ints_8
def c_ref01_Ints_6 : MCode := .seq (.region [⟨(some 5), .mv (.const (.int .i64 0)), none⟩] []) c_ref01_Ints_7
def c_ref01_Ints_18 : MCode := .seq (.region [⟨(some 4), .mv (.const (.bool true)), none⟩] []) .ret
def c_ref01_Ints_5 : MCode := .seq c_ref01_Ints_6 c_ref01_Ints_18
def c_ref01_Ints_1 : MCode := .seq c_ref01_Ints_2 c_ref01_Ints_5
def c_ref01_Ints_0 : MCode := .seq (.region [⟨(some 4), .mv (.const (.bool false)), none⟩] []) c_ref01_Ints_1
/-- trefoil/trefoilref01.Ints -/
def M_ref01_Ints : MFun := ⟨2, c_ref01_Ints_0, [.tmp 4]⟩
abbrev F_ref01_Ints : Nat := 20
set_option maxRecDepth 100000 in
theorem m_ref01_Ints : InProg Try.prog 0 20 M_ref01_Ints := ⟨Try.f20, [[0, 1, 5]], Try.func20, by kernel_rfl⟩
def c_serve_Table_Unlike_4 : MCode := .seq (.region [⟨(some 2), .mv (.const (.slice none 0 0)), none⟩] []) .ret
def c_serve_Table_Unlike_3 : MCode := .cond (.tmp 7) c_serve_Table_Unlike_4 .skip
def c_serve_Table_Unlike_2 : MCode := .seq (.region [⟨(some 6), .mv (.tmp 0), none⟩,
   ⟨(some 7), .eq false .ptr (.tmp 6) (.const (.pointer none)), none⟩] []) c_serve_Table_Unlike_3
def c_serve_Table_Unlike_12 : MCode := .cond (.tmp 12) .skip (.exit 0)
def c_serve_Table_Unlike_18 : MCode := (.region [⟨(some 24), .mv (.tmp 3), none⟩,
   ⟨(some 25), .mv (.tmp 5), none⟩,
   ⟨(some 26), .nilCheck (.tmp 25), none⟩,
   ⟨(some 27), .fld 0 (.tmp 26), none⟩,
   ⟨(some 28), .fld 0 (.tmp 27), none⟩,
   ⟨(some 29), .load1 (.tmp 28), none⟩,
   ⟨(some 30), .buildSlice [(.int .i64 0)] 1 [(0, 1, (.tmp 29))], none⟩,
   ⟨(some 31), .app 1 8 (.tmp 24) (.tmp 30), none⟩,
   ⟨(some 3), .mv (.tmp 31), none⟩] [])
def c_serve_Table_Unlike_17 : MCode := .cond (.tmp 23) c_serve_Table_Unlike_18 .skip
def c_serve_Table_Unlike_16 : MCode := .seq (.region [⟨(some 15), .mv (.tmp 5), none⟩,
   ⟨(some 16), .nilCheck (.tmp 15), none⟩,
   ⟨(some 17), .fld 0 (.tmp 16), none⟩,
   ⟨(some 18), .loadN 7 (.tmp 17), none⟩,
   ⟨(some 19), .mv (.tmp 5), none⟩,
   ⟨(some 20), .nilCheck (.tmp 19), none⟩,
   ⟨(some 21), .fld 7 (.tmp 20), none⟩,
   ⟨(some 22), .loadN 7 (.tmp 21), none⟩,
   ⟨(some 23), .eq true (.plain (.st [(0, 1, false, .int), (1, 5, true, (.st [(0, 1, false, .int), (1, 1, false, .int), (2, 1, false, .int), (3, 1, false, .int), (4, 1, false, .int)])), (6, 1, false, .int)])) (.tmp 18) (.tmp 22), none⟩] []) c_serve_Table_Unlike_17
def c_serve_Table_Unlike_15 : MCode := .seq (.region [⟨(some 13), .ixV 1 (.tmp 9) (.tmp 11), none⟩,
   ⟨(some 14), .load1 (.tmp 13), none⟩,
   ⟨(some 5), .mv (.tmp 14), none⟩] []) c_serve_Table_Unlike_16
def c_serve_Table_Unlike_14 : MCode := .block 1 c_serve_Table_Unlike_15
def c_serve_Table_Unlike_19 : MCode := (.region [⟨(some 32), .ar .add (.tmp 11) (.const (.int .i64 1)), none⟩,
   ⟨(some 11), .mv (.tmp 32), none⟩] [])
def c_serve_Table_Unlike_13 : MCode := .seq c_serve_Table_Unlike_14 c_serve_Table_Unlike_19
def c_serve_Table_Unlike_11 : MCode := .seq c_serve_Table_Unlike_12 c_serve_Table_Unlike_13
def c_serve_Table_Unlike_10 : MCode := .seq (.region [⟨(some 12), .ar .lss (.tmp 11) (.tmp 10), none⟩] []) c_serve_Table_Unlike_11
def c_serve_Table_Unlike_9 : MCode := .loop [3, 9, 10, 11] c_serve_Table_Unlike_10
def c_serve_Table_Unlike_8 : MCode := .block 0 c_serve_Table_Unlike_9
def c_serve_Table_Unlike_7 : MCode := .seq (.region [⟨(some 8), .mv (.tmp 0), none⟩,
   ⟨(some 9), .call 35 [(.tmp 8)], none⟩,
   ⟨(some 10), .lenV (.tmp 9), none⟩,
   ⟨(some 11), .mv (.const (.int .i64 0)), none⟩] []) c_serve_Table_Unlike_8
def c_serve_Table_Unlike_20 : MCode := .seq (.region [⟨(some 33), .mv (.tmp 3), none⟩,
   ⟨(some 2), .mv (.tmp 33), none⟩] []) .ret
def c_serve_Table_Unlike_6 : MCode := .seq c_serve_Table_Unlike_7 c_serve_Table_Unlike_20
def c_serve_Table_Unlike_5 : MCode := .seq (.region [⟨(some 3), .mv (.const (.slice none 0 0)), none⟩] []) c_serve_Table_Unlike_6
def c_serve_Table_Unlike_1 : MCode := .seq c_serve_Table_Unlike_2 c_serve_Table_Unlike_5
def c_serve_Table_Unlike_0 : MCode := .seq (.region [⟨(some 2), .mv (.const (.slice none 0 0)), none⟩] []) c_serve_Table_Unlike_1
/-- (*trefoil/serve.Table).Unlike -/
def M_serve_Table_Unlike : MFun := ⟨1, c_serve_Table_Unlike_0, [.tmp 2]⟩
abbrev F_serve_Table_Unlike : Nat := 21
set_option maxRecDepth 100000 in
theorem m_serve_Table_Unlike : InProg Try.prog 0 21 M_serve_Table_Unlike := ⟨Try.f21, [[3, 9, 10, 11]], Try.func21, by kernel_rfl⟩
def c_serve_Table_Waiting_4 : MCode := .seq (.region [⟨(some 2), .mv (.const (.slice none 0 0)), none⟩] []) .ret
def c_serve_Table_Waiting_3 : MCode := .cond (.tmp 8) c_serve_Table_Waiting_4 .skip
def c_serve_Table_Waiting_2 : MCode := .seq (.region [⟨(some 7), .mv (.tmp 0), none⟩,
   ⟨(some 8), .eq false .ptr (.tmp 7) (.const (.pointer none)), none⟩] []) c_serve_Table_Waiting_3
def c_serve_Table_Waiting_12 : MCode := .cond (.tmp 17) .skip (.exit 0)
def c_serve_Table_Waiting_19 : MCode := (.region [⟨(some 37), .mv (.tmp 3), none⟩,
   ⟨(some 38), .mv (.tmp 6), none⟩,
   ⟨(some 39), .nilCheck (.tmp 38), none⟩,
   ⟨(some 40), .fld 0 (.tmp 39), none⟩,
   ⟨(some 41), .loadN 7 (.tmp 40), none⟩,
   ⟨(some 42), .buildSlice [(.int .i64 0), (.int .i64 0), (.int .i64 0), (.int .i64 0), (.int .i64 0), (.int .i64 0), (.int .i64 0)] 1 [(0, 7, (.tmp 41))], none⟩,
   ⟨(some 43), .app 7 56 (.tmp 37) (.tmp 42), none⟩,
   ⟨(some 3), .mv (.tmp 43), none⟩] [])
def c_serve_Table_Waiting_18 : MCode := .cond (.tmp 36) c_serve_Table_Waiting_19 .skip
def c_serve_Table_Waiting_17 : MCode := .seq (.region [⟨(some 26), .mv (.tmp 6), none⟩,
   ⟨(some 27), .nilCheck (.tmp 26), none⟩,
   ⟨(some 28), .fld 14 (.tmp 27), none⟩,
   ⟨(some 29), .load1 (.tmp 28), none⟩,
   ⟨(some 30), .mv (.tmp 29), none⟩,
   ⟨(some 31), .mv (.tmp 6), (some (30, true))⟩,
   ⟨(some 32), .nilCheck (.tmp 31), (some (30, true))⟩,
   ⟨(some 33), .fld 17 (.tmp 32), (some (30, true))⟩,
   ⟨(some 34), .load1 (.tmp 33), (some (30, true))⟩,
   ⟨(some 35), .ar .eql (.tmp 34) (.const (.int .i64 1)), (some (30, true))⟩,
   ⟨(some 36), .pick (.tmp 30) (.tmp 35) (.const (.bool false)), none⟩] []) c_serve_Table_Waiting_18
def c_serve_Table_Waiting_16 : MCode := .seq (.region [⟨(some 20), .mv (.tmp 0), none⟩,
   ⟨(some 21), .nilCheck (.tmp 20), none⟩,
   ⟨(some 22), .fld 0 (.tmp 21), none⟩,
   ⟨(some 23), .load1 (.tmp 22), none⟩,
   ⟨(some 24), .mv (.tmp 5), none⟩,
   ⟨(some 25), .look .int (.pointer none) false (.tmp 23) (.tmp 24), none⟩,
   ⟨(some 6), .mv (.tmp 25), none⟩] []) c_serve_Table_Waiting_17
def c_serve_Table_Waiting_15 : MCode := .seq (.region [⟨(some 18), .ixV 1 (.tmp 14) (.tmp 16), none⟩,
   ⟨(some 19), .load1 (.tmp 18), none⟩,
   ⟨(some 5), .mv (.tmp 19), none⟩] []) c_serve_Table_Waiting_16
def c_serve_Table_Waiting_14 : MCode := .block 1 c_serve_Table_Waiting_15
def c_serve_Table_Waiting_20 : MCode := (.region [⟨(some 44), .ar .add (.tmp 16) (.const (.int .i64 1)), none⟩,
   ⟨(some 16), .mv (.tmp 44), none⟩] [])
def c_serve_Table_Waiting_13 : MCode := .seq c_serve_Table_Waiting_14 c_serve_Table_Waiting_20
def c_serve_Table_Waiting_11 : MCode := .seq c_serve_Table_Waiting_12 c_serve_Table_Waiting_13
def c_serve_Table_Waiting_10 : MCode := .seq (.region [⟨(some 17), .ar .lss (.tmp 16) (.tmp 15), none⟩] []) c_serve_Table_Waiting_11
def c_serve_Table_Waiting_9 : MCode := .loop [0, 3, 14, 15, 16] c_serve_Table_Waiting_10
def c_serve_Table_Waiting_8 : MCode := .block 0 c_serve_Table_Waiting_9
def c_serve_Table_Waiting_7 : MCode := .seq (.region [⟨(some 9), .mv (.tmp 0), none⟩,
   ⟨(some 10), .nilCheck (.tmp 9), none⟩,
   ⟨(some 11), .fld 0 (.tmp 10), none⟩,
   ⟨(some 12), .load1 (.tmp 11), none⟩,
   ⟨(some 13), .call 37 [(.tmp 12)], none⟩,
   ⟨(some 14), .call 36 [(.tmp 13)], none⟩,
   ⟨(some 15), .lenV (.tmp 14), none⟩,
   ⟨(some 16), .mv (.const (.int .i64 0)), none⟩] []) c_serve_Table_Waiting_8
def c_serve_Table_Waiting_21 : MCode := .seq (.region [⟨(some 45), .mv (.tmp 3), none⟩,
   ⟨(some 2), .mv (.tmp 45), none⟩] []) .ret
def c_serve_Table_Waiting_6 : MCode := .seq c_serve_Table_Waiting_7 c_serve_Table_Waiting_21
def c_serve_Table_Waiting_5 : MCode := .seq (.region [⟨(some 3), .mv (.const (.slice none 0 0)), none⟩] []) c_serve_Table_Waiting_6
def c_serve_Table_Waiting_1 : MCode := .seq c_serve_Table_Waiting_2 c_serve_Table_Waiting_5
def c_serve_Table_Waiting_0 : MCode := .seq (.region [⟨(some 2), .mv (.const (.slice none 0 0)), none⟩] []) c_serve_Table_Waiting_1
/-- (*trefoil/serve.Table).Waiting -/
def M_serve_Table_Waiting : MFun := ⟨1, c_serve_Table_Waiting_0, [.tmp 2]⟩
abbrev F_serve_Table_Waiting : Nat := 22
set_option maxRecDepth 100000 in
theorem m_serve_Table_Waiting : InProg Try.prog 0 22 M_serve_Table_Waiting := ⟨Try.f22, [[0, 3, 14, 15, 16]], Try.func22, by kernel_rfl⟩
def c_ref33_Table_Waiting_8 : MCode := .cond (.tmp 12) .skip (.exit 0)
def c_ref33_Table_Waiting_7 : MCode := .seq (.region [⟨(some 8), .mv (.tmp 4), none⟩,
   ⟨(some 9), .fld 0 (.tmp 1), none⟩,
   ⟨(some 10), .load1 (.tmp 9), none⟩,
   ⟨(some 11), .lenV (.tmp 10), none⟩,
   ⟨(some 12), .ar .lss (.tmp 8) (.tmp 11), none⟩] []) c_ref33_Table_Waiting_8
def c_ref33_Table_Waiting_14 : MCode := .cond (.tmp 27) (.exit 1) .skip
def c_ref33_Table_Waiting_13 : MCode := .seq (.region [⟨(some 20), .fld 15 (.tmp 5), none⟩,
   ⟨(some 21), .load1 (.tmp 20), none⟩,
   ⟨(some 22), .un .not (.tmp 21), none⟩,
   ⟨(some 23), .mv (.tmp 22), none⟩,
   ⟨(some 24), .fld 17 (.tmp 5), (some (23, false))⟩,
   ⟨(some 25), .load1 (.tmp 24), (some (23, false))⟩,
   ⟨(some 26), .ar .neq (.tmp 25) (.const (.int .i64 1)), (some (23, false))⟩,
   ⟨(some 27), .pick (.tmp 23) (.const (.bool true)) (.tmp 26), none⟩] []) c_ref33_Table_Waiting_14
def c_ref33_Table_Waiting_21 : MCode := .cond (.tmp 42) .skip (.exit 2)
def c_ref33_Table_Waiting_20 : MCode := .seq (.region [⟨(some 30), .mv (.tmp 6), none⟩,
   ⟨(some 31), .ar .gtr (.tmp 30) (.const (.int .i64 0)), none⟩,
   ⟨(some 32), .mv (.tmp 31), none⟩,
   ⟨(some 33), .mv (.tmp 3), (some (32, true))⟩,
   ⟨(some 34), .mv (.tmp 6), (some (32, true))⟩,
   ⟨(some 35), .ar .sub (.tmp 34) (.const (.int .i64 1)), (some (32, true))⟩,
   ⟨(some 36), .ixV 7 (.tmp 33) (.tmp 35), (some (32, true))⟩,
   ⟨(some 37), .fld 0 (.tmp 36), (some (32, true))⟩,
   ⟨(some 38), .load1 (.tmp 37), (some (32, true))⟩,
   ⟨(some 39), .fld 0 (.tmp 5), (some (32, true))⟩,
   ⟨(some 40), .load1 (.tmp 39), (some (32, true))⟩,
   ⟨(some 41), .ar .gtr (.tmp 38) (.tmp 40), (some (32, true))⟩,
   ⟨(some 42), .pick (.tmp 32) (.tmp 41) (.const (.bool false)), none⟩] []) c_ref33_Table_Waiting_21
def c_ref33_Table_Waiting_23 : MCode := (.region [⟨(some 43), .mv (.tmp 6), none⟩,
   ⟨(some 44), .ar .sub (.tmp 43) (.const (.int .i64 1)), none⟩,
   ⟨(some 6), .mv (.tmp 44), none⟩] [])
def c_ref33_Table_Waiting_22 : MCode := .block 3 c_ref33_Table_Waiting_23
def c_ref33_Table_Waiting_19 : MCode := .seq c_ref33_Table_Waiting_20 c_ref33_Table_Waiting_22
def c_ref33_Table_Waiting_18 : MCode := .loop [1, 3, 4, 5, 6] c_ref33_Table_Waiting_19
def c_ref33_Table_Waiting_17 : MCode := .block 2 c_ref33_Table_Waiting_18
def c_ref33_Table_Waiting_26 : MCode := (.region [⟨(some 55), .mv (.tmp 7), none⟩,
   ⟨(some 56), .mv (.tmp 3), none⟩,
   ⟨(some 57), .mv (.tmp 6), none⟩,
   ⟨(some 58), .slV 7 (.tmp 56) (some (.tmp 57)) none none, none⟩,
   ⟨(some 59), .app 7 56 (.tmp 55) (.tmp 58), none⟩,
   ⟨(some 3), .mv (.tmp 59), none⟩] [])
def c_ref33_Table_Waiting_25 : MCode := .seq (.region [⟨(some 50), .mv (.tmp 7), none⟩,
   ⟨(some 51), .fld 1 (.tmp 5), none⟩,
   ⟨(some 52), .loadN 7 (.tmp 51), none⟩,
   ⟨(some 53), .buildSlice [(.int .i64 0), (.int .i64 0), (.int .i64 0), (.int .i64 0), (.int .i64 0), (.int .i64 0), (.int .i64 0)] 1 [(0, 7, (.tmp 52))], none⟩,
   ⟨(some 54), .app 7 56 (.tmp 50) (.tmp 53), none⟩,
   ⟨(some 7), .mv (.tmp 54), none⟩] []) c_ref33_Table_Waiting_26
def c_ref33_Table_Waiting_24 : MCode := .seq (.region [⟨(some 45), .buildSlice [] 0 [], none⟩,
   ⟨(some 46), .mv (.tmp 3), none⟩,
   ⟨(some 47), .mv (.tmp 6), none⟩,
   ⟨(some 48), .slV 7 (.tmp 46) none (some (.tmp 47)) none, none⟩,
   ⟨(some 49), .app 7 56 (.tmp 45) (.tmp 48), none⟩,
   ⟨(some 7), .mv (.tmp 49), none⟩] []) c_ref33_Table_Waiting_25
def c_ref33_Table_Waiting_16 : MCode := .seq c_ref33_Table_Waiting_17 c_ref33_Table_Waiting_24
def c_ref33_Table_Waiting_15 : MCode := .seq (.region [⟨(some 28), .mv (.tmp 3), none⟩,
   ⟨(some 29), .lenV (.tmp 28), none⟩,
   ⟨(some 6), .mv (.tmp 29), none⟩] []) c_ref33_Table_Waiting_16
def c_ref33_Table_Waiting_12 : MCode := .seq c_ref33_Table_Waiting_13 c_ref33_Table_Waiting_15
def c_ref33_Table_Waiting_11 : MCode := .seq (.region [⟨(some 15), .fld 0 (.tmp 1), none⟩,
   ⟨(some 16), .load1 (.tmp 15), none⟩,
   ⟨(some 17), .mv (.tmp 4), none⟩,
   ⟨(some 18), .ixV 22 (.tmp 16) (.tmp 17), none⟩,
   ⟨(some 19), .loadN 22 (.tmp 18), none⟩,
   ⟨(some 5), .new [(.int .i64 0), (.int .i64 0), (.int .i64 0), (.int .i64 0), (.int .i64 0), (.int .i64 0), (.int .i64 0), (.int .i64 0), (.int .i64 0), (.int .i64 0), (.int .i64 0), (.int .i64 0), (.int .i64 0), (.int .i64 0), (.int .i64 0), (.bool false), (.bool false), (.int .i64 0), (.int .i64 0), (.int .i64 0), (.int .i64 0), (.int .i64 0)], none⟩,
   ⟨none, .store 22 (.tmp 5) (.tmp 19), none⟩] []) c_ref33_Table_Waiting_12
def c_ref33_Table_Waiting_10 : MCode := .block 1 c_ref33_Table_Waiting_11
def c_ref33_Table_Waiting_27 : MCode := (.region [⟨(some 13), .mv (.tmp 4), none⟩,
   ⟨(some 14), .ar .add (.tmp 13) (.const (.int .i64 1)), none⟩,
   ⟨(some 4), .mv (.tmp 14), none⟩] [])
def c_ref33_Table_Waiting_9 : MCode := .seq c_ref33_Table_Waiting_10 c_ref33_Table_Waiting_27
def c_ref33_Table_Waiting_6 : MCode := .seq c_ref33_Table_Waiting_7 c_ref33_Table_Waiting_9
def c_ref33_Table_Waiting_5 : MCode := .loop [1, 3, 4] c_ref33_Table_Waiting_6
def c_ref33_Table_Waiting_4 : MCode := .block 0 c_ref33_Table_Waiting_5
def c_ref33_Table_Waiting_3 : MCode := .seq (.region [⟨(some 4), .mv (.const (.int .i64 0)), none⟩] []) c_ref33_Table_Waiting_4
def c_ref33_Table_Waiting_28 : MCode := .seq (.region [⟨(some 60), .mv (.tmp 3), none⟩,
   ⟨(some 2), .mv (.tmp 60), none⟩] []) .ret
def c_ref33_Table_Waiting_2 : MCode := .seq c_ref33_Table_Waiting_3 c_ref33_Table_Waiting_28
def c_ref33_Table_Waiting_1 : MCode := .seq (.region [⟨(some 3), .mv (.const (.slice none 0 0)), none⟩] []) c_ref33_Table_Waiting_2
def c_ref33_Table_Waiting_0 : MCode := .seq (.region [⟨(some 1), .box (.tmp 0), none⟩,
   ⟨(some 2), .mv (.const (.slice none 0 0)), none⟩] []) c_ref33_Table_Waiting_1
/-- (trefoil/trefoilref33.Table).Waiting -/
def M_ref33_Table_Waiting : MFun := ⟨1, c_ref33_Table_Waiting_0, [.tmp 2]⟩
abbrev F_ref33_Table_Waiting : Nat := 23
set_option maxRecDepth 100000 in
theorem m_ref33_Table_Waiting : InProg Try.prog 0 23 M_ref33_Table_Waiting := ⟨Try.f23, [[1, 3, 4], [1, 3, 4, 5, 6]], Try.func23, by kernel_rfl⟩
def c_serve_Table_Len_4 : MCode := .seq (.region [⟨(some 2), .mv (.const (.int .i64 0)), none⟩] []) .ret
def c_serve_Table_Len_3 : MCode := .cond (.tmp 4) c_serve_Table_Len_4 .skip
def c_serve_Table_Len_2 : MCode := .seq (.region [⟨(some 3), .mv (.tmp 0), none⟩,
   ⟨(some 4), .eq false .ptr (.tmp 3) (.const (.pointer none)), none⟩] []) c_serve_Table_Len_3
def c_serve_Table_Len_5 : MCode := .seq (.region [⟨(some 5), .mv (.tmp 0), none⟩,
   ⟨(some 6), .nilCheck (.tmp 5), none⟩,
   ⟨(some 7), .fld 0 (.tmp 6), none⟩,
   ⟨(some 8), .load1 (.tmp 7), none⟩,
   ⟨(some 9), .lenM (.tmp 8), none⟩,
   ⟨(some 2), .mv (.tmp 9), none⟩] []) .ret
def c_serve_Table_Len_1 : MCode := .seq c_serve_Table_Len_2 c_serve_Table_Len_5
def c_serve_Table_Len_0 : MCode := .seq (.region [⟨(some 2), .mv (.const (.int .i64 0)), none⟩] []) c_serve_Table_Len_1
/-- (*trefoil/serve.Table).Len -/
def M_serve_Table_Len : MFun := ⟨1, c_serve_Table_Len_0, [.tmp 2]⟩
abbrev F_serve_Table_Len : Nat := 24
set_option maxRecDepth 100000 in
theorem m_serve_Table_Len : InProg Try.prog 0 24 M_serve_Table_Len := ⟨Try.f24, [], Try.func24, by kernel_rfl⟩
def c_ref33_Table_Find_7 : MCode := .cond (.tmp 10) .skip (.exit 0)
def c_ref33_Table_Find_6 : MCode := .seq (.region [⟨(some 6), .mv (.tmp 5), none⟩,
   ⟨(some 7), .fld 0 (.tmp 2), none⟩,
   ⟨(some 8), .load1 (.tmp 7), none⟩,
   ⟨(some 9), .lenV (.tmp 8), none⟩,
   ⟨(some 10), .ar .lss (.tmp 6) (.tmp 9), none⟩] []) c_ref33_Table_Find_7
def c_ref33_Table_Find_12 : MCode := .seq (.region [⟨(some 21), .mv (.tmp 5), none⟩,
   ⟨(some 4), .mv (.tmp 21), none⟩] []) .ret
def c_ref33_Table_Find_11 : MCode := .cond (.tmp 20) c_ref33_Table_Find_12 .skip
def c_ref33_Table_Find_10 : MCode := .seq (.region [⟨(some 13), .fld 0 (.tmp 2), none⟩,
   ⟨(some 14), .load1 (.tmp 13), none⟩,
   ⟨(some 15), .mv (.tmp 5), none⟩,
   ⟨(some 16), .ixV 22 (.tmp 14) (.tmp 15), none⟩,
   ⟨(some 17), .fld 0 (.tmp 16), none⟩,
   ⟨(some 18), .load1 (.tmp 17), none⟩,
   ⟨(some 19), .mv (.tmp 1), none⟩,
   ⟨(some 20), .ar .eql (.tmp 18) (.tmp 19), none⟩] []) c_ref33_Table_Find_11
def c_ref33_Table_Find_9 : MCode := .block 1 c_ref33_Table_Find_10
def c_ref33_Table_Find_13 : MCode := (.region [⟨(some 11), .mv (.tmp 5), none⟩,
   ⟨(some 12), .ar .add (.tmp 11) (.const (.int .i64 1)), none⟩,
   ⟨(some 5), .mv (.tmp 12), none⟩] [])
def c_ref33_Table_Find_8 : MCode := .seq c_ref33_Table_Find_9 c_ref33_Table_Find_13
def c_ref33_Table_Find_5 : MCode := .seq c_ref33_Table_Find_6 c_ref33_Table_Find_8
def c_ref33_Table_Find_4 : MCode := .loop [1, 2, 5] c_ref33_Table_Find_5
def c_ref33_Table_Find_3 : MCode := .block 0 c_ref33_Table_Find_4
def c_ref33_Table_Find_2 : MCode := .seq (.region [⟨(some 5), .mv (.const (.int .i64 0)), none⟩] []) c_ref33_Table_Find_3
def c_ref33_Table_Find_14 : MCode := .seq (.region [⟨(some 4), .mv (.const (.int .i64 (-1))), none⟩] []) .ret
def c_ref33_Table_Find_1 : MCode := .seq c_ref33_Table_Find_2 c_ref33_Table_Find_14
def c_ref33_Table_Find_0 : MCode := .seq (.region [⟨(some 2), .box (.tmp 0), none⟩,
   ⟨(some 4), .mv (.const (.int .i64 0)), none⟩] []) c_ref33_Table_Find_1
/-- (trefoil/trefoilref33.Table).Find -/
def M_ref33_Table_Find : MFun := ⟨2, c_ref33_Table_Find_0, [.tmp 4]⟩
abbrev F_ref33_Table_Find : Nat := 25
set_option maxRecDepth 100000 in
theorem m_ref33_Table_Find : InProg Try.prog 0 25 M_ref33_Table_Find := ⟨Try.f25, [[1, 2, 5]], Try.func25, by kernel_rfl⟩
def c_serve_Table_Reset_5 : MCode := (.region [⟨(some 14), .mv (.tmp 0), none⟩,
   ⟨(some 15), .mv (.tmp 0), none⟩,
   ⟨(some 16), .mkMap, none⟩,
   ⟨(some 17), .nilCheck (.tmp 14), none⟩,
   ⟨(some 18), .fld 0 (.tmp 17), none⟩,
   ⟨none, .store 1 (.tmp 18) (.tmp 16), none⟩,
   ⟨(some 19), .nilCheck (.tmp 15), none⟩,
   ⟨(some 20), .fld 1 (.tmp 19), none⟩,
   ⟨none, .store 1 (.tmp 20) (.const (.int .i64 0)), none⟩] [])
def c_serve_Table_Reset_4 : MCode := .cond (.tmp 13) c_serve_Table_Reset_5 .skip
def c_serve_Table_Reset_3 : MCode := .seq (.region [⟨(some 6), .mv (.tmp 0), none⟩,
   ⟨(some 7), .eq true .ptr (.tmp 6) (.const (.pointer none)), none⟩,
   ⟨(some 8), .mv (.tmp 7), none⟩,
   ⟨(some 9), .mv (.tmp 0), (some (8, true))⟩,
   ⟨(some 10), .nilCheck (.tmp 9), (some (8, true))⟩,
   ⟨(some 11), .fld 2 (.tmp 10), (some (8, true))⟩,
   ⟨(some 12), .load1 (.tmp 11), (some (8, true))⟩,
   ⟨(some 13), .pick (.tmp 8) (.tmp 12) (.const (.bool false)), none⟩] []) c_serve_Table_Reset_4
def c_serve_Table_Reset_6 : MCode := .seq (.region [⟨(some 21), .mv (.tmp 3), none⟩,
   ⟨(some 2), .mv (.tmp 21), none⟩] []) .ret
def c_serve_Table_Reset_2 : MCode := .seq c_serve_Table_Reset_3 c_serve_Table_Reset_6
def c_serve_Table_Reset_1 : MCode := .seq (.region [⟨(some 4), .mv (.tmp 0), none⟩,
   ⟨(some 5), .call 22 [(.tmp 4)], none⟩,
   ⟨(some 3), .mv (.tmp 5), none⟩] []) c_serve_Table_Reset_2
def c_serve_Table_Reset_0 : MCode := .seq (.region [⟨(some 2), .mv (.const (.slice none 0 0)), none⟩] []) c_serve_Table_Reset_1
/-- (*trefoil/serve.Table).Reset -/
def M_serve_Table_Reset : MFun := ⟨1, c_serve_Table_Reset_0, [.tmp 2]⟩
abbrev F_serve_Table_Reset : Nat := 26
set_option maxRecDepth 100000 in
theorem m_serve_Table_Reset : InProg Try.prog 0 26 M_serve_Table_Reset := ⟨Try.f26, [], Try.func26, by kernel_rfl⟩
def c_shape_Check_14 : MCode := .cond (.tmp 19) (.exit 1) .skip
def c_shape_Check_13 : MCode := .seq (.region [⟨(some 20), .ar .eql (.tmp 18) (.const (.int .i64 2)), none⟩,
   ⟨(some 19), .mv (.tmp 20), none⟩] []) c_shape_Check_14
def c_shape_Check_19 : MCode := (.region [⟨(some 23), .ar .eql (.tmp 18) (.const (.int .i64 4)), none⟩,
   ⟨(some 21), .mv (.tmp 23), none⟩] [])
def c_shape_Check_18 : MCode := .cond (.tmp 21) .skip c_shape_Check_19
def c_shape_Check_17 : MCode := .seq (.region [⟨(some 22), .ar .eql (.tmp 18) (.const (.int .i64 1)), none⟩,
   ⟨(some 21), .mv (.tmp 22), none⟩] []) c_shape_Check_18
def c_shape_Check_20 : MCode := .cond (.tmp 21) (.exit 2) .skip
def c_shape_Check_16 : MCode := .seq c_shape_Check_17 c_shape_Check_20
def c_shape_Check_22 : MCode := .cond (.tmp 24) (.exit 3) .skip
def c_shape_Check_21 : MCode := .seq (.region [⟨(some 25), .ar .eql (.tmp 18) (.const (.int .i64 3)), none⟩,
   ⟨(some 24), .mv (.tmp 25), none⟩] []) c_shape_Check_22
def c_shape_Check_15 : MCode := .seq c_shape_Check_16 c_shape_Check_21
def c_shape_Check_12 : MCode := .seq c_shape_Check_13 c_shape_Check_15
def c_shape_Check_11 : MCode := .seq c_shape_Check_12 (.exit 0)
def c_shape_Check_10 : MCode := .block 1 c_shape_Check_11
def c_shape_Check_23 : MCode := (.region [⟨(some 26), .fld 2 (.tmp 1), none⟩,
   ⟨(some 27), .load1 (.tmp 26), none⟩,
   ⟨(some 28), .call 38 [(.tmp 27)], none⟩,
   ⟨(some 29), .mv (.tmp 28), none⟩,
   ⟨(some 30), .fld 3 (.tmp 1), (some (29, true))⟩,
   ⟨(some 31), .load1 (.tmp 30), (some (29, true))⟩,
   ⟨(some 32), .call 38 [(.tmp 31)], (some (29, true))⟩,
   ⟨(some 33), .pick (.tmp 29) (.tmp 32) (.const (.bool false)), none⟩,
   ⟨(some 34), .mv (.tmp 33), none⟩,
   ⟨(some 35), .fld 4 (.tmp 1), (some (34, true))⟩,
   ⟨(some 36), .load1 (.tmp 35), (some (34, true))⟩,
   ⟨(some 37), .call 38 [(.tmp 36)], (some (34, true))⟩,
   ⟨(some 38), .pick (.tmp 34) (.tmp 37) (.const (.bool false)), none⟩,
   ⟨(some 3), .mv (.tmp 38), none⟩] [])
def c_shape_Check_9 : MCode := .seq c_shape_Check_10 c_shape_Check_23
def c_shape_Check_8 : MCode := .block 2 c_shape_Check_9
def c_shape_Check_28 : MCode := .seq (.region [⟨(some 2), .mv (.const (.int .i64 11)), none⟩] []) .ret
def c_shape_Check_27 : MCode := .cond (.tmp 50) c_shape_Check_28 .skip
def c_shape_Check_26 : MCode := .seq (.region [⟨(some 39), .mv (.tmp 3), none⟩,
   ⟨(some 40), .un .not (.tmp 39), none⟩,
   ⟨(some 41), .mv (.tmp 40), none⟩,
   ⟨(some 42), .fld 1 (.tmp 1), (some (41, false))⟩,
   ⟨(some 43), .load1 (.tmp 42), (some (41, false))⟩,
   ⟨(some 44), .ar .lss (.tmp 43) (.const (.int .i64 1)), (some (41, false))⟩,
   ⟨(some 45), .pick (.tmp 41) (.const (.bool true)) (.tmp 44), none⟩,
   ⟨(some 46), .mv (.tmp 45), none⟩,
   ⟨(some 47), .fld 1 (.tmp 1), (some (46, false))⟩,
   ⟨(some 48), .load1 (.tmp 47), (some (46, false))⟩,
   ⟨(some 49), .ar .gtr (.tmp 48) (.const (.int .i64 64)), (some (46, false))⟩,
   ⟨(some 50), .pick (.tmp 46) (.const (.bool true)) (.tmp 49), none⟩] []) c_shape_Check_27
def c_shape_Check_29 : MCode := .seq (.region [⟨(some 2), .mv (.const (.int .i64 0)), none⟩] []) .ret
def c_shape_Check_25 : MCode := .seq c_shape_Check_26 c_shape_Check_29
def c_shape_Check_24 : MCode := .seq c_shape_Check_25 (.exit 0)
def c_shape_Check_7 : MCode := .seq c_shape_Check_8 c_shape_Check_24
def c_shape_Check_6 : MCode := .block 3 c_shape_Check_7
def c_shape_Check_34 : MCode := .seq (.region [⟨(some 2), .mv (.const (.int .i64 11)), none⟩] []) .ret
def c_shape_Check_33 : MCode := .cond (.tmp 57) c_shape_Check_34 .skip
def c_shape_Check_32 : MCode := .seq (.region [⟨(some 51), .mv (.tmp 3), none⟩,
   ⟨(some 52), .un .not (.tmp 51), none⟩,
   ⟨(some 53), .mv (.tmp 52), none⟩,
   ⟨(some 54), .fld 1 (.tmp 1), (some (53, false))⟩,
   ⟨(some 55), .load1 (.tmp 54), (some (53, false))⟩,
   ⟨(some 56), .ar .neq (.tmp 55) (.const (.int .i64 1)), (some (53, false))⟩,
   ⟨(some 57), .pick (.tmp 53) (.const (.bool true)) (.tmp 56), none⟩] []) c_shape_Check_33
def c_shape_Check_35 : MCode := .seq (.region [⟨(some 2), .mv (.const (.int .i64 0)), none⟩] []) .ret
def c_shape_Check_31 : MCode := .seq c_shape_Check_32 c_shape_Check_35
def c_shape_Check_30 : MCode := .seq c_shape_Check_31 (.exit 0)
def c_shape_Check_5 : MCode := .seq c_shape_Check_6 c_shape_Check_30
def c_shape_Check_4 : MCode := .block 0 c_shape_Check_5
def c_shape_Check_3 : MCode := .seq (.region [⟨(some 17), .fld 0 (.tmp 1), none⟩,
   ⟨(some 18), .load1 (.tmp 17), none⟩] []) c_shape_Check_4
def c_shape_Check_36 : MCode := .seq (.region [⟨(some 2), .mv (.const (.int .i64 15)), none⟩] []) .ret
def c_shape_Check_2 : MCode := .seq c_shape_Check_3 c_shape_Check_36
def c_shape_Check_1 : MCode := .seq (.region [⟨(some 4), .fld 2 (.tmp 1), none⟩,
   ⟨(some 5), .load1 (.tmp 4), none⟩,
   ⟨(some 6), .ar .eql (.tmp 5) (.const (.int .i64 0)), none⟩,
   ⟨(some 7), .mv (.tmp 6), none⟩,
   ⟨(some 8), .fld 3 (.tmp 1), (some (7, true))⟩,
   ⟨(some 9), .load1 (.tmp 8), (some (7, true))⟩,
   ⟨(some 10), .ar .eql (.tmp 9) (.const (.int .i64 0)), (some (7, true))⟩,
   ⟨(some 11), .pick (.tmp 7) (.tmp 10) (.const (.bool false)), none⟩,
   ⟨(some 12), .mv (.tmp 11), none⟩,
   ⟨(some 13), .fld 4 (.tmp 1), (some (12, true))⟩,
   ⟨(some 14), .load1 (.tmp 13), (some (12, true))⟩,
   ⟨(some 15), .ar .eql (.tmp 14) (.const (.int .i64 0)), (some (12, true))⟩,
   ⟨(some 16), .pick (.tmp 12) (.tmp 15) (.const (.bool false)), none⟩,
   ⟨(some 3), .mv (.tmp 16), none⟩] []) c_shape_Check_2
def c_shape_Check_0 : MCode := .seq (.region [⟨(some 1), .box (.tmp 0), none⟩,
   ⟨(some 2), .mv (.const (.int .i64 0)), none⟩] []) c_shape_Check_1
/-- trefoil/shape.Check -/
def M_shape_Check : MFun := ⟨1, c_shape_Check_0, [.tmp 2]⟩
abbrev F_shape_Check : Nat := 27
set_option maxRecDepth 100000 in
theorem m_shape_Check : InProg Try.prog 0 27 M_shape_Check := ⟨Try.f27, [], Try.func27, by kernel_rfl⟩
def c_ref09_Check_4 : MCode := .seq (.region [⟨(some 2), .mv (.const (.int .i64 15)), none⟩] []) .ret
def c_ref09_Check_3 : MCode := .cond (.tmp 6) c_ref09_Check_4 .skip
def c_ref09_Check_2 : MCode := .seq (.region [⟨(some 3), .fld 0 (.tmp 1), none⟩,
   ⟨(some 4), .load1 (.tmp 3), none⟩,
   ⟨(some 5), .call 39 [(.tmp 4), (.const (.int .i64 4))], none⟩,
   ⟨(some 6), .un .not (.tmp 5), none⟩] []) c_ref09_Check_3
def c_ref09_Check_8 : MCode := .seq (.region [⟨(some 2), .mv (.const (.int .i64 11)), none⟩] []) .ret
def c_ref09_Check_7 : MCode := .cond (.tmp 20) c_ref09_Check_8 .skip
def c_ref09_Check_6 : MCode := .seq (.region [⟨(some 7), .fld 1 (.tmp 1), none⟩,
   ⟨(some 8), .load1 (.tmp 7), none⟩,
   ⟨(some 9), .call 39 [(.tmp 8), (.const (.int .i64 64))], none⟩,
   ⟨(some 10), .un .not (.tmp 9), none⟩,
   ⟨(some 11), .mv (.tmp 10), none⟩,
   ⟨(some 12), .fld 0 (.tmp 1), (some (11, false))⟩,
   ⟨(some 13), .load1 (.tmp 12), (some (11, false))⟩,
   ⟨(some 14), .ar .eql (.tmp 13) (.const (.int .i64 3)), (some (11, false))⟩,
   ⟨(some 15), .mv (.tmp 14), (some (11, false))⟩,
   ⟨(some 16), .fld 1 (.tmp 1), (some (15, true))⟩,
   ⟨(some 17), .load1 (.tmp 16), (some (15, true))⟩,
   ⟨(some 18), .ar .neq (.tmp 17) (.const (.int .i64 1)), (some (15, true))⟩,
   ⟨(some 19), .pick (.tmp 15) (.tmp 18) (.const (.bool false)), (some (11, false))⟩,
   ⟨(some 20), .pick (.tmp 11) (.const (.bool true)) (.tmp 19), none⟩] []) c_ref09_Check_7
def c_ref09_Check_12 : MCode := .seq (.region [⟨(some 2), .mv (.const (.int .i64 11)), none⟩] []) .ret
def c_ref09_Check_11 : MCode := .cond (.tmp 61) c_ref09_Check_12 .skip
def c_ref09_Check_10 : MCode := .seq (.region [⟨(some 21), .fld 0 (.tmp 1), none⟩,
   ⟨(some 22), .load1 (.tmp 21), none⟩,
   ⟨(some 23), .ar .eql (.tmp 22) (.const (.int .i64 2)), none⟩,
   ⟨(some 24), .mv (.tmp 23), none⟩,
   ⟨(some 25), .fld 2 (.tmp 1), (some (24, true))⟩,
   ⟨(some 26), .load1 (.tmp 25), (some (24, true))⟩,
   ⟨(some 27), .call 39 [(.tmp 26), (.const (.int .i64 6))], (some (24, true))⟩,
   ⟨(some 28), .un .not (.tmp 27), (some (24, true))⟩,
   ⟨(some 29), .mv (.tmp 28), (some (24, true))⟩,
   ⟨(some 30), .fld 3 (.tmp 1), (some (29, false))⟩,
   ⟨(some 31), .load1 (.tmp 30), (some (29, false))⟩,
   ⟨(some 32), .call 39 [(.tmp 31), (.const (.int .i64 6))], (some (29, false))⟩,
   ⟨(some 33), .un .not (.tmp 32), (some (29, false))⟩,
   ⟨(some 34), .pick (.tmp 29) (.const (.bool true)) (.tmp 33), (some (24, true))⟩,
   ⟨(some 35), .mv (.tmp 34), (some (24, true))⟩,
   ⟨(some 36), .fld 4 (.tmp 1), (some (35, false))⟩,
   ⟨(some 37), .load1 (.tmp 36), (some (35, false))⟩,
   ⟨(some 38), .call 39 [(.tmp 37), (.const (.int .i64 6))], (some (35, false))⟩,
   ⟨(some 39), .un .not (.tmp 38), (some (35, false))⟩,
   ⟨(some 40), .pick (.tmp 35) (.const (.bool true)) (.tmp 39), (some (24, true))⟩,
   ⟨(some 41), .pick (.tmp 24) (.tmp 40) (.const (.bool false)), none⟩,
   ⟨(some 42), .mv (.tmp 41), none⟩,
   ⟨(some 43), .fld 0 (.tmp 1), (some (42, false))⟩,
   ⟨(some 44), .load1 (.tmp 43), (some (42, false))⟩,
   ⟨(some 45), .ar .neq (.tmp 44) (.const (.int .i64 2)), (some (42, false))⟩,
   ⟨(some 46), .mv (.tmp 45), (some (42, false))⟩,
   ⟨(some 47), .fld 2 (.tmp 1), (some (46, true))⟩,
   ⟨(some 48), .load1 (.tmp 47), (some (46, true))⟩,
   ⟨(some 49), .ar .neq (.tmp 48) (.const (.int .i64 0)), (some (46, true))⟩,
   ⟨(some 50), .mv (.tmp 49), (some (46, true))⟩,
   ⟨(some 51), .fld 3 (.tmp 1), (some (50, false))⟩,
   ⟨(some 52), .load1 (.tmp 51), (some (50, false))⟩,
   ⟨(some 53), .ar .neq (.tmp 52) (.const (.int .i64 0)), (some (50, false))⟩,
   ⟨(some 54), .pick (.tmp 50) (.const (.bool true)) (.tmp 53), (some (46, true))⟩,
   ⟨(some 55), .mv (.tmp 54), (some (46, true))⟩,
   ⟨(some 56), .fld 4 (.tmp 1), (some (55, false))⟩,
   ⟨(some 57), .load1 (.tmp 56), (some (55, false))⟩,
   ⟨(some 58), .ar .neq (.tmp 57) (.const (.int .i64 0)), (some (55, false))⟩,
   ⟨(some 59), .pick (.tmp 55) (.const (.bool true)) (.tmp 58), (some (46, true))⟩,
   ⟨(some 60), .pick (.tmp 46) (.tmp 59) (.const (.bool false)), (some (42, false))⟩,
   ⟨(some 61), .pick (.tmp 42) (.const (.bool true)) (.tmp 60), none⟩] []) c_ref09_Check_11
def c_ref09_Check_13 : MCode := .seq (.region [⟨(some 2), .mv (.const (.int .i64 0)), none⟩] []) .ret
def c_ref09_Check_9 : MCode := .seq c_ref09_Check_10 c_ref09_Check_13
def c_ref09_Check_5 : MCode := .seq c_ref09_Check_6 c_ref09_Check_9
def c_ref09_Check_1 : MCode := .seq c_ref09_Check_2 c_ref09_Check_5
def c_ref09_Check_0 : MCode := .seq (.region [⟨(some 1), .box (.tmp 0), none⟩,
   ⟨(some 2), .mv (.const (.int .i64 0)), none⟩] []) c_ref09_Check_1
/-- trefoil/trefoilref09.Check -/
def M_ref09_Check : MFun := ⟨1, c_ref09_Check_0, [.tmp 2]⟩
abbrev F_ref09_Check : Nat := 28
set_option maxRecDepth 100000 in
theorem m_ref09_Check : InProg Try.prog 0 28 M_ref09_Check := ⟨Try.f28, [], Try.func28, by kernel_rfl⟩
def c_serve_Table_ready_4 : MCode := .seq (.region [⟨(some 4), .mv (.const (.int .i64 3)), none⟩] []) .ret
def c_serve_Table_ready_3 : MCode := .cond (.tmp 13) c_serve_Table_ready_4 .skip
def c_serve_Table_ready_2 : MCode := .seq (.region [⟨(some 5), .mv (.tmp 0), none⟩,
   ⟨(some 6), .eq false .ptr (.tmp 5) (.const (.pointer none)), none⟩,
   ⟨(some 7), .mv (.tmp 6), none⟩,
   ⟨(some 8), .mv (.tmp 0), (some (7, false))⟩,
   ⟨(some 9), .nilCheck (.tmp 8), (some (7, false))⟩,
   ⟨(some 10), .fld 2 (.tmp 9), (some (7, false))⟩,
   ⟨(some 11), .load1 (.tmp 10), (some (7, false))⟩,
   ⟨(some 12), .un .not (.tmp 11), (some (7, false))⟩,
   ⟨(some 13), .pick (.tmp 7) (.const (.bool true)) (.tmp 12), none⟩] []) c_serve_Table_ready_3
def c_serve_Table_ready_5 : MCode := .seq (.region [⟨(some 14), .loadN 7 (.tmp 3), none⟩,
   ⟨(some 15), .call 7 [(.tmp 14)], none⟩,
   ⟨(some 4), .mv (.tmp 15), none⟩] []) .ret
def c_serve_Table_ready_1 : MCode := .seq c_serve_Table_ready_2 c_serve_Table_ready_5
def c_serve_Table_ready_0 : MCode := .seq (.region [⟨(some 3), .box (.tmp 1), none⟩,
   ⟨(some 4), .mv (.const (.int .i64 0)), none⟩] []) c_serve_Table_ready_1
/-- (*trefoil/serve.Table).ready -/
def M_serve_Table_ready : MFun := ⟨2, c_serve_Table_ready_0, [.tmp 4]⟩
abbrev F_serve_Table_ready : Nat := 29
set_option maxRecDepth 100000 in
theorem m_serve_Table_ready : InProg Try.prog 0 29 M_serve_Table_ready := ⟨Try.f29, [], Try.func29, by kernel_rfl⟩
def c_serve_Table_slot_5 : MCode := .seq (.region [⟨(some 19), .mv (.tmp 6), none⟩,
   ⟨(some 4), .mv (.tmp 19), none⟩,
   ⟨(some 5), .mv (.const (.int .i64 0)), none⟩] []) .ret
def c_serve_Table_slot_4 : MCode := .cond (.tmp 18) c_serve_Table_slot_5 .skip
def c_serve_Table_slot_3 : MCode := .seq (.region [⟨(some 18), .mv (.tmp 7), none⟩] []) c_serve_Table_slot_4
def c_serve_Table_slot_2 : MCode := .seq (.region [⟨(some 10), .mv (.tmp 0), none⟩,
   ⟨(some 11), .nilCheck (.tmp 10), none⟩,
   ⟨(some 12), .fld 0 (.tmp 11), none⟩,
   ⟨(some 13), .load1 (.tmp 12), none⟩,
   ⟨(some 14), .mv (.tmp 1), none⟩,
   ⟨(some 15), .look .int (.pointer none) true (.tmp 13) (.tmp 14), none⟩,
   ⟨(some 9), .mv (.tmp 15), none⟩,
   ⟨(some 16), .ext (.tmp 9) 0, none⟩,
   ⟨(some 17), .ext (.tmp 9) 1, none⟩,
   ⟨(some 6), .mv (.tmp 16), none⟩,
   ⟨(some 7), .mv (.tmp 17), none⟩] []) c_serve_Table_slot_3
def c_serve_Table_slot_9 : MCode := .seq (.region [⟨(some 4), .mv (.const (.pointer none)), none⟩,
   ⟨(some 5), .mv (.const (.int .i64 16)), none⟩] []) .ret
def c_serve_Table_slot_8 : MCode := .cond (.tmp 25) c_serve_Table_slot_9 .skip
def c_serve_Table_slot_7 : MCode := .seq (.region [⟨(some 20), .mv (.tmp 0), none⟩,
   ⟨(some 21), .nilCheck (.tmp 20), none⟩,
   ⟨(some 22), .fld 0 (.tmp 21), none⟩,
   ⟨(some 23), .load1 (.tmp 22), none⟩,
   ⟨(some 24), .lenM (.tmp 23), none⟩,
   ⟨(some 25), .ar .geq (.tmp 24) (.const (.int .i64 64)), none⟩] []) c_serve_Table_slot_8
def c_serve_Table_slot_13 : MCode := .seq (.region [⟨(some 45), .mv (.tmp 8), none⟩,
   ⟨(some 4), .mv (.tmp 45), none⟩,
   ⟨(some 5), .mv (.const (.int .i64 0)), none⟩] []) .ret
def c_serve_Table_slot_12 : MCode := .seq (.region [⟨(some 39), .mv (.tmp 0), none⟩,
   ⟨(some 40), .nilCheck (.tmp 39), none⟩,
   ⟨(some 41), .fld 0 (.tmp 40), none⟩,
   ⟨(some 42), .load1 (.tmp 41), none⟩,
   ⟨(some 43), .mv (.tmp 1), none⟩,
   ⟨(some 44), .mv (.tmp 8), none⟩,
   ⟨none, .mset .int (.tmp 42) (.tmp 43) (.tmp 44), none⟩] []) c_serve_Table_slot_13
def c_serve_Table_slot_11 : MCode := .seq (.region [⟨(some 33), .mv (.tmp 0), none⟩,
   ⟨(some 34), .nilCheck (.tmp 33), none⟩,
   ⟨(some 35), .fld 1 (.tmp 34), none⟩,
   ⟨(some 36), .load1 (.tmp 35), none⟩,
   ⟨(some 37), .build [(.int .i64 0), (.int .i64 0), (.int .i64 0), (.int .i64 0), (.int .i64 0), (.int .i64 0), (.int .i64 0), (.int .i64 0), (.int .i64 0), (.int .i64 0), (.int .i64 0), (.int .i64 0), (.int .i64 0), (.int .i64 0), (.bool false), (.bool false), (.int .i64 0), (.int .i64 0), (.int .i64 0), (.int .i64 0), (.int .i64 0), (.int .i64 0)] [(16, 1, (.tmp 36)), (17, 1, (.const (.int .i64 1)))], none⟩,
   ⟨(some 38), .box (.tmp 37), none⟩,
   ⟨(some 8), .mv (.tmp 38), none⟩] []) c_serve_Table_slot_12
def c_serve_Table_slot_10 : MCode := .seq (.region [⟨(some 26), .mv (.tmp 0), none⟩,
   ⟨(some 27), .nilCheck (.tmp 26), none⟩,
   ⟨(some 28), .fld 1 (.tmp 27), none⟩,
   ⟨(some 29), .load1 (.tmp 28), none⟩,
   ⟨(some 30), .ar .add (.tmp 29) (.const (.int .i64 1)), none⟩,
   ⟨(some 31), .nilCheck (.tmp 26), none⟩,
   ⟨(some 32), .fld 1 (.tmp 31), none⟩,
   ⟨none, .store 1 (.tmp 32) (.tmp 30), none⟩] []) c_serve_Table_slot_11
def c_serve_Table_slot_6 : MCode := .seq c_serve_Table_slot_7 c_serve_Table_slot_10
def c_serve_Table_slot_1 : MCode := .seq c_serve_Table_slot_2 c_serve_Table_slot_6
def c_serve_Table_slot_0 : MCode := .seq (.region [⟨(some 4), .mv (.const (.pointer none)), none⟩,
   ⟨(some 5), .mv (.const (.int .i64 0)), none⟩] []) c_serve_Table_slot_1
/-- (*trefoil/serve.Table).slot -/
def M_serve_Table_slot : MFun := ⟨2, c_serve_Table_slot_0, [.tmp 4, .tmp 5]⟩
abbrev F_serve_Table_slot : Nat := 30
set_option maxRecDepth 100000 in
theorem m_serve_Table_slot : InProg Try.prog 0 30 M_serve_Table_slot := ⟨Try.f30, [], Try.func30, by kernel_rfl⟩
def c_serve_Table_own_4 : MCode := .seq (.region [⟨(some 4), .mv (.const (.pointer none)), none⟩,
   ⟨(some 5), .mv (.const (.int .i64 3)), none⟩] []) .ret
def c_serve_Table_own_3 : MCode := .cond (.tmp 16) c_serve_Table_own_4 .skip
def c_serve_Table_own_2 : MCode := .seq (.region [⟨(some 8), .mv (.tmp 0), none⟩,
   ⟨(some 9), .eq false .ptr (.tmp 8) (.const (.pointer none)), none⟩,
   ⟨(some 10), .mv (.tmp 9), none⟩,
   ⟨(some 11), .mv (.tmp 0), (some (10, false))⟩,
   ⟨(some 12), .nilCheck (.tmp 11), (some (10, false))⟩,
   ⟨(some 13), .fld 2 (.tmp 12), (some (10, false))⟩,
   ⟨(some 14), .load1 (.tmp 13), (some (10, false))⟩,
   ⟨(some 15), .un .not (.tmp 14), (some (10, false))⟩,
   ⟨(some 16), .pick (.tmp 10) (.const (.bool true)) (.tmp 15), none⟩] []) c_serve_Table_own_3
def c_serve_Table_own_10 : MCode := .seq (.region [⟨(some 4), .mv (.const (.pointer none)), none⟩,
   ⟨(some 5), .mv (.const (.int .i64 6)), none⟩] []) .ret
def c_serve_Table_own_13 : MCode := .seq (.region [⟨(some 4), .mv (.const (.pointer none)), none⟩,
   ⟨(some 5), .mv (.const (.int .i64 8)), none⟩] []) .ret
def c_serve_Table_own_12 : MCode := .cond (.tmp 36) c_serve_Table_own_13 .skip
def c_serve_Table_own_11 : MCode := .seq (.region [⟨(some 37), .mv (.tmp 6), none⟩,
   ⟨(some 38), .nilCheck (.tmp 37), none⟩,
   ⟨(some 39), .fld 17 (.tmp 38), none⟩,
   ⟨(some 40), .load1 (.tmp 39), none⟩,
   ⟨(some 41), .ar .neq (.tmp 40) (.const (.int .i64 1)), none⟩,
   ⟨(some 36), .mv (.tmp 41), none⟩] []) c_serve_Table_own_12
def c_serve_Table_own_9 : MCode := .cond (.tmp 26) c_serve_Table_own_10 c_serve_Table_own_11
def c_serve_Table_own_8 : MCode := .seq (.region [⟨(some 27), .mv (.tmp 7), none⟩,
   ⟨(some 28), .un .not (.tmp 27), none⟩,
   ⟨(some 29), .mv (.tmp 28), none⟩,
   ⟨(some 30), .mv (.tmp 6), (some (29, false))⟩,
   ⟨(some 31), .nilCheck (.tmp 30), (some (29, false))⟩,
   ⟨(some 32), .fld 14 (.tmp 31), (some (29, false))⟩,
   ⟨(some 33), .load1 (.tmp 32), (some (29, false))⟩,
   ⟨(some 34), .un .not (.tmp 33), (some (29, false))⟩,
   ⟨(some 35), .pick (.tmp 29) (.const (.bool true)) (.tmp 34), none⟩,
   ⟨(some 26), .mv (.tmp 35), none⟩] []) c_serve_Table_own_9
def c_serve_Table_own_7 : MCode := .block 0 c_serve_Table_own_8
def c_serve_Table_own_14 : MCode := .seq (.region [⟨(some 42), .mv (.tmp 6), none⟩,
   ⟨(some 4), .mv (.tmp 42), none⟩,
   ⟨(some 5), .mv (.const (.int .i64 0)), none⟩] []) .ret
def c_serve_Table_own_6 : MCode := .seq c_serve_Table_own_7 c_serve_Table_own_14
def c_serve_Table_own_5 : MCode := .seq (.region [⟨(some 18), .mv (.tmp 0), none⟩,
   ⟨(some 19), .nilCheck (.tmp 18), none⟩,
   ⟨(some 20), .fld 0 (.tmp 19), none⟩,
   ⟨(some 21), .load1 (.tmp 20), none⟩,
   ⟨(some 22), .mv (.tmp 1), none⟩,
   ⟨(some 23), .look .int (.pointer none) true (.tmp 21) (.tmp 22), none⟩,
   ⟨(some 17), .mv (.tmp 23), none⟩,
   ⟨(some 24), .ext (.tmp 17) 0, none⟩,
   ⟨(some 25), .ext (.tmp 17) 1, none⟩,
   ⟨(some 6), .mv (.tmp 24), none⟩,
   ⟨(some 7), .mv (.tmp 25), none⟩] []) c_serve_Table_own_6
def c_serve_Table_own_1 : MCode := .seq c_serve_Table_own_2 c_serve_Table_own_5
def c_serve_Table_own_0 : MCode := .seq (.region [⟨(some 4), .mv (.const (.pointer none)), none⟩,
   ⟨(some 5), .mv (.const (.int .i64 0)), none⟩] []) c_serve_Table_own_1
/-- (*trefoil/serve.Table).own -/
def M_serve_Table_own : MFun := ⟨2, c_serve_Table_own_0, [.tmp 4, .tmp 5]⟩
abbrev F_serve_Table_own : Nat := 31
set_option maxRecDepth 100000 in
theorem m_serve_Table_own : InProg Try.prog 0 31 M_serve_Table_own := ⟨Try.f31, [], Try.func31, by kernel_rfl⟩
def c_ref33_Table_Add_4 : MCode := .seq (.region [⟨(some 13), .loadN 1 (.tmp 3), none⟩,
   ⟨(some 14), .loadN 7 (.tmp 4), none⟩,
   ⟨(some 15), .call 8 [(.tmp 14)], none⟩,
   ⟨none, .store 1 (.tmp 6) (.tmp 13), none⟩,
   ⟨(some 7), .mv (.tmp 15), none⟩] [(0, 2)]) .ret
def c_ref33_Table_Add_3 : MCode := .cond (.tmp 12) c_ref33_Table_Add_4 .skip
def c_ref33_Table_Add_2 : MCode := .seq (.region [⟨(some 10), .loadN 7 (.tmp 4), none⟩,
   ⟨(some 11), .call 8 [(.tmp 10)], none⟩,
   ⟨(some 12), .ar .neq (.tmp 11) (.const (.int .i64 0)), none⟩] []) c_ref33_Table_Add_3
def c_ref33_Table_Add_10 : MCode := (.region [⟨(some 25), .fld 0 (.tmp 3), none⟩,
   ⟨(some 26), .load1 (.tmp 25), none⟩,
   ⟨(some 27), .mv (.tmp 8), none⟩,
   ⟨(some 28), .ixV 22 (.tmp 26) (.tmp 27), none⟩,
   ⟨(some 29), .loadN 22 (.tmp 28), none⟩,
   ⟨none, .store 22 (.tmp 9) (.tmp 29), none⟩] [])
def c_ref33_Table_Add_9 : MCode := .cond (.tmp 24) c_ref33_Table_Add_10 .skip
def c_ref33_Table_Add_8 : MCode := .seq (.region [⟨(some 23), .mv (.tmp 8), none⟩,
   ⟨(some 24), .ar .geq (.tmp 23) (.const (.int .i64 0)), none⟩] []) c_ref33_Table_Add_9
def c_ref33_Table_Add_14 : MCode := .seq (.region [⟨(some 36), .loadN 1 (.tmp 3), none⟩,
   ⟨none, .store 1 (.tmp 6) (.tmp 36), none⟩,
   ⟨(some 7), .mv (.const (.int .i64 41)), none⟩] []) .ret
def c_ref33_Table_Add_13 : MCode := .cond (.tmp 35) c_ref33_Table_Add_14 .skip
def c_ref33_Table_Add_12 : MCode := .seq (.region [⟨(some 30), .mv (.tmp 2), none⟩,
   ⟨(some 31), .un .not (.tmp 30), none⟩,
   ⟨(some 32), .mv (.tmp 31), none⟩,
   ⟨(some 33), .fld 15 (.tmp 9), (some (32, true))⟩,
   ⟨(some 34), .load1 (.tmp 33), (some (32, true))⟩,
   ⟨(some 35), .pick (.tmp 32) (.tmp 34) (.const (.bool false)), none⟩] []) c_ref33_Table_Add_13
def c_ref33_Table_Add_18 : MCode := .seq (.region [⟨(some 42), .loadN 1 (.tmp 3), none⟩,
   ⟨none, .store 1 (.tmp 6) (.tmp 42), none⟩,
   ⟨(some 7), .mv (.const (.int .i64 7)), none⟩] []) .ret
def c_ref33_Table_Add_17 : MCode := .cond (.tmp 41) c_ref33_Table_Add_18 .skip
def c_ref33_Table_Add_16 : MCode := .seq (.region [⟨(some 37), .mv (.tmp 2), none⟩,
   ⟨(some 38), .mv (.tmp 37), none⟩,
   ⟨(some 39), .fld 16 (.tmp 9), (some (38, true))⟩,
   ⟨(some 40), .load1 (.tmp 39), (some (38, true))⟩,
   ⟨(some 41), .pick (.tmp 38) (.tmp 40) (.const (.bool false)), none⟩] []) c_ref33_Table_Add_17
def c_ref33_Table_Add_22 : MCode := .seq (.region [⟨(some 51), .loadN 1 (.tmp 3), none⟩,
   ⟨none, .store 1 (.tmp 6) (.tmp 51), none⟩,
   ⟨(some 7), .mv (.const (.int .i64 16)), none⟩] []) .ret
def c_ref33_Table_Add_21 : MCode := .cond (.tmp 50) c_ref33_Table_Add_22 .skip
def c_ref33_Table_Add_20 : MCode := .seq (.region [⟨(some 43), .mv (.tmp 8), none⟩,
   ⟨(some 44), .ar .lss (.tmp 43) (.const (.int .i64 0)), none⟩,
   ⟨(some 45), .mv (.tmp 44), none⟩,
   ⟨(some 46), .fld 0 (.tmp 3), (some (45, true))⟩,
   ⟨(some 47), .load1 (.tmp 46), (some (45, true))⟩,
   ⟨(some 48), .lenV (.tmp 47), (some (45, true))⟩,
   ⟨(some 49), .ar .geq (.tmp 48) (.const (.int .i64 64)), (some (45, true))⟩,
   ⟨(some 50), .pick (.tmp 45) (.tmp 49) (.const (.bool false)), none⟩] []) c_ref33_Table_Add_21
def c_ref33_Table_Add_26 : MCode := (.region [⟨(some 53), .loadN 7 (.tmp 4), none⟩,
   ⟨(some 54), .fld 8 (.tmp 9), none⟩,
   ⟨none, .store 7 (.tmp 54) (.tmp 53), none⟩,
   ⟨(some 55), .fld 16 (.tmp 9), none⟩,
   ⟨none, .store 1 (.tmp 55) (.const (.bool true)), none⟩] [])
def c_ref33_Table_Add_27 : MCode := (.region [⟨(some 56), .loadN 7 (.tmp 4), none⟩,
   ⟨(some 57), .fld 1 (.tmp 9), none⟩,
   ⟨none, .store 7 (.tmp 57) (.tmp 56), none⟩,
   ⟨(some 58), .fld 15 (.tmp 9), none⟩,
   ⟨none, .store 1 (.tmp 58) (.const (.bool true)), none⟩] [])
def c_ref33_Table_Add_25 : MCode := .cond (.tmp 52) c_ref33_Table_Add_26 c_ref33_Table_Add_27
def c_ref33_Table_Add_24 : MCode := .seq (.region [⟨(some 52), .mv (.tmp 2), none⟩] []) c_ref33_Table_Add_25
def c_ref33_Table_Add_28 : MCode := .seq (.region [⟨(some 59), .loadN 1 (.tmp 3), none⟩,
   ⟨(some 60), .mv (.tmp 8), none⟩,
   ⟨(some 61), .loadN 22 (.tmp 9), none⟩,
   ⟨(some 62), .call 40 [(.tmp 59), (.tmp 60), (.tmp 61)], none⟩,
   ⟨none, .store 1 (.tmp 6) (.tmp 62), none⟩,
   ⟨(some 7), .mv (.const (.int .i64 0)), none⟩] []) .ret
def c_ref33_Table_Add_23 : MCode := .seq c_ref33_Table_Add_24 c_ref33_Table_Add_28
def c_ref33_Table_Add_19 : MCode := .seq c_ref33_Table_Add_20 c_ref33_Table_Add_23
def c_ref33_Table_Add_15 : MCode := .seq c_ref33_Table_Add_16 c_ref33_Table_Add_19
def c_ref33_Table_Add_11 : MCode := .seq c_ref33_Table_Add_12 c_ref33_Table_Add_15
def c_ref33_Table_Add_7 : MCode := .seq c_ref33_Table_Add_8 c_ref33_Table_Add_11
def c_ref33_Table_Add_6 : MCode := .seq (.region [⟨(some 20), .fld 0 (.tmp 4), none⟩,
   ⟨(some 21), .load1 (.tmp 20), none⟩,
   ⟨(some 22), .build [(.int .i64 0), (.int .i64 0), (.int .i64 0), (.int .i64 0), (.int .i64 0), (.int .i64 0), (.int .i64 0), (.int .i64 0), (.int .i64 0), (.int .i64 0), (.int .i64 0), (.int .i64 0), (.int .i64 0), (.int .i64 0), (.int .i64 0), (.bool false), (.bool false), (.int .i64 0), (.int .i64 0), (.int .i64 0), (.int .i64 0), (.int .i64 0)] [(0, 1, (.tmp 21)), (17, 1, (.const (.int .i64 1)))], none⟩,
   ⟨(some 9), .new [(.int .i64 0), (.int .i64 0), (.int .i64 0), (.int .i64 0), (.int .i64 0), (.int .i64 0), (.int .i64 0), (.int .i64 0), (.int .i64 0), (.int .i64 0), (.int .i64 0), (.int .i64 0), (.int .i64 0), (.int .i64 0), (.int .i64 0), (.bool false), (.bool false), (.int .i64 0), (.int .i64 0), (.int .i64 0), (.int .i64 0), (.int .i64 0)], none⟩,
   ⟨none, .store 22 (.tmp 9) (.tmp 22), none⟩] []) c_ref33_Table_Add_7
def c_ref33_Table_Add_5 : MCode := .seq (.region [⟨(some 16), .loadN 1 (.tmp 3), none⟩,
   ⟨(some 17), .fld 0 (.tmp 4), none⟩,
   ⟨(some 18), .load1 (.tmp 17), none⟩,
   ⟨(some 19), .call 25 [(.tmp 16), (.tmp 18)], none⟩,
   ⟨(some 8), .mv (.tmp 19), none⟩] []) c_ref33_Table_Add_6
def c_ref33_Table_Add_1 : MCode := .seq c_ref33_Table_Add_2 c_ref33_Table_Add_5
def c_ref33_Table_Add_0 : MCode := .seq (.region [⟨(some 3), .box (.tmp 0), none⟩,
   ⟨(some 4), .box (.tmp 1), none⟩,
   ⟨(some 6), .new [(.slice none 0 0)], none⟩,
   ⟨(some 7), .mv (.const (.int .i64 0)), none⟩] []) c_ref33_Table_Add_1
/-- (trefoil/trefoilref33.Table).Add -/
def M_ref33_Table_Add : MFun := ⟨3, c_ref33_Table_Add_0, [.cellN 6 1, .tmp 7]⟩
abbrev F_ref33_Table_Add : Nat := 32
set_option maxRecDepth 100000 in
theorem m_ref33_Table_Add : InProg Try.prog 0 32 M_ref33_Table_Add := ⟨Try.f32, [], Try.func32, by kernel_rfl⟩
def c_ref33_Table_Grant_5 : MCode := .seq (.region [⟨(some 19), .loadN 1 (.tmp 3), none⟩,
   ⟨(some 20), .mv (.tmp 9), none⟩,
   ⟨none, .store 1 (.tmp 6) (.tmp 19), none⟩,
   ⟨(some 7), .mv (.tmp 20), none⟩] []) .ret
def c_ref33_Table_Grant_4 : MCode := .cond (.tmp 18) c_ref33_Table_Grant_5 .skip
def c_ref33_Table_Grant_3 : MCode := .seq (.region [⟨(some 17), .mv (.tmp 9), none⟩,
   ⟨(some 18), .ar .neq (.tmp 17) (.const (.int .i64 0)), none⟩] []) c_ref33_Table_Grant_4
def c_ref33_Table_Grant_10 : MCode := .seq (.region [⟨(some 42), .loadN 1 (.tmp 3), none⟩,
   ⟨none, .store 1 (.tmp 6) (.tmp 42), none⟩,
   ⟨(some 7), .mv (.const (.int .i64 40)), none⟩] []) .ret
def c_ref33_Table_Grant_9 : MCode := .cond (.tmp 41) c_ref33_Table_Grant_10 .skip
def c_ref33_Table_Grant_8 : MCode := .seq (.region [⟨(some 26), .fld 2 (.tmp 5), none⟩,
   ⟨(some 27), .load1 (.tmp 26), none⟩,
   ⟨(some 28), .fld 1 (.tmp 10), none⟩,
   ⟨(some 29), .fld 6 (.tmp 28), none⟩,
   ⟨(some 30), .load1 (.tmp 29), none⟩,
   ⟨(some 31), .ar .neq (.tmp 27) (.tmp 30), none⟩,
   ⟨(some 32), .mv (.tmp 31), none⟩,
   ⟨(some 33), .fld 1 (.tmp 5), (some (32, false))⟩,
   ⟨(some 34), .load1 (.tmp 33), (some (32, false))⟩,
   ⟨(some 35), .ar .lss (.tmp 34) (.const (.int .i64 0)), (some (32, false))⟩,
   ⟨(some 36), .pick (.tmp 32) (.const (.bool true)) (.tmp 35), none⟩,
   ⟨(some 37), .mv (.tmp 36), none⟩,
   ⟨(some 38), .fld 0 (.tmp 5), (some (37, false))⟩,
   ⟨(some 39), .load1 (.tmp 38), (some (37, false))⟩,
   ⟨(some 40), .ar .lss (.tmp 39) (.const (.int .i64 0)), (some (37, false))⟩,
   ⟨(some 41), .pick (.tmp 37) (.const (.bool true)) (.tmp 40), none⟩] []) c_ref33_Table_Grant_9
def c_ref33_Table_Grant_12 : MCode := .seq (.region [⟨(some 46), .loadN 1 (.tmp 3), none⟩,
   ⟨(some 47), .mv (.tmp 8), none⟩,
   ⟨(some 48), .loadN 22 (.tmp 10), none⟩,
   ⟨(some 49), .call 40 [(.tmp 46), (.tmp 47), (.tmp 48)], none⟩,
   ⟨none, .store 1 (.tmp 6) (.tmp 49), none⟩,
   ⟨(some 7), .mv (.const (.int .i64 0)), none⟩] []) .ret
def c_ref33_Table_Grant_11 : MCode := .seq (.region [⟨(some 43), .loadN 3 (.tmp 5), none⟩,
   ⟨(some 44), .fld 17 (.tmp 10), none⟩,
   ⟨none, .store 1 (.tmp 44) (.const (.int .i64 2)), none⟩,
   ⟨(some 45), .fld 19 (.tmp 10), none⟩,
   ⟨none, .store 3 (.tmp 45) (.tmp 43), none⟩] [(0, 2)]) c_ref33_Table_Grant_12
def c_ref33_Table_Grant_7 : MCode := .seq c_ref33_Table_Grant_8 c_ref33_Table_Grant_11
def c_ref33_Table_Grant_6 : MCode := .seq (.region [⟨(some 21), .fld 0 (.tmp 3), none⟩,
   ⟨(some 22), .load1 (.tmp 21), none⟩,
   ⟨(some 23), .mv (.tmp 8), none⟩,
   ⟨(some 24), .ixV 22 (.tmp 22) (.tmp 23), none⟩,
   ⟨(some 25), .loadN 22 (.tmp 24), none⟩,
   ⟨(some 10), .new [(.int .i64 0), (.int .i64 0), (.int .i64 0), (.int .i64 0), (.int .i64 0), (.int .i64 0), (.int .i64 0), (.int .i64 0), (.int .i64 0), (.int .i64 0), (.int .i64 0), (.int .i64 0), (.int .i64 0), (.int .i64 0), (.int .i64 0), (.bool false), (.bool false), (.int .i64 0), (.int .i64 0), (.int .i64 0), (.int .i64 0), (.int .i64 0)], none⟩,
   ⟨none, .store 22 (.tmp 10) (.tmp 25), none⟩] []) c_ref33_Table_Grant_7
def c_ref33_Table_Grant_2 : MCode := .seq c_ref33_Table_Grant_3 c_ref33_Table_Grant_6
def c_ref33_Table_Grant_1 : MCode := .seq (.region [⟨(some 12), .loadN 1 (.tmp 3), none⟩,
   ⟨(some 13), .mv (.tmp 1), none⟩,
   ⟨(some 14), .call 41 [(.tmp 12), (.tmp 13)], none⟩,
   ⟨(some 11), .mv (.tmp 14), none⟩,
   ⟨(some 15), .ext (.tmp 11) 0, none⟩,
   ⟨(some 16), .ext (.tmp 11) 1, none⟩,
   ⟨(some 8), .mv (.tmp 15), none⟩,
   ⟨(some 9), .mv (.tmp 16), none⟩] []) c_ref33_Table_Grant_2
def c_ref33_Table_Grant_0 : MCode := .seq (.region [⟨(some 3), .box (.tmp 0), none⟩,
   ⟨(some 5), .box (.tmp 2), none⟩,
   ⟨(some 6), .new [(.slice none 0 0)], none⟩,
   ⟨(some 7), .mv (.const (.int .i64 0)), none⟩] []) c_ref33_Table_Grant_1
/-- (trefoil/trefoilref33.Table).Grant -/
def M_ref33_Table_Grant : MFun := ⟨3, c_ref33_Table_Grant_0, [.cellN 6 1, .tmp 7]⟩
abbrev F_ref33_Table_Grant : Nat := 33
set_option maxRecDepth 100000 in
theorem m_ref33_Table_Grant : InProg Try.prog 0 33 M_ref33_Table_Grant := ⟨Try.f33, [], Try.func33, by kernel_rfl⟩
def c_ref33_Table_Refuse_5 : MCode := .seq (.region [⟨(some 19), .loadN 1 (.tmp 3), none⟩,
   ⟨(some 20), .mv (.tmp 9), none⟩,
   ⟨none, .store 1 (.tmp 6) (.tmp 19), none⟩,
   ⟨(some 7), .mv (.tmp 20), none⟩] []) .ret
def c_ref33_Table_Refuse_4 : MCode := .cond (.tmp 18) c_ref33_Table_Refuse_5 .skip
def c_ref33_Table_Refuse_3 : MCode := .seq (.region [⟨(some 17), .mv (.tmp 9), none⟩,
   ⟨(some 18), .ar .neq (.tmp 17) (.const (.int .i64 0)), none⟩] []) c_ref33_Table_Refuse_4
def c_ref33_Table_Refuse_9 : MCode := .seq (.region [⟨(some 23), .loadN 1 (.tmp 3), none⟩,
   ⟨none, .store 1 (.tmp 6) (.tmp 23), none⟩,
   ⟨(some 7), .mv (.const (.int .i64 1)), none⟩] []) .ret
def c_ref33_Table_Refuse_8 : MCode := .cond (.tmp 22) c_ref33_Table_Refuse_9 .skip
def c_ref33_Table_Refuse_7 : MCode := .seq (.region [⟨(some 21), .mv (.tmp 2), none⟩,
   ⟨(some 22), .ar .eql (.tmp 21) (.const (.int .i64 0)), none⟩] []) c_ref33_Table_Refuse_8
def c_ref33_Table_Refuse_12 : MCode := .seq (.region [⟨(some 32), .loadN 1 (.tmp 3), none⟩,
   ⟨(some 33), .mv (.tmp 8), none⟩,
   ⟨(some 34), .loadN 22 (.tmp 10), none⟩,
   ⟨(some 35), .call 40 [(.tmp 32), (.tmp 33), (.tmp 34)], none⟩,
   ⟨none, .store 1 (.tmp 6) (.tmp 35), none⟩,
   ⟨(some 7), .mv (.const (.int .i64 0)), none⟩] []) .ret
def c_ref33_Table_Refuse_11 : MCode := .seq (.region [⟨(some 29), .mv (.tmp 2), none⟩,
   ⟨(some 30), .fld 17 (.tmp 10), none⟩,
   ⟨none, .store 1 (.tmp 30) (.const (.int .i64 3)), none⟩,
   ⟨(some 31), .fld 18 (.tmp 10), none⟩,
   ⟨none, .store 1 (.tmp 31) (.tmp 29), none⟩] []) c_ref33_Table_Refuse_12
def c_ref33_Table_Refuse_10 : MCode := .seq (.region [⟨(some 24), .fld 0 (.tmp 3), none⟩,
   ⟨(some 25), .load1 (.tmp 24), none⟩,
   ⟨(some 26), .mv (.tmp 8), none⟩,
   ⟨(some 27), .ixV 22 (.tmp 25) (.tmp 26), none⟩,
   ⟨(some 28), .loadN 22 (.tmp 27), none⟩,
   ⟨(some 10), .new [(.int .i64 0), (.int .i64 0), (.int .i64 0), (.int .i64 0), (.int .i64 0), (.int .i64 0), (.int .i64 0), (.int .i64 0), (.int .i64 0), (.int .i64 0), (.int .i64 0), (.int .i64 0), (.int .i64 0), (.int .i64 0), (.int .i64 0), (.bool false), (.bool false), (.int .i64 0), (.int .i64 0), (.int .i64 0), (.int .i64 0), (.int .i64 0)], none⟩,
   ⟨none, .store 22 (.tmp 10) (.tmp 28), none⟩] []) c_ref33_Table_Refuse_11
def c_ref33_Table_Refuse_6 : MCode := .seq c_ref33_Table_Refuse_7 c_ref33_Table_Refuse_10
def c_ref33_Table_Refuse_2 : MCode := .seq c_ref33_Table_Refuse_3 c_ref33_Table_Refuse_6
def c_ref33_Table_Refuse_1 : MCode := .seq (.region [⟨(some 12), .loadN 1 (.tmp 3), none⟩,
   ⟨(some 13), .mv (.tmp 1), none⟩,
   ⟨(some 14), .call 41 [(.tmp 12), (.tmp 13)], none⟩,
   ⟨(some 11), .mv (.tmp 14), none⟩,
   ⟨(some 15), .ext (.tmp 11) 0, none⟩,
   ⟨(some 16), .ext (.tmp 11) 1, none⟩,
   ⟨(some 8), .mv (.tmp 15), none⟩,
   ⟨(some 9), .mv (.tmp 16), none⟩] []) c_ref33_Table_Refuse_2
def c_ref33_Table_Refuse_0 : MCode := .seq (.region [⟨(some 3), .box (.tmp 0), none⟩,
   ⟨(some 6), .new [(.slice none 0 0)], none⟩,
   ⟨(some 7), .mv (.const (.int .i64 0)), none⟩] []) c_ref33_Table_Refuse_1
/-- (trefoil/trefoilref33.Table).Refuse -/
def M_ref33_Table_Refuse : MFun := ⟨3, c_ref33_Table_Refuse_0, [.cellN 6 1, .tmp 7]⟩
abbrev F_ref33_Table_Refuse : Nat := 34
set_option maxRecDepth 100000 in
theorem m_ref33_Table_Refuse : InProg Try.prog 0 34 M_ref33_Table_Refuse := ⟨Try.f34, [], Try.func34, by kernel_rfl⟩
def c_serve_Table_open_8 : MCode := .cond (.tmp 15) .skip (.exit 0)
def c_serve_Table_open_15 : MCode := (.region [⟨(some 41), .mv (.tmp 3), none⟩,
   ⟨(some 42), .mv (.tmp 6), none⟩,
   ⟨(some 43), .buildSlice [(.pointer none)] 1 [(0, 1, (.tmp 42))], none⟩,
   ⟨(some 44), .app 1 8 (.tmp 41) (.tmp 43), none⟩,
   ⟨(some 3), .mv (.tmp 44), none⟩] [])
def c_serve_Table_open_14 : MCode := .cond (.tmp 40) c_serve_Table_open_15 .skip
def c_serve_Table_open_13 : MCode := .seq (.region [⟨(some 24), .mv (.tmp 6), none⟩,
   ⟨(some 25), .nilCheck (.tmp 24), none⟩,
   ⟨(some 26), .fld 17 (.tmp 25), none⟩,
   ⟨(some 27), .load1 (.tmp 26), none⟩,
   ⟨(some 28), .ar .eql (.tmp 27) (.const (.int .i64 1)), none⟩,
   ⟨(some 29), .mv (.tmp 28), none⟩,
   ⟨(some 30), .mv (.tmp 6), (some (29, true))⟩,
   ⟨(some 31), .nilCheck (.tmp 30), (some (29, true))⟩,
   ⟨(some 32), .fld 14 (.tmp 31), (some (29, true))⟩,
   ⟨(some 33), .load1 (.tmp 32), (some (29, true))⟩,
   ⟨(some 34), .pick (.tmp 29) (.tmp 33) (.const (.bool false)), none⟩,
   ⟨(some 35), .mv (.tmp 34), none⟩,
   ⟨(some 36), .mv (.tmp 6), (some (35, true))⟩,
   ⟨(some 37), .nilCheck (.tmp 36), (some (35, true))⟩,
   ⟨(some 38), .fld 15 (.tmp 37), (some (35, true))⟩,
   ⟨(some 39), .load1 (.tmp 38), (some (35, true))⟩,
   ⟨(some 40), .pick (.tmp 35) (.tmp 39) (.const (.bool false)), none⟩] []) c_serve_Table_open_14
def c_serve_Table_open_12 : MCode := .seq (.region [⟨(some 18), .mv (.tmp 0), none⟩,
   ⟨(some 19), .nilCheck (.tmp 18), none⟩,
   ⟨(some 20), .fld 0 (.tmp 19), none⟩,
   ⟨(some 21), .load1 (.tmp 20), none⟩,
   ⟨(some 22), .mv (.tmp 5), none⟩,
   ⟨(some 23), .look .int (.pointer none) false (.tmp 21) (.tmp 22), none⟩,
   ⟨(some 6), .mv (.tmp 23), none⟩] []) c_serve_Table_open_13
def c_serve_Table_open_11 : MCode := .seq (.region [⟨(some 16), .ixV 1 (.tmp 12) (.tmp 14), none⟩,
   ⟨(some 17), .load1 (.tmp 16), none⟩,
   ⟨(some 5), .mv (.tmp 17), none⟩] []) c_serve_Table_open_12
def c_serve_Table_open_10 : MCode := .block 1 c_serve_Table_open_11
def c_serve_Table_open_16 : MCode := (.region [⟨(some 45), .ar .add (.tmp 14) (.const (.int .i64 1)), none⟩,
   ⟨(some 14), .mv (.tmp 45), none⟩] [])
def c_serve_Table_open_9 : MCode := .seq c_serve_Table_open_10 c_serve_Table_open_16
def c_serve_Table_open_7 : MCode := .seq c_serve_Table_open_8 c_serve_Table_open_9
def c_serve_Table_open_6 : MCode := .seq (.region [⟨(some 15), .ar .lss (.tmp 14) (.tmp 13), none⟩] []) c_serve_Table_open_7
def c_serve_Table_open_5 : MCode := .loop [0, 3, 12, 13, 14] c_serve_Table_open_6
def c_serve_Table_open_4 : MCode := .block 0 c_serve_Table_open_5
def c_serve_Table_open_3 : MCode := .seq (.region [⟨(some 7), .mv (.tmp 0), none⟩,
   ⟨(some 8), .nilCheck (.tmp 7), none⟩,
   ⟨(some 9), .fld 0 (.tmp 8), none⟩,
   ⟨(some 10), .load1 (.tmp 9), none⟩,
   ⟨(some 11), .call 37 [(.tmp 10)], none⟩,
   ⟨(some 12), .call 36 [(.tmp 11)], none⟩,
   ⟨(some 13), .lenV (.tmp 12), none⟩,
   ⟨(some 14), .mv (.const (.int .i64 0)), none⟩] []) c_serve_Table_open_4
def c_serve_Table_open_18 : MCode := .seq (.region [⟨(some 48), .mv (.tmp 3), none⟩,
   ⟨(some 2), .mv (.tmp 48), none⟩] []) .ret
def c_serve_Table_open_17 : MCode := .seq (.region [⟨(some 46), .mv (.tmp 3), none⟩,
   ⟨(some 47), .call 42 [(.tmp 46), (.func 43)], none⟩] []) c_serve_Table_open_18
def c_serve_Table_open_2 : MCode := .seq c_serve_Table_open_3 c_serve_Table_open_17
def c_serve_Table_open_1 : MCode := .seq (.region [⟨(some 3), .mv (.const (.slice none 0 0)), none⟩] []) c_serve_Table_open_2
def c_serve_Table_open_0 : MCode := .seq (.region [⟨(some 2), .mv (.const (.slice none 0 0)), none⟩] []) c_serve_Table_open_1
/-- (*trefoil/serve.Table).open -/
def M_serve_Table_open : MFun := ⟨1, c_serve_Table_open_0, [.tmp 2]⟩
abbrev F_serve_Table_open : Nat := 35
set_option maxRecDepth 100000 in
theorem m_serve_Table_open : InProg Try.prog 0 35 M_serve_Table_open := ⟨Try.f35, [[0, 3, 12, 13, 14]], Try.func35, by kernel_rfl⟩
def c_maps_Keys_map_int_serve_slot_int_serve_slot_1 : MCode := .seq (.region [⟨(some 3), .mkF 46 [] [(.tmp 1)], none⟩,
   ⟨(some 2), .mv (.tmp 3), none⟩] []) .ret
def c_maps_Keys_map_int_serve_slot_int_serve_slot_0 : MCode := .seq (.region [⟨(some 1), .box (.tmp 0), none⟩,
   ⟨(some 2), .mv (.const .nilFunc), none⟩] []) c_maps_Keys_map_int_serve_slot_int_serve_slot_1
/-- maps.Keys[map[int]*trefoil/serve.slot,int,*trefoil/serve.slot] -/
def M_maps_Keys_map_int_serve_slot_int_serve_slot : MFun := ⟨1, c_maps_Keys_map_int_serve_slot_int_serve_slot_0, [.tmp 2]⟩
abbrev F_maps_Keys_map_int_serve_slot_int_serve_slot : Nat := 37
set_option maxRecDepth 100000 in
theorem m_maps_Keys_map_int_serve_slot_int_serve_slot : InProg Try.prog 0 37 M_maps_Keys_map_int_serve_slot_int_serve_slot := ⟨Try.f37, [], Try.func37, by kernel_rfl⟩
def c_shape_side_1 : MCode := .seq (.region [⟨(some 3), .mv (.tmp 0), none⟩,
   ⟨(some 4), .ar .geq (.tmp 3) (.const (.int .i64 1)), none⟩,
   ⟨(some 5), .mv (.tmp 4), none⟩,
   ⟨(some 6), .mv (.tmp 0), (some (5, true))⟩,
   ⟨(some 7), .ar .leq (.tmp 6) (.const (.int .i64 6)), (some (5, true))⟩,
   ⟨(some 8), .pick (.tmp 5) (.tmp 7) (.const (.bool false)), none⟩,
   ⟨(some 2), .mv (.tmp 8), none⟩] []) .ret
def c_shape_side_0 : MCode := .seq (.region [⟨(some 2), .mv (.const (.bool false)), none⟩] []) c_shape_side_1
/-- trefoil/shape.side -/
def M_shape_side : MFun := ⟨1, c_shape_side_0, [.tmp 2]⟩
abbrev F_shape_side : Nat := 38
set_option maxRecDepth 100000 in
theorem m_shape_side : InProg Try.prog 0 38 M_shape_side := ⟨Try.f38, [], Try.func38, by kernel_rfl⟩
def c_ref09_in_1 : MCode := .seq (.region [⟨(some 5), .mv (.tmp 0), none⟩,
   ⟨(some 6), .ar .geq (.tmp 5) (.const (.int .i64 1)), none⟩,
   ⟨(some 7), .mv (.tmp 6), none⟩,
   ⟨(some 8), .mv (.tmp 0), (some (7, true))⟩,
   ⟨(some 9), .mv (.tmp 1), (some (7, true))⟩,
   ⟨(some 10), .ar .leq (.tmp 8) (.tmp 9), (some (7, true))⟩,
   ⟨(some 11), .pick (.tmp 7) (.tmp 10) (.const (.bool false)), none⟩,
   ⟨(some 4), .mv (.tmp 11), none⟩] []) .ret
def c_ref09_in_0 : MCode := .seq (.region [⟨(some 4), .mv (.const (.bool false)), none⟩] []) c_ref09_in_1
/-- trefoil/trefoilref09.in -/
def M_ref09_in : MFun := ⟨2, c_ref09_in_0, [.tmp 4]⟩
abbrev F_ref09_in : Nat := 39
set_option maxRecDepth 100000 in
theorem m_ref09_in : InProg Try.prog 0 39 M_ref09_in := ⟨Try.f39, [], Try.func39, by kernel_rfl⟩
def c_ref33_Table_with_5 : MCode := .seq (.region [⟨(some 14), .mv (.tmp 7), none⟩,
   ⟨(some 15), .loadN 22 (.tmp 5), none⟩,
   ⟨(some 16), .buildSlice [(.int .i64 0), (.int .i64 0), (.int .i64 0), (.int .i64 0), (.int .i64 0), (.int .i64 0), (.int .i64 0), (.int .i64 0), (.int .i64 0), (.int .i64 0), (.int .i64 0), (.int .i64 0), (.int .i64 0), (.int .i64 0), (.int .i64 0), (.bool false), (.bool false), (.int .i64 0), (.int .i64 0), (.int .i64 0), (.int .i64 0), (.int .i64 0)] 1 [(0, 22, (.tmp 15))], none⟩,
   ⟨(some 17), .app 22 168 (.tmp 14) (.tmp 16), none⟩,
   ⟨(some 18), .build [(.slice none 0 0)] [(0, 1, (.tmp 17))], none⟩,
   ⟨none, .store 1 (.tmp 6) (.tmp 18), none⟩] []) .ret
def c_ref33_Table_with_4 : MCode := .cond (.tmp 13) c_ref33_Table_with_5 .skip
def c_ref33_Table_with_3 : MCode := .seq (.region [⟨(some 12), .mv (.tmp 1), none⟩,
   ⟨(some 13), .ar .lss (.tmp 12) (.const (.int .i64 0)), none⟩] []) c_ref33_Table_with_4
def c_ref33_Table_with_7 : MCode := .seq (.region [⟨(some 23), .mv (.tmp 7), none⟩,
   ⟨(some 24), .build [(.slice none 0 0)] [(0, 1, (.tmp 23))], none⟩,
   ⟨none, .store 1 (.tmp 6) (.tmp 24), none⟩] []) .ret
def c_ref33_Table_with_6 : MCode := .seq (.region [⟨(some 19), .mv (.tmp 7), none⟩,
   ⟨(some 20), .mv (.tmp 1), none⟩,
   ⟨(some 21), .loadN 22 (.tmp 5), none⟩,
   ⟨(some 22), .ixV 22 (.tmp 19) (.tmp 20), none⟩,
   ⟨none, .store 22 (.tmp 22) (.tmp 21), none⟩] []) c_ref33_Table_with_7
def c_ref33_Table_with_2 : MCode := .seq c_ref33_Table_with_3 c_ref33_Table_with_6
def c_ref33_Table_with_1 : MCode := .seq (.region [⟨(some 8), .buildSlice [] 0 [], none⟩,
   ⟨(some 9), .fld 0 (.tmp 3), none⟩,
   ⟨(some 10), .load1 (.tmp 9), none⟩,
   ⟨(some 11), .app 22 168 (.tmp 8) (.tmp 10), none⟩,
   ⟨(some 7), .mv (.tmp 11), none⟩] []) c_ref33_Table_with_2
def c_ref33_Table_with_0 : MCode := .seq (.region [⟨(some 3), .box (.tmp 0), none⟩,
   ⟨(some 5), .box (.tmp 2), none⟩,
   ⟨(some 6), .new [(.slice none 0 0)], none⟩] []) c_ref33_Table_with_1
/-- (trefoil/trefoilref33.Table).with -/
def M_ref33_Table_with : MFun := ⟨3, c_ref33_Table_with_0, [.cellN 6 1]⟩
abbrev F_ref33_Table_with : Nat := 40
set_option maxRecDepth 100000 in
theorem m_ref33_Table_with : InProg Try.prog 0 40 M_ref33_Table_with := ⟨Try.f40, [], Try.func40, by kernel_rfl⟩
def c_ref33_Table_own_5 : MCode := .seq (.region [⟨(some 21), .mv (.tmp 6), none⟩,
   ⟨(some 4), .mv (.tmp 21), none⟩,
   ⟨(some 5), .mv (.const (.int .i64 6)), none⟩] []) .ret
def c_ref33_Table_own_4 : MCode := .cond (.tmp 20) c_ref33_Table_own_5 .skip
def c_ref33_Table_own_3 : MCode := .seq (.region [⟨(some 10), .mv (.tmp 6), none⟩,
   ⟨(some 11), .ar .lss (.tmp 10) (.const (.int .i64 0)), none⟩,
   ⟨(some 12), .mv (.tmp 11), none⟩,
   ⟨(some 13), .fld 0 (.tmp 2), (some (12, false))⟩,
   ⟨(some 14), .load1 (.tmp 13), (some (12, false))⟩,
   ⟨(some 15), .mv (.tmp 6), (some (12, false))⟩,
   ⟨(some 16), .ixV 22 (.tmp 14) (.tmp 15), (some (12, false))⟩,
   ⟨(some 17), .fld 15 (.tmp 16), (some (12, false))⟩,
   ⟨(some 18), .load1 (.tmp 17), (some (12, false))⟩,
   ⟨(some 19), .un .not (.tmp 18), (some (12, false))⟩,
   ⟨(some 20), .pick (.tmp 12) (.const (.bool true)) (.tmp 19), none⟩] []) c_ref33_Table_own_4
def c_ref33_Table_own_9 : MCode := .seq (.region [⟨(some 29), .mv (.tmp 6), none⟩,
   ⟨(some 4), .mv (.tmp 29), none⟩,
   ⟨(some 5), .mv (.const (.int .i64 8)), none⟩] []) .ret
def c_ref33_Table_own_8 : MCode := .cond (.tmp 28) c_ref33_Table_own_9 .skip
def c_ref33_Table_own_7 : MCode := .seq (.region [⟨(some 22), .fld 0 (.tmp 2), none⟩,
   ⟨(some 23), .load1 (.tmp 22), none⟩,
   ⟨(some 24), .mv (.tmp 6), none⟩,
   ⟨(some 25), .ixV 22 (.tmp 23) (.tmp 24), none⟩,
   ⟨(some 26), .fld 17 (.tmp 25), none⟩,
   ⟨(some 27), .load1 (.tmp 26), none⟩,
   ⟨(some 28), .ar .neq (.tmp 27) (.const (.int .i64 1)), none⟩] []) c_ref33_Table_own_8
def c_ref33_Table_own_10 : MCode := .seq (.region [⟨(some 30), .mv (.tmp 6), none⟩,
   ⟨(some 4), .mv (.tmp 30), none⟩,
   ⟨(some 5), .mv (.const (.int .i64 0)), none⟩] []) .ret
def c_ref33_Table_own_6 : MCode := .seq c_ref33_Table_own_7 c_ref33_Table_own_10
def c_ref33_Table_own_2 : MCode := .seq c_ref33_Table_own_3 c_ref33_Table_own_6
def c_ref33_Table_own_1 : MCode := .seq (.region [⟨(some 7), .loadN 1 (.tmp 2), none⟩,
   ⟨(some 8), .mv (.tmp 1), none⟩,
   ⟨(some 9), .call 25 [(.tmp 7), (.tmp 8)], none⟩,
   ⟨(some 6), .mv (.tmp 9), none⟩] []) c_ref33_Table_own_2
def c_ref33_Table_own_0 : MCode := .seq (.region [⟨(some 2), .box (.tmp 0), none⟩,
   ⟨(some 4), .mv (.const (.int .i64 0)), none⟩,
   ⟨(some 5), .mv (.const (.int .i64 0)), none⟩] []) c_ref33_Table_own_1
/-- (trefoil/trefoilref33.Table).own -/
def M_ref33_Table_own : MFun := ⟨2, c_ref33_Table_own_0, [.tmp 4, .tmp 5]⟩
abbrev F_ref33_Table_own : Nat := 41
set_option maxRecDepth 100000 in
theorem m_ref33_Table_own : InProg Try.prog 0 41 M_ref33_Table_own := ⟨Try.f41, [], Try.func41, by kernel_rfl⟩
def c_slices_SortStableFunc_serve_slot_serve_slot_0 : MCode := (.region [⟨(some 4), .mv (.tmp 0), none⟩,
   ⟨(some 5), .mv (.tmp 0), none⟩,
   ⟨(some 6), .lenV (.tmp 5), none⟩,
   ⟨(some 7), .mv (.tmp 1), none⟩,
   ⟨(some 8), .call 47 [(.tmp 4), (.tmp 6), (.tmp 7)], none⟩] [])
/-- slices.SortStableFunc[[]*trefoil/serve.slot,*trefoil/serve.slot] -/
def M_slices_SortStableFunc_serve_slot_serve_slot : MFun := ⟨2, c_slices_SortStableFunc_serve_slot_serve_slot_0, []⟩
abbrev F_slices_SortStableFunc_serve_slot_serve_slot : Nat := 42
set_option maxRecDepth 100000 in
theorem m_slices_SortStableFunc_serve_slot_serve_slot : InProg Try.prog 0 42 M_slices_SortStableFunc_serve_slot_serve_slot := ⟨Try.f42, [], Try.func42, by kernel_rfl⟩
def c_serve_Table_open_1_1 : MCode := .seq (.region [⟨(some 5), .mv (.tmp 0), none⟩,
   ⟨(some 6), .nilCheck (.tmp 5), none⟩,
   ⟨(some 7), .fld 16 (.tmp 6), none⟩,
   ⟨(some 8), .load1 (.tmp 7), none⟩,
   ⟨(some 9), .mv (.tmp 1), none⟩,
   ⟨(some 10), .nilCheck (.tmp 9), none⟩,
   ⟨(some 11), .fld 16 (.tmp 10), none⟩,
   ⟨(some 12), .load1 (.tmp 11), none⟩,
   ⟨(some 13), .ar .sub (.tmp 8) (.tmp 12), none⟩,
   ⟨(some 4), .mv (.tmp 13), none⟩] []) .ret
def c_serve_Table_open_1_0 : MCode := .seq (.region [⟨(some 4), .mv (.const (.int .i64 0)), none⟩] []) c_serve_Table_open_1_1
/-- (*trefoil/serve.Table).open$1 -/
def M_serve_Table_open_1 : MFun := ⟨2, c_serve_Table_open_1_0, [.tmp 4]⟩
abbrev F_serve_Table_open_1 : Nat := 43
set_option maxRecDepth 100000 in
theorem m_serve_Table_open_1 : InProg Try.prog 0 43 M_serve_Table_open_1 := ⟨Try.f43, [], Try.func43, by kernel_rfl⟩
def c_slices_stableCmpFunc_serve_slot_7 : MCode := .cond (.tmp 13) .skip (.exit 0)
def c_slices_stableCmpFunc_serve_slot_6 : MCode := .seq (.region [⟨(some 11), .mv (.tmp 8), none⟩,
   ⟨(some 12), .mv (.tmp 1), none⟩,
   ⟨(some 13), .ar .leq (.tmp 11) (.tmp 12), none⟩] []) c_slices_stableCmpFunc_serve_slot_7
def c_slices_stableCmpFunc_serve_slot_11 : MCode := (.region [⟨(some 20), .mv (.tmp 8), none⟩,
   ⟨(some 21), .mv (.tmp 6), none⟩,
   ⟨(some 22), .ar .add (.tmp 20) (.tmp 21), none⟩,
   ⟨(some 8), .mv (.tmp 22), none⟩] [])
def c_slices_stableCmpFunc_serve_slot_10 : MCode := .seq (.region [⟨(some 19), .mv (.tmp 8), none⟩,
   ⟨(some 7), .mv (.tmp 19), none⟩] []) c_slices_stableCmpFunc_serve_slot_11
def c_slices_stableCmpFunc_serve_slot_9 : MCode := .seq (.region [⟨(some 14), .mv (.tmp 0), none⟩,
   ⟨(some 15), .mv (.tmp 7), none⟩,
   ⟨(some 16), .mv (.tmp 8), none⟩,
   ⟨(some 17), .mv (.tmp 2), none⟩,
   ⟨(some 18), .call 51 [(.tmp 14), (.tmp 15), (.tmp 16), (.tmp 17)], none⟩] []) c_slices_stableCmpFunc_serve_slot_10
def c_slices_stableCmpFunc_serve_slot_8 : MCode := .block 1 c_slices_stableCmpFunc_serve_slot_9
def c_slices_stableCmpFunc_serve_slot_5 : MCode := .seq c_slices_stableCmpFunc_serve_slot_6 c_slices_stableCmpFunc_serve_slot_8
def c_slices_stableCmpFunc_serve_slot_4 : MCode := .loop [0, 1, 2, 6, 7, 8] c_slices_stableCmpFunc_serve_slot_5
def c_slices_stableCmpFunc_serve_slot_3 : MCode := .block 0 c_slices_stableCmpFunc_serve_slot_4
def c_slices_stableCmpFunc_serve_slot_17 : MCode := .cond (.tmp 30) .skip (.exit 2)
def c_slices_stableCmpFunc_serve_slot_16 : MCode := .seq (.region [⟨(some 28), .mv (.tmp 6), none⟩,
   ⟨(some 29), .mv (.tmp 1), none⟩,
   ⟨(some 30), .ar .lss (.tmp 28) (.tmp 29), none⟩] []) c_slices_stableCmpFunc_serve_slot_17
def c_slices_stableCmpFunc_serve_slot_25 : MCode := .cond (.tmp 35) .skip (.exit 4)
def c_slices_stableCmpFunc_serve_slot_24 : MCode := .seq (.region [⟨(some 33), .mv (.tmp 8), none⟩,
   ⟨(some 34), .mv (.tmp 1), none⟩,
   ⟨(some 35), .ar .leq (.tmp 33) (.tmp 34), none⟩] []) c_slices_stableCmpFunc_serve_slot_25
def c_slices_stableCmpFunc_serve_slot_29 : MCode := (.region [⟨(some 45), .mv (.tmp 8), none⟩,
   ⟨(some 46), .mv (.tmp 6), none⟩,
   ⟨(some 47), .ar .mul (.const (.int .i64 2)) (.tmp 46), none⟩,
   ⟨(some 48), .ar .add (.tmp 45) (.tmp 47), none⟩,
   ⟨(some 8), .mv (.tmp 48), none⟩] [])
def c_slices_stableCmpFunc_serve_slot_28 : MCode := .seq (.region [⟨(some 44), .mv (.tmp 8), none⟩,
   ⟨(some 7), .mv (.tmp 44), none⟩] []) c_slices_stableCmpFunc_serve_slot_29
def c_slices_stableCmpFunc_serve_slot_27 : MCode := .seq (.region [⟨(some 36), .mv (.tmp 0), none⟩,
   ⟨(some 37), .mv (.tmp 7), none⟩,
   ⟨(some 38), .mv (.tmp 7), none⟩,
   ⟨(some 39), .mv (.tmp 6), none⟩,
   ⟨(some 40), .ar .add (.tmp 38) (.tmp 39), none⟩,
   ⟨(some 41), .mv (.tmp 8), none⟩,
   ⟨(some 42), .mv (.tmp 2), none⟩,
   ⟨(some 43), .call 52 [(.tmp 36), (.tmp 37), (.tmp 40), (.tmp 41), (.tmp 42)], none⟩] []) c_slices_stableCmpFunc_serve_slot_28
def c_slices_stableCmpFunc_serve_slot_26 : MCode := .block 5 c_slices_stableCmpFunc_serve_slot_27
def c_slices_stableCmpFunc_serve_slot_23 : MCode := .seq c_slices_stableCmpFunc_serve_slot_24 c_slices_stableCmpFunc_serve_slot_26
def c_slices_stableCmpFunc_serve_slot_22 : MCode := .loop [0, 1, 2, 6, 7, 8] c_slices_stableCmpFunc_serve_slot_23
def c_slices_stableCmpFunc_serve_slot_21 : MCode := .block 4 c_slices_stableCmpFunc_serve_slot_22
def c_slices_stableCmpFunc_serve_slot_34 : MCode := (.region [⟨(some 55), .mv (.tmp 0), none⟩,
   ⟨(some 56), .mv (.tmp 7), none⟩,
   ⟨(some 57), .mv (.tmp 9), none⟩,
   ⟨(some 58), .mv (.tmp 1), none⟩,
   ⟨(some 59), .mv (.tmp 2), none⟩,
   ⟨(some 60), .call 52 [(.tmp 55), (.tmp 56), (.tmp 57), (.tmp 58), (.tmp 59)], none⟩] [])
def c_slices_stableCmpFunc_serve_slot_33 : MCode := .cond (.tmp 54) c_slices_stableCmpFunc_serve_slot_34 .skip
def c_slices_stableCmpFunc_serve_slot_32 : MCode := .seq (.region [⟨(some 52), .mv (.tmp 9), none⟩,
   ⟨(some 53), .mv (.tmp 1), none⟩,
   ⟨(some 54), .ar .lss (.tmp 52) (.tmp 53), none⟩] []) c_slices_stableCmpFunc_serve_slot_33
def c_slices_stableCmpFunc_serve_slot_31 : MCode := .seq (.region [⟨(some 49), .mv (.tmp 7), none⟩,
   ⟨(some 50), .mv (.tmp 6), none⟩,
   ⟨(some 51), .ar .add (.tmp 49) (.tmp 50), none⟩,
   ⟨(some 9), .mv (.tmp 51), none⟩] []) c_slices_stableCmpFunc_serve_slot_32
def c_slices_stableCmpFunc_serve_slot_35 : MCode := (.region [⟨(some 61), .mv (.tmp 6), none⟩,
   ⟨(some 62), .ar .mul (.tmp 61) (.const (.int .i64 2)), none⟩,
   ⟨(some 6), .mv (.tmp 62), none⟩] [])
def c_slices_stableCmpFunc_serve_slot_30 : MCode := .seq c_slices_stableCmpFunc_serve_slot_31 c_slices_stableCmpFunc_serve_slot_35
def c_slices_stableCmpFunc_serve_slot_20 : MCode := .seq c_slices_stableCmpFunc_serve_slot_21 c_slices_stableCmpFunc_serve_slot_30
def c_slices_stableCmpFunc_serve_slot_19 : MCode := .seq (.region [⟨(some 31), .mv (.tmp 6), none⟩,
   ⟨(some 32), .ar .mul (.const (.int .i64 2)) (.tmp 31), none⟩,
   ⟨(some 7), .mv (.const (.int .i64 0)), none⟩,
   ⟨(some 8), .mv (.tmp 32), none⟩] []) c_slices_stableCmpFunc_serve_slot_20
def c_slices_stableCmpFunc_serve_slot_18 : MCode := .block 3 c_slices_stableCmpFunc_serve_slot_19
def c_slices_stableCmpFunc_serve_slot_15 : MCode := .seq c_slices_stableCmpFunc_serve_slot_16 c_slices_stableCmpFunc_serve_slot_18
def c_slices_stableCmpFunc_serve_slot_14 : MCode := .loop [0, 1, 2, 6] c_slices_stableCmpFunc_serve_slot_15
def c_slices_stableCmpFunc_serve_slot_13 : MCode := .block 2 c_slices_stableCmpFunc_serve_slot_14
def c_slices_stableCmpFunc_serve_slot_12 : MCode := .seq (.region [⟨(some 23), .mv (.tmp 0), none⟩,
   ⟨(some 24), .mv (.tmp 7), none⟩,
   ⟨(some 25), .mv (.tmp 1), none⟩,
   ⟨(some 26), .mv (.tmp 2), none⟩,
   ⟨(some 27), .call 51 [(.tmp 23), (.tmp 24), (.tmp 25), (.tmp 26)], none⟩] []) c_slices_stableCmpFunc_serve_slot_13
def c_slices_stableCmpFunc_serve_slot_2 : MCode := .seq c_slices_stableCmpFunc_serve_slot_3 c_slices_stableCmpFunc_serve_slot_12
def c_slices_stableCmpFunc_serve_slot_1 : MCode := .seq (.region [⟨(some 10), .mv (.tmp 6), none⟩,
   ⟨(some 7), .mv (.const (.int .i64 0)), none⟩,
   ⟨(some 8), .mv (.tmp 10), none⟩] []) c_slices_stableCmpFunc_serve_slot_2
def c_slices_stableCmpFunc_serve_slot_0 : MCode := .seq (.region [⟨(some 6), .mv (.const (.int .i64 20)), none⟩] []) c_slices_stableCmpFunc_serve_slot_1
/-- slices.stableCmpFunc[*trefoil/serve.slot] -/
def M_slices_stableCmpFunc_serve_slot : MFun := ⟨3, c_slices_stableCmpFunc_serve_slot_0, []⟩
abbrev F_slices_stableCmpFunc_serve_slot : Nat := 47
set_option maxRecDepth 100000 in
theorem m_slices_stableCmpFunc_serve_slot : InProg Try.prog 0 47 M_slices_stableCmpFunc_serve_slot := ⟨Try.f47, [[0, 1, 2, 6, 7, 8], [0, 1, 2, 6], [0, 1, 2, 6, 7, 8]], Try.func47, by kernel_rfl⟩
def c_slices_insertionSortCmpFunc_serve_slot_5 : MCode := .cond (.tmp 14) .skip (.exit 0)
def c_slices_insertionSortCmpFunc_serve_slot_4 : MCode := .seq (.region [⟨(some 12), .mv (.tmp 8), none⟩,
   ⟨(some 13), .mv (.tmp 2), none⟩,
   ⟨(some 14), .ar .lss (.tmp 12) (.tmp 13), none⟩] []) c_slices_insertionSortCmpFunc_serve_slot_5
def c_slices_insertionSortCmpFunc_serve_slot_13 : MCode := .cond (.tmp 34) .skip (.exit 2)
def c_slices_insertionSortCmpFunc_serve_slot_12 : MCode := .seq (.region [⟨(some 18), .mv (.tmp 9), none⟩,
   ⟨(some 19), .mv (.tmp 1), none⟩,
   ⟨(some 20), .ar .gtr (.tmp 18) (.tmp 19), none⟩,
   ⟨(some 21), .mv (.tmp 20), none⟩,
   ⟨(some 22), .mv (.tmp 3), (some (21, true))⟩,
   ⟨(some 23), .mv (.tmp 0), (some (21, true))⟩,
   ⟨(some 24), .mv (.tmp 9), (some (21, true))⟩,
   ⟨(some 25), .ixV 1 (.tmp 23) (.tmp 24), (some (21, true))⟩,
   ⟨(some 26), .load1 (.tmp 25), (some (21, true))⟩,
   ⟨(some 27), .mv (.tmp 0), (some (21, true))⟩,
   ⟨(some 28), .mv (.tmp 9), (some (21, true))⟩,
   ⟨(some 29), .ar .sub (.tmp 28) (.const (.int .i64 1)), (some (21, true))⟩,
   ⟨(some 30), .ixV 1 (.tmp 27) (.tmp 29), (some (21, true))⟩,
   ⟨(some 31), .load1 (.tmp 30), (some (21, true))⟩,
   ⟨(some 32), .callV (.tmp 22) [(.tmp 26), (.tmp 31)], (some (21, true))⟩,
   ⟨(some 33), .ar .lss (.tmp 32) (.const (.int .i64 0)), (some (21, true))⟩,
   ⟨(some 34), .pick (.tmp 21) (.tmp 33) (.const (.bool false)), none⟩] []) c_slices_insertionSortCmpFunc_serve_slot_13
def c_slices_insertionSortCmpFunc_serve_slot_16 : MCode := (.region [⟨(some 37), .mv (.tmp 0), none⟩,
   ⟨(some 38), .mv (.tmp 9), none⟩,
   ⟨(some 39), .mv (.tmp 0), none⟩,
   ⟨(some 40), .mv (.tmp 9), none⟩,
   ⟨(some 41), .ar .sub (.tmp 40) (.const (.int .i64 1)), none⟩,
   ⟨(some 42), .mv (.tmp 0), none⟩,
   ⟨(some 43), .mv (.tmp 9), none⟩,
   ⟨(some 44), .ar .sub (.tmp 43) (.const (.int .i64 1)), none⟩,
   ⟨(some 45), .ixV 1 (.tmp 42) (.tmp 44), none⟩,
   ⟨(some 46), .load1 (.tmp 45), none⟩,
   ⟨(some 47), .mv (.tmp 0), none⟩,
   ⟨(some 48), .mv (.tmp 9), none⟩,
   ⟨(some 49), .ixV 1 (.tmp 47) (.tmp 48), none⟩,
   ⟨(some 50), .load1 (.tmp 49), none⟩,
   ⟨(some 51), .ixV 1 (.tmp 37) (.tmp 38), none⟩,
   ⟨none, .store 1 (.tmp 51) (.tmp 46), none⟩,
   ⟨(some 52), .ixV 1 (.tmp 39) (.tmp 41), none⟩,
   ⟨none, .store 1 (.tmp 52) (.tmp 50), none⟩] [])
def c_slices_insertionSortCmpFunc_serve_slot_15 : MCode := .block 3 c_slices_insertionSortCmpFunc_serve_slot_16
def c_slices_insertionSortCmpFunc_serve_slot_17 : MCode := (.region [⟨(some 35), .mv (.tmp 9), none⟩,
   ⟨(some 36), .ar .sub (.tmp 35) (.const (.int .i64 1)), none⟩,
   ⟨(some 9), .mv (.tmp 36), none⟩] [])
def c_slices_insertionSortCmpFunc_serve_slot_14 : MCode := .seq c_slices_insertionSortCmpFunc_serve_slot_15 c_slices_insertionSortCmpFunc_serve_slot_17
def c_slices_insertionSortCmpFunc_serve_slot_11 : MCode := .seq c_slices_insertionSortCmpFunc_serve_slot_12 c_slices_insertionSortCmpFunc_serve_slot_14
def c_slices_insertionSortCmpFunc_serve_slot_10 : MCode := .loop [0, 1, 2, 3, 8, 9] c_slices_insertionSortCmpFunc_serve_slot_11
def c_slices_insertionSortCmpFunc_serve_slot_9 : MCode := .block 2 c_slices_insertionSortCmpFunc_serve_slot_10
def c_slices_insertionSortCmpFunc_serve_slot_8 : MCode := .seq (.region [⟨(some 17), .mv (.tmp 8), none⟩,
   ⟨(some 9), .mv (.tmp 17), none⟩] []) c_slices_insertionSortCmpFunc_serve_slot_9
def c_slices_insertionSortCmpFunc_serve_slot_7 : MCode := .block 1 c_slices_insertionSortCmpFunc_serve_slot_8
def c_slices_insertionSortCmpFunc_serve_slot_18 : MCode := (.region [⟨(some 15), .mv (.tmp 8), none⟩,
   ⟨(some 16), .ar .add (.tmp 15) (.const (.int .i64 1)), none⟩,
   ⟨(some 8), .mv (.tmp 16), none⟩] [])
def c_slices_insertionSortCmpFunc_serve_slot_6 : MCode := .seq c_slices_insertionSortCmpFunc_serve_slot_7 c_slices_insertionSortCmpFunc_serve_slot_18
def c_slices_insertionSortCmpFunc_serve_slot_3 : MCode := .seq c_slices_insertionSortCmpFunc_serve_slot_4 c_slices_insertionSortCmpFunc_serve_slot_6
def c_slices_insertionSortCmpFunc_serve_slot_2 : MCode := .loop [0, 1, 2, 3, 8] c_slices_insertionSortCmpFunc_serve_slot_3
def c_slices_insertionSortCmpFunc_serve_slot_1 : MCode := .block 0 c_slices_insertionSortCmpFunc_serve_slot_2
def c_slices_insertionSortCmpFunc_serve_slot_0 : MCode := .seq (.region [⟨(some 10), .mv (.tmp 1), none⟩,
   ⟨(some 11), .ar .add (.tmp 10) (.const (.int .i64 1)), none⟩,
   ⟨(some 8), .mv (.tmp 11), none⟩] []) c_slices_insertionSortCmpFunc_serve_slot_1
/-- slices.insertionSortCmpFunc[*trefoil/serve.slot] -/
def M_slices_insertionSortCmpFunc_serve_slot : MFun := ⟨4, c_slices_insertionSortCmpFunc_serve_slot_0, []⟩
abbrev F_slices_insertionSortCmpFunc_serve_slot : Nat := 51
set_option maxRecDepth 100000 in
theorem m_slices_insertionSortCmpFunc_serve_slot : InProg Try.prog 0 51 M_slices_insertionSortCmpFunc_serve_slot := ⟨Try.f51, [[0, 1, 2, 3, 8], [0, 1, 2, 3, 8, 9]], Try.func51, by kernel_rfl⟩
def c_slices_symMergeCmpFunc_serve_slot_10 : MCode := .cond (.tmp 33) .skip (.exit 0)
def c_slices_symMergeCmpFunc_serve_slot_9 : MCode := .seq (.region [⟨(some 31), .mv (.tmp 10), none⟩,
   ⟨(some 32), .mv (.tmp 11), none⟩,
   ⟨(some 33), .ar .lss (.tmp 31) (.tmp 32), none⟩] []) c_slices_symMergeCmpFunc_serve_slot_10
def c_slices_symMergeCmpFunc_serve_slot_15 : MCode := (.region [⟨(some 51), .mv (.tmp 12), none⟩,
   ⟨(some 52), .ar .add (.tmp 51) (.const (.int .i64 1)), none⟩,
   ⟨(some 10), .mv (.tmp 52), none⟩] [])
def c_slices_symMergeCmpFunc_serve_slot_16 : MCode := (.region [⟨(some 53), .mv (.tmp 12), none⟩,
   ⟨(some 11), .mv (.tmp 53), none⟩] [])
def c_slices_symMergeCmpFunc_serve_slot_14 : MCode := .cond (.tmp 50) c_slices_symMergeCmpFunc_serve_slot_15 c_slices_symMergeCmpFunc_serve_slot_16
def c_slices_symMergeCmpFunc_serve_slot_13 : MCode := .seq (.region [⟨(some 40), .mv (.tmp 4), none⟩,
   ⟨(some 41), .mv (.tmp 0), none⟩,
   ⟨(some 42), .mv (.tmp 12), none⟩,
   ⟨(some 43), .ixV 1 (.tmp 41) (.tmp 42), none⟩,
   ⟨(some 44), .load1 (.tmp 43), none⟩,
   ⟨(some 45), .mv (.tmp 0), none⟩,
   ⟨(some 46), .mv (.tmp 1), none⟩,
   ⟨(some 47), .ixV 1 (.tmp 45) (.tmp 46), none⟩,
   ⟨(some 48), .load1 (.tmp 47), none⟩,
   ⟨(some 49), .callV (.tmp 40) [(.tmp 44), (.tmp 48)], none⟩,
   ⟨(some 50), .ar .lss (.tmp 49) (.const (.int .i64 0)), none⟩] []) c_slices_symMergeCmpFunc_serve_slot_14
def c_slices_symMergeCmpFunc_serve_slot_12 : MCode := .seq (.region [⟨(some 34), .mv (.tmp 10), none⟩,
   ⟨(some 35), .mv (.tmp 11), none⟩,
   ⟨(some 36), .ar .add (.tmp 34) (.tmp 35), none⟩,
   ⟨(some 37), .conv .u64 (.tmp 36), none⟩,
   ⟨(some 38), .ar .shr (.tmp 37) (.const (.int .u64 1)), none⟩,
   ⟨(some 39), .conv .i64 (.tmp 38), none⟩,
   ⟨(some 12), .mv (.tmp 39), none⟩] []) c_slices_symMergeCmpFunc_serve_slot_13
def c_slices_symMergeCmpFunc_serve_slot_11 : MCode := .block 1 c_slices_symMergeCmpFunc_serve_slot_12
def c_slices_symMergeCmpFunc_serve_slot_8 : MCode := .seq c_slices_symMergeCmpFunc_serve_slot_9 c_slices_symMergeCmpFunc_serve_slot_11
def c_slices_symMergeCmpFunc_serve_slot_7 : MCode := .loop [0, 1, 4, 10, 11] c_slices_symMergeCmpFunc_serve_slot_8
def c_slices_symMergeCmpFunc_serve_slot_6 : MCode := .block 0 c_slices_symMergeCmpFunc_serve_slot_7
def c_slices_symMergeCmpFunc_serve_slot_23 : MCode := .cond (.tmp 58) .skip (.exit 2)
def c_slices_symMergeCmpFunc_serve_slot_22 : MCode := .seq (.region [⟨(some 55), .mv (.tmp 13), none⟩,
   ⟨(some 56), .mv (.tmp 10), none⟩,
   ⟨(some 57), .ar .sub (.tmp 56) (.const (.int .i64 1)), none⟩,
   ⟨(some 58), .ar .lss (.tmp 55) (.tmp 57), none⟩] []) c_slices_symMergeCmpFunc_serve_slot_23
def c_slices_symMergeCmpFunc_serve_slot_26 : MCode := (.region [⟨(some 61), .mv (.tmp 0), none⟩,
   ⟨(some 62), .mv (.tmp 13), none⟩,
   ⟨(some 63), .mv (.tmp 0), none⟩,
   ⟨(some 64), .mv (.tmp 13), none⟩,
   ⟨(some 65), .ar .add (.tmp 64) (.const (.int .i64 1)), none⟩,
   ⟨(some 66), .mv (.tmp 0), none⟩,
   ⟨(some 67), .mv (.tmp 13), none⟩,
   ⟨(some 68), .ar .add (.tmp 67) (.const (.int .i64 1)), none⟩,
   ⟨(some 69), .ixV 1 (.tmp 66) (.tmp 68), none⟩,
   ⟨(some 70), .load1 (.tmp 69), none⟩,
   ⟨(some 71), .mv (.tmp 0), none⟩,
   ⟨(some 72), .mv (.tmp 13), none⟩,
   ⟨(some 73), .ixV 1 (.tmp 71) (.tmp 72), none⟩,
   ⟨(some 74), .load1 (.tmp 73), none⟩,
   ⟨(some 75), .ixV 1 (.tmp 61) (.tmp 62), none⟩,
   ⟨none, .store 1 (.tmp 75) (.tmp 70), none⟩,
   ⟨(some 76), .ixV 1 (.tmp 63) (.tmp 65), none⟩,
   ⟨none, .store 1 (.tmp 76) (.tmp 74), none⟩] [])
def c_slices_symMergeCmpFunc_serve_slot_25 : MCode := .block 3 c_slices_symMergeCmpFunc_serve_slot_26
def c_slices_symMergeCmpFunc_serve_slot_27 : MCode := (.region [⟨(some 59), .mv (.tmp 13), none⟩,
   ⟨(some 60), .ar .add (.tmp 59) (.const (.int .i64 1)), none⟩,
   ⟨(some 13), .mv (.tmp 60), none⟩] [])
def c_slices_symMergeCmpFunc_serve_slot_24 : MCode := .seq c_slices_symMergeCmpFunc_serve_slot_25 c_slices_symMergeCmpFunc_serve_slot_27
def c_slices_symMergeCmpFunc_serve_slot_21 : MCode := .seq c_slices_symMergeCmpFunc_serve_slot_22 c_slices_symMergeCmpFunc_serve_slot_24
def c_slices_symMergeCmpFunc_serve_slot_20 : MCode := .loop [0, 10, 13] c_slices_symMergeCmpFunc_serve_slot_21
def c_slices_symMergeCmpFunc_serve_slot_19 : MCode := .block 2 c_slices_symMergeCmpFunc_serve_slot_20
def c_slices_symMergeCmpFunc_serve_slot_18 : MCode := .seq (.region [⟨(some 54), .mv (.tmp 1), none⟩,
   ⟨(some 13), .mv (.tmp 54), none⟩] []) c_slices_symMergeCmpFunc_serve_slot_19
def c_slices_symMergeCmpFunc_serve_slot_17 : MCode := .seq c_slices_symMergeCmpFunc_serve_slot_18 .ret
def c_slices_symMergeCmpFunc_serve_slot_5 : MCode := .seq c_slices_symMergeCmpFunc_serve_slot_6 c_slices_symMergeCmpFunc_serve_slot_17
def c_slices_symMergeCmpFunc_serve_slot_4 : MCode := .seq (.region [⟨(some 30), .mv (.tmp 3), none⟩,
   ⟨(some 11), .mv (.tmp 30), none⟩] []) c_slices_symMergeCmpFunc_serve_slot_5
def c_slices_symMergeCmpFunc_serve_slot_3 : MCode := .seq (.region [⟨(some 29), .mv (.tmp 2), none⟩,
   ⟨(some 10), .mv (.tmp 29), none⟩] []) c_slices_symMergeCmpFunc_serve_slot_4
def c_slices_symMergeCmpFunc_serve_slot_2 : MCode := .cond (.tmp 28) c_slices_symMergeCmpFunc_serve_slot_3 .skip
def c_slices_symMergeCmpFunc_serve_slot_1 : MCode := .seq (.region [⟨(some 25), .mv (.tmp 2), none⟩,
   ⟨(some 26), .mv (.tmp 1), none⟩,
   ⟨(some 27), .ar .sub (.tmp 25) (.tmp 26), none⟩,
   ⟨(some 28), .ar .eql (.tmp 27) (.const (.int .i64 1)), none⟩] []) c_slices_symMergeCmpFunc_serve_slot_2
def c_slices_symMergeCmpFunc_serve_slot_38 : MCode := .cond (.tmp 85) .skip (.exit 4)
def c_slices_symMergeCmpFunc_serve_slot_37 : MCode := .seq (.region [⟨(some 83), .mv (.tmp 14), none⟩,
   ⟨(some 84), .mv (.tmp 15), none⟩,
   ⟨(some 85), .ar .lss (.tmp 83) (.tmp 84), none⟩] []) c_slices_symMergeCmpFunc_serve_slot_38
def c_slices_symMergeCmpFunc_serve_slot_43 : MCode := (.region [⟨(some 104), .mv (.tmp 16), none⟩,
   ⟨(some 105), .ar .add (.tmp 104) (.const (.int .i64 1)), none⟩,
   ⟨(some 14), .mv (.tmp 105), none⟩] [])
def c_slices_symMergeCmpFunc_serve_slot_44 : MCode := (.region [⟨(some 106), .mv (.tmp 16), none⟩,
   ⟨(some 15), .mv (.tmp 106), none⟩] [])
def c_slices_symMergeCmpFunc_serve_slot_42 : MCode := .cond (.tmp 103) c_slices_symMergeCmpFunc_serve_slot_43 c_slices_symMergeCmpFunc_serve_slot_44
def c_slices_symMergeCmpFunc_serve_slot_41 : MCode := .seq (.region [⟨(some 92), .mv (.tmp 4), none⟩,
   ⟨(some 93), .mv (.tmp 0), none⟩,
   ⟨(some 94), .mv (.tmp 2), none⟩,
   ⟨(some 95), .ixV 1 (.tmp 93) (.tmp 94), none⟩,
   ⟨(some 96), .load1 (.tmp 95), none⟩,
   ⟨(some 97), .mv (.tmp 0), none⟩,
   ⟨(some 98), .mv (.tmp 16), none⟩,
   ⟨(some 99), .ixV 1 (.tmp 97) (.tmp 98), none⟩,
   ⟨(some 100), .load1 (.tmp 99), none⟩,
   ⟨(some 101), .callV (.tmp 92) [(.tmp 96), (.tmp 100)], none⟩,
   ⟨(some 102), .ar .lss (.tmp 101) (.const (.int .i64 0)), none⟩,
   ⟨(some 103), .un .not (.tmp 102), none⟩] []) c_slices_symMergeCmpFunc_serve_slot_42
def c_slices_symMergeCmpFunc_serve_slot_40 : MCode := .seq (.region [⟨(some 86), .mv (.tmp 14), none⟩,
   ⟨(some 87), .mv (.tmp 15), none⟩,
   ⟨(some 88), .ar .add (.tmp 86) (.tmp 87), none⟩,
   ⟨(some 89), .conv .u64 (.tmp 88), none⟩,
   ⟨(some 90), .ar .shr (.tmp 89) (.const (.int .u64 1)), none⟩,
   ⟨(some 91), .conv .i64 (.tmp 90), none⟩,
   ⟨(some 16), .mv (.tmp 91), none⟩] []) c_slices_symMergeCmpFunc_serve_slot_41
def c_slices_symMergeCmpFunc_serve_slot_39 : MCode := .block 5 c_slices_symMergeCmpFunc_serve_slot_40
def c_slices_symMergeCmpFunc_serve_slot_36 : MCode := .seq c_slices_symMergeCmpFunc_serve_slot_37 c_slices_symMergeCmpFunc_serve_slot_39
def c_slices_symMergeCmpFunc_serve_slot_35 : MCode := .loop [0, 2, 4, 14, 15] c_slices_symMergeCmpFunc_serve_slot_36
def c_slices_symMergeCmpFunc_serve_slot_34 : MCode := .block 4 c_slices_symMergeCmpFunc_serve_slot_35
def c_slices_symMergeCmpFunc_serve_slot_51 : MCode := .cond (.tmp 110) .skip (.exit 6)
def c_slices_symMergeCmpFunc_serve_slot_50 : MCode := .seq (.region [⟨(some 108), .mv (.tmp 17), none⟩,
   ⟨(some 109), .mv (.tmp 14), none⟩,
   ⟨(some 110), .ar .gtr (.tmp 108) (.tmp 109), none⟩] []) c_slices_symMergeCmpFunc_serve_slot_51
def c_slices_symMergeCmpFunc_serve_slot_54 : MCode := (.region [⟨(some 113), .mv (.tmp 0), none⟩,
   ⟨(some 114), .mv (.tmp 17), none⟩,
   ⟨(some 115), .mv (.tmp 0), none⟩,
   ⟨(some 116), .mv (.tmp 17), none⟩,
   ⟨(some 117), .ar .sub (.tmp 116) (.const (.int .i64 1)), none⟩,
   ⟨(some 118), .mv (.tmp 0), none⟩,
   ⟨(some 119), .mv (.tmp 17), none⟩,
   ⟨(some 120), .ar .sub (.tmp 119) (.const (.int .i64 1)), none⟩,
   ⟨(some 121), .ixV 1 (.tmp 118) (.tmp 120), none⟩,
   ⟨(some 122), .load1 (.tmp 121), none⟩,
   ⟨(some 123), .mv (.tmp 0), none⟩,
   ⟨(some 124), .mv (.tmp 17), none⟩,
   ⟨(some 125), .ixV 1 (.tmp 123) (.tmp 124), none⟩,
   ⟨(some 126), .load1 (.tmp 125), none⟩,
   ⟨(some 127), .ixV 1 (.tmp 113) (.tmp 114), none⟩,
   ⟨none, .store 1 (.tmp 127) (.tmp 122), none⟩,
   ⟨(some 128), .ixV 1 (.tmp 115) (.tmp 117), none⟩,
   ⟨none, .store 1 (.tmp 128) (.tmp 126), none⟩] [])
def c_slices_symMergeCmpFunc_serve_slot_53 : MCode := .block 7 c_slices_symMergeCmpFunc_serve_slot_54
def c_slices_symMergeCmpFunc_serve_slot_55 : MCode := (.region [⟨(some 111), .mv (.tmp 17), none⟩,
   ⟨(some 112), .ar .sub (.tmp 111) (.const (.int .i64 1)), none⟩,
   ⟨(some 17), .mv (.tmp 112), none⟩] [])
def c_slices_symMergeCmpFunc_serve_slot_52 : MCode := .seq c_slices_symMergeCmpFunc_serve_slot_53 c_slices_symMergeCmpFunc_serve_slot_55
def c_slices_symMergeCmpFunc_serve_slot_49 : MCode := .seq c_slices_symMergeCmpFunc_serve_slot_50 c_slices_symMergeCmpFunc_serve_slot_52
def c_slices_symMergeCmpFunc_serve_slot_48 : MCode := .loop [0, 14, 17] c_slices_symMergeCmpFunc_serve_slot_49
def c_slices_symMergeCmpFunc_serve_slot_47 : MCode := .block 6 c_slices_symMergeCmpFunc_serve_slot_48
def c_slices_symMergeCmpFunc_serve_slot_46 : MCode := .seq (.region [⟨(some 107), .mv (.tmp 2), none⟩,
   ⟨(some 17), .mv (.tmp 107), none⟩] []) c_slices_symMergeCmpFunc_serve_slot_47
def c_slices_symMergeCmpFunc_serve_slot_45 : MCode := .seq c_slices_symMergeCmpFunc_serve_slot_46 .ret
def c_slices_symMergeCmpFunc_serve_slot_33 : MCode := .seq c_slices_symMergeCmpFunc_serve_slot_34 c_slices_symMergeCmpFunc_serve_slot_45
def c_slices_symMergeCmpFunc_serve_slot_32 : MCode := .seq (.region [⟨(some 82), .mv (.tmp 2), none⟩,
   ⟨(some 15), .mv (.tmp 82), none⟩] []) c_slices_symMergeCmpFunc_serve_slot_33
def c_slices_symMergeCmpFunc_serve_slot_31 : MCode := .seq (.region [⟨(some 81), .mv (.tmp 1), none⟩,
   ⟨(some 14), .mv (.tmp 81), none⟩] []) c_slices_symMergeCmpFunc_serve_slot_32
def c_slices_symMergeCmpFunc_serve_slot_30 : MCode := .cond (.tmp 80) c_slices_symMergeCmpFunc_serve_slot_31 .skip
def c_slices_symMergeCmpFunc_serve_slot_29 : MCode := .seq (.region [⟨(some 77), .mv (.tmp 3), none⟩,
   ⟨(some 78), .mv (.tmp 2), none⟩,
   ⟨(some 79), .ar .sub (.tmp 77) (.tmp 78), none⟩,
   ⟨(some 80), .ar .eql (.tmp 79) (.const (.int .i64 1)), none⟩] []) c_slices_symMergeCmpFunc_serve_slot_30
def c_slices_symMergeCmpFunc_serve_slot_63 : MCode := (.region [⟨(some 144), .mv (.tmp 18), none⟩,
   ⟨(some 21), .mv (.tmp 144), none⟩] [])
def c_slices_symMergeCmpFunc_serve_slot_62 : MCode := .seq (.region [⟨(some 141), .mv (.tmp 19), none⟩,
   ⟨(some 142), .mv (.tmp 3), none⟩,
   ⟨(some 143), .ar .sub (.tmp 141) (.tmp 142), none⟩,
   ⟨(some 20), .mv (.tmp 143), none⟩] []) c_slices_symMergeCmpFunc_serve_slot_63
def c_slices_symMergeCmpFunc_serve_slot_65 : MCode := (.region [⟨(some 146), .mv (.tmp 2), none⟩,
   ⟨(some 21), .mv (.tmp 146), none⟩] [])
def c_slices_symMergeCmpFunc_serve_slot_64 : MCode := .seq (.region [⟨(some 145), .mv (.tmp 1), none⟩,
   ⟨(some 20), .mv (.tmp 145), none⟩] []) c_slices_symMergeCmpFunc_serve_slot_65
def c_slices_symMergeCmpFunc_serve_slot_61 : MCode := .cond (.tmp 140) c_slices_symMergeCmpFunc_serve_slot_62 c_slices_symMergeCmpFunc_serve_slot_64
def c_slices_symMergeCmpFunc_serve_slot_60 : MCode := .seq (.region [⟨(some 138), .mv (.tmp 2), none⟩,
   ⟨(some 139), .mv (.tmp 18), none⟩,
   ⟨(some 140), .ar .gtr (.tmp 138) (.tmp 139), none⟩] []) c_slices_symMergeCmpFunc_serve_slot_61
def c_slices_symMergeCmpFunc_serve_slot_72 : MCode := .cond (.tmp 151) .skip (.exit 8)
def c_slices_symMergeCmpFunc_serve_slot_71 : MCode := .seq (.region [⟨(some 149), .mv (.tmp 20), none⟩,
   ⟨(some 150), .mv (.tmp 21), none⟩,
   ⟨(some 151), .ar .lss (.tmp 149) (.tmp 150), none⟩] []) c_slices_symMergeCmpFunc_serve_slot_72
def c_slices_symMergeCmpFunc_serve_slot_77 : MCode := (.region [⟨(some 172), .mv (.tmp 23), none⟩,
   ⟨(some 173), .ar .add (.tmp 172) (.const (.int .i64 1)), none⟩,
   ⟨(some 20), .mv (.tmp 173), none⟩] [])
def c_slices_symMergeCmpFunc_serve_slot_78 : MCode := (.region [⟨(some 174), .mv (.tmp 23), none⟩,
   ⟨(some 21), .mv (.tmp 174), none⟩] [])
def c_slices_symMergeCmpFunc_serve_slot_76 : MCode := .cond (.tmp 171) c_slices_symMergeCmpFunc_serve_slot_77 c_slices_symMergeCmpFunc_serve_slot_78
def c_slices_symMergeCmpFunc_serve_slot_75 : MCode := .seq (.region [⟨(some 158), .mv (.tmp 4), none⟩,
   ⟨(some 159), .mv (.tmp 0), none⟩,
   ⟨(some 160), .mv (.tmp 22), none⟩,
   ⟨(some 161), .mv (.tmp 23), none⟩,
   ⟨(some 162), .ar .sub (.tmp 160) (.tmp 161), none⟩,
   ⟨(some 163), .ixV 1 (.tmp 159) (.tmp 162), none⟩,
   ⟨(some 164), .load1 (.tmp 163), none⟩,
   ⟨(some 165), .mv (.tmp 0), none⟩,
   ⟨(some 166), .mv (.tmp 23), none⟩,
   ⟨(some 167), .ixV 1 (.tmp 165) (.tmp 166), none⟩,
   ⟨(some 168), .load1 (.tmp 167), none⟩,
   ⟨(some 169), .callV (.tmp 158) [(.tmp 164), (.tmp 168)], none⟩,
   ⟨(some 170), .ar .lss (.tmp 169) (.const (.int .i64 0)), none⟩,
   ⟨(some 171), .un .not (.tmp 170), none⟩] []) c_slices_symMergeCmpFunc_serve_slot_76
def c_slices_symMergeCmpFunc_serve_slot_74 : MCode := .seq (.region [⟨(some 152), .mv (.tmp 20), none⟩,
   ⟨(some 153), .mv (.tmp 21), none⟩,
   ⟨(some 154), .ar .add (.tmp 152) (.tmp 153), none⟩,
   ⟨(some 155), .conv .u64 (.tmp 154), none⟩,
   ⟨(some 156), .ar .shr (.tmp 155) (.const (.int .u64 1)), none⟩,
   ⟨(some 157), .conv .i64 (.tmp 156), none⟩,
   ⟨(some 23), .mv (.tmp 157), none⟩] []) c_slices_symMergeCmpFunc_serve_slot_75
def c_slices_symMergeCmpFunc_serve_slot_73 : MCode := .block 9 c_slices_symMergeCmpFunc_serve_slot_74
def c_slices_symMergeCmpFunc_serve_slot_70 : MCode := .seq c_slices_symMergeCmpFunc_serve_slot_71 c_slices_symMergeCmpFunc_serve_slot_73
def c_slices_symMergeCmpFunc_serve_slot_69 : MCode := .loop [0, 1, 2, 3, 4, 18, 19, 20, 21, 22] c_slices_symMergeCmpFunc_serve_slot_70
def c_slices_symMergeCmpFunc_serve_slot_68 : MCode := .block 8 c_slices_symMergeCmpFunc_serve_slot_69
def c_slices_symMergeCmpFunc_serve_slot_83 : MCode := (.region [⟨(some 186), .mv (.tmp 0), none⟩,
   ⟨(some 187), .mv (.tmp 20), none⟩,
   ⟨(some 188), .mv (.tmp 2), none⟩,
   ⟨(some 189), .mv (.tmp 24), none⟩,
   ⟨(some 190), .mv (.tmp 4), none⟩,
   ⟨(some 191), .call 64 [(.tmp 186), (.tmp 187), (.tmp 188), (.tmp 189), (.tmp 190)], none⟩] [])
def c_slices_symMergeCmpFunc_serve_slot_82 : MCode := .cond (.tmp 185) c_slices_symMergeCmpFunc_serve_slot_83 .skip
def c_slices_symMergeCmpFunc_serve_slot_81 : MCode := .seq (.region [⟨(some 178), .mv (.tmp 20), none⟩,
   ⟨(some 179), .mv (.tmp 2), none⟩,
   ⟨(some 180), .ar .lss (.tmp 178) (.tmp 179), none⟩,
   ⟨(some 181), .mv (.tmp 180), none⟩,
   ⟨(some 182), .mv (.tmp 2), (some (181, true))⟩,
   ⟨(some 183), .mv (.tmp 24), (some (181, true))⟩,
   ⟨(some 184), .ar .lss (.tmp 182) (.tmp 183), (some (181, true))⟩,
   ⟨(some 185), .pick (.tmp 181) (.tmp 184) (.const (.bool false)), none⟩] []) c_slices_symMergeCmpFunc_serve_slot_82
def c_slices_symMergeCmpFunc_serve_slot_87 : MCode := (.region [⟨(some 200), .mv (.tmp 0), none⟩,
   ⟨(some 201), .mv (.tmp 1), none⟩,
   ⟨(some 202), .mv (.tmp 20), none⟩,
   ⟨(some 203), .mv (.tmp 18), none⟩,
   ⟨(some 204), .mv (.tmp 4), none⟩,
   ⟨(some 205), .call 52 [(.tmp 200), (.tmp 201), (.tmp 202), (.tmp 203), (.tmp 204)], none⟩] [])
def c_slices_symMergeCmpFunc_serve_slot_86 : MCode := .cond (.tmp 199) c_slices_symMergeCmpFunc_serve_slot_87 .skip
def c_slices_symMergeCmpFunc_serve_slot_85 : MCode := .seq (.region [⟨(some 192), .mv (.tmp 1), none⟩,
   ⟨(some 193), .mv (.tmp 20), none⟩,
   ⟨(some 194), .ar .lss (.tmp 192) (.tmp 193), none⟩,
   ⟨(some 195), .mv (.tmp 194), none⟩,
   ⟨(some 196), .mv (.tmp 20), (some (195, true))⟩,
   ⟨(some 197), .mv (.tmp 18), (some (195, true))⟩,
   ⟨(some 198), .ar .lss (.tmp 196) (.tmp 197), (some (195, true))⟩,
   ⟨(some 199), .pick (.tmp 195) (.tmp 198) (.const (.bool false)), none⟩] []) c_slices_symMergeCmpFunc_serve_slot_86
def c_slices_symMergeCmpFunc_serve_slot_90 : MCode := (.region [⟨(some 214), .mv (.tmp 0), none⟩,
   ⟨(some 215), .mv (.tmp 18), none⟩,
   ⟨(some 216), .mv (.tmp 24), none⟩,
   ⟨(some 217), .mv (.tmp 3), none⟩,
   ⟨(some 218), .mv (.tmp 4), none⟩,
   ⟨(some 219), .call 52 [(.tmp 214), (.tmp 215), (.tmp 216), (.tmp 217), (.tmp 218)], none⟩] [])
def c_slices_symMergeCmpFunc_serve_slot_89 : MCode := .cond (.tmp 213) c_slices_symMergeCmpFunc_serve_slot_90 .skip
def c_slices_symMergeCmpFunc_serve_slot_88 : MCode := .seq (.region [⟨(some 206), .mv (.tmp 18), none⟩,
   ⟨(some 207), .mv (.tmp 24), none⟩,
   ⟨(some 208), .ar .lss (.tmp 206) (.tmp 207), none⟩,
   ⟨(some 209), .mv (.tmp 208), none⟩,
   ⟨(some 210), .mv (.tmp 24), (some (209, true))⟩,
   ⟨(some 211), .mv (.tmp 3), (some (209, true))⟩,
   ⟨(some 212), .ar .lss (.tmp 210) (.tmp 211), (some (209, true))⟩,
   ⟨(some 213), .pick (.tmp 209) (.tmp 212) (.const (.bool false)), none⟩] []) c_slices_symMergeCmpFunc_serve_slot_89
def c_slices_symMergeCmpFunc_serve_slot_84 : MCode := .seq c_slices_symMergeCmpFunc_serve_slot_85 c_slices_symMergeCmpFunc_serve_slot_88
def c_slices_symMergeCmpFunc_serve_slot_80 : MCode := .seq c_slices_symMergeCmpFunc_serve_slot_81 c_slices_symMergeCmpFunc_serve_slot_84
def c_slices_symMergeCmpFunc_serve_slot_79 : MCode := .seq (.region [⟨(some 175), .mv (.tmp 19), none⟩,
   ⟨(some 176), .mv (.tmp 20), none⟩,
   ⟨(some 177), .ar .sub (.tmp 175) (.tmp 176), none⟩,
   ⟨(some 24), .mv (.tmp 177), none⟩] []) c_slices_symMergeCmpFunc_serve_slot_80
def c_slices_symMergeCmpFunc_serve_slot_67 : MCode := .seq c_slices_symMergeCmpFunc_serve_slot_68 c_slices_symMergeCmpFunc_serve_slot_79
def c_slices_symMergeCmpFunc_serve_slot_66 : MCode := .seq (.region [⟨(some 147), .mv (.tmp 19), none⟩,
   ⟨(some 148), .ar .sub (.tmp 147) (.const (.int .i64 1)), none⟩,
   ⟨(some 22), .mv (.tmp 148), none⟩] []) c_slices_symMergeCmpFunc_serve_slot_67
def c_slices_symMergeCmpFunc_serve_slot_59 : MCode := .seq c_slices_symMergeCmpFunc_serve_slot_60 c_slices_symMergeCmpFunc_serve_slot_66
def c_slices_symMergeCmpFunc_serve_slot_58 : MCode := .seq (.region [⟨(some 20), .mv (.const (.int .i64 0)), none⟩,
   ⟨(some 21), .mv (.const (.int .i64 0)), none⟩] []) c_slices_symMergeCmpFunc_serve_slot_59
def c_slices_symMergeCmpFunc_serve_slot_57 : MCode := .seq (.region [⟨(some 135), .mv (.tmp 18), none⟩,
   ⟨(some 136), .mv (.tmp 2), none⟩,
   ⟨(some 137), .ar .add (.tmp 135) (.tmp 136), none⟩,
   ⟨(some 19), .mv (.tmp 137), none⟩] []) c_slices_symMergeCmpFunc_serve_slot_58
def c_slices_symMergeCmpFunc_serve_slot_56 : MCode := .seq (.region [⟨(some 129), .mv (.tmp 1), none⟩,
   ⟨(some 130), .mv (.tmp 3), none⟩,
   ⟨(some 131), .ar .add (.tmp 129) (.tmp 130), none⟩,
   ⟨(some 132), .conv .u64 (.tmp 131), none⟩,
   ⟨(some 133), .ar .shr (.tmp 132) (.const (.int .u64 1)), none⟩,
   ⟨(some 134), .conv .i64 (.tmp 133), none⟩,
   ⟨(some 18), .mv (.tmp 134), none⟩] []) c_slices_symMergeCmpFunc_serve_slot_57
def c_slices_symMergeCmpFunc_serve_slot_28 : MCode := .seq c_slices_symMergeCmpFunc_serve_slot_29 c_slices_symMergeCmpFunc_serve_slot_56
def c_slices_symMergeCmpFunc_serve_slot_0 : MCode := .seq c_slices_symMergeCmpFunc_serve_slot_1 c_slices_symMergeCmpFunc_serve_slot_28
/-- slices.symMergeCmpFunc[*trefoil/serve.slot] -/
def M_slices_symMergeCmpFunc_serve_slot : MFun := ⟨5, c_slices_symMergeCmpFunc_serve_slot_0, []⟩
abbrev F_slices_symMergeCmpFunc_serve_slot : Nat := 52
set_option maxRecDepth 100000 in
theorem m_slices_symMergeCmpFunc_serve_slot : InProg Try.prog 0 52 M_slices_symMergeCmpFunc_serve_slot := ⟨Try.f52, [[0, 1, 4, 10, 11], [0, 10, 13], [0, 2, 4, 14, 15], [0, 14, 17], [0, 1, 2, 3, 4, 18, 19, 20, 21, 22]], Try.func52, by kernel_rfl⟩
def c_slices_rotateCmpFunc_serve_slot_7 : MCode := .cond (.tmp 20) .skip (.exit 0)
def c_slices_rotateCmpFunc_serve_slot_6 : MCode := .seq (.region [⟨(some 18), .mv (.tmp 10), none⟩,
   ⟨(some 19), .mv (.tmp 11), none⟩,
   ⟨(some 20), .ar .neq (.tmp 18) (.tmp 19), none⟩] []) c_slices_rotateCmpFunc_serve_slot_7
def c_slices_rotateCmpFunc_serve_slot_12 : MCode := (.region [⟨(some 32), .mv (.tmp 10), none⟩,
   ⟨(some 33), .mv (.tmp 11), none⟩,
   ⟨(some 34), .ar .sub (.tmp 32) (.tmp 33), none⟩,
   ⟨(some 10), .mv (.tmp 34), none⟩] [])
def c_slices_rotateCmpFunc_serve_slot_11 : MCode := .seq (.region [⟨(some 24), .mv (.tmp 0), none⟩,
   ⟨(some 25), .mv (.tmp 2), none⟩,
   ⟨(some 26), .mv (.tmp 10), none⟩,
   ⟨(some 27), .ar .sub (.tmp 25) (.tmp 26), none⟩,
   ⟨(some 28), .mv (.tmp 2), none⟩,
   ⟨(some 29), .mv (.tmp 11), none⟩,
   ⟨(some 30), .mv (.tmp 4), none⟩,
   ⟨(some 31), .call 71 [(.tmp 24), (.tmp 27), (.tmp 28), (.tmp 29), (.tmp 30)], none⟩] []) c_slices_rotateCmpFunc_serve_slot_12
def c_slices_rotateCmpFunc_serve_slot_14 : MCode := (.region [⟨(some 47), .mv (.tmp 11), none⟩,
   ⟨(some 48), .mv (.tmp 10), none⟩,
   ⟨(some 49), .ar .sub (.tmp 47) (.tmp 48), none⟩,
   ⟨(some 11), .mv (.tmp 49), none⟩] [])
def c_slices_rotateCmpFunc_serve_slot_13 : MCode := .seq (.region [⟨(some 35), .mv (.tmp 0), none⟩,
   ⟨(some 36), .mv (.tmp 2), none⟩,
   ⟨(some 37), .mv (.tmp 10), none⟩,
   ⟨(some 38), .ar .sub (.tmp 36) (.tmp 37), none⟩,
   ⟨(some 39), .mv (.tmp 2), none⟩,
   ⟨(some 40), .mv (.tmp 11), none⟩,
   ⟨(some 41), .ar .add (.tmp 39) (.tmp 40), none⟩,
   ⟨(some 42), .mv (.tmp 10), none⟩,
   ⟨(some 43), .ar .sub (.tmp 41) (.tmp 42), none⟩,
   ⟨(some 44), .mv (.tmp 10), none⟩,
   ⟨(some 45), .mv (.tmp 4), none⟩,
   ⟨(some 46), .call 71 [(.tmp 35), (.tmp 38), (.tmp 43), (.tmp 44), (.tmp 45)], none⟩] []) c_slices_rotateCmpFunc_serve_slot_14
def c_slices_rotateCmpFunc_serve_slot_10 : MCode := .cond (.tmp 23) c_slices_rotateCmpFunc_serve_slot_11 c_slices_rotateCmpFunc_serve_slot_13
def c_slices_rotateCmpFunc_serve_slot_9 : MCode := .seq (.region [⟨(some 21), .mv (.tmp 10), none⟩,
   ⟨(some 22), .mv (.tmp 11), none⟩,
   ⟨(some 23), .ar .gtr (.tmp 21) (.tmp 22), none⟩] []) c_slices_rotateCmpFunc_serve_slot_10
def c_slices_rotateCmpFunc_serve_slot_8 : MCode := .block 1 c_slices_rotateCmpFunc_serve_slot_9
def c_slices_rotateCmpFunc_serve_slot_5 : MCode := .seq c_slices_rotateCmpFunc_serve_slot_6 c_slices_rotateCmpFunc_serve_slot_8
def c_slices_rotateCmpFunc_serve_slot_4 : MCode := .loop [0, 2, 4, 10, 11] c_slices_rotateCmpFunc_serve_slot_5
def c_slices_rotateCmpFunc_serve_slot_3 : MCode := .block 0 c_slices_rotateCmpFunc_serve_slot_4
def c_slices_rotateCmpFunc_serve_slot_15 : MCode := (.region [⟨(some 50), .mv (.tmp 0), none⟩,
   ⟨(some 51), .mv (.tmp 2), none⟩,
   ⟨(some 52), .mv (.tmp 10), none⟩,
   ⟨(some 53), .ar .sub (.tmp 51) (.tmp 52), none⟩,
   ⟨(some 54), .mv (.tmp 2), none⟩,
   ⟨(some 55), .mv (.tmp 10), none⟩,
   ⟨(some 56), .mv (.tmp 4), none⟩,
   ⟨(some 57), .call 71 [(.tmp 50), (.tmp 53), (.tmp 54), (.tmp 55), (.tmp 56)], none⟩] [])
def c_slices_rotateCmpFunc_serve_slot_2 : MCode := .seq c_slices_rotateCmpFunc_serve_slot_3 c_slices_rotateCmpFunc_serve_slot_15
def c_slices_rotateCmpFunc_serve_slot_1 : MCode := .seq (.region [⟨(some 15), .mv (.tmp 3), none⟩,
   ⟨(some 16), .mv (.tmp 2), none⟩,
   ⟨(some 17), .ar .sub (.tmp 15) (.tmp 16), none⟩,
   ⟨(some 11), .mv (.tmp 17), none⟩] []) c_slices_rotateCmpFunc_serve_slot_2
def c_slices_rotateCmpFunc_serve_slot_0 : MCode := .seq (.region [⟨(some 12), .mv (.tmp 2), none⟩,
   ⟨(some 13), .mv (.tmp 1), none⟩,
   ⟨(some 14), .ar .sub (.tmp 12) (.tmp 13), none⟩,
   ⟨(some 10), .mv (.tmp 14), none⟩] []) c_slices_rotateCmpFunc_serve_slot_1
/-- slices.rotateCmpFunc[*trefoil/serve.slot] -/
def M_slices_rotateCmpFunc_serve_slot : MFun := ⟨5, c_slices_rotateCmpFunc_serve_slot_0, []⟩
abbrev F_slices_rotateCmpFunc_serve_slot : Nat := 64
set_option maxRecDepth 100000 in
theorem m_slices_rotateCmpFunc_serve_slot : InProg Try.prog 0 64 M_slices_rotateCmpFunc_serve_slot := ⟨Try.f64, [[0, 2, 4, 10, 11]], Try.func64, by kernel_rfl⟩
def c_slices_swapRangeCmpFunc_serve_slot_5 : MCode := .cond (.tmp 13) .skip (.exit 0)
def c_slices_swapRangeCmpFunc_serve_slot_4 : MCode := .seq (.region [⟨(some 11), .mv (.tmp 10), none⟩,
   ⟨(some 12), .mv (.tmp 3), none⟩,
   ⟨(some 13), .ar .lss (.tmp 11) (.tmp 12), none⟩] []) c_slices_swapRangeCmpFunc_serve_slot_5
def c_slices_swapRangeCmpFunc_serve_slot_8 : MCode := (.region [⟨(some 16), .mv (.tmp 0), none⟩,
   ⟨(some 17), .mv (.tmp 1), none⟩,
   ⟨(some 18), .mv (.tmp 10), none⟩,
   ⟨(some 19), .ar .add (.tmp 17) (.tmp 18), none⟩,
   ⟨(some 20), .mv (.tmp 0), none⟩,
   ⟨(some 21), .mv (.tmp 2), none⟩,
   ⟨(some 22), .mv (.tmp 10), none⟩,
   ⟨(some 23), .ar .add (.tmp 21) (.tmp 22), none⟩,
   ⟨(some 24), .mv (.tmp 0), none⟩,
   ⟨(some 25), .mv (.tmp 2), none⟩,
   ⟨(some 26), .mv (.tmp 10), none⟩,
   ⟨(some 27), .ar .add (.tmp 25) (.tmp 26), none⟩,
   ⟨(some 28), .ixV 1 (.tmp 24) (.tmp 27), none⟩,
   ⟨(some 29), .load1 (.tmp 28), none⟩,
   ⟨(some 30), .mv (.tmp 0), none⟩,
   ⟨(some 31), .mv (.tmp 1), none⟩,
   ⟨(some 32), .mv (.tmp 10), none⟩,
   ⟨(some 33), .ar .add (.tmp 31) (.tmp 32), none⟩,
   ⟨(some 34), .ixV 1 (.tmp 30) (.tmp 33), none⟩,
   ⟨(some 35), .load1 (.tmp 34), none⟩,
   ⟨(some 36), .ixV 1 (.tmp 16) (.tmp 19), none⟩,
   ⟨none, .store 1 (.tmp 36) (.tmp 29), none⟩,
   ⟨(some 37), .ixV 1 (.tmp 20) (.tmp 23), none⟩,
   ⟨none, .store 1 (.tmp 37) (.tmp 35), none⟩] [])
def c_slices_swapRangeCmpFunc_serve_slot_7 : MCode := .block 1 c_slices_swapRangeCmpFunc_serve_slot_8
def c_slices_swapRangeCmpFunc_serve_slot_9 : MCode := (.region [⟨(some 14), .mv (.tmp 10), none⟩,
   ⟨(some 15), .ar .add (.tmp 14) (.const (.int .i64 1)), none⟩,
   ⟨(some 10), .mv (.tmp 15), none⟩] [])
def c_slices_swapRangeCmpFunc_serve_slot_6 : MCode := .seq c_slices_swapRangeCmpFunc_serve_slot_7 c_slices_swapRangeCmpFunc_serve_slot_9
def c_slices_swapRangeCmpFunc_serve_slot_3 : MCode := .seq c_slices_swapRangeCmpFunc_serve_slot_4 c_slices_swapRangeCmpFunc_serve_slot_6
def c_slices_swapRangeCmpFunc_serve_slot_2 : MCode := .loop [0, 1, 2, 3, 10] c_slices_swapRangeCmpFunc_serve_slot_3
def c_slices_swapRangeCmpFunc_serve_slot_1 : MCode := .block 0 c_slices_swapRangeCmpFunc_serve_slot_2
def c_slices_swapRangeCmpFunc_serve_slot_0 : MCode := .seq (.region [⟨(some 10), .mv (.const (.int .i64 0)), none⟩] []) c_slices_swapRangeCmpFunc_serve_slot_1
/-- slices.swapRangeCmpFunc[*trefoil/serve.slot] -/
def M_slices_swapRangeCmpFunc_serve_slot : MFun := ⟨5, c_slices_swapRangeCmpFunc_serve_slot_0, []⟩
abbrev F_slices_swapRangeCmpFunc_serve_slot : Nat := 71
set_option maxRecDepth 100000 in
theorem m_slices_swapRangeCmpFunc_serve_slot : InProg Try.prog 0 71 M_slices_swapRangeCmpFunc_serve_slot := ⟨Try.f71, [[0, 1, 2, 3, 10]], Try.func71, by kernel_rfl⟩
def tab : List (Nat × MFun) := [(3, M_law33_ServeChecks), (4, M_law33_ServeOnce), (5, M_law33_ServePlays), (6, M_law33_ServeNobody), (7, M_serve_Check), (8, M_ref33_Check), (9, M_law33_awake), (10, M_serve_New), (11, M_serve_Table_Ask), (12, M_serve_Table_Grant), (13, M_serve_Table_Refuse), (14, M_serve_Table_Get), (15, M_serve_Table_Hear), (16, M_law33_does), (17, M_ref33_Table_Both), (18, M_ref33_Tickets), (19, M_serve_Table_Matched), (20, M_ref01_Ints), (21, M_serve_Table_Unlike), (22, M_serve_Table_Waiting), (23, M_ref33_Table_Waiting), (24, M_serve_Table_Len), (25, M_ref33_Table_Find), (26, M_serve_Table_Reset), (27, M_shape_Check), (28, M_ref09_Check), (29, M_serve_Table_ready), (30, M_serve_Table_slot), (31, M_serve_Table_own), (32, M_ref33_Table_Add), (33, M_ref33_Table_Grant), (34, M_ref33_Table_Refuse), (35, M_serve_Table_open), (37, M_maps_Keys_map_int_serve_slot_int_serve_slot), (38, M_shape_side), (39, M_ref09_in), (40, M_ref33_Table_with), (41, M_ref33_Table_own), (42, M_slices_SortStableFunc_serve_slot_serve_slot), (43, M_serve_Table_open_1), (47, M_slices_stableCmpFunc_serve_slot), (51, M_slices_insertionSortCmpFunc_serve_slot), (52, M_slices_symMergeCmpFunc_serve_slot), (64, M_slices_rotateCmpFunc_serve_slot), (71, M_slices_swapRangeCmpFunc_serve_slot)]
theorem tabIn : AllIn Try.prog 0 tab := ⟨m_law33_ServeChecks, m_law33_ServeOnce, m_law33_ServePlays, m_law33_ServeNobody, m_serve_Check, m_ref33_Check, m_law33_awake, m_serve_New, m_serve_Table_Ask, m_serve_Table_Grant, m_serve_Table_Refuse, m_serve_Table_Get, m_serve_Table_Hear, m_law33_does, m_ref33_Table_Both, m_ref33_Tickets, m_serve_Table_Matched, m_ref01_Ints, m_serve_Table_Unlike, m_serve_Table_Waiting, m_ref33_Table_Waiting, m_serve_Table_Len, m_ref33_Table_Find, m_serve_Table_Reset, m_shape_Check, m_ref09_Check, m_serve_Table_ready, m_serve_Table_slot, m_serve_Table_own, m_ref33_Table_Add, m_ref33_Table_Grant, m_ref33_Table_Refuse, m_serve_Table_open, m_maps_Keys_map_int_serve_slot_int_serve_slot, m_shape_side, m_ref09_in, m_ref33_Table_with, m_ref33_Table_own, m_slices_SortStableFunc_serve_slot_serve_slot, m_serve_Table_open_1, m_slices_stableCmpFunc_serve_slot, m_slices_insertionSortCmpFunc_serve_slot, m_slices_symMergeCmpFunc_serve_slot, m_slices_rotateCmpFunc_serve_slot, m_slices_swapRangeCmpFunc_serve_slot, trivial⟩
theorem mixed : Try.prog.follows .mixedOrders = true := by kernel_rfl
end Go.Proofs.Ytfbhmogjnjejmaa
