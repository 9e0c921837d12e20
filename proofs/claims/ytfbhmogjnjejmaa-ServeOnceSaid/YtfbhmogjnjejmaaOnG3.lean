/- Texts of the proof, joined by program: BM, Cm22, Cm23, Cm24, Cm25, Cm26. Conditions: none. -/
import Derived.Test.YtfbhmogjnjejmaaRows
import Derived.Test.YtfbhmogjnjejmaaOnG2
import Derived.Shelf.SlIterI.Nil
/- The program's functions, resolved for the canonical machine. Conditions: none. Made by program. -/
namespace Go.Proofs.Ytfbhmogjnjejmaa
open Go.Cm
def c_law33_ServeChecks_1 : MCode := .seq (.region [⟨(some 3), .loadN 7 (.tmp 1), none⟩,
   ⟨(some 4), .call 7 [(.tmp 3)], none⟩,
   ⟨(some 5), .loadN 7 (.tmp 1), none⟩,
   ⟨(some 6), .call 8 [(.tmp 5)], none⟩,
   ⟨(some 7), .ar .eql (.tmp 4) (.tmp 6), none⟩,
   ⟨(some 8), .mv (.tmp 7), none⟩,
   ⟨(some 9), .call 9 [], (some (8, true))⟩,
   ⟨(some 10), .pick (.tmp 8) (.tmp 9) (.const (.bool false)), none⟩,
   ⟨(some 2), .mv (.tmp 10), none⟩] [(2, 1)]) .ret
def c_law33_ServeChecks_0 : MCode := .seq (.region [⟨(some 1), .box (.tmp 0), none⟩,
   ⟨(some 2), .mv (.const (.bool false)), none⟩] []) c_law33_ServeChecks_1
/-- trefoil/trefoillaw33.ServeChecks -/
def M_law33_ServeChecks : MFun := ⟨1, c_law33_ServeChecks_0, [.tmp 2]⟩
abbrev F_law33_ServeChecks : Nat := 3
set_option maxRecDepth 100000 in
theorem m_law33_ServeChecks : InProg Try.prog 0 3 M_law33_ServeChecks := ⟨Try.f3, [], Try.func3, by kernel_rfl⟩
def c_law33_ServeOnce_6 : MCode := .seq (.region [⟨(some 27), .loadN 7 (.tmp 10), none⟩,
   ⟨(some 28), .call 8 [(.tmp 27)], none⟩,
   ⟨(some 29), .ar .neq (.tmp 28) (.const (.int .i64 0)), none⟩,
   ⟨(some 30), .mv (.tmp 29), none⟩,
   ⟨(some 31), .call 9 [], (some (30, true))⟩,
   ⟨(some 32), .pick (.tmp 30) (.tmp 31) (.const (.bool false)), none⟩,
   ⟨(some 8), .mv (.tmp 32), none⟩] []) .ret
def c_law33_ServeOnce_5 : MCode := .cond (.tmp 26) c_law33_ServeOnce_6 .skip
def c_law33_ServeOnce_4 : MCode := .seq (.region [⟨(some 23), .mv (.tmp 9), none⟩,
   ⟨(some 24), .loadN 7 (.tmp 10), none⟩,
   ⟨(some 25), .call 11 [(.tmp 23), (.tmp 24)], none⟩,
   ⟨(some 26), .ar .neq (.tmp 25) (.const (.int .i64 0)), none⟩] []) c_law33_ServeOnce_5
def c_law33_ServeOnce_13 : MCode := (.region [⟨(some 2), .mv (.const (.int .i64 1)), none⟩] [])
def c_law33_ServeOnce_12 : MCode := .cond (.tmp 39) c_law33_ServeOnce_13 .skip
def c_law33_ServeOnce_11 : MCode := .seq (.region [⟨(some 38), .mv (.tmp 2), none⟩,
   ⟨(some 39), .ar .eql (.tmp 38) (.const (.int .i64 0)), none⟩] []) c_law33_ServeOnce_12
def c_law33_ServeOnce_16 : MCode := .seq (.region [⟨(some 8), .mv (.const (.bool false)), none⟩] []) .ret
def c_law33_ServeOnce_15 : MCode := .cond (.tmp 54) c_law33_ServeOnce_16 .skip
def c_law33_ServeOnce_14 : MCode := .seq (.region [⟨(some 40), .fld 1 (.tmp 5), none⟩,
   ⟨(some 41), .load1 (.tmp 40), none⟩,
   ⟨(some 42), .ar .geq (.tmp 41) (.const (.int .i64 0)), none⟩,
   ⟨(some 43), .mv (.tmp 42), none⟩,
   ⟨(some 44), .fld 0 (.tmp 5), (some (43, true))⟩,
   ⟨(some 45), .load1 (.tmp 44), (some (43, true))⟩,
   ⟨(some 46), .ar .geq (.tmp 45) (.const (.int .i64 0)), (some (43, true))⟩,
   ⟨(some 47), .pick (.tmp 43) (.tmp 46) (.const (.bool false)), none⟩,
   ⟨(some 48), .mv (.tmp 47), none⟩,
   ⟨(some 49), .mv (.tmp 9), (some (48, false))⟩,
   ⟨(some 50), .mv (.tmp 0), (some (48, false))⟩,
   ⟨(some 51), .mv (.tmp 2), (some (48, false))⟩,
   ⟨(some 52), .call 13 [(.tmp 49), (.tmp 50), (.tmp 51)], (some (48, false))⟩,
   ⟨(some 53), .ar .neq (.tmp 52) (.const (.int .i64 0)), (some (48, false))⟩,
   ⟨(some 54), .pick (.tmp 48) (.const (.bool true)) (.tmp 53), none⟩] []) c_law33_ServeOnce_15
def c_law33_ServeOnce_10 : MCode := .seq c_law33_ServeOnce_11 c_law33_ServeOnce_14
def c_law33_ServeOnce_9 : MCode := .cond (.tmp 37) c_law33_ServeOnce_10 .skip
def c_law33_ServeOnce_8 : MCode := .seq (.region [⟨(some 33), .mv (.tmp 9), none⟩,
   ⟨(some 34), .mv (.tmp 0), none⟩,
   ⟨(some 35), .loadN 3 (.tmp 5), none⟩,
   ⟨(some 36), .call 12 [(.tmp 33), (.tmp 34), (.tmp 35)], none⟩,
   ⟨(some 37), .ar .neq (.tmp 36) (.const (.int .i64 0)), none⟩] []) c_law33_ServeOnce_9
def c_law33_ServeOnce_24 : MCode := .cond (.tmp 68) .skip (.exit 0)
def c_law33_ServeOnce_23 : MCode := .seq (.region [⟨(some 61), .mv (.tmp 13), none⟩,
   ⟨(some 62), .mv (.tmp 3), none⟩,
   ⟨(some 63), .lenV (.tmp 62), none⟩,
   ⟨(some 64), .ar .lss (.tmp 61) (.tmp 63), none⟩,
   ⟨(some 65), .mv (.tmp 64), none⟩,
   ⟨(some 66), .mv (.tmp 13), (some (65, true))⟩,
   ⟨(some 67), .ar .lss (.tmp 66) (.const (.int .i64 40)), (some (65, true))⟩,
   ⟨(some 68), .pick (.tmp 65) (.tmp 67) (.const (.bool false)), none⟩] []) c_law33_ServeOnce_24
def c_law33_ServeOnce_33 : MCode := (.region [⟨(some 79), .mv (.tmp 9), none⟩,
   ⟨(some 80), .fld 1 (.tmp 14), none⟩,
   ⟨(some 81), .loadN 7 (.tmp 80), none⟩,
   ⟨(some 82), .call 11 [(.tmp 79), (.tmp 81)], none⟩] [])
def c_law33_ServeOnce_36 : MCode := (.region [⟨(some 85), .mv (.tmp 9), none⟩,
   ⟨(some 86), .fld 1 (.tmp 14), none⟩,
   ⟨(some 87), .loadN 7 (.tmp 86), none⟩,
   ⟨(some 88), .call 15 [(.tmp 85), (.tmp 87)], none⟩] [])
def c_law33_ServeOnce_41 : MCode := .seq (.region [⟨(some 8), .mv (.const (.bool false)), none⟩] []) .ret
def c_law33_ServeOnce_40 : MCode := .cond (.tmp 96) c_law33_ServeOnce_41 .skip
def c_law33_ServeOnce_39 : MCode := .seq (.region [⟨(some 91), .mv (.tmp 9), none⟩,
   ⟨(some 92), .mv (.tmp 0), none⟩,
   ⟨(some 93), .fld 8 (.tmp 14), none⟩,
   ⟨(some 94), .loadN 3 (.tmp 93), none⟩,
   ⟨(some 95), .call 12 [(.tmp 91), (.tmp 92), (.tmp 94)], none⟩,
   ⟨(some 96), .ar .neq (.tmp 95) (.const (.int .i64 8)), none⟩] []) c_law33_ServeOnce_40
def c_law33_ServeOnce_46 : MCode := .seq (.region [⟨(some 8), .mv (.const (.bool false)), none⟩] []) .ret
def c_law33_ServeOnce_45 : MCode := .cond (.tmp 104) c_law33_ServeOnce_46 .skip
def c_law33_ServeOnce_44 : MCode := .seq (.region [⟨(some 99), .mv (.tmp 9), none⟩,
   ⟨(some 100), .mv (.tmp 0), none⟩,
   ⟨(some 101), .fld 11 (.tmp 14), none⟩,
   ⟨(some 102), .load1 (.tmp 101), none⟩,
   ⟨(some 103), .call 13 [(.tmp 99), (.tmp 100), (.tmp 102)], none⟩,
   ⟨(some 104), .ar .neq (.tmp 103) (.const (.int .i64 8)), none⟩] []) c_law33_ServeOnce_45
def c_law33_ServeOnce_43 : MCode := .cond (.tmp 97) c_law33_ServeOnce_44 .skip
def c_law33_ServeOnce_42 : MCode := .seq (.region [⟨(some 98), .ar .eql (.tmp 76) (.const (.int .i64 3)), none⟩,
   ⟨(some 97), .mv (.tmp 98), none⟩] []) c_law33_ServeOnce_43
def c_law33_ServeOnce_38 : MCode := .cond (.tmp 89) c_law33_ServeOnce_39 c_law33_ServeOnce_42
def c_law33_ServeOnce_37 : MCode := .seq (.region [⟨(some 90), .ar .eql (.tmp 76) (.const (.int .i64 2)), none⟩,
   ⟨(some 89), .mv (.tmp 90), none⟩] []) c_law33_ServeOnce_38
def c_law33_ServeOnce_35 : MCode := .cond (.tmp 83) c_law33_ServeOnce_36 c_law33_ServeOnce_37
def c_law33_ServeOnce_34 : MCode := .seq (.region [⟨(some 84), .ar .eql (.tmp 76) (.const (.int .i64 1)), none⟩,
   ⟨(some 83), .mv (.tmp 84), none⟩] []) c_law33_ServeOnce_35
def c_law33_ServeOnce_32 : MCode := .cond (.tmp 77) c_law33_ServeOnce_33 c_law33_ServeOnce_34
def c_law33_ServeOnce_31 : MCode := .seq (.region [⟨(some 78), .ar .eql (.tmp 76) (.const (.int .i64 0)), none⟩,
   ⟨(some 77), .mv (.tmp 78), none⟩] []) c_law33_ServeOnce_32
def c_law33_ServeOnce_30 : MCode := .block 2 c_law33_ServeOnce_31
def c_law33_ServeOnce_29 : MCode := .seq (.region [⟨(some 75), .fld 0 (.tmp 14), none⟩,
   ⟨(some 76), .load1 (.tmp 75), none⟩] []) c_law33_ServeOnce_30
def c_law33_ServeOnce_50 : MCode := .seq (.region [⟨(some 8), .mv (.const (.bool false)), none⟩] []) .ret
def c_law33_ServeOnce_49 : MCode := .cond (.tmp 118) c_law33_ServeOnce_50 .skip
def c_law33_ServeOnce_48 : MCode := .seq (.region [⟨(some 111), .loadN 12 (.tmp 15), none⟩,
   ⟨(some 112), .loadN 12 (.tmp 11), none⟩,
   ⟨(some 113), .eq true (.plain (.st [(0, 7, true, (.st [(0, 1, false, .int), (1, 5, true, (.st [(0, 1, false, .int), (1, 1, false, .int), (2, 1, false, .int), (3, 1, false, .int), (4, 1, false, .int)])), (6, 1, false, .int)])), (7, 1, false, .int), (8, 1, false, .int), (9, 3, true, (.st [(0, 1, false, .int), (1, 1, false, .int), (2, 1, false, .int)]))])) (.tmp 111) (.tmp 112), none⟩,
   ⟨(some 114), .mv (.tmp 113), none⟩,
   ⟨(some 115), .mv (.tmp 16), (some (114, false))⟩,
   ⟨(some 116), .mv (.tmp 12), (some (114, false))⟩,
   ⟨(some 117), .eq true .bool (.tmp 115) (.tmp 116), (some (114, false))⟩,
   ⟨(some 118), .pick (.tmp 114) (.const (.bool true)) (.tmp 117), none⟩] []) c_law33_ServeOnce_49
def c_law33_ServeOnce_47 : MCode := .seq (.region [⟨(some 106), .mv (.tmp 9), none⟩,
   ⟨(some 107), .mv (.tmp 0), none⟩,
   ⟨(some 108), .call 14 [(.tmp 106), (.tmp 107)], none⟩,
   ⟨(some 105), .mv (.tmp 108), none⟩,
   ⟨(some 109), .ext (.tmp 105) 0, none⟩,
   ⟨(some 110), .ext (.tmp 105) 1, none⟩,
   ⟨(some 15), .new [(.int .i64 0), (.int .i64 0), (.int .i64 0), (.int .i64 0), (.int .i64 0), (.int .i64 0), (.int .i64 0), (.int .i64 0), (.int .i64 0), (.int .i64 0), (.int .i64 0), (.int .i64 0)], none⟩,
   ⟨none, .store 12 (.tmp 15) (.tmp 109), none⟩,
   ⟨(some 16), .mv (.tmp 110), none⟩] []) c_law33_ServeOnce_48
def c_law33_ServeOnce_28 : MCode := .seq c_law33_ServeOnce_29 c_law33_ServeOnce_47
def c_law33_ServeOnce_27 : MCode := .seq (.region [⟨(some 71), .mv (.tmp 3), none⟩,
   ⟨(some 72), .mv (.tmp 13), none⟩,
   ⟨(some 73), .ixV 12 (.tmp 71) (.tmp 72), none⟩,
   ⟨(some 74), .loadN 12 (.tmp 73), none⟩,
   ⟨(some 14), .new [(.int .i64 0), (.int .i64 0), (.int .i64 0), (.int .i64 0), (.int .i64 0), (.int .i64 0), (.int .i64 0), (.int .i64 0), (.int .i64 0), (.int .i64 0), (.int .i64 0), (.int .i64 0)], none⟩,
   ⟨none, .store 12 (.tmp 14) (.tmp 74), none⟩] []) c_law33_ServeOnce_28
def c_law33_ServeOnce_26 : MCode := .block 1 c_law33_ServeOnce_27
def c_law33_ServeOnce_51 : MCode := (.region [⟨(some 69), .mv (.tmp 13), none⟩,
   ⟨(some 70), .ar .add (.tmp 69) (.const (.int .i64 1)), none⟩,
   ⟨(some 13), .mv (.tmp 70), none⟩] [])
def c_law33_ServeOnce_25 : MCode := .seq c_law33_ServeOnce_26 c_law33_ServeOnce_51
def c_law33_ServeOnce_22 : MCode := .seq c_law33_ServeOnce_23 c_law33_ServeOnce_25
def c_law33_ServeOnce_21 : MCode := .loop [0, 2, 3, 5, 9, 10, 11, 12, 13] c_law33_ServeOnce_22
def c_law33_ServeOnce_20 : MCode := .block 0 c_law33_ServeOnce_21
def c_law33_ServeOnce_19 : MCode := .seq (.region [⟨(some 13), .mv (.const (.int .i64 0)), none⟩] []) c_law33_ServeOnce_20
def c_law33_ServeOnce_52 : MCode := .seq (.region [⟨(some 119), .mv (.tmp 12), none⟩,
   ⟨(some 120), .mv (.tmp 119), none⟩,
   ⟨(some 121), .fld 7 (.tmp 11), (some (120, true))⟩,
   ⟨(some 122), .load1 (.tmp 121), (some (120, true))⟩,
   ⟨(some 123), .ar .eql (.tmp 122) (.const (.int .i64 2)), (some (120, true))⟩,
   ⟨(some 124), .mv (.tmp 123), (some (120, true))⟩,
   ⟨(some 125), .fld 9 (.tmp 11), (some (124, true))⟩,
   ⟨(some 126), .loadN 3 (.tmp 125), (some (124, true))⟩,
   ⟨(some 127), .loadN 3 (.tmp 5), (some (124, true))⟩,
   ⟨(some 128), .eq false (.plain (.st [(0, 1, false, .int), (1, 1, false, .int), (2, 1, false, .int)])) (.tmp 126) (.tmp 127), (some (124, true))⟩,
   ⟨(some 129), .pick (.tmp 124) (.tmp 128) (.const (.bool false)), (some (120, true))⟩,
   ⟨(some 130), .mv (.tmp 129), (some (120, true))⟩,
   ⟨(some 131), .fld 7 (.tmp 11), (some (130, false))⟩,
   ⟨(some 132), .load1 (.tmp 131), (some (130, false))⟩,
   ⟨(some 133), .ar .eql (.tmp 132) (.const (.int .i64 3)), (some (130, false))⟩,
   ⟨(some 134), .mv (.tmp 133), (some (130, false))⟩,
   ⟨(some 135), .fld 8 (.tmp 11), (some (134, true))⟩,
   ⟨(some 136), .load1 (.tmp 135), (some (134, true))⟩,
   ⟨(some 137), .mv (.tmp 2), (some (134, true))⟩,
   ⟨(some 138), .ar .eql (.tmp 136) (.tmp 137), (some (134, true))⟩,
   ⟨(some 139), .pick (.tmp 134) (.tmp 138) (.const (.bool false)), (some (130, false))⟩,
   ⟨(some 140), .pick (.tmp 130) (.const (.bool true)) (.tmp 139), (some (120, true))⟩,
   ⟨(some 141), .pick (.tmp 120) (.tmp 140) (.const (.bool false)), none⟩,
   ⟨(some 142), .mv (.tmp 141), none⟩,
   ⟨(some 143), .mv (.tmp 9), (some (142, true))⟩,
   ⟨(some 144), .loadN 7 (.tmp 10), (some (142, true))⟩,
   ⟨(some 145), .call 11 [(.tmp 143), (.tmp 144)], (some (142, true))⟩,
   ⟨(some 146), .ar .eql (.tmp 145) (.const (.int .i64 41)), (some (142, true))⟩,
   ⟨(some 147), .pick (.tmp 142) (.tmp 146) (.const (.bool false)), none⟩,
   ⟨(some 148), .mv (.tmp 147), none⟩,
   ⟨(some 149), .call 9 [], (some (148, true))⟩,
   ⟨(some 150), .pick (.tmp 148) (.tmp 149) (.const (.bool false)), none⟩,
   ⟨(some 8), .mv (.tmp 150), none⟩] []) .ret
def c_law33_ServeOnce_18 : MCode := .seq c_law33_ServeOnce_19 c_law33_ServeOnce_52
def c_law33_ServeOnce_17 : MCode := .seq (.region [⟨(some 56), .mv (.tmp 9), none⟩,
   ⟨(some 57), .mv (.tmp 0), none⟩,
   ⟨(some 58), .call 14 [(.tmp 56), (.tmp 57)], none⟩,
   ⟨(some 55), .mv (.tmp 58), none⟩,
   ⟨(some 59), .ext (.tmp 55) 0, none⟩,
   ⟨(some 60), .ext (.tmp 55) 1, none⟩,
   ⟨(some 11), .new [(.int .i64 0), (.int .i64 0), (.int .i64 0), (.int .i64 0), (.int .i64 0), (.int .i64 0), (.int .i64 0), (.int .i64 0), (.int .i64 0), (.int .i64 0), (.int .i64 0), (.int .i64 0)], none⟩,
   ⟨none, .store 12 (.tmp 11) (.tmp 59), none⟩,
   ⟨(some 12), .mv (.tmp 60), none⟩] []) c_law33_ServeOnce_18
def c_law33_ServeOnce_7 : MCode := .seq c_law33_ServeOnce_8 c_law33_ServeOnce_17
def c_law33_ServeOnce_3 : MCode := .seq c_law33_ServeOnce_4 c_law33_ServeOnce_7
def c_law33_ServeOnce_2 : MCode := .seq (.region [⟨(some 18), .mv (.tmp 0), none⟩,
   ⟨(some 19), .build [(.int .i64 0), (.int .i64 0), (.int .i64 0), (.int .i64 0), (.int .i64 0)] [(0, 1, (.const (.int .i64 3))), (1, 1, (.const (.int .i64 1)))], none⟩,
   ⟨(some 20), .fld 2 (.tmp 5), none⟩,
   ⟨(some 21), .load1 (.tmp 20), none⟩,
   ⟨(some 22), .build [(.int .i64 0), (.int .i64 0), (.int .i64 0), (.int .i64 0), (.int .i64 0), (.int .i64 0), (.int .i64 0)] [(0, 1, (.tmp 18)), (1, 5, (.tmp 19)), (6, 1, (.tmp 21))], none⟩,
   ⟨(some 10), .new [(.int .i64 0), (.int .i64 0), (.int .i64 0), (.int .i64 0), (.int .i64 0), (.int .i64 0), (.int .i64 0)], none⟩,
   ⟨none, .store 7 (.tmp 10) (.tmp 22), none⟩] []) c_law33_ServeOnce_3
def c_law33_ServeOnce_1 : MCode := .seq (.region [⟨(some 17), .call 10 [], none⟩,
   ⟨(some 9), .mv (.tmp 17), none⟩] []) c_law33_ServeOnce_2
def c_law33_ServeOnce_0 : MCode := .seq (.region [⟨(some 5), .box (.tmp 1), none⟩,
   ⟨(some 8), .mv (.const (.bool false)), none⟩] []) c_law33_ServeOnce_1
/-- trefoil/trefoillaw33.ServeOnce -/
def M_law33_ServeOnce : MFun := ⟨4, c_law33_ServeOnce_0, [.tmp 8]⟩
abbrev F_law33_ServeOnce : Nat := 4
set_option maxRecDepth 100000 in
theorem m_law33_ServeOnce : InProg Try.prog 0 4 M_law33_ServeOnce := ⟨Try.f4, [[0, 2, 3, 5, 9, 10, 11, 12, 13]], Try.func4, by kernel_rfl⟩
def c_law33_ServePlays_9 : MCode := .cond (.tmp 20) .skip (.exit 0)
def c_law33_ServePlays_8 : MCode := .seq (.region [⟨(some 13), .mv (.tmp 5), none⟩,
   ⟨(some 14), .mv (.tmp 0), none⟩,
   ⟨(some 15), .lenV (.tmp 14), none⟩,
   ⟨(some 16), .ar .lss (.tmp 13) (.tmp 15), none⟩,
   ⟨(some 17), .mv (.tmp 16), none⟩,
   ⟨(some 18), .mv (.tmp 5), (some (17, true))⟩,
   ⟨(some 19), .ar .lss (.tmp 18) (.const (.int .i64 100)), (some (17, true))⟩,
   ⟨(some 20), .pick (.tmp 17) (.tmp 19) (.const (.bool false)), none⟩] []) c_law33_ServePlays_9
def c_law33_ServePlays_15 : MCode := .seq (.region [⟨(some 2), .mv (.const (.bool false)), none⟩] []) .ret
def c_law33_ServePlays_14 : MCode := .cond (.tmp 29) c_law33_ServePlays_15 .skip
def c_law33_ServePlays_13 : MCode := .seq (.region [⟨(some 23), .mv (.tmp 3), none⟩,
   ⟨(some 24), .mv (.tmp 0), none⟩,
   ⟨(some 25), .mv (.tmp 5), none⟩,
   ⟨(some 26), .ixV 12 (.tmp 24) (.tmp 25), none⟩,
   ⟨(some 27), .loadN 12 (.tmp 26), none⟩,
   ⟨(some 28), .call 16 [(.tmp 23), (.tmp 4), (.tmp 27)], none⟩,
   ⟨(some 29), .un .not (.tmp 28), none⟩] []) c_law33_ServePlays_14
def c_law33_ServePlays_20 : MCode := .seq (.region [⟨(some 2), .mv (.const (.bool false)), none⟩] []) .ret
def c_law33_ServePlays_19 : MCode := .cond (.tmp 62) c_law33_ServePlays_20 .skip
def c_law33_ServePlays_18 : MCode := .seq (.region [⟨(some 35), .mv (.tmp 3), none⟩,
   ⟨(some 36), .call 19 [(.tmp 35)], none⟩,
   ⟨(some 37), .mv (.tmp 6), none⟩,
   ⟨(some 38), .call 18 [(.tmp 36), (.tmp 37)], none⟩,
   ⟨(some 39), .un .not (.tmp 38), none⟩,
   ⟨(some 40), .mv (.tmp 39), none⟩,
   ⟨(some 41), .mv (.tmp 3), (some (40, false))⟩,
   ⟨(some 42), .call 21 [(.tmp 41)], (some (40, false))⟩,
   ⟨(some 43), .mv (.tmp 7), (some (40, false))⟩,
   ⟨(some 44), .call 20 [(.tmp 42), (.tmp 43)], (some (40, false))⟩,
   ⟨(some 45), .un .not (.tmp 44), (some (40, false))⟩,
   ⟨(some 46), .pick (.tmp 40) (.const (.bool true)) (.tmp 45), none⟩,
   ⟨(some 47), .mv (.tmp 46), none⟩,
   ⟨(some 48), .mv (.tmp 3), (some (47, false))⟩,
   ⟨(some 49), .call 22 [(.tmp 48)], (some (47, false))⟩,
   ⟨(some 50), .loadN 1 (.tmp 4), (some (47, false))⟩,
   ⟨(some 51), .call 23 [(.tmp 50)], (some (47, false))⟩,
   ⟨(some 52), .call 18 [(.tmp 49), (.tmp 51)], (some (47, false))⟩,
   ⟨(some 53), .un .not (.tmp 52), (some (47, false))⟩,
   ⟨(some 54), .pick (.tmp 47) (.const (.bool true)) (.tmp 53), none⟩,
   ⟨(some 55), .mv (.tmp 54), none⟩,
   ⟨(some 56), .mv (.tmp 3), (some (55, false))⟩,
   ⟨(some 57), .call 24 [(.tmp 56)], (some (55, false))⟩,
   ⟨(some 58), .fld 0 (.tmp 4), (some (55, false))⟩,
   ⟨(some 59), .load1 (.tmp 58), (some (55, false))⟩,
   ⟨(some 60), .lenV (.tmp 59), (some (55, false))⟩,
   ⟨(some 61), .ar .neq (.tmp 57) (.tmp 60), (some (55, false))⟩,
   ⟨(some 62), .pick (.tmp 55) (.const (.bool true)) (.tmp 61), none⟩] [(15, 14), (24, 22)]) c_law33_ServePlays_19
def c_law33_ServePlays_29 : MCode := .seq (.region [⟨(some 2), .mv (.const (.bool false)), none⟩] []) .ret
def c_law33_ServePlays_28 : MCode := .cond (.tmp 98) c_law33_ServePlays_29 .skip
def c_law33_ServePlays_27 : MCode := .seq (.region [⟨(some 93), .mv (.tmp 9), none⟩,
   ⟨(some 94), .mv (.tmp 93), none⟩,
   ⟨(some 95), .loadN 12 (.tmp 8), (some (94, false))⟩,
   ⟨(some 96), .build [(.int .i64 0), (.int .i64 0), (.int .i64 0), (.int .i64 0), (.int .i64 0), (.int .i64 0), (.int .i64 0), (.int .i64 0), (.int .i64 0), (.int .i64 0), (.int .i64 0), (.int .i64 0)] [], (some (94, false))⟩,
   ⟨(some 97), .eq true (.plain (.st [(0, 7, true, (.st [(0, 1, false, .int), (1, 5, true, (.st [(0, 1, false, .int), (1, 1, false, .int), (2, 1, false, .int), (3, 1, false, .int), (4, 1, false, .int)])), (6, 1, false, .int)])), (7, 1, false, .int), (8, 1, false, .int), (9, 3, true, (.st [(0, 1, false, .int), (1, 1, false, .int), (2, 1, false, .int)]))])) (.tmp 95) (.tmp 96), (some (94, false))⟩,
   ⟨(some 98), .pick (.tmp 94) (.const (.bool true)) (.tmp 97), none⟩] []) c_law33_ServePlays_28
def c_law33_ServePlays_26 : MCode := .seq c_law33_ServePlays_27 (.exit 1)
def c_law33_ServePlays_25 : MCode := .cond (.tmp 92) c_law33_ServePlays_26 .skip
def c_law33_ServePlays_24 : MCode := .seq (.region [⟨(some 82), .mv (.tmp 10), none⟩,
   ⟨(some 83), .ar .lss (.tmp 82) (.const (.int .i64 0)), none⟩,
   ⟨(some 84), .mv (.tmp 83), none⟩,
   ⟨(some 85), .fld 0 (.tmp 4), (some (84, false))⟩,
   ⟨(some 86), .load1 (.tmp 85), (some (84, false))⟩,
   ⟨(some 87), .mv (.tmp 10), (some (84, false))⟩,
   ⟨(some 88), .ixV 22 (.tmp 86) (.tmp 87), (some (84, false))⟩,
   ⟨(some 89), .fld 15 (.tmp 88), (some (84, false))⟩,
   ⟨(some 90), .load1 (.tmp 89), (some (84, false))⟩,
   ⟨(some 91), .un .not (.tmp 90), (some (84, false))⟩,
   ⟨(some 92), .pick (.tmp 84) (.const (.bool true)) (.tmp 91), none⟩] []) c_law33_ServePlays_25
def c_law33_ServePlays_33 : MCode := .seq (.region [⟨(some 2), .mv (.const (.bool false)), none⟩] []) .ret
def c_law33_ServePlays_32 : MCode := .cond (.tmp 133) c_law33_ServePlays_33 .skip
def c_law33_ServePlays_31 : MCode := .seq (.region [⟨(some 104), .mv (.tmp 9), none⟩,
   ⟨(some 105), .un .not (.tmp 104), none⟩,
   ⟨(some 106), .mv (.tmp 105), none⟩,
   ⟨(some 107), .fld 0 (.tmp 8), (some (106, false))⟩,
   ⟨(some 108), .loadN 7 (.tmp 107), (some (106, false))⟩,
   ⟨(some 109), .fld 1 (.tmp 11), (some (106, false))⟩,
   ⟨(some 110), .loadN 7 (.tmp 109), (some (106, false))⟩,
   ⟨(some 111), .eq true (.plain (.st [(0, 1, false, .int), (1, 5, true, (.st [(0, 1, false, .int), (1, 1, false, .int), (2, 1, false, .int), (3, 1, false, .int), (4, 1, false, .int)])), (6, 1, false, .int)])) (.tmp 108) (.tmp 110), (some (106, false))⟩,
   ⟨(some 112), .pick (.tmp 106) (.const (.bool true)) (.tmp 111), none⟩,
   ⟨(some 113), .mv (.tmp 112), none⟩,
   ⟨(some 114), .fld 7 (.tmp 8), (some (113, false))⟩,
   ⟨(some 115), .load1 (.tmp 114), (some (113, false))⟩,
   ⟨(some 116), .fld 17 (.tmp 11), (some (113, false))⟩,
   ⟨(some 117), .load1 (.tmp 116), (some (113, false))⟩,
   ⟨(some 118), .ar .neq (.tmp 115) (.tmp 117), (some (113, false))⟩,
   ⟨(some 119), .pick (.tmp 113) (.const (.bool true)) (.tmp 118), none⟩,
   ⟨(some 120), .mv (.tmp 119), none⟩,
   ⟨(some 121), .fld 8 (.tmp 8), (some (120, false))⟩,
   ⟨(some 122), .load1 (.tmp 121), (some (120, false))⟩,
   ⟨(some 123), .fld 18 (.tmp 11), (some (120, false))⟩,
   ⟨(some 124), .load1 (.tmp 123), (some (120, false))⟩,
   ⟨(some 125), .ar .neq (.tmp 122) (.tmp 124), (some (120, false))⟩,
   ⟨(some 126), .pick (.tmp 120) (.const (.bool true)) (.tmp 125), none⟩,
   ⟨(some 127), .mv (.tmp 126), none⟩,
   ⟨(some 128), .fld 9 (.tmp 8), (some (127, false))⟩,
   ⟨(some 129), .loadN 3 (.tmp 128), (some (127, false))⟩,
   ⟨(some 130), .fld 19 (.tmp 11), (some (127, false))⟩,
   ⟨(some 131), .loadN 3 (.tmp 130), (some (127, false))⟩,
   ⟨(some 132), .eq true (.plain (.st [(0, 1, false, .int), (1, 1, false, .int), (2, 1, false, .int)])) (.tmp 129) (.tmp 131), (some (127, false))⟩,
   ⟨(some 133), .pick (.tmp 127) (.const (.bool true)) (.tmp 132), none⟩] []) c_law33_ServePlays_32
def c_law33_ServePlays_30 : MCode := .seq (.region [⟨(some 99), .fld 0 (.tmp 4), none⟩,
   ⟨(some 100), .load1 (.tmp 99), none⟩,
   ⟨(some 101), .mv (.tmp 10), none⟩,
   ⟨(some 102), .ixV 22 (.tmp 100) (.tmp 101), none⟩,
   ⟨(some 103), .loadN 22 (.tmp 102), none⟩,
   ⟨(some 11), .new [(.int .i64 0), (.int .i64 0), (.int .i64 0), (.int .i64 0), (.int .i64 0), (.int .i64 0), (.int .i64 0), (.int .i64 0), (.int .i64 0), (.int .i64 0), (.int .i64 0), (.int .i64 0), (.int .i64 0), (.int .i64 0), (.int .i64 0), (.bool false), (.bool false), (.int .i64 0), (.int .i64 0), (.int .i64 0), (.int .i64 0), (.int .i64 0)], none⟩,
   ⟨none, .store 22 (.tmp 11) (.tmp 103), none⟩] []) c_law33_ServePlays_31
def c_law33_ServePlays_23 : MCode := .seq c_law33_ServePlays_24 c_law33_ServePlays_30
def c_law33_ServePlays_22 : MCode := .seq (.region [⟨(some 74), .loadN 1 (.tmp 4), none⟩,
   ⟨(some 75), .mv (.tmp 0), none⟩,
   ⟨(some 76), .mv (.tmp 5), none⟩,
   ⟨(some 77), .ixV 12 (.tmp 75) (.tmp 76), none⟩,
   ⟨(some 78), .fld 1 (.tmp 77), none⟩,
   ⟨(some 79), .fld 0 (.tmp 78), none⟩,
   ⟨(some 80), .load1 (.tmp 79), none⟩,
   ⟨(some 81), .call 25 [(.tmp 74), (.tmp 80)], none⟩,
   ⟨(some 10), .mv (.tmp 81), none⟩] []) c_law33_ServePlays_23
def c_law33_ServePlays_21 : MCode := .seq (.region [⟨(some 64), .mv (.tmp 3), none⟩,
   ⟨(some 65), .mv (.tmp 0), none⟩,
   ⟨(some 66), .mv (.tmp 5), none⟩,
   ⟨(some 67), .ixV 12 (.tmp 65) (.tmp 66), none⟩,
   ⟨(some 68), .fld 1 (.tmp 67), none⟩,
   ⟨(some 69), .fld 0 (.tmp 68), none⟩,
   ⟨(some 70), .load1 (.tmp 69), none⟩,
   ⟨(some 71), .call 14 [(.tmp 64), (.tmp 70)], none⟩,
   ⟨(some 63), .mv (.tmp 71), none⟩,
   ⟨(some 72), .ext (.tmp 63) 0, none⟩,
   ⟨(some 73), .ext (.tmp 63) 1, none⟩,
   ⟨(some 8), .new [(.int .i64 0), (.int .i64 0), (.int .i64 0), (.int .i64 0), (.int .i64 0), (.int .i64 0), (.int .i64 0), (.int .i64 0), (.int .i64 0), (.int .i64 0), (.int .i64 0), (.int .i64 0)], none⟩,
   ⟨none, .store 12 (.tmp 8) (.tmp 72), none⟩,
   ⟨(some 9), .mv (.tmp 73), none⟩] []) c_law33_ServePlays_22
def c_law33_ServePlays_17 : MCode := .seq c_law33_ServePlays_18 c_law33_ServePlays_21
def c_law33_ServePlays_16 : MCode := .seq (.region [⟨(some 31), .loadN 1 (.tmp 4), none⟩,
   ⟨(some 32), .call 17 [(.tmp 31)], none⟩,
   ⟨(some 30), .mv (.tmp 32), none⟩,
   ⟨(some 33), .ext (.tmp 30) 0, none⟩,
   ⟨(some 34), .ext (.tmp 30) 1, none⟩,
   ⟨(some 6), .mv (.tmp 33), none⟩,
   ⟨(some 7), .mv (.tmp 34), none⟩] []) c_law33_ServePlays_17
def c_law33_ServePlays_12 : MCode := .seq c_law33_ServePlays_13 c_law33_ServePlays_16
def c_law33_ServePlays_11 : MCode := .block 1 c_law33_ServePlays_12
def c_law33_ServePlays_34 : MCode := (.region [⟨(some 21), .mv (.tmp 5), none⟩,
   ⟨(some 22), .ar .add (.tmp 21) (.const (.int .i64 1)), none⟩,
   ⟨(some 5), .mv (.tmp 22), none⟩] [])
def c_law33_ServePlays_10 : MCode := .seq c_law33_ServePlays_11 c_law33_ServePlays_34
def c_law33_ServePlays_7 : MCode := .seq c_law33_ServePlays_8 c_law33_ServePlays_10
def c_law33_ServePlays_6 : MCode := .loop [0, 3, 4, 5] c_law33_ServePlays_7
def c_law33_ServePlays_5 : MCode := .block 0 c_law33_ServePlays_6
def c_law33_ServePlays_4 : MCode := .seq (.region [⟨(some 5), .mv (.const (.int .i64 0)), none⟩] []) c_law33_ServePlays_5
def c_law33_ServePlays_35 : MCode := .seq (.region [⟨(some 134), .call 9 [], none⟩,
   ⟨(some 2), .mv (.tmp 134), none⟩] []) .ret
def c_law33_ServePlays_3 : MCode := .seq c_law33_ServePlays_4 c_law33_ServePlays_35
def c_law33_ServePlays_2 : MCode := .seq (.region [⟨(some 4), .new [(.slice none 0 0)], none⟩] []) c_law33_ServePlays_3
def c_law33_ServePlays_1 : MCode := .seq (.region [⟨(some 12), .call 10 [], none⟩,
   ⟨(some 3), .mv (.tmp 12), none⟩] []) c_law33_ServePlays_2
def c_law33_ServePlays_0 : MCode := .seq (.region [⟨(some 2), .mv (.const (.bool false)), none⟩] []) c_law33_ServePlays_1
/-- trefoil/trefoillaw33.ServePlays -/
def M_law33_ServePlays : MFun := ⟨1, c_law33_ServePlays_0, [.tmp 2]⟩
abbrev F_law33_ServePlays : Nat := 5
set_option maxRecDepth 100000 in
theorem m_law33_ServePlays : InProg Try.prog 0 5 M_law33_ServePlays := ⟨Try.f5, [[0, 3, 4, 5]], Try.func5, by kernel_rfl⟩
def c_law33_ServeNobody_7 : MCode := .cond (.tmp 12) .skip (.exit 0)
def c_law33_ServeNobody_14 : MCode := .seq (.region [⟨(some 2), .mv (.const (.bool false)), none⟩] []) .ret
def c_law33_ServeNobody_13 : MCode := .cond (.tmp 91) c_law33_ServeNobody_14 .skip
def c_law33_ServeNobody_12 : MCode := .seq (.region [⟨(some 23), .mv (.tmp 4), none⟩,
   ⟨(some 24), .fld 1 (.tmp 1), none⟩,
   ⟨(some 25), .loadN 7 (.tmp 24), none⟩,
   ⟨(some 26), .call 11 [(.tmp 23), (.tmp 25)], none⟩,
   ⟨(some 27), .ar .neq (.tmp 26) (.const (.int .i64 3)), none⟩,
   ⟨(some 28), .mv (.tmp 27), none⟩,
   ⟨(some 29), .mv (.tmp 4), (some (28, false))⟩,
   ⟨(some 30), .fld 1 (.tmp 1), (some (28, false))⟩,
   ⟨(some 31), .loadN 7 (.tmp 30), (some (28, false))⟩,
   ⟨(some 32), .call 15 [(.tmp 29), (.tmp 31)], (some (28, false))⟩,
   ⟨(some 33), .ar .neq (.tmp 32) (.const (.int .i64 3)), (some (28, false))⟩,
   ⟨(some 34), .pick (.tmp 28) (.const (.bool true)) (.tmp 33), none⟩,
   ⟨(some 35), .mv (.tmp 34), none⟩,
   ⟨(some 36), .mv (.tmp 4), (some (35, false))⟩,
   ⟨(some 37), .fld 1 (.tmp 1), (some (35, false))⟩,
   ⟨(some 38), .fld 0 (.tmp 37), (some (35, false))⟩,
   ⟨(some 39), .load1 (.tmp 38), (some (35, false))⟩,
   ⟨(some 40), .fld 8 (.tmp 1), (some (35, false))⟩,
   ⟨(some 41), .loadN 3 (.tmp 40), (some (35, false))⟩,
   ⟨(some 42), .call 12 [(.tmp 36), (.tmp 39), (.tmp 41)], (some (35, false))⟩,
   ⟨(some 43), .ar .neq (.tmp 42) (.const (.int .i64 3)), (some (35, false))⟩,
   ⟨(some 44), .pick (.tmp 35) (.const (.bool true)) (.tmp 43), none⟩,
   ⟨(some 45), .mv (.tmp 44), none⟩,
   ⟨(some 46), .mv (.tmp 4), (some (45, false))⟩,
   ⟨(some 47), .fld 1 (.tmp 1), (some (45, false))⟩,
   ⟨(some 48), .fld 0 (.tmp 47), (some (45, false))⟩,
   ⟨(some 49), .load1 (.tmp 48), (some (45, false))⟩,
   ⟨(some 50), .fld 11 (.tmp 1), (some (45, false))⟩,
   ⟨(some 51), .load1 (.tmp 50), (some (45, false))⟩,
   ⟨(some 52), .call 13 [(.tmp 46), (.tmp 49), (.tmp 51)], (some (45, false))⟩,
   ⟨(some 53), .ar .neq (.tmp 52) (.const (.int .i64 3)), (some (45, false))⟩,
   ⟨(some 54), .pick (.tmp 45) (.const (.bool true)) (.tmp 53), none⟩,
   ⟨(some 55), .mv (.tmp 54), none⟩,
   ⟨(some 56), .loadN 12 (.tmp 5), (some (55, false))⟩,
   ⟨(some 57), .build [(.int .i64 0), (.int .i64 0), (.int .i64 0), (.int .i64 0), (.int .i64 0), (.int .i64 0), (.int .i64 0), (.int .i64 0), (.int .i64 0), (.int .i64 0), (.int .i64 0), (.int .i64 0)] [], (some (55, false))⟩,
   ⟨(some 58), .eq true (.plain (.st [(0, 7, true, (.st [(0, 1, false, .int), (1, 5, true, (.st [(0, 1, false, .int), (1, 1, false, .int), (2, 1, false, .int), (3, 1, false, .int), (4, 1, false, .int)])), (6, 1, false, .int)])), (7, 1, false, .int), (8, 1, false, .int), (9, 3, true, (.st [(0, 1, false, .int), (1, 1, false, .int), (2, 1, false, .int)]))])) (.tmp 56) (.tmp 57), (some (55, false))⟩,
   ⟨(some 59), .pick (.tmp 55) (.const (.bool true)) (.tmp 58), none⟩,
   ⟨(some 60), .mv (.tmp 59), none⟩,
   ⟨(some 61), .mv (.tmp 6), (some (60, false))⟩,
   ⟨(some 62), .pick (.tmp 60) (.const (.bool true)) (.tmp 61), none⟩,
   ⟨(some 63), .mv (.tmp 62), none⟩,
   ⟨(some 64), .mv (.tmp 4), (some (63, false))⟩,
   ⟨(some 65), .call 19 [(.tmp 64)], (some (63, false))⟩,
   ⟨(some 66), .lenV (.tmp 65), (some (63, false))⟩,
   ⟨(some 67), .ar .neq (.tmp 66) (.const (.int .i64 0)), (some (63, false))⟩,
   ⟨(some 68), .pick (.tmp 63) (.const (.bool true)) (.tmp 67), none⟩,
   ⟨(some 69), .mv (.tmp 68), none⟩,
   ⟨(some 70), .mv (.tmp 4), (some (69, false))⟩,
   ⟨(some 71), .call 21 [(.tmp 70)], (some (69, false))⟩,
   ⟨(some 72), .lenV (.tmp 71), (some (69, false))⟩,
   ⟨(some 73), .ar .neq (.tmp 72) (.const (.int .i64 0)), (some (69, false))⟩,
   ⟨(some 74), .pick (.tmp 69) (.const (.bool true)) (.tmp 73), none⟩,
   ⟨(some 75), .mv (.tmp 74), none⟩,
   ⟨(some 76), .mv (.tmp 4), (some (75, false))⟩,
   ⟨(some 77), .call 22 [(.tmp 76)], (some (75, false))⟩,
   ⟨(some 78), .lenV (.tmp 77), (some (75, false))⟩,
   ⟨(some 79), .ar .neq (.tmp 78) (.const (.int .i64 0)), (some (75, false))⟩,
   ⟨(some 80), .pick (.tmp 75) (.const (.bool true)) (.tmp 79), none⟩,
   ⟨(some 81), .mv (.tmp 80), none⟩,
   ⟨(some 82), .mv (.tmp 4), (some (81, false))⟩,
   ⟨(some 83), .call 26 [(.tmp 82)], (some (81, false))⟩,
   ⟨(some 84), .lenV (.tmp 83), (some (81, false))⟩,
   ⟨(some 85), .ar .neq (.tmp 84) (.const (.int .i64 0)), (some (81, false))⟩,
   ⟨(some 86), .pick (.tmp 81) (.const (.bool true)) (.tmp 85), none⟩,
   ⟨(some 87), .mv (.tmp 86), none⟩,
   ⟨(some 88), .mv (.tmp 4), (some (87, false))⟩,
   ⟨(some 89), .call 24 [(.tmp 88)], (some (87, false))⟩,
   ⟨(some 90), .ar .neq (.tmp 89) (.const (.int .i64 0)), (some (87, false))⟩,
   ⟨(some 91), .pick (.tmp 87) (.const (.bool true)) (.tmp 90), none⟩] []) c_law33_ServeNobody_13
def c_law33_ServeNobody_11 : MCode := .seq (.region [⟨(some 16), .mv (.tmp 4), none⟩,
   ⟨(some 17), .fld 1 (.tmp 1), none⟩,
   ⟨(some 18), .fld 0 (.tmp 17), none⟩,
   ⟨(some 19), .load1 (.tmp 18), none⟩,
   ⟨(some 20), .call 14 [(.tmp 16), (.tmp 19)], none⟩,
   ⟨(some 15), .mv (.tmp 20), none⟩,
   ⟨(some 21), .ext (.tmp 15) 0, none⟩,
   ⟨(some 22), .ext (.tmp 15) 1, none⟩,
   ⟨(some 5), .new [(.int .i64 0), (.int .i64 0), (.int .i64 0), (.int .i64 0), (.int .i64 0), (.int .i64 0), (.int .i64 0), (.int .i64 0), (.int .i64 0), (.int .i64 0), (.int .i64 0), (.int .i64 0)], none⟩,
   ⟨none, .store 12 (.tmp 5) (.tmp 21), none⟩,
   ⟨(some 6), .mv (.tmp 22), none⟩] []) c_law33_ServeNobody_12
def c_law33_ServeNobody_10 : MCode := .seq (.region [⟨(some 13), .ixV 1 (.tmp 9) (.tmp 11), none⟩,
   ⟨(some 14), .load1 (.tmp 13), none⟩,
   ⟨(some 4), .mv (.tmp 14), none⟩] []) c_law33_ServeNobody_11
def c_law33_ServeNobody_9 : MCode := .block 1 c_law33_ServeNobody_10
def c_law33_ServeNobody_15 : MCode := (.region [⟨(some 92), .ar .add (.tmp 11) (.const (.int .i64 1)), none⟩,
   ⟨(some 11), .mv (.tmp 92), none⟩] [])
def c_law33_ServeNobody_8 : MCode := .seq c_law33_ServeNobody_9 c_law33_ServeNobody_15
def c_law33_ServeNobody_6 : MCode := .seq c_law33_ServeNobody_7 c_law33_ServeNobody_8
def c_law33_ServeNobody_5 : MCode := .seq (.region [⟨(some 12), .ar .lss (.tmp 11) (.tmp 10), none⟩] []) c_law33_ServeNobody_6
def c_law33_ServeNobody_4 : MCode := .loop [1, 9, 10, 11] c_law33_ServeNobody_5
def c_law33_ServeNobody_3 : MCode := .block 0 c_law33_ServeNobody_4
def c_law33_ServeNobody_2 : MCode := .seq (.region [⟨(some 7), .build [(.map none), (.int .i64 0), (.bool false)] [], none⟩,
   ⟨(some 8), .box (.tmp 7), none⟩,
   ⟨(some 9), .buildSlice [(.pointer none), (.pointer none)] 2 [(0, 1, (.const (.pointer none))), (1, 1, (.tmp 8))], none⟩,
   ⟨(some 10), .lenV (.tmp 9), none⟩,
   ⟨(some 11), .mv (.const (.int .i64 0)), none⟩] []) c_law33_ServeNobody_3
def c_law33_ServeNobody_16 : MCode := .seq (.region [⟨(some 93), .call 9 [], none⟩,
   ⟨(some 2), .mv (.tmp 93), none⟩] []) .ret
def c_law33_ServeNobody_1 : MCode := .seq c_law33_ServeNobody_2 c_law33_ServeNobody_16
def c_law33_ServeNobody_0 : MCode := .seq (.region [⟨(some 1), .box (.tmp 0), none⟩,
   ⟨(some 2), .mv (.const (.bool false)), none⟩] []) c_law33_ServeNobody_1
/-- trefoil/trefoillaw33.ServeNobody -/
def M_law33_ServeNobody : MFun := ⟨1, c_law33_ServeNobody_0, [.tmp 2]⟩
abbrev F_law33_ServeNobody : Nat := 6
set_option maxRecDepth 100000 in
theorem m_law33_ServeNobody : InProg Try.prog 0 6 M_law33_ServeNobody := ⟨Try.f6, [[1, 9, 10, 11]], Try.func6, by kernel_rfl⟩
def c_serve_Check_5 : MCode := .seq (.region [⟨(some 9), .mv (.tmp 3), none⟩,
   ⟨(some 2), .mv (.tmp 9), none⟩] []) .ret
def c_serve_Check_4 : MCode := .cond (.tmp 8) c_serve_Check_5 .skip
def c_serve_Check_3 : MCode := .seq (.region [⟨(some 7), .mv (.tmp 3), none⟩,
   ⟨(some 8), .ar .neq (.tmp 7) (.const (.int .i64 0)), none⟩] []) c_serve_Check_4
def c_serve_Check_2 : MCode := .seq (.region [⟨(some 4), .fld 1 (.tmp 1), none⟩,
   ⟨(some 5), .loadN 5 (.tmp 4), none⟩,
   ⟨(some 6), .call 27 [(.tmp 5)], none⟩,
   ⟨(some 3), .mv (.tmp 6), none⟩] []) c_serve_Check_3
def c_serve_Check_9 : MCode := .seq (.region [⟨(some 2), .mv (.const (.int .i64 1)), none⟩] []) .ret
def c_serve_Check_8 : MCode := .cond (.tmp 27) c_serve_Check_9 .skip
def c_serve_Check_7 : MCode := .seq (.region [⟨(some 10), .fld 0 (.tmp 1), none⟩,
   ⟨(some 11), .load1 (.tmp 10), none⟩,
   ⟨(some 12), .ar .lss (.tmp 11) (.const (.int .i64 0)), none⟩,
   ⟨(some 13), .mv (.tmp 12), none⟩,
   ⟨(some 14), .fld 0 (.tmp 1), (some (13, false))⟩,
   ⟨(some 15), .load1 (.tmp 14), (some (13, false))⟩,
   ⟨(some 16), .ar .gtr (.tmp 15) (.const (.int .i64 4294967295)), (some (13, false))⟩,
   ⟨(some 17), .pick (.tmp 13) (.const (.bool true)) (.tmp 16), none⟩,
   ⟨(some 18), .mv (.tmp 17), none⟩,
   ⟨(some 19), .fld 6 (.tmp 1), (some (18, false))⟩,
   ⟨(some 20), .load1 (.tmp 19), (some (18, false))⟩,
   ⟨(some 21), .ar .lss (.tmp 20) (.const (.int .i64 1)), (some (18, false))⟩,
   ⟨(some 22), .pick (.tmp 18) (.const (.bool true)) (.tmp 21), none⟩,
   ⟨(some 23), .mv (.tmp 22), none⟩,
   ⟨(some 24), .fld 6 (.tmp 1), (some (23, false))⟩,
   ⟨(some 25), .load1 (.tmp 24), (some (23, false))⟩,
   ⟨(some 26), .ar .gtr (.tmp 25) (.const (.int .i64 64)), (some (23, false))⟩,
   ⟨(some 27), .pick (.tmp 23) (.const (.bool true)) (.tmp 26), none⟩] []) c_serve_Check_8
def c_serve_Check_10 : MCode := .seq (.region [⟨(some 2), .mv (.const (.int .i64 0)), none⟩] []) .ret
def c_serve_Check_6 : MCode := .seq c_serve_Check_7 c_serve_Check_10
def c_serve_Check_1 : MCode := .seq c_serve_Check_2 c_serve_Check_6
def c_serve_Check_0 : MCode := .seq (.region [⟨(some 1), .box (.tmp 0), none⟩,
   ⟨(some 2), .mv (.const (.int .i64 0)), none⟩] []) c_serve_Check_1
/-- trefoil/serve.Check -/
def M_serve_Check : MFun := ⟨1, c_serve_Check_0, [.tmp 2]⟩
abbrev F_serve_Check : Nat := 7
set_option maxRecDepth 100000 in
theorem m_serve_Check : InProg Try.prog 0 7 M_serve_Check := ⟨Try.f7, [], Try.func7, by kernel_rfl⟩
def c_ref33_Check_4 : MCode := .seq (.region [⟨(some 7), .fld 1 (.tmp 1), none⟩,
   ⟨(some 8), .loadN 5 (.tmp 7), none⟩,
   ⟨(some 9), .call 28 [(.tmp 8)], none⟩,
   ⟨(some 2), .mv (.tmp 9), none⟩] []) .ret
def c_ref33_Check_3 : MCode := .cond (.tmp 6) c_ref33_Check_4 .skip
def c_ref33_Check_2 : MCode := .seq (.region [⟨(some 3), .fld 1 (.tmp 1), none⟩,
   ⟨(some 4), .loadN 5 (.tmp 3), none⟩,
   ⟨(some 5), .call 28 [(.tmp 4)], none⟩,
   ⟨(some 6), .ar .neq (.tmp 5) (.const (.int .i64 0)), none⟩] []) c_ref33_Check_3
def c_ref33_Check_8 : MCode := .seq (.region [⟨(some 2), .mv (.const (.int .i64 1)), none⟩] []) .ret
def c_ref33_Check_7 : MCode := .cond (.tmp 27) c_ref33_Check_8 .skip
def c_ref33_Check_6 : MCode := .seq (.region [⟨(some 10), .fld 0 (.tmp 1), none⟩,
   ⟨(some 11), .load1 (.tmp 10), none⟩,
   ⟨(some 12), .ar .lss (.tmp 11) (.const (.int .i64 0)), none⟩,
   ⟨(some 13), .mv (.tmp 12), none⟩,
   ⟨(some 14), .fld 0 (.tmp 1), (some (13, false))⟩,
   ⟨(some 15), .load1 (.tmp 14), (some (13, false))⟩,
   ⟨(some 16), .ar .gtr (.tmp 15) (.const (.int .i64 4294967295)), (some (13, false))⟩,
   ⟨(some 17), .pick (.tmp 13) (.const (.bool true)) (.tmp 16), none⟩,
   ⟨(some 18), .mv (.tmp 17), none⟩,
   ⟨(some 19), .fld 6 (.tmp 1), (some (18, false))⟩,
   ⟨(some 20), .load1 (.tmp 19), (some (18, false))⟩,
   ⟨(some 21), .ar .lss (.tmp 20) (.const (.int .i64 1)), (some (18, false))⟩,
   ⟨(some 22), .pick (.tmp 18) (.const (.bool true)) (.tmp 21), none⟩,
   ⟨(some 23), .mv (.tmp 22), none⟩,
   ⟨(some 24), .fld 6 (.tmp 1), (some (23, false))⟩,
   ⟨(some 25), .load1 (.tmp 24), (some (23, false))⟩,
   ⟨(some 26), .ar .gtr (.tmp 25) (.const (.int .i64 64)), (some (23, false))⟩,
   ⟨(some 27), .pick (.tmp 23) (.const (.bool true)) (.tmp 26), none⟩] []) c_ref33_Check_7
def c_ref33_Check_9 : MCode := .seq (.region [⟨(some 2), .mv (.const (.int .i64 0)), none⟩] []) .ret
def c_ref33_Check_5 : MCode := .seq c_ref33_Check_6 c_ref33_Check_9
def c_ref33_Check_1 : MCode := .seq c_ref33_Check_2 c_ref33_Check_5
def c_ref33_Check_0 : MCode := .seq (.region [⟨(some 1), .box (.tmp 0), none⟩,
   ⟨(some 2), .mv (.const (.int .i64 0)), none⟩] []) c_ref33_Check_1
/-- trefoil/trefoilref33.Check -/
def M_ref33_Check : MFun := ⟨1, c_ref33_Check_0, [.tmp 2]⟩
abbrev F_ref33_Check : Nat := 8
set_option maxRecDepth 100000 in
theorem m_ref33_Check : InProg Try.prog 0 8 M_ref33_Check := ⟨Try.f8, [], Try.func8, by kernel_rfl⟩
def c_law33_awake_6 : MCode := .seq (.region [⟨(some 0), .mv (.const (.bool false)), none⟩] []) .ret
def c_law33_awake_5 : MCode := .cond (.tmp 32) c_law33_awake_6 .skip
def c_law33_awake_4 : MCode := .seq (.region [⟨(some 7), .mv (.tmp 1), none⟩,
   ⟨(some 8), .loadN 5 (.tmp 2), none⟩,
   ⟨(some 9), .build [(.int .i64 0), (.int .i64 0), (.int .i64 0), (.int .i64 0), (.int .i64 0), (.int .i64 0), (.int .i64 0)] [(0, 1, (.const (.int .i64 5))), (1, 5, (.tmp 8)), (6, 1, (.const (.int .i64 2)))], none⟩,
   ⟨(some 10), .call 11 [(.tmp 7), (.tmp 9)], none⟩,
   ⟨(some 11), .ar .neq (.tmp 10) (.const (.int .i64 0)), none⟩,
   ⟨(some 12), .mv (.tmp 11), none⟩,
   ⟨(some 13), .mv (.tmp 1), (some (12, false))⟩,
   ⟨(some 14), .loadN 5 (.tmp 2), (some (12, false))⟩,
   ⟨(some 15), .build [(.int .i64 0), (.int .i64 0), (.int .i64 0), (.int .i64 0), (.int .i64 0), (.int .i64 0), (.int .i64 0)] [(0, 1, (.const (.int .i64 5))), (1, 5, (.tmp 14)), (6, 1, (.const (.int .i64 3)))], (some (12, false))⟩,
   ⟨(some 16), .call 15 [(.tmp 13), (.tmp 15)], (some (12, false))⟩,
   ⟨(some 17), .ar .neq (.tmp 16) (.const (.int .i64 0)), (some (12, false))⟩,
   ⟨(some 18), .pick (.tmp 12) (.const (.bool true)) (.tmp 17), none⟩,
   ⟨(some 19), .mv (.tmp 18), none⟩,
   ⟨(some 20), .mv (.tmp 1), (some (19, false))⟩,
   ⟨(some 21), .loadN 5 (.tmp 3), (some (19, false))⟩,
   ⟨(some 22), .build [(.int .i64 0), (.int .i64 0), (.int .i64 0), (.int .i64 0), (.int .i64 0), (.int .i64 0), (.int .i64 0)] [(0, 1, (.const (.int .i64 6))), (1, 5, (.tmp 21)), (6, 1, (.const (.int .i64 1)))], (some (19, false))⟩,
   ⟨(some 23), .call 15 [(.tmp 20), (.tmp 22)], (some (19, false))⟩,
   ⟨(some 24), .ar .neq (.tmp 23) (.const (.int .i64 0)), (some (19, false))⟩,
   ⟨(some 25), .pick (.tmp 19) (.const (.bool true)) (.tmp 24), none⟩,
   ⟨(some 26), .mv (.tmp 25), none⟩,
   ⟨(some 27), .mv (.tmp 1), (some (26, false))⟩,
   ⟨(some 28), .loadN 5 (.tmp 3), (some (26, false))⟩,
   ⟨(some 29), .build [(.int .i64 0), (.int .i64 0), (.int .i64 0), (.int .i64 0), (.int .i64 0), (.int .i64 0), (.int .i64 0)] [(0, 1, (.const (.int .i64 6))), (1, 5, (.tmp 28)), (6, 1, (.const (.int .i64 1)))], (some (26, false))⟩,
   ⟨(some 30), .call 11 [(.tmp 27), (.tmp 29)], (some (26, false))⟩,
   ⟨(some 31), .ar .neq (.tmp 30) (.const (.int .i64 0)), (some (26, false))⟩,
   ⟨(some 32), .pick (.tmp 26) (.const (.bool true)) (.tmp 31), none⟩] []) c_law33_awake_5
def c_law33_awake_7 : MCode := .seq (.region [⟨(some 33), .mv (.tmp 1), none⟩,
   ⟨(some 34), .call 21 [(.tmp 33)], none⟩,
   ⟨(some 35), .buildSlice [(.int .i64 0)] 1 [(0, 1, (.const (.int .i64 5)))], none⟩,
   ⟨(some 36), .call 20 [(.tmp 34), (.tmp 35)], none⟩,
   ⟨(some 37), .mv (.tmp 36), none⟩,
   ⟨(some 38), .mv (.tmp 1), (some (37, true))⟩,
   ⟨(some 39), .call 19 [(.tmp 38)], (some (37, true))⟩,
   ⟨(some 40), .loadN 5 (.tmp 3), (some (37, true))⟩,
   ⟨(some 41), .build [(.int .i64 0), (.int .i64 0), (.int .i64 0), (.int .i64 0), (.int .i64 0), (.int .i64 0), (.int .i64 0)] [(0, 1, (.const (.int .i64 6))), (1, 5, (.tmp 40)), (6, 1, (.const (.int .i64 1)))], (some (37, true))⟩,
   ⟨(some 42), .buildSlice [(.int .i64 0), (.int .i64 0), (.int .i64 0), (.int .i64 0), (.int .i64 0), (.int .i64 0), (.int .i64 0)] 1 [(0, 7, (.tmp 41))], (some (37, true))⟩,
   ⟨(some 43), .call 18 [(.tmp 39), (.tmp 42)], (some (37, true))⟩,
   ⟨(some 44), .pick (.tmp 37) (.tmp 43) (.const (.bool false)), none⟩,
   ⟨(some 0), .mv (.tmp 44), none⟩] [(7, 6)]) .ret
def c_law33_awake_3 : MCode := .seq c_law33_awake_4 c_law33_awake_7
def c_law33_awake_2 : MCode := .seq (.region [⟨(some 5), .build [(.int .i64 0), (.int .i64 0), (.int .i64 0), (.int .i64 0), (.int .i64 0)] [(0, 1, (.const (.int .i64 1))), (1, 1, (.const (.int .i64 8)))], none⟩,
   ⟨(some 6), .build [(.int .i64 0), (.int .i64 0), (.int .i64 0), (.int .i64 0), (.int .i64 0)] [(0, 1, (.const (.int .i64 3))), (1, 1, (.const (.int .i64 1)))], none⟩,
   ⟨(some 2), .new [(.int .i64 0), (.int .i64 0), (.int .i64 0), (.int .i64 0), (.int .i64 0)], none⟩,
   ⟨(some 3), .new [(.int .i64 0), (.int .i64 0), (.int .i64 0), (.int .i64 0), (.int .i64 0)], none⟩,
   ⟨none, .store 5 (.tmp 2) (.tmp 5), none⟩,
   ⟨none, .store 5 (.tmp 3) (.tmp 6), none⟩] []) c_law33_awake_3
def c_law33_awake_1 : MCode := .seq (.region [⟨(some 4), .call 10 [], none⟩,
   ⟨(some 1), .mv (.tmp 4), none⟩] []) c_law33_awake_2
def c_law33_awake_0 : MCode := .seq (.region [⟨(some 0), .mv (.const (.bool false)), none⟩] []) c_law33_awake_1
/-- trefoil/trefoillaw33.awake -/
def M_law33_awake : MFun := ⟨0, c_law33_awake_0, [.tmp 0]⟩
abbrev F_law33_awake : Nat := 9
set_option maxRecDepth 100000 in
theorem m_law33_awake : InProg Try.prog 0 9 M_law33_awake := ⟨Try.f9, [], Try.func9, by kernel_rfl⟩
def c_serve_New_1 : MCode := .seq (.region [⟨(some 1), .mkMap, none⟩,
   ⟨(some 2), .build [(.map none), (.int .i64 0), (.bool false)] [(0, 1, (.tmp 1)), (2, 1, (.const (.bool true)))], none⟩,
   ⟨(some 3), .box (.tmp 2), none⟩,
   ⟨(some 0), .mv (.tmp 3), none⟩] []) .ret
def c_serve_New_0 : MCode := .seq (.region [⟨(some 0), .mv (.const (.pointer none)), none⟩] []) c_serve_New_1
/-- trefoil/serve.New -/
def M_serve_New : MFun := ⟨0, c_serve_New_0, [.tmp 0]⟩
abbrev F_serve_New : Nat := 10
set_option maxRecDepth 100000 in
theorem m_serve_New : InProg Try.prog 0 10 M_serve_New := ⟨Try.f10, [], Try.func10, by kernel_rfl⟩
def c_serve_Table_Ask_5 : MCode := .seq (.region [⟨(some 15), .mv (.tmp 5), none⟩,
   ⟨(some 4), .mv (.tmp 15), none⟩] []) .ret
def c_serve_Table_Ask_4 : MCode := .cond (.tmp 14) c_serve_Table_Ask_5 .skip
def c_serve_Table_Ask_3 : MCode := .seq (.region [⟨(some 13), .mv (.tmp 5), none⟩,
   ⟨(some 14), .ar .neq (.tmp 13) (.const (.int .i64 0)), none⟩] []) c_serve_Table_Ask_4
def c_serve_Table_Ask_2 : MCode := .seq (.region [⟨(some 10), .mv (.tmp 0), none⟩,
   ⟨(some 11), .loadN 7 (.tmp 3), none⟩,
   ⟨(some 12), .call 29 [(.tmp 10), (.tmp 11)], none⟩,
   ⟨(some 5), .mv (.tmp 12), none⟩] []) c_serve_Table_Ask_3
def c_serve_Table_Ask_10 : MCode := .seq (.region [⟨(some 4), .mv (.const (.int .i64 41)), none⟩] []) .ret
def c_serve_Table_Ask_9 : MCode := .cond (.tmp 32) c_serve_Table_Ask_10 .skip
def c_serve_Table_Ask_8 : MCode := .seq (.region [⟨(some 26), .mv (.tmp 7), none⟩,
   ⟨(some 27), .mv (.tmp 26), none⟩,
   ⟨(some 28), .mv (.tmp 6), (some (27, true))⟩,
   ⟨(some 29), .nilCheck (.tmp 28), (some (27, true))⟩,
   ⟨(some 30), .fld 14 (.tmp 29), (some (27, true))⟩,
   ⟨(some 31), .load1 (.tmp 30), (some (27, true))⟩,
   ⟨(some 32), .pick (.tmp 27) (.tmp 31) (.const (.bool false)), none⟩] []) c_serve_Table_Ask_9
def c_serve_Table_Ask_7 : MCode := .seq (.region [⟨(some 17), .mv (.tmp 0), none⟩,
   ⟨(some 18), .nilCheck (.tmp 17), none⟩,
   ⟨(some 19), .fld 0 (.tmp 18), none⟩,
   ⟨(some 20), .load1 (.tmp 19), none⟩,
   ⟨(some 21), .fld 0 (.tmp 3), none⟩,
   ⟨(some 22), .load1 (.tmp 21), none⟩,
   ⟨(some 23), .look .int (.pointer none) true (.tmp 20) (.tmp 22), none⟩,
   ⟨(some 16), .mv (.tmp 23), none⟩,
   ⟨(some 24), .ext (.tmp 16) 0, none⟩,
   ⟨(some 25), .ext (.tmp 16) 1, none⟩,
   ⟨(some 6), .mv (.tmp 24), none⟩,
   ⟨(some 7), .mv (.tmp 25), none⟩] []) c_serve_Table_Ask_8
def c_serve_Table_Ask_15 : MCode := .seq (.region [⟨(some 42), .mv (.tmp 9), none⟩,
   ⟨(some 4), .mv (.tmp 42), none⟩] []) .ret
def c_serve_Table_Ask_14 : MCode := .cond (.tmp 41) c_serve_Table_Ask_15 .skip
def c_serve_Table_Ask_13 : MCode := .seq (.region [⟨(some 40), .mv (.tmp 9), none⟩,
   ⟨(some 41), .ar .neq (.tmp 40) (.const (.int .i64 0)), none⟩] []) c_serve_Table_Ask_14
def c_serve_Table_Ask_17 : MCode := .seq (.region [⟨(some 4), .mv (.const (.int .i64 0)), none⟩] []) .ret
def c_serve_Table_Ask_16 : MCode := .seq (.region [⟨(some 43), .mv (.tmp 8), none⟩,
   ⟨(some 44), .mv (.tmp 8), none⟩,
   ⟨(some 45), .loadN 7 (.tmp 3), none⟩,
   ⟨(some 46), .nilCheck (.tmp 43), none⟩,
   ⟨(some 47), .fld 0 (.tmp 46), none⟩,
   ⟨none, .store 7 (.tmp 47) (.tmp 45), none⟩,
   ⟨(some 48), .nilCheck (.tmp 44), none⟩,
   ⟨(some 49), .fld 14 (.tmp 48), none⟩,
   ⟨none, .store 1 (.tmp 49) (.const (.bool true)), none⟩] []) c_serve_Table_Ask_17
def c_serve_Table_Ask_12 : MCode := .seq c_serve_Table_Ask_13 c_serve_Table_Ask_16
def c_serve_Table_Ask_11 : MCode := .seq (.region [⟨(some 34), .mv (.tmp 0), none⟩,
   ⟨(some 35), .fld 0 (.tmp 3), none⟩,
   ⟨(some 36), .load1 (.tmp 35), none⟩,
   ⟨(some 37), .call 30 [(.tmp 34), (.tmp 36)], none⟩,
   ⟨(some 33), .mv (.tmp 37), none⟩,
   ⟨(some 38), .ext (.tmp 33) 0, none⟩,
   ⟨(some 39), .ext (.tmp 33) 1, none⟩,
   ⟨(some 8), .mv (.tmp 38), none⟩,
   ⟨(some 9), .mv (.tmp 39), none⟩] []) c_serve_Table_Ask_12
def c_serve_Table_Ask_6 : MCode := .seq c_serve_Table_Ask_7 c_serve_Table_Ask_11
def c_serve_Table_Ask_1 : MCode := .seq c_serve_Table_Ask_2 c_serve_Table_Ask_6
def c_serve_Table_Ask_0 : MCode := .seq (.region [⟨(some 3), .box (.tmp 1), none⟩,
   ⟨(some 4), .mv (.const (.int .i64 0)), none⟩] []) c_serve_Table_Ask_1
/-- (*trefoil/serve.Table).Ask -/
def M_serve_Table_Ask : MFun := ⟨2, c_serve_Table_Ask_0, [.tmp 4]⟩
abbrev F_serve_Table_Ask : Nat := 11
set_option maxRecDepth 100000 in
theorem m_serve_Table_Ask : InProg Try.prog 0 11 M_serve_Table_Ask := ⟨Try.f11, [], Try.func11, by kernel_rfl⟩
def c_serve_Table_Grant_5 : MCode := .seq (.region [⟨(some 17), .mv (.tmp 8), none⟩,
   ⟨(some 6), .mv (.tmp 17), none⟩] []) .ret
def c_serve_Table_Grant_4 : MCode := .cond (.tmp 16) c_serve_Table_Grant_5 .skip
def c_serve_Table_Grant_3 : MCode := .seq (.region [⟨(some 15), .mv (.tmp 8), none⟩,
   ⟨(some 16), .ar .neq (.tmp 15) (.const (.int .i64 0)), none⟩] []) c_serve_Table_Grant_4
def c_serve_Table_Grant_9 : MCode := .seq (.region [⟨(some 6), .mv (.const (.int .i64 40)), none⟩] []) .ret
def c_serve_Table_Grant_8 : MCode := .cond (.tmp 35) c_serve_Table_Grant_9 .skip
def c_serve_Table_Grant_7 : MCode := .seq (.region [⟨(some 18), .fld 2 (.tmp 5), none⟩,
   ⟨(some 19), .load1 (.tmp 18), none⟩,
   ⟨(some 20), .mv (.tmp 7), none⟩,
   ⟨(some 21), .nilCheck (.tmp 20), none⟩,
   ⟨(some 22), .fld 0 (.tmp 21), none⟩,
   ⟨(some 23), .fld 6 (.tmp 22), none⟩,
   ⟨(some 24), .load1 (.tmp 23), none⟩,
   ⟨(some 25), .ar .neq (.tmp 19) (.tmp 24), none⟩,
   ⟨(some 26), .mv (.tmp 25), none⟩,
   ⟨(some 27), .fld 1 (.tmp 5), (some (26, false))⟩,
   ⟨(some 28), .load1 (.tmp 27), (some (26, false))⟩,
   ⟨(some 29), .ar .lss (.tmp 28) (.const (.int .i64 0)), (some (26, false))⟩,
   ⟨(some 30), .pick (.tmp 26) (.const (.bool true)) (.tmp 29), none⟩,
   ⟨(some 31), .mv (.tmp 30), none⟩,
   ⟨(some 32), .fld 0 (.tmp 5), (some (31, false))⟩,
   ⟨(some 33), .load1 (.tmp 32), (some (31, false))⟩,
   ⟨(some 34), .ar .lss (.tmp 33) (.const (.int .i64 0)), (some (31, false))⟩,
   ⟨(some 35), .pick (.tmp 31) (.const (.bool true)) (.tmp 34), none⟩] []) c_serve_Table_Grant_8
def c_serve_Table_Grant_11 : MCode := .seq (.region [⟨(some 6), .mv (.const (.int .i64 0)), none⟩] []) .ret
def c_serve_Table_Grant_10 : MCode := .seq (.region [⟨(some 36), .mv (.tmp 7), none⟩,
   ⟨(some 37), .mv (.tmp 7), none⟩,
   ⟨(some 38), .loadN 3 (.tmp 5), none⟩,
   ⟨(some 39), .nilCheck (.tmp 36), none⟩,
   ⟨(some 40), .fld 17 (.tmp 39), none⟩,
   ⟨none, .store 1 (.tmp 40) (.const (.int .i64 2)), none⟩,
   ⟨(some 41), .nilCheck (.tmp 37), none⟩,
   ⟨(some 42), .fld 19 (.tmp 41), none⟩,
   ⟨none, .store 3 (.tmp 42) (.tmp 38), none⟩] [(2, 5)]) c_serve_Table_Grant_11
def c_serve_Table_Grant_6 : MCode := .seq c_serve_Table_Grant_7 c_serve_Table_Grant_10
def c_serve_Table_Grant_2 : MCode := .seq c_serve_Table_Grant_3 c_serve_Table_Grant_6
def c_serve_Table_Grant_1 : MCode := .seq (.region [⟨(some 10), .mv (.tmp 0), none⟩,
   ⟨(some 11), .mv (.tmp 1), none⟩,
   ⟨(some 12), .call 31 [(.tmp 10), (.tmp 11)], none⟩,
   ⟨(some 9), .mv (.tmp 12), none⟩,
   ⟨(some 13), .ext (.tmp 9) 0, none⟩,
   ⟨(some 14), .ext (.tmp 9) 1, none⟩,
   ⟨(some 7), .mv (.tmp 13), none⟩,
   ⟨(some 8), .mv (.tmp 14), none⟩] []) c_serve_Table_Grant_2
def c_serve_Table_Grant_0 : MCode := .seq (.region [⟨(some 5), .box (.tmp 2), none⟩,
   ⟨(some 6), .mv (.const (.int .i64 0)), none⟩] []) c_serve_Table_Grant_1
/-- (*trefoil/serve.Table).Grant -/
def M_serve_Table_Grant : MFun := ⟨3, c_serve_Table_Grant_0, [.tmp 6]⟩
abbrev F_serve_Table_Grant : Nat := 12
set_option maxRecDepth 100000 in
theorem m_serve_Table_Grant : InProg Try.prog 0 12 M_serve_Table_Grant := ⟨Try.f12, [], Try.func12, by kernel_rfl⟩
def c_serve_Table_Refuse_5 : MCode := .seq (.region [⟨(some 17), .mv (.tmp 8), none⟩,
   ⟨(some 6), .mv (.tmp 17), none⟩] []) .ret
def c_serve_Table_Refuse_4 : MCode := .cond (.tmp 16) c_serve_Table_Refuse_5 .skip
def c_serve_Table_Refuse_3 : MCode := .seq (.region [⟨(some 15), .mv (.tmp 8), none⟩,
   ⟨(some 16), .ar .neq (.tmp 15) (.const (.int .i64 0)), none⟩] []) c_serve_Table_Refuse_4
def c_serve_Table_Refuse_9 : MCode := .seq (.region [⟨(some 6), .mv (.const (.int .i64 1)), none⟩] []) .ret
def c_serve_Table_Refuse_8 : MCode := .cond (.tmp 19) c_serve_Table_Refuse_9 .skip
def c_serve_Table_Refuse_7 : MCode := .seq (.region [⟨(some 18), .mv (.tmp 2), none⟩,
   ⟨(some 19), .ar .eql (.tmp 18) (.const (.int .i64 0)), none⟩] []) c_serve_Table_Refuse_8
def c_serve_Table_Refuse_11 : MCode := .seq (.region [⟨(some 6), .mv (.const (.int .i64 0)), none⟩] []) .ret
def c_serve_Table_Refuse_10 : MCode := .seq (.region [⟨(some 20), .mv (.tmp 7), none⟩,
   ⟨(some 21), .mv (.tmp 7), none⟩,
   ⟨(some 22), .mv (.tmp 2), none⟩,
   ⟨(some 23), .nilCheck (.tmp 20), none⟩,
   ⟨(some 24), .fld 17 (.tmp 23), none⟩,
   ⟨none, .store 1 (.tmp 24) (.const (.int .i64 3)), none⟩,
   ⟨(some 25), .nilCheck (.tmp 21), none⟩,
   ⟨(some 26), .fld 18 (.tmp 25), none⟩,
   ⟨none, .store 1 (.tmp 26) (.tmp 22), none⟩] []) c_serve_Table_Refuse_11
def c_serve_Table_Refuse_6 : MCode := .seq c_serve_Table_Refuse_7 c_serve_Table_Refuse_10
def c_serve_Table_Refuse_2 : MCode := .seq c_serve_Table_Refuse_3 c_serve_Table_Refuse_6
def c_serve_Table_Refuse_1 : MCode := .seq (.region [⟨(some 10), .mv (.tmp 0), none⟩,
   ⟨(some 11), .mv (.tmp 1), none⟩,
   ⟨(some 12), .call 31 [(.tmp 10), (.tmp 11)], none⟩,
   ⟨(some 9), .mv (.tmp 12), none⟩,
   ⟨(some 13), .ext (.tmp 9) 0, none⟩,
   ⟨(some 14), .ext (.tmp 9) 1, none⟩,
   ⟨(some 7), .mv (.tmp 13), none⟩,
   ⟨(some 8), .mv (.tmp 14), none⟩] []) c_serve_Table_Refuse_2
def c_serve_Table_Refuse_0 : MCode := .seq (.region [⟨(some 6), .mv (.const (.int .i64 0)), none⟩] []) c_serve_Table_Refuse_1
/-- (*trefoil/serve.Table).Refuse -/
def M_serve_Table_Refuse : MFun := ⟨3, c_serve_Table_Refuse_0, [.tmp 6]⟩
abbrev F_serve_Table_Refuse : Nat := 13
set_option maxRecDepth 100000 in
theorem m_serve_Table_Refuse : InProg Try.prog 0 13 M_serve_Table_Refuse := ⟨Try.f13, [], Try.func13, by kernel_rfl⟩
def c_serve_Table_Get_4 : MCode := .seq (.region [⟨(some 10), .build [(.int .i64 0), (.int .i64 0), (.int .i64 0), (.int .i64 0), (.int .i64 0), (.int .i64 0), (.int .i64 0), (.int .i64 0), (.int .i64 0), (.int .i64 0), (.int .i64 0), (.int .i64 0)] [], none⟩,
   ⟨none, .store 12 (.tmp 4) (.tmp 10), none⟩,
   ⟨(some 5), .mv (.const (.bool false)), none⟩] []) .ret
def c_serve_Table_Get_3 : MCode := .cond (.tmp 9) c_serve_Table_Get_4 .skip
def c_serve_Table_Get_2 : MCode := .seq (.region [⟨(some 8), .mv (.tmp 0), none⟩,
   ⟨(some 9), .eq false .ptr (.tmp 8) (.const (.pointer none)), none⟩] []) c_serve_Table_Get_3
def c_serve_Table_Get_9 : MCode := .seq (.region [⟨(some 29), .build [(.int .i64 0), (.int .i64 0), (.int .i64 0), (.int .i64 0), (.int .i64 0), (.int .i64 0), (.int .i64 0), (.int .i64 0), (.int .i64 0), (.int .i64 0), (.int .i64 0), (.int .i64 0)] [], none⟩,
   ⟨none, .store 12 (.tmp 4) (.tmp 29), none⟩,
   ⟨(some 5), .mv (.const (.bool false)), none⟩] []) .ret
def c_serve_Table_Get_8 : MCode := .cond (.tmp 28) c_serve_Table_Get_9 .skip
def c_serve_Table_Get_7 : MCode := .seq (.region [⟨(some 20), .mv (.tmp 7), none⟩,
   ⟨(some 21), .un .not (.tmp 20), none⟩,
   ⟨(some 22), .mv (.tmp 21), none⟩,
   ⟨(some 23), .mv (.tmp 6), (some (22, false))⟩,
   ⟨(some 24), .nilCheck (.tmp 23), (some (22, false))⟩,
   ⟨(some 25), .fld 14 (.tmp 24), (some (22, false))⟩,
   ⟨(some 26), .load1 (.tmp 25), (some (22, false))⟩,
   ⟨(some 27), .un .not (.tmp 26), (some (22, false))⟩,
   ⟨(some 28), .pick (.tmp 22) (.const (.bool true)) (.tmp 27), none⟩] []) c_serve_Table_Get_8
def c_serve_Table_Get_10 : MCode := .seq (.region [⟨(some 30), .mv (.tmp 6), none⟩,
   ⟨(some 31), .nilCheck (.tmp 30), none⟩,
   ⟨(some 32), .fld 0 (.tmp 31), none⟩,
   ⟨(some 33), .loadN 7 (.tmp 32), none⟩,
   ⟨(some 34), .mv (.tmp 6), none⟩,
   ⟨(some 35), .nilCheck (.tmp 34), none⟩,
   ⟨(some 36), .fld 17 (.tmp 35), none⟩,
   ⟨(some 37), .load1 (.tmp 36), none⟩,
   ⟨(some 38), .mv (.tmp 6), none⟩,
   ⟨(some 39), .nilCheck (.tmp 38), none⟩,
   ⟨(some 40), .fld 18 (.tmp 39), none⟩,
   ⟨(some 41), .load1 (.tmp 40), none⟩,
   ⟨(some 42), .mv (.tmp 6), none⟩,
   ⟨(some 43), .nilCheck (.tmp 42), none⟩,
   ⟨(some 44), .fld 19 (.tmp 43), none⟩,
   ⟨(some 45), .loadN 3 (.tmp 44), none⟩,
   ⟨(some 46), .build [(.int .i64 0), (.int .i64 0), (.int .i64 0), (.int .i64 0), (.int .i64 0), (.int .i64 0), (.int .i64 0), (.int .i64 0), (.int .i64 0), (.int .i64 0), (.int .i64 0), (.int .i64 0)] [(0, 7, (.tmp 33)), (7, 1, (.tmp 37)), (8, 1, (.tmp 41)), (9, 3, (.tmp 45))], none⟩,
   ⟨none, .store 12 (.tmp 4) (.tmp 46), none⟩,
   ⟨(some 5), .mv (.const (.bool true)), none⟩] []) .ret
def c_serve_Table_Get_6 : MCode := .seq c_serve_Table_Get_7 c_serve_Table_Get_10
def c_serve_Table_Get_5 : MCode := .seq (.region [⟨(some 12), .mv (.tmp 0), none⟩,
   ⟨(some 13), .nilCheck (.tmp 12), none⟩,
   ⟨(some 14), .fld 0 (.tmp 13), none⟩,
   ⟨(some 15), .load1 (.tmp 14), none⟩,
   ⟨(some 16), .mv (.tmp 1), none⟩,
   ⟨(some 17), .look .int (.pointer none) true (.tmp 15) (.tmp 16), none⟩,
   ⟨(some 11), .mv (.tmp 17), none⟩,
   ⟨(some 18), .ext (.tmp 11) 0, none⟩,
   ⟨(some 19), .ext (.tmp 11) 1, none⟩,
   ⟨(some 6), .mv (.tmp 18), none⟩,
   ⟨(some 7), .mv (.tmp 19), none⟩] []) c_serve_Table_Get_6
def c_serve_Table_Get_1 : MCode := .seq c_serve_Table_Get_2 c_serve_Table_Get_5
def c_serve_Table_Get_0 : MCode := .seq (.region [⟨(some 4), .new [(.int .i64 0), (.int .i64 0), (.int .i64 0), (.int .i64 0), (.int .i64 0), (.int .i64 0), (.int .i64 0), (.int .i64 0), (.int .i64 0), (.int .i64 0), (.int .i64 0), (.int .i64 0)], none⟩,
   ⟨(some 5), .mv (.const (.bool false)), none⟩] []) c_serve_Table_Get_1
/-- (*trefoil/serve.Table).Get -/
def M_serve_Table_Get : MFun := ⟨2, c_serve_Table_Get_0, [.cellN 4 12, .tmp 5]⟩
abbrev F_serve_Table_Get : Nat := 14
set_option maxRecDepth 100000 in
theorem m_serve_Table_Get : InProg Try.prog 0 14 M_serve_Table_Get := ⟨Try.f14, [], Try.func14, by kernel_rfl⟩
def c_serve_Table_Hear_5 : MCode := .seq (.region [⟨(some 15), .mv (.tmp 5), none⟩,
   ⟨(some 4), .mv (.tmp 15), none⟩] []) .ret
def c_serve_Table_Hear_4 : MCode := .cond (.tmp 14) c_serve_Table_Hear_5 .skip
def c_serve_Table_Hear_3 : MCode := .seq (.region [⟨(some 13), .mv (.tmp 5), none⟩,
   ⟨(some 14), .ar .neq (.tmp 13) (.const (.int .i64 0)), none⟩] []) c_serve_Table_Hear_4
def c_serve_Table_Hear_2 : MCode := .seq (.region [⟨(some 10), .mv (.tmp 0), none⟩,
   ⟨(some 11), .loadN 7 (.tmp 3), none⟩,
   ⟨(some 12), .call 29 [(.tmp 10), (.tmp 11)], none⟩,
   ⟨(some 5), .mv (.tmp 12), none⟩] []) c_serve_Table_Hear_3
def c_serve_Table_Hear_10 : MCode := .seq (.region [⟨(some 4), .mv (.const (.int .i64 7)), none⟩] []) .ret
def c_serve_Table_Hear_9 : MCode := .cond (.tmp 32) c_serve_Table_Hear_10 .skip
def c_serve_Table_Hear_8 : MCode := .seq (.region [⟨(some 26), .mv (.tmp 7), none⟩,
   ⟨(some 27), .mv (.tmp 26), none⟩,
   ⟨(some 28), .mv (.tmp 6), (some (27, true))⟩,
   ⟨(some 29), .nilCheck (.tmp 28), (some (27, true))⟩,
   ⟨(some 30), .fld 15 (.tmp 29), (some (27, true))⟩,
   ⟨(some 31), .load1 (.tmp 30), (some (27, true))⟩,
   ⟨(some 32), .pick (.tmp 27) (.tmp 31) (.const (.bool false)), none⟩] []) c_serve_Table_Hear_9
def c_serve_Table_Hear_7 : MCode := .seq (.region [⟨(some 17), .mv (.tmp 0), none⟩,
   ⟨(some 18), .nilCheck (.tmp 17), none⟩,
   ⟨(some 19), .fld 0 (.tmp 18), none⟩,
   ⟨(some 20), .load1 (.tmp 19), none⟩,
   ⟨(some 21), .fld 0 (.tmp 3), none⟩,
   ⟨(some 22), .load1 (.tmp 21), none⟩,
   ⟨(some 23), .look .int (.pointer none) true (.tmp 20) (.tmp 22), none⟩,
   ⟨(some 16), .mv (.tmp 23), none⟩,
   ⟨(some 24), .ext (.tmp 16) 0, none⟩,
   ⟨(some 25), .ext (.tmp 16) 1, none⟩,
   ⟨(some 6), .mv (.tmp 24), none⟩,
   ⟨(some 7), .mv (.tmp 25), none⟩] []) c_serve_Table_Hear_8
def c_serve_Table_Hear_15 : MCode := .seq (.region [⟨(some 42), .mv (.tmp 9), none⟩,
   ⟨(some 4), .mv (.tmp 42), none⟩] []) .ret
def c_serve_Table_Hear_14 : MCode := .cond (.tmp 41) c_serve_Table_Hear_15 .skip
def c_serve_Table_Hear_13 : MCode := .seq (.region [⟨(some 40), .mv (.tmp 9), none⟩,
   ⟨(some 41), .ar .neq (.tmp 40) (.const (.int .i64 0)), none⟩] []) c_serve_Table_Hear_14
def c_serve_Table_Hear_17 : MCode := .seq (.region [⟨(some 4), .mv (.const (.int .i64 0)), none⟩] []) .ret
def c_serve_Table_Hear_16 : MCode := .seq (.region [⟨(some 43), .mv (.tmp 8), none⟩,
   ⟨(some 44), .mv (.tmp 8), none⟩,
   ⟨(some 45), .loadN 7 (.tmp 3), none⟩,
   ⟨(some 46), .nilCheck (.tmp 43), none⟩,
   ⟨(some 47), .fld 7 (.tmp 46), none⟩,
   ⟨none, .store 7 (.tmp 47) (.tmp 45), none⟩,
   ⟨(some 48), .nilCheck (.tmp 44), none⟩,
   ⟨(some 49), .fld 15 (.tmp 48), none⟩,
   ⟨none, .store 1 (.tmp 49) (.const (.bool true)), none⟩] []) c_serve_Table_Hear_17
def c_serve_Table_Hear_12 : MCode := .seq c_serve_Table_Hear_13 c_serve_Table_Hear_16
def c_serve_Table_Hear_11 : MCode := .seq (.region [⟨(some 34), .mv (.tmp 0), none⟩,
   ⟨(some 35), .fld 0 (.tmp 3), none⟩,
   ⟨(some 36), .load1 (.tmp 35), none⟩,
   ⟨(some 37), .call 30 [(.tmp 34), (.tmp 36)], none⟩,
   ⟨(some 33), .mv (.tmp 37), none⟩,
   ⟨(some 38), .ext (.tmp 33) 0, none⟩,
   ⟨(some 39), .ext (.tmp 33) 1, none⟩,
   ⟨(some 8), .mv (.tmp 38), none⟩,
   ⟨(some 9), .mv (.tmp 39), none⟩] []) c_serve_Table_Hear_12
def c_serve_Table_Hear_6 : MCode := .seq c_serve_Table_Hear_7 c_serve_Table_Hear_11
def c_serve_Table_Hear_1 : MCode := .seq c_serve_Table_Hear_2 c_serve_Table_Hear_6
def c_serve_Table_Hear_0 : MCode := .seq (.region [⟨(some 3), .box (.tmp 1), none⟩,
   ⟨(some 4), .mv (.const (.int .i64 0)), none⟩] []) c_serve_Table_Hear_1
/-- (*trefoil/serve.Table).Hear -/
def M_serve_Table_Hear : MFun := ⟨2, c_serve_Table_Hear_0, [.tmp 4]⟩
abbrev F_serve_Table_Hear : Nat := 15
set_option maxRecDepth 100000 in
theorem m_serve_Table_Hear : InProg Try.prog 0 15 M_serve_Table_Hear := ⟨Try.f15, [], Try.func15, by kernel_rfl⟩
def c_law33_does_9 : MCode := (.region [⟨(some 41), .mv (.tmp 0), none⟩,
   ⟨(some 42), .fld 1 (.tmp 5), none⟩,
   ⟨(some 43), .loadN 7 (.tmp 42), none⟩,
   ⟨(some 44), .call 11 [(.tmp 41), (.tmp 43)], none⟩,
   ⟨(some 8), .mv (.tmp 44), none⟩] [])
def c_law33_does_8 : MCode := .seq (.region [⟨(some 31), .mv (.tmp 1), none⟩,
   ⟨(some 32), .mv (.tmp 1), none⟩,
   ⟨(some 33), .nilCheck (.tmp 32), none⟩,
   ⟨(some 34), .loadN 1 (.tmp 33), none⟩,
   ⟨(some 35), .fld 1 (.tmp 5), none⟩,
   ⟨(some 36), .loadN 7 (.tmp 35), none⟩,
   ⟨(some 37), .call 32 [(.tmp 34), (.tmp 36), (.const (.bool false))], none⟩,
   ⟨(some 30), .mv (.tmp 37), none⟩,
   ⟨(some 38), .ext (.tmp 30) 0, none⟩,
   ⟨(some 39), .ext (.tmp 30) 1, none⟩,
   ⟨(some 40), .nilCheck (.tmp 31), none⟩,
   ⟨none, .store 1 (.tmp 40) (.tmp 38), none⟩,
   ⟨(some 7), .mv (.tmp 39), none⟩] []) c_law33_does_9
def c_law33_does_13 : MCode := (.region [⟨(some 58), .mv (.tmp 0), none⟩,
   ⟨(some 59), .fld 1 (.tmp 5), none⟩,
   ⟨(some 60), .loadN 7 (.tmp 59), none⟩,
   ⟨(some 61), .call 15 [(.tmp 58), (.tmp 60)], none⟩,
   ⟨(some 8), .mv (.tmp 61), none⟩] [])
def c_law33_does_12 : MCode := .seq (.region [⟨(some 48), .mv (.tmp 1), none⟩,
   ⟨(some 49), .mv (.tmp 1), none⟩,
   ⟨(some 50), .nilCheck (.tmp 49), none⟩,
   ⟨(some 51), .loadN 1 (.tmp 50), none⟩,
   ⟨(some 52), .fld 1 (.tmp 5), none⟩,
   ⟨(some 53), .loadN 7 (.tmp 52), none⟩,
   ⟨(some 54), .call 32 [(.tmp 51), (.tmp 53), (.const (.bool true))], none⟩,
   ⟨(some 47), .mv (.tmp 54), none⟩,
   ⟨(some 55), .ext (.tmp 47) 0, none⟩,
   ⟨(some 56), .ext (.tmp 47) 1, none⟩,
   ⟨(some 57), .nilCheck (.tmp 48), none⟩,
   ⟨none, .store 1 (.tmp 57) (.tmp 55), none⟩,
   ⟨(some 7), .mv (.tmp 56), none⟩] []) c_law33_does_13
def c_law33_does_17 : MCode := (.region [⟨(some 78), .mv (.tmp 0), none⟩,
   ⟨(some 79), .fld 1 (.tmp 5), none⟩,
   ⟨(some 80), .fld 0 (.tmp 79), none⟩,
   ⟨(some 81), .load1 (.tmp 80), none⟩,
   ⟨(some 82), .fld 8 (.tmp 5), none⟩,
   ⟨(some 83), .loadN 3 (.tmp 82), none⟩,
   ⟨(some 84), .call 12 [(.tmp 78), (.tmp 81), (.tmp 83)], none⟩,
   ⟨(some 8), .mv (.tmp 84), none⟩] [])
def c_law33_does_16 : MCode := .seq (.region [⟨(some 65), .mv (.tmp 1), none⟩,
   ⟨(some 66), .mv (.tmp 1), none⟩,
   ⟨(some 67), .nilCheck (.tmp 66), none⟩,
   ⟨(some 68), .loadN 1 (.tmp 67), none⟩,
   ⟨(some 69), .fld 1 (.tmp 5), none⟩,
   ⟨(some 70), .fld 0 (.tmp 69), none⟩,
   ⟨(some 71), .load1 (.tmp 70), none⟩,
   ⟨(some 72), .fld 8 (.tmp 5), none⟩,
   ⟨(some 73), .loadN 3 (.tmp 72), none⟩,
   ⟨(some 74), .call 33 [(.tmp 68), (.tmp 71), (.tmp 73)], none⟩,
   ⟨(some 64), .mv (.tmp 74), none⟩,
   ⟨(some 75), .ext (.tmp 64) 0, none⟩,
   ⟨(some 76), .ext (.tmp 64) 1, none⟩,
   ⟨(some 77), .nilCheck (.tmp 65), none⟩,
   ⟨none, .store 1 (.tmp 77) (.tmp 75), none⟩,
   ⟨(some 7), .mv (.tmp 76), none⟩] []) c_law33_does_17
def c_law33_does_21 : MCode := (.region [⟨(some 101), .mv (.tmp 0), none⟩,
   ⟨(some 102), .fld 1 (.tmp 5), none⟩,
   ⟨(some 103), .fld 0 (.tmp 102), none⟩,
   ⟨(some 104), .load1 (.tmp 103), none⟩,
   ⟨(some 105), .fld 11 (.tmp 5), none⟩,
   ⟨(some 106), .load1 (.tmp 105), none⟩,
   ⟨(some 107), .call 13 [(.tmp 101), (.tmp 104), (.tmp 106)], none⟩,
   ⟨(some 8), .mv (.tmp 107), none⟩] [])
def c_law33_does_20 : MCode := .seq (.region [⟨(some 88), .mv (.tmp 1), none⟩,
   ⟨(some 89), .mv (.tmp 1), none⟩,
   ⟨(some 90), .nilCheck (.tmp 89), none⟩,
   ⟨(some 91), .loadN 1 (.tmp 90), none⟩,
   ⟨(some 92), .fld 1 (.tmp 5), none⟩,
   ⟨(some 93), .fld 0 (.tmp 92), none⟩,
   ⟨(some 94), .load1 (.tmp 93), none⟩,
   ⟨(some 95), .fld 11 (.tmp 5), none⟩,
   ⟨(some 96), .load1 (.tmp 95), none⟩,
   ⟨(some 97), .call 34 [(.tmp 91), (.tmp 94), (.tmp 96)], none⟩,
   ⟨(some 87), .mv (.tmp 97), none⟩,
   ⟨(some 98), .ext (.tmp 87) 0, none⟩,
   ⟨(some 99), .ext (.tmp 87) 1, none⟩,
   ⟨(some 100), .nilCheck (.tmp 88), none⟩,
   ⟨none, .store 1 (.tmp 100) (.tmp 98), none⟩,
   ⟨(some 7), .mv (.tmp 99), none⟩] []) c_law33_does_21
def c_law33_does_24 : MCode := .seq (.region [⟨(some 19), .mv (.tmp 0), none⟩,
   ⟨(some 20), .call 26 [(.tmp 19)], none⟩,
   ⟨(some 21), .mv (.tmp 9), none⟩,
   ⟨(some 22), .call 18 [(.tmp 20), (.tmp 21)], none⟩,
   ⟨(some 23), .mv (.tmp 22), none⟩,
   ⟨(some 24), .mv (.tmp 0), (some (23, true))⟩,
   ⟨(some 25), .call 24 [(.tmp 24)], (some (23, true))⟩,
   ⟨(some 26), .ar .eql (.tmp 25) (.const (.int .i64 0)), (some (23, true))⟩,
   ⟨(some 27), .pick (.tmp 23) (.tmp 26) (.const (.bool false)), none⟩,
   ⟨(some 6), .mv (.tmp 27), none⟩] []) .ret
def c_law33_does_23 : MCode := .seq (.region [⟨(some 16), .mv (.tmp 1), none⟩,
   ⟨(some 17), .build [(.slice none 0 0)] [], none⟩,
   ⟨(some 18), .nilCheck (.tmp 16), none⟩,
   ⟨none, .store 1 (.tmp 18) (.tmp 17), none⟩] []) c_law33_does_24
def c_law33_does_22 : MCode := .seq (.region [⟨(some 12), .mv (.tmp 1), none⟩,
   ⟨(some 13), .nilCheck (.tmp 12), none⟩,
   ⟨(some 14), .loadN 1 (.tmp 13), none⟩,
   ⟨(some 15), .call 23 [(.tmp 14)], none⟩,
   ⟨(some 9), .mv (.tmp 15), none⟩] []) c_law33_does_23
def c_law33_does_19 : MCode := .cond (.tmp 85) c_law33_does_20 c_law33_does_22
def c_law33_does_18 : MCode := .seq (.region [⟨(some 86), .ar .eql (.tmp 11) (.const (.int .i64 3)), none⟩,
   ⟨(some 85), .mv (.tmp 86), none⟩] []) c_law33_does_19
def c_law33_does_15 : MCode := .cond (.tmp 62) c_law33_does_16 c_law33_does_18
def c_law33_does_14 : MCode := .seq (.region [⟨(some 63), .ar .eql (.tmp 11) (.const (.int .i64 2)), none⟩,
   ⟨(some 62), .mv (.tmp 63), none⟩] []) c_law33_does_15
def c_law33_does_11 : MCode := .cond (.tmp 45) c_law33_does_12 c_law33_does_14
def c_law33_does_10 : MCode := .seq (.region [⟨(some 46), .ar .eql (.tmp 11) (.const (.int .i64 1)), none⟩,
   ⟨(some 45), .mv (.tmp 46), none⟩] []) c_law33_does_11
def c_law33_does_7 : MCode := .cond (.tmp 28) c_law33_does_8 c_law33_does_10
def c_law33_does_6 : MCode := .seq (.region [⟨(some 29), .ar .eql (.tmp 11) (.const (.int .i64 0)), none⟩,
   ⟨(some 28), .mv (.tmp 29), none⟩] []) c_law33_does_7
def c_law33_does_5 : MCode := .block 0 c_law33_does_6
def c_law33_does_4 : MCode := .seq (.region [⟨(some 10), .fld 0 (.tmp 5), none⟩,
   ⟨(some 11), .load1 (.tmp 10), none⟩] []) c_law33_does_5
def c_law33_does_25 : MCode := .seq (.region [⟨(some 108), .mv (.tmp 8), none⟩,
   ⟨(some 109), .mv (.tmp 7), none⟩,
   ⟨(some 110), .ar .eql (.tmp 108) (.tmp 109), none⟩,
   ⟨(some 6), .mv (.tmp 110), none⟩] []) .ret
def c_law33_does_3 : MCode := .seq c_law33_does_4 c_law33_does_25
def c_law33_does_2 : MCode := .seq (.region [⟨(some 8), .mv (.const (.int .i64 0)), none⟩] []) c_law33_does_3
def c_law33_does_1 : MCode := .seq (.region [⟨(some 7), .mv (.const (.int .i64 0)), none⟩] []) c_law33_does_2
def c_law33_does_0 : MCode := .seq (.region [⟨(some 5), .box (.tmp 2), none⟩,
   ⟨(some 6), .mv (.const (.bool false)), none⟩] []) c_law33_does_1
/-- trefoil/trefoillaw33.does -/
def M_law33_does : MFun := ⟨3, c_law33_does_0, [.tmp 6]⟩
abbrev F_law33_does : Nat := 16
set_option maxRecDepth 100000 in
theorem m_law33_does : InProg Try.prog 0 16 M_law33_does := ⟨Try.f16, [], Try.func16, by kernel_rfl⟩
def c_ref33_Table_Both_9 : MCode := .cond (.tmp 12) .skip (.exit 0)
def c_ref33_Table_Both_8 : MCode := .seq (.region [⟨(some 8), .mv (.tmp 6), none⟩,
   ⟨(some 9), .fld 0 (.tmp 1), none⟩,
   ⟨(some 10), .load1 (.tmp 9), none⟩,
   ⟨(some 11), .lenV (.tmp 10), none⟩,
   ⟨(some 12), .ar .lss (.tmp 8) (.tmp 11), none⟩] []) c_ref33_Table_Both_9
def c_ref33_Table_Both_15 : MCode := .cond (.tmp 32) (.exit 1) .skip
def c_ref33_Table_Both_14 : MCode := .seq (.region [⟨(some 20), .fld 17 (.tmp 7), none⟩,
   ⟨(some 21), .load1 (.tmp 20), none⟩,
   ⟨(some 22), .ar .neq (.tmp 21) (.const (.int .i64 1)), none⟩,
   ⟨(some 23), .mv (.tmp 22), none⟩,
   ⟨(some 24), .fld 15 (.tmp 7), (some (23, false))⟩,
   ⟨(some 25), .load1 (.tmp 24), (some (23, false))⟩,
   ⟨(some 26), .un .not (.tmp 25), (some (23, false))⟩,
   ⟨(some 27), .pick (.tmp 23) (.const (.bool true)) (.tmp 26), none⟩,
   ⟨(some 28), .mv (.tmp 27), none⟩,
   ⟨(some 29), .fld 16 (.tmp 7), (some (28, false))⟩,
   ⟨(some 30), .load1 (.tmp 29), (some (28, false))⟩,
   ⟨(some 31), .un .not (.tmp 30), (some (28, false))⟩,
   ⟨(some 32), .pick (.tmp 28) (.const (.bool true)) (.tmp 31), none⟩] []) c_ref33_Table_Both_15
def c_ref33_Table_Both_18 : MCode := (.region [⟨(some 49), .mv (.tmp 4), none⟩,
   ⟨(some 50), .fld 1 (.tmp 7), none⟩,
   ⟨(some 51), .loadN 7 (.tmp 50), none⟩,
   ⟨(some 52), .buildSlice [(.int .i64 0), (.int .i64 0), (.int .i64 0), (.int .i64 0), (.int .i64 0), (.int .i64 0), (.int .i64 0)] 1 [(0, 7, (.tmp 51))], none⟩,
   ⟨(some 53), .app 7 56 (.tmp 49) (.tmp 52), none⟩,
   ⟨(some 4), .mv (.tmp 53), none⟩] [])
def c_ref33_Table_Both_19 : MCode := (.region [⟨(some 54), .mv (.tmp 5), none⟩,
   ⟨(some 55), .fld 0 (.tmp 7), none⟩,
   ⟨(some 56), .load1 (.tmp 55), none⟩,
   ⟨(some 57), .buildSlice [(.int .i64 0)] 1 [(0, 1, (.tmp 56))], none⟩,
   ⟨(some 58), .app 1 8 (.tmp 54) (.tmp 57), none⟩,
   ⟨(some 5), .mv (.tmp 58), none⟩] [])
def c_ref33_Table_Both_17 : MCode := .cond (.tmp 48) c_ref33_Table_Both_18 c_ref33_Table_Both_19
def c_ref33_Table_Both_16 : MCode := .seq (.region [⟨(some 33), .fld 1 (.tmp 7), none⟩,
   ⟨(some 34), .fld 1 (.tmp 33), none⟩,
   ⟨(some 35), .loadN 5 (.tmp 34), none⟩,
   ⟨(some 36), .fld 8 (.tmp 7), none⟩,
   ⟨(some 37), .fld 1 (.tmp 36), none⟩,
   ⟨(some 38), .loadN 5 (.tmp 37), none⟩,
   ⟨(some 39), .eq false (.plain (.st [(0, 1, false, .int), (1, 1, false, .int), (2, 1, false, .int), (3, 1, false, .int), (4, 1, false, .int)])) (.tmp 35) (.tmp 38), none⟩,
   ⟨(some 40), .mv (.tmp 39), none⟩,
   ⟨(some 41), .fld 1 (.tmp 7), (some (40, true))⟩,
   ⟨(some 42), .fld 6 (.tmp 41), (some (40, true))⟩,
   ⟨(some 43), .load1 (.tmp 42), (some (40, true))⟩,
   ⟨(some 44), .fld 8 (.tmp 7), (some (40, true))⟩,
   ⟨(some 45), .fld 6 (.tmp 44), (some (40, true))⟩,
   ⟨(some 46), .load1 (.tmp 45), (some (40, true))⟩,
   ⟨(some 47), .ar .eql (.tmp 43) (.tmp 46), (some (40, true))⟩,
   ⟨(some 48), .pick (.tmp 40) (.tmp 47) (.const (.bool false)), none⟩] []) c_ref33_Table_Both_17
def c_ref33_Table_Both_13 : MCode := .seq c_ref33_Table_Both_14 c_ref33_Table_Both_16
def c_ref33_Table_Both_12 : MCode := .seq (.region [⟨(some 15), .fld 0 (.tmp 1), none⟩,
   ⟨(some 16), .load1 (.tmp 15), none⟩,
   ⟨(some 17), .mv (.tmp 6), none⟩,
   ⟨(some 18), .ixV 22 (.tmp 16) (.tmp 17), none⟩,
   ⟨(some 19), .loadN 22 (.tmp 18), none⟩,
   ⟨(some 7), .new [(.int .i64 0), (.int .i64 0), (.int .i64 0), (.int .i64 0), (.int .i64 0), (.int .i64 0), (.int .i64 0), (.int .i64 0), (.int .i64 0), (.int .i64 0), (.int .i64 0), (.int .i64 0), (.int .i64 0), (.int .i64 0), (.int .i64 0), (.bool false), (.bool false), (.int .i64 0), (.int .i64 0), (.int .i64 0), (.int .i64 0), (.int .i64 0)], none⟩,
   ⟨none, .store 22 (.tmp 7) (.tmp 19), none⟩] []) c_ref33_Table_Both_13
def c_ref33_Table_Both_11 : MCode := .block 1 c_ref33_Table_Both_12
def c_ref33_Table_Both_20 : MCode := (.region [⟨(some 13), .mv (.tmp 6), none⟩,
   ⟨(some 14), .ar .add (.tmp 13) (.const (.int .i64 1)), none⟩,
   ⟨(some 6), .mv (.tmp 14), none⟩] [])
def c_ref33_Table_Both_10 : MCode := .seq c_ref33_Table_Both_11 c_ref33_Table_Both_20
def c_ref33_Table_Both_7 : MCode := .seq c_ref33_Table_Both_8 c_ref33_Table_Both_10
def c_ref33_Table_Both_6 : MCode := .loop [1, 4, 5, 6] c_ref33_Table_Both_7
def c_ref33_Table_Both_5 : MCode := .block 0 c_ref33_Table_Both_6
def c_ref33_Table_Both_4 : MCode := .seq (.region [⟨(some 6), .mv (.const (.int .i64 0)), none⟩] []) c_ref33_Table_Both_5
def c_ref33_Table_Both_21 : MCode := .seq (.region [⟨(some 59), .mv (.tmp 4), none⟩,
   ⟨(some 60), .mv (.tmp 5), none⟩,
   ⟨(some 2), .mv (.tmp 59), none⟩,
   ⟨(some 3), .mv (.tmp 60), none⟩] []) .ret
def c_ref33_Table_Both_3 : MCode := .seq c_ref33_Table_Both_4 c_ref33_Table_Both_21
def c_ref33_Table_Both_2 : MCode := .seq (.region [⟨(some 5), .mv (.const (.slice none 0 0)), none⟩] []) c_ref33_Table_Both_3
def c_ref33_Table_Both_1 : MCode := .seq (.region [⟨(some 4), .mv (.const (.slice none 0 0)), none⟩] []) c_ref33_Table_Both_2
def c_ref33_Table_Both_0 : MCode := .seq (.region [⟨(some 1), .box (.tmp 0), none⟩,
   ⟨(some 2), .mv (.const (.slice none 0 0)), none⟩,
   ⟨(some 3), .mv (.const (.slice none 0 0)), none⟩] []) c_ref33_Table_Both_1
/-- (trefoil/trefoilref33.Table).Both -/
def M_ref33_Table_Both : MFun := ⟨1, c_ref33_Table_Both_0, [.tmp 2, .tmp 3]⟩
abbrev F_ref33_Table_Both : Nat := 17
set_option maxRecDepth 100000 in
theorem m_ref33_Table_Both : InProg Try.prog 0 17 M_ref33_Table_Both := ⟨Try.f17, [[1, 4, 5, 6]], Try.func17, by kernel_rfl⟩
def c_ref33_Tickets_4 : MCode := .seq (.region [⟨(some 4), .mv (.const (.bool false)), none⟩] []) .ret
def c_ref33_Tickets_3 : MCode := .cond (.tmp 10) c_ref33_Tickets_4 .skip
def c_ref33_Tickets_2 : MCode := .seq (.region [⟨(some 6), .mv (.tmp 0), none⟩,
   ⟨(some 7), .lenV (.tmp 6), none⟩,
   ⟨(some 8), .mv (.tmp 1), none⟩,
   ⟨(some 9), .lenV (.tmp 8), none⟩,
   ⟨(some 10), .ar .neq (.tmp 7) (.tmp 9), none⟩] []) c_ref33_Tickets_3
def c_ref33_Tickets_11 : MCode := .cond (.tmp 14) .skip (.exit 0)
def c_ref33_Tickets_10 : MCode := .seq (.region [⟨(some 11), .mv (.tmp 5), none⟩,
   ⟨(some 12), .mv (.tmp 0), none⟩,
   ⟨(some 13), .lenV (.tmp 12), none⟩,
   ⟨(some 14), .ar .lss (.tmp 11) (.tmp 13), none⟩] []) c_ref33_Tickets_11
def c_ref33_Tickets_16 : MCode := .seq (.region [⟨(some 4), .mv (.const (.bool false)), none⟩] []) .ret
def c_ref33_Tickets_15 : MCode := .cond (.tmp 25) c_ref33_Tickets_16 .skip
def c_ref33_Tickets_14 : MCode := .seq (.region [⟨(some 17), .mv (.tmp 0), none⟩,
   ⟨(some 18), .mv (.tmp 5), none⟩,
   ⟨(some 19), .ixV 7 (.tmp 17) (.tmp 18), none⟩,
   ⟨(some 20), .loadN 7 (.tmp 19), none⟩,
   ⟨(some 21), .mv (.tmp 1), none⟩,
   ⟨(some 22), .mv (.tmp 5), none⟩,
   ⟨(some 23), .ixV 7 (.tmp 21) (.tmp 22), none⟩,
   ⟨(some 24), .loadN 7 (.tmp 23), none⟩,
   ⟨(some 25), .eq true (.plain (.st [(0, 1, false, .int), (1, 5, true, (.st [(0, 1, false, .int), (1, 1, false, .int), (2, 1, false, .int), (3, 1, false, .int), (4, 1, false, .int)])), (6, 1, false, .int)])) (.tmp 20) (.tmp 24), none⟩] []) c_ref33_Tickets_15
def c_ref33_Tickets_13 : MCode := .block 1 c_ref33_Tickets_14
def c_ref33_Tickets_17 : MCode := (.region [⟨(some 15), .mv (.tmp 5), none⟩,
   ⟨(some 16), .ar .add (.tmp 15) (.const (.int .i64 1)), none⟩,
   ⟨(some 5), .mv (.tmp 16), none⟩] [])
def c_ref33_Tickets_12 : MCode := .seq c_ref33_Tickets_13 c_ref33_Tickets_17
def c_ref33_Tickets_9 : MCode := .seq c_ref33_Tickets_10 c_ref33_Tickets_12
def c_ref33_Tickets_8 : MCode := .loop [0, 1, 5] c_ref33_Tickets_9
def c_ref33_Tickets_7 : MCode := .block 0 c_ref33_Tickets_8
def c_ref33_Tickets_6 : MCode := .seq (.region [⟨(some 5), .mv (.const (.int .i64 0)), none⟩] []) c_ref33_Tickets_7
def c_ref33_Tickets_18 : MCode := .seq (.region [⟨(some 4), .mv (.const (.bool true)), none⟩] []) .ret
def c_ref33_Tickets_5 : MCode := .seq c_ref33_Tickets_6 c_ref33_Tickets_18
def c_ref33_Tickets_1 : MCode := .seq c_ref33_Tickets_2 c_ref33_Tickets_5
def c_ref33_Tickets_0 : MCode := .seq (.region [⟨(some 4), .mv (.const (.bool false)), none⟩] []) c_ref33_Tickets_1
/-- trefoil/trefoilref33.Tickets -/
def M_ref33_Tickets : MFun := ⟨2, c_ref33_Tickets_0, [.tmp 4]⟩
abbrev F_ref33_Tickets : Nat := 18
set_option maxRecDepth 100000 in
theorem m_ref33_Tickets : InProg Try.prog 0 18 M_ref33_Tickets := ⟨Try.f18, [[0, 1, 5]], Try.func18, by kernel_rfl⟩
def c_serve_Table_Matched_4 : MCode := .seq (.region [⟨(some 2), .mv (.const (.slice none 0 0)), none⟩] []) .ret
def c_serve_Table_Matched_3 : MCode := .cond (.tmp 7) c_serve_Table_Matched_4 .skip
def c_serve_Table_Matched_2 : MCode := .seq (.region [⟨(some 6), .mv (.tmp 0), none⟩,
   ⟨(some 7), .eq false .ptr (.tmp 6) (.const (.pointer none)), none⟩] []) c_serve_Table_Matched_3
def c_serve_Table_Matched_12 : MCode := .cond (.tmp 12) .skip (.exit 0)
def c_serve_Table_Matched_18 : MCode := (.region [⟨(some 24), .mv (.tmp 3), none⟩,
   ⟨(some 25), .mv (.tmp 5), none⟩,
   ⟨(some 26), .nilCheck (.tmp 25), none⟩,
   ⟨(some 27), .fld 0 (.tmp 26), none⟩,
   ⟨(some 28), .loadN 7 (.tmp 27), none⟩,
   ⟨(some 29), .buildSlice [(.int .i64 0), (.int .i64 0), (.int .i64 0), (.int .i64 0), (.int .i64 0), (.int .i64 0), (.int .i64 0)] 1 [(0, 7, (.tmp 28))], none⟩,
   ⟨(some 30), .app 7 56 (.tmp 24) (.tmp 29), none⟩,
   ⟨(some 3), .mv (.tmp 30), none⟩] [])
def c_serve_Table_Matched_17 : MCode := .cond (.tmp 23) c_serve_Table_Matched_18 .skip
def c_serve_Table_Matched_16 : MCode := .seq (.region [⟨(some 15), .mv (.tmp 5), none⟩,
   ⟨(some 16), .nilCheck (.tmp 15), none⟩,
   ⟨(some 17), .fld 0 (.tmp 16), none⟩,
   ⟨(some 18), .loadN 7 (.tmp 17), none⟩,
   ⟨(some 19), .mv (.tmp 5), none⟩,
   ⟨(some 20), .nilCheck (.tmp 19), none⟩,
   ⟨(some 21), .fld 7 (.tmp 20), none⟩,
   ⟨(some 22), .loadN 7 (.tmp 21), none⟩,
   ⟨(some 23), .eq false (.plain (.st [(0, 1, false, .int), (1, 5, true, (.st [(0, 1, false, .int), (1, 1, false, .int), (2, 1, false, .int), (3, 1, false, .int), (4, 1, false, .int)])), (6, 1, false, .int)])) (.tmp 18) (.tmp 22), none⟩] []) c_serve_Table_Matched_17
def c_serve_Table_Matched_15 : MCode := .seq (.region [⟨(some 13), .ixV 1 (.tmp 9) (.tmp 11), none⟩,
   ⟨(some 14), .load1 (.tmp 13), none⟩,
   ⟨(some 5), .mv (.tmp 14), none⟩] []) c_serve_Table_Matched_16
def c_serve_Table_Matched_14 : MCode := .block 1 c_serve_Table_Matched_15
def c_serve_Table_Matched_19 : MCode := (.region [⟨(some 31), .ar .add (.tmp 11) (.const (.int .i64 1)), none⟩,
   ⟨(some 11), .mv (.tmp 31), none⟩] [])
def c_serve_Table_Matched_13 : MCode := .seq c_serve_Table_Matched_14 c_serve_Table_Matched_19
def c_serve_Table_Matched_11 : MCode := .seq c_serve_Table_Matched_12 c_serve_Table_Matched_13
def c_serve_Table_Matched_10 : MCode := .seq (.region [⟨(some 12), .ar .lss (.tmp 11) (.tmp 10), none⟩] []) c_serve_Table_Matched_11
def c_serve_Table_Matched_9 : MCode := .loop [3, 9, 10, 11] c_serve_Table_Matched_10
def c_serve_Table_Matched_8 : MCode := .block 0 c_serve_Table_Matched_9
def c_serve_Table_Matched_7 : MCode := .seq (.region [⟨(some 8), .mv (.tmp 0), none⟩,
   ⟨(some 9), .call 35 [(.tmp 8)], none⟩,
   ⟨(some 10), .lenV (.tmp 9), none⟩,
   ⟨(some 11), .mv (.const (.int .i64 0)), none⟩] []) c_serve_Table_Matched_8
def c_serve_Table_Matched_20 : MCode := .seq (.region [⟨(some 32), .mv (.tmp 3), none⟩,
   ⟨(some 2), .mv (.tmp 32), none⟩] []) .ret
def c_serve_Table_Matched_6 : MCode := .seq c_serve_Table_Matched_7 c_serve_Table_Matched_20
def c_serve_Table_Matched_5 : MCode := .seq (.region [⟨(some 3), .mv (.const (.slice none 0 0)), none⟩] []) c_serve_Table_Matched_6
def c_serve_Table_Matched_1 : MCode := .seq c_serve_Table_Matched_2 c_serve_Table_Matched_5
def c_serve_Table_Matched_0 : MCode := .seq (.region [⟨(some 2), .mv (.const (.slice none 0 0)), none⟩] []) c_serve_Table_Matched_1
/-- (*trefoil/serve.Table).Matched -/
def M_serve_Table_Matched : MFun := ⟨1, c_serve_Table_Matched_0, [.tmp 2]⟩
abbrev F_serve_Table_Matched : Nat := 19
set_option maxRecDepth 100000 in
theorem m_serve_Table_Matched : InProg Try.prog 0 19 M_serve_Table_Matched := ⟨Try.f19, [[3, 9, 10, 11]], Try.func19, by kernel_rfl⟩
def c_ref01_Ints_4 : MCode := .seq (.region [⟨(some 4), .mv (.const (.bool false)), none⟩] []) .ret
def c_ref01_Ints_3 : MCode := .cond (.tmp 10) c_ref01_Ints_4 .skip
def c_ref01_Ints_2 : MCode := .seq (.region [⟨(some 6), .mv (.tmp 0), none⟩,
   ⟨(some 7), .lenV (.tmp 6), none⟩,
   ⟨(some 8), .mv (.tmp 1), none⟩,
   ⟨(some 9), .lenV (.tmp 8), none⟩,
   ⟨(some 10), .ar .neq (.tmp 7) (.tmp 9), none⟩] []) c_ref01_Ints_3
def c_ref01_Ints_11 : MCode := .cond (.tmp 14) .skip (.exit 0)
def c_ref01_Ints_10 : MCode := .seq (.region [⟨(some 11), .mv (.tmp 5), none⟩,
   ⟨(some 12), .mv (.tmp 0), none⟩,
   ⟨(some 13), .lenV (.tmp 12), none⟩,
   ⟨(some 14), .ar .lss (.tmp 11) (.tmp 13), none⟩] []) c_ref01_Ints_11
def c_ref01_Ints_16 : MCode := .seq (.region [⟨(some 4), .mv (.const (.bool false)), none⟩] []) .ret
def c_ref01_Ints_15 : MCode := .cond (.tmp 25) c_ref01_Ints_16 .skip
def c_ref01_Ints_14 : MCode := .seq (.region [⟨(some 17), .mv (.tmp 0), none⟩,
   ⟨(some 18), .mv (.tmp 5), none⟩,
   ⟨(some 19), .ixV 1 (.tmp 17) (.tmp 18), none⟩,
   ⟨(some 20), .load1 (.tmp 19), none⟩,
   ⟨(some 21), .mv (.tmp 1), none⟩,
   ⟨(some 22), .mv (.tmp 5), none⟩,
   ⟨(some 23), .ixV 1 (.tmp 21) (.tmp 22), none⟩,
   ⟨(some 24), .load1 (.tmp 23), none⟩,
   ⟨(some 25), .ar .neq (.tmp 20) (.tmp 24), none⟩] []) c_ref01_Ints_15
def c_ref01_Ints_13 : MCode := .block 1 c_ref01_Ints_14
def c_ref01_Ints_17 : MCode := (.region [⟨(some 15), .mv (.tmp 5), none⟩,
   ⟨(some 16), .ar .add (.tmp 15) (.const (.int .i64 1)), none⟩,
   ⟨(some 5), .mv (.tmp 16), none⟩] [])
def c_ref01_Ints_12 : MCode := .seq c_ref01_Ints_13 c_ref01_Ints_17
def c_ref01_Ints_9 : MCode := .seq c_ref01_Ints_10 c_ref01_Ints_12
def c_ref01_Ints_8 : MCode := .loop [0, 1, 5] c_ref01_Ints_9
def c_ref01_Ints_7 : MCode := .block 0 c_ref01_Ints_8
def c_ref01_Ints_6 : MCode := .seq (.region [⟨(some 5), .mv (.const (.int .i64 0)), none⟩] []) c_ref01_Ints_7
def c_ref01_Ints_18 : MCode := .seq (.region [⟨(some 4), .mv (.const (.bool true)), none⟩] []) .ret
def c_ref01_Ints_5 : MCode := .seq c_ref01_Ints_6 c_ref01_Ints_18
def c_ref01_Ints_1 : MCode := .seq c_ref01_Ints_2 c_ref01_Ints_5
def c_ref01_Ints_0 : MCode := .seq (.region [⟨(some 4), .mv (.const (.bool false)), none⟩] []) c_ref01_Ints_1
/-- trefoil/trefoilref01.Ints -/
def M_ref01_Ints : MFun := ⟨2, c_ref01_Ints_0, [.tmp 4]⟩
abbrev F_ref01_Ints : Nat := 20
set_option maxRecDepth 100000 in
theorem m_ref01_Ints : InProg Try.prog 0 20 M_ref01_Ints := ⟨Try.f20, [[0, 1, 5]], Try.func20, by kernel_rfl⟩
def c_serve_Table_Unlike_4 : MCode := .seq (.region [⟨(some 2), .mv (.const (.slice none 0 0)), none⟩] []) .ret
def c_serve_Table_Unlike_3 : MCode := .cond (.tmp 7) c_serve_Table_Unlike_4 .skip
def c_serve_Table_Unlike_2 : MCode := .seq (.region [⟨(some 6), .mv (.tmp 0), none⟩,
   ⟨(some 7), .eq false .ptr (.tmp 6) (.const (.pointer none)), none⟩] []) c_serve_Table_Unlike_3
def c_serve_Table_Unlike_12 : MCode := .cond (.tmp 12) .skip (.exit 0)
def c_serve_Table_Unlike_18 : MCode := (.region [⟨(some 24), .mv (.tmp 3), none⟩,
   ⟨(some 25), .mv (.tmp 5), none⟩,
   ⟨(some 26), .nilCheck (.tmp 25), none⟩,
   ⟨(some 27), .fld 0 (.tmp 26), none⟩,
   ⟨(some 28), .fld 0 (.tmp 27), none⟩,
   ⟨(some 29), .load1 (.tmp 28), none⟩,
   ⟨(some 30), .buildSlice [(.int .i64 0)] 1 [(0, 1, (.tmp 29))], none⟩,
   ⟨(some 31), .app 1 8 (.tmp 24) (.tmp 30), none⟩,
   ⟨(some 3), .mv (.tmp 31), none⟩] [])
def c_serve_Table_Unlike_17 : MCode := .cond (.tmp 23) c_serve_Table_Unlike_18 .skip
def c_serve_Table_Unlike_16 : MCode := .seq (.region [⟨(some 15), .mv (.tmp 5), none⟩,
   ⟨(some 16), .nilCheck (.tmp 15), none⟩,
   ⟨(some 17), .fld 0 (.tmp 16), none⟩,
   ⟨(some 18), .loadN 7 (.tmp 17), none⟩,
   ⟨(some 19), .mv (.tmp 5), none⟩,
   ⟨(some 20), .nilCheck (.tmp 19), none⟩,
   ⟨(some 21), .fld 7 (.tmp 20), none⟩,
   ⟨(some 22), .loadN 7 (.tmp 21), none⟩,
   ⟨(some 23), .eq true (.plain (.st [(0, 1, false, .int), (1, 5, true, (.st [(0, 1, false, .int), (1, 1, false, .int), (2, 1, false, .int), (3, 1, false, .int), (4, 1, false, .int)])), (6, 1, false, .int)])) (.tmp 18) (.tmp 22), none⟩] []) c_serve_Table_Unlike_17
def c_serve_Table_Unlike_15 : MCode := .seq (.region [⟨(some 13), .ixV 1 (.tmp 9) (.tmp 11), none⟩,
   ⟨(some 14), .load1 (.tmp 13), none⟩,
   ⟨(some 5), .mv (.tmp 14), none⟩] []) c_serve_Table_Unlike_16
def c_serve_Table_Unlike_14 : MCode := .block 1 c_serve_Table_Unlike_15
def c_serve_Table_Unlike_19 : MCode := (.region [⟨(some 32), .ar .add (.tmp 11) (.const (.int .i64 1)), none⟩,
   ⟨(some 11), .mv (.tmp 32), none⟩] [])
def c_serve_Table_Unlike_13 : MCode := .seq c_serve_Table_Unlike_14 c_serve_Table_Unlike_19
def c_serve_Table_Unlike_11 : MCode := .seq c_serve_Table_Unlike_12 c_serve_Table_Unlike_13
def c_serve_Table_Unlike_10 : MCode := .seq (.region [⟨(some 12), .ar .lss (.tmp 11) (.tmp 10), none⟩] []) c_serve_Table_Unlike_11
def c_serve_Table_Unlike_9 : MCode := .loop [3, 9, 10, 11] c_serve_Table_Unlike_10
def c_serve_Table_Unlike_8 : MCode := .block 0 c_serve_Table_Unlike_9
def c_serve_Table_Unlike_7 : MCode := .seq (.region [⟨(some 8), .mv (.tmp 0), none⟩,
   ⟨(some 9), .call 35 [(.tmp 8)], none⟩,
   ⟨(some 10), .lenV (.tmp 9), none⟩,
   ⟨(some 11), .mv (.const (.int .i64 0)), none⟩] []) c_serve_Table_Unlike_8
def c_serve_Table_Unlike_20 : MCode := .seq (.region [⟨(some 33), .mv (.tmp 3), none⟩,
   ⟨(some 2), .mv (.tmp 33), none⟩] []) .ret
def c_serve_Table_Unlike_6 : MCode := .seq c_serve_Table_Unlike_7 c_serve_Table_Unlike_20
def c_serve_Table_Unlike_5 : MCode := .seq (.region [⟨(some 3), .mv (.const (.slice none 0 0)), none⟩] []) c_serve_Table_Unlike_6
def c_serve_Table_Unlike_1 : MCode := .seq c_serve_Table_Unlike_2 c_serve_Table_Unlike_5
def c_serve_Table_Unlike_0 : MCode := .seq (.region [⟨(some 2), .mv (.const (.slice none 0 0)), none⟩] []) c_serve_Table_Unlike_1
/-- (*trefoil/serve.Table).Unlike -/
def M_serve_Table_Unlike : MFun := ⟨1, c_serve_Table_Unlike_0, [.tmp 2]⟩
abbrev F_serve_Table_Unlike : Nat := 21
set_option maxRecDepth 100000 in
theorem m_serve_Table_Unlike : InProg Try.prog 0 21 M_serve_Table_Unlike := ⟨Try.f21, [[3, 9, 10, 11]], Try.func21, by kernel_rfl⟩
def c_serve_Table_Waiting_4 : MCode := .seq (.region [⟨(some 2), .mv (.const (.slice none 0 0)), none⟩] []) .ret
def c_serve_Table_Waiting_3 : MCode := .cond (.tmp 8) c_serve_Table_Waiting_4 .skip
def c_serve_Table_Waiting_2 : MCode := .seq (.region [⟨(some 7), .mv (.tmp 0), none⟩,
   ⟨(some 8), .eq false .ptr (.tmp 7) (.const (.pointer none)), none⟩] []) c_serve_Table_Waiting_3
def c_serve_Table_Waiting_12 : MCode := .cond (.tmp 17) .skip (.exit 0)
def c_serve_Table_Waiting_19 : MCode := (.region [⟨(some 37), .mv (.tmp 3), none⟩,
   ⟨(some 38), .mv (.tmp 6), none⟩,
   ⟨(some 39), .nilCheck (.tmp 38), none⟩,
   ⟨(some 40), .fld 0 (.tmp 39), none⟩,
   ⟨(some 41), .loadN 7 (.tmp 40), none⟩,
   ⟨(some 42), .buildSlice [(.int .i64 0), (.int .i64 0), (.int .i64 0), (.int .i64 0), (.int .i64 0), (.int .i64 0), (.int .i64 0)] 1 [(0, 7, (.tmp 41))], none⟩,
   ⟨(some 43), .app 7 56 (.tmp 37) (.tmp 42), none⟩,
   ⟨(some 3), .mv (.tmp 43), none⟩] [])
def c_serve_Table_Waiting_18 : MCode := .cond (.tmp 36) c_serve_Table_Waiting_19 .skip
def c_serve_Table_Waiting_17 : MCode := .seq (.region [⟨(some 26), .mv (.tmp 6), none⟩,
   ⟨(some 27), .nilCheck (.tmp 26), none⟩,
   ⟨(some 28), .fld 14 (.tmp 27), none⟩,
   ⟨(some 29), .load1 (.tmp 28), none⟩,
   ⟨(some 30), .mv (.tmp 29), none⟩,
   ⟨(some 31), .mv (.tmp 6), (some (30, true))⟩,
   ⟨(some 32), .nilCheck (.tmp 31), (some (30, true))⟩,
   ⟨(some 33), .fld 17 (.tmp 32), (some (30, true))⟩,
   ⟨(some 34), .load1 (.tmp 33), (some (30, true))⟩,
   ⟨(some 35), .ar .eql (.tmp 34) (.const (.int .i64 1)), (some (30, true))⟩,
   ⟨(some 36), .pick (.tmp 30) (.tmp 35) (.const (.bool false)), none⟩] []) c_serve_Table_Waiting_18
def c_serve_Table_Waiting_16 : MCode := .seq (.region [⟨(some 20), .mv (.tmp 0), none⟩,
   ⟨(some 21), .nilCheck (.tmp 20), none⟩,
   ⟨(some 22), .fld 0 (.tmp 21), none⟩,
   ⟨(some 23), .load1 (.tmp 22), none⟩,
   ⟨(some 24), .mv (.tmp 5), none⟩,
   ⟨(some 25), .look .int (.pointer none) false (.tmp 23) (.tmp 24), none⟩,
   ⟨(some 6), .mv (.tmp 25), none⟩] []) c_serve_Table_Waiting_17
def c_serve_Table_Waiting_15 : MCode := .seq (.region [⟨(some 18), .ixV 1 (.tmp 14) (.tmp 16), none⟩,
   ⟨(some 19), .load1 (.tmp 18), none⟩,
   ⟨(some 5), .mv (.tmp 19), none⟩] []) c_serve_Table_Waiting_16
def c_serve_Table_Waiting_14 : MCode := .block 1 c_serve_Table_Waiting_15
def c_serve_Table_Waiting_20 : MCode := (.region [⟨(some 44), .ar .add (.tmp 16) (.const (.int .i64 1)), none⟩,
   ⟨(some 16), .mv (.tmp 44), none⟩] [])
def c_serve_Table_Waiting_13 : MCode := .seq c_serve_Table_Waiting_14 c_serve_Table_Waiting_20
def c_serve_Table_Waiting_11 : MCode := .seq c_serve_Table_Waiting_12 c_serve_Table_Waiting_13
def c_serve_Table_Waiting_10 : MCode := .seq (.region [⟨(some 17), .ar .lss (.tmp 16) (.tmp 15), none⟩] []) c_serve_Table_Waiting_11
def c_serve_Table_Waiting_9 : MCode := .loop [0, 3, 14, 15, 16] c_serve_Table_Waiting_10
def c_serve_Table_Waiting_8 : MCode := .block 0 c_serve_Table_Waiting_9
def c_serve_Table_Waiting_7 : MCode := .seq (.region [⟨(some 9), .mv (.tmp 0), none⟩,
   ⟨(some 10), .nilCheck (.tmp 9), none⟩,
   ⟨(some 11), .fld 0 (.tmp 10), none⟩,
   ⟨(some 12), .load1 (.tmp 11), none⟩,
   ⟨(some 13), .call 37 [(.tmp 12)], none⟩,
   ⟨(some 14), .call 36 [(.tmp 13)], none⟩,
   ⟨(some 15), .lenV (.tmp 14), none⟩,
   ⟨(some 16), .mv (.const (.int .i64 0)), none⟩] []) c_serve_Table_Waiting_8
def c_serve_Table_Waiting_21 : MCode := .seq (.region [⟨(some 45), .mv (.tmp 3), none⟩,
   ⟨(some 2), .mv (.tmp 45), none⟩] []) .ret
def c_serve_Table_Waiting_6 : MCode := .seq c_serve_Table_Waiting_7 c_serve_Table_Waiting_21
def c_serve_Table_Waiting_5 : MCode := .seq (.region [⟨(some 3), .mv (.const (.slice none 0 0)), none⟩] []) c_serve_Table_Waiting_6
def c_serve_Table_Waiting_1 : MCode := .seq c_serve_Table_Waiting_2 c_serve_Table_Waiting_5
def c_serve_Table_Waiting_0 : MCode := .seq (.region [⟨(some 2), .mv (.const (.slice none 0 0)), none⟩] []) c_serve_Table_Waiting_1
/-- (*trefoil/serve.Table).Waiting -/
def M_serve_Table_Waiting : MFun := ⟨1, c_serve_Table_Waiting_0, [.tmp 2]⟩
abbrev F_serve_Table_Waiting : Nat := 22
set_option maxRecDepth 100000 in
theorem m_serve_Table_Waiting : InProg Try.prog 0 22 M_serve_Table_Waiting := ⟨Try.f22, [[0, 3, 14, 15, 16]], Try.func22, by kernel_rfl⟩
def c_ref33_Table_Waiting_8 : MCode := .cond (.tmp 12) .skip (.exit 0)
def c_ref33_Table_Waiting_7 : MCode := .seq (.region [⟨(some 8), .mv (.tmp 4), none⟩,
   ⟨(some 9), .fld 0 (.tmp 1), none⟩,
   ⟨(some 10), .load1 (.tmp 9), none⟩,
   ⟨(some 11), .lenV (.tmp 10), none⟩,
   ⟨(some 12), .ar .lss (.tmp 8) (.tmp 11), none⟩] []) c_ref33_Table_Waiting_8
def c_ref33_Table_Waiting_14 : MCode := .cond (.tmp 27) (.exit 1) .skip
def c_ref33_Table_Waiting_13 : MCode := .seq (.region [⟨(some 20), .fld 15 (.tmp 5), none⟩,
   ⟨(some 21), .load1 (.tmp 20), none⟩,
   ⟨(some 22), .un .not (.tmp 21), none⟩,
   ⟨(some 23), .mv (.tmp 22), none⟩,
   ⟨(some 24), .fld 17 (.tmp 5), (some (23, false))⟩,
   ⟨(some 25), .load1 (.tmp 24), (some (23, false))⟩,
   ⟨(some 26), .ar .neq (.tmp 25) (.const (.int .i64 1)), (some (23, false))⟩,
   ⟨(some 27), .pick (.tmp 23) (.const (.bool true)) (.tmp 26), none⟩] []) c_ref33_Table_Waiting_14
def c_ref33_Table_Waiting_21 : MCode := .cond (.tmp 42) .skip (.exit 2)
def c_ref33_Table_Waiting_20 : MCode := .seq (.region [⟨(some 30), .mv (.tmp 6), none⟩,
   ⟨(some 31), .ar .gtr (.tmp 30) (.const (.int .i64 0)), none⟩,
   ⟨(some 32), .mv (.tmp 31), none⟩,
   ⟨(some 33), .mv (.tmp 3), (some (32, true))⟩,
   ⟨(some 34), .mv (.tmp 6), (some (32, true))⟩,
   ⟨(some 35), .ar .sub (.tmp 34) (.const (.int .i64 1)), (some (32, true))⟩,
   ⟨(some 36), .ixV 7 (.tmp 33) (.tmp 35), (some (32, true))⟩,
   ⟨(some 37), .fld 0 (.tmp 36), (some (32, true))⟩,
   ⟨(some 38), .load1 (.tmp 37), (some (32, true))⟩,
   ⟨(some 39), .fld 0 (.tmp 5), (some (32, true))⟩,
   ⟨(some 40), .load1 (.tmp 39), (some (32, true))⟩,
   ⟨(some 41), .ar .gtr (.tmp 38) (.tmp 40), (some (32, true))⟩,
   ⟨(some 42), .pick (.tmp 32) (.tmp 41) (.const (.bool false)), none⟩] []) c_ref33_Table_Waiting_21
def c_ref33_Table_Waiting_23 : MCode := (.region [⟨(some 43), .mv (.tmp 6), none⟩,
   ⟨(some 44), .ar .sub (.tmp 43) (.const (.int .i64 1)), none⟩,
   ⟨(some 6), .mv (.tmp 44), none⟩] [])
def c_ref33_Table_Waiting_22 : MCode := .block 3 c_ref33_Table_Waiting_23
def c_ref33_Table_Waiting_19 : MCode := .seq c_ref33_Table_Waiting_20 c_ref33_Table_Waiting_22
def c_ref33_Table_Waiting_18 : MCode := .loop [1, 3, 4, 5, 6] c_ref33_Table_Waiting_19
def c_ref33_Table_Waiting_17 : MCode := .block 2 c_ref33_Table_Waiting_18
def c_ref33_Table_Waiting_26 : MCode := (.region [⟨(some 55), .mv (.tmp 7), none⟩,
   ⟨(some 56), .mv (.tmp 3), none⟩,
   ⟨(some 57), .mv (.tmp 6), none⟩,
   ⟨(some 58), .slV 7 (.tmp 56) (some (.tmp 57)) none none, none⟩,
   ⟨(some 59), .app 7 56 (.tmp 55) (.tmp 58), none⟩,
   ⟨(some 3), .mv (.tmp 59), none⟩] [])
def c_ref33_Table_Waiting_25 : MCode := .seq (.region [⟨(some 50), .mv (.tmp 7), none⟩,
   ⟨(some 51), .fld 1 (.tmp 5), none⟩,
   ⟨(some 52), .loadN 7 (.tmp 51), none⟩,
   ⟨(some 53), .buildSlice [(.int .i64 0), (.int .i64 0), (.int .i64 0), (.int .i64 0), (.int .i64 0), (.int .i64 0), (.int .i64 0)] 1 [(0, 7, (.tmp 52))], none⟩,
   ⟨(some 54), .app 7 56 (.tmp 50) (.tmp 53), none⟩,
   ⟨(some 7), .mv (.tmp 54), none⟩] []) c_ref33_Table_Waiting_26
def c_ref33_Table_Waiting_24 : MCode := .seq (.region [⟨(some 45), .buildSlice [] 0 [], none⟩,
   ⟨(some 46), .mv (.tmp 3), none⟩,
   ⟨(some 47), .mv (.tmp 6), none⟩,
   ⟨(some 48), .slV 7 (.tmp 46) none (some (.tmp 47)) none, none⟩,
   ⟨(some 49), .app 7 56 (.tmp 45) (.tmp 48), none⟩,
   ⟨(some 7), .mv (.tmp 49), none⟩] []) c_ref33_Table_Waiting_25
def c_ref33_Table_Waiting_16 : MCode := .seq c_ref33_Table_Waiting_17 c_ref33_Table_Waiting_24
def c_ref33_Table_Waiting_15 : MCode := .seq (.region [⟨(some 28), .mv (.tmp 3), none⟩,
   ⟨(some 29), .lenV (.tmp 28), none⟩,
   ⟨(some 6), .mv (.tmp 29), none⟩] []) c_ref33_Table_Waiting_16
def c_ref33_Table_Waiting_12 : MCode := .seq c_ref33_Table_Waiting_13 c_ref33_Table_Waiting_15
def c_ref33_Table_Waiting_11 : MCode := .seq (.region [⟨(some 15), .fld 0 (.tmp 1), none⟩,
   ⟨(some 16), .load1 (.tmp 15), none⟩,
   ⟨(some 17), .mv (.tmp 4), none⟩,
   ⟨(some 18), .ixV 22 (.tmp 16) (.tmp 17), none⟩,
   ⟨(some 19), .loadN 22 (.tmp 18), none⟩,
   ⟨(some 5), .new [(.int .i64 0), (.int .i64 0), (.int .i64 0), (.int .i64 0), (.int .i64 0), (.int .i64 0), (.int .i64 0), (.int .i64 0), (.int .i64 0), (.int .i64 0), (.int .i64 0), (.int .i64 0), (.int .i64 0), (.int .i64 0), (.int .i64 0), (.bool false), (.bool false), (.int .i64 0), (.int .i64 0), (.int .i64 0), (.int .i64 0), (.int .i64 0)], none⟩,
   ⟨none, .store 22 (.tmp 5) (.tmp 19), none⟩] []) c_ref33_Table_Waiting_12
def c_ref33_Table_Waiting_10 : MCode := .block 1 c_ref33_Table_Waiting_11
def c_ref33_Table_Waiting_27 : MCode := (.region [⟨(some 13), .mv (.tmp 4), none⟩,
   ⟨(some 14), .ar .add (.tmp 13) (.const (.int .i64 1)), none⟩,
   ⟨(some 4), .mv (.tmp 14), none⟩] [])
def c_ref33_Table_Waiting_9 : MCode := .seq c_ref33_Table_Waiting_10 c_ref33_Table_Waiting_27
def c_ref33_Table_Waiting_6 : MCode := .seq c_ref33_Table_Waiting_7 c_ref33_Table_Waiting_9
def c_ref33_Table_Waiting_5 : MCode := .loop [1, 3, 4] c_ref33_Table_Waiting_6
def c_ref33_Table_Waiting_4 : MCode := .block 0 c_ref33_Table_Waiting_5
def c_ref33_Table_Waiting_3 : MCode := .seq (.region [⟨(some 4), .mv (.const (.int .i64 0)), none⟩] []) c_ref33_Table_Waiting_4
def c_ref33_Table_Waiting_28 : MCode := .seq (.region [⟨(some 60), .mv (.tmp 3), none⟩,
   ⟨(some 2), .mv (.tmp 60), none⟩] []) .ret
def c_ref33_Table_Waiting_2 : MCode := .seq c_ref33_Table_Waiting_3 c_ref33_Table_Waiting_28
def c_ref33_Table_Waiting_1 : MCode := .seq (.region [⟨(some 3), .mv (.const (.slice none 0 0)), none⟩] []) c_ref33_Table_Waiting_2
def c_ref33_Table_Waiting_0 : MCode := .seq (.region [⟨(some 1), .box (.tmp 0), none⟩,
   ⟨(some 2), .mv (.const (.slice none 0 0)), none⟩] []) c_ref33_Table_Waiting_1
/-- (trefoil/trefoilref33.Table).Waiting -/
def M_ref33_Table_Waiting : MFun := ⟨1, c_ref33_Table_Waiting_0, [.tmp 2]⟩
abbrev F_ref33_Table_Waiting : Nat := 23
set_option maxRecDepth 100000 in
theorem m_ref33_Table_Waiting : InProg Try.prog 0 23 M_ref33_Table_Waiting := ⟨Try.f23, [[1, 3, 4], [1, 3, 4, 5, 6]], Try.func23, by kernel_rfl⟩
def c_serve_Table_Len_4 : MCode := .seq (.region [⟨(some 2), .mv (.const (.int .i64 0)), none⟩] []) .ret
def c_serve_Table_Len_3 : MCode := .cond (.tmp 4) c_serve_Table_Len_4 .skip
def c_serve_Table_Len_2 : MCode := .seq (.region [⟨(some 3), .mv (.tmp 0), none⟩,
   ⟨(some 4), .eq false .ptr (.tmp 3) (.const (.pointer none)), none⟩] []) c_serve_Table_Len_3
def c_serve_Table_Len_5 : MCode := .seq (.region [⟨(some 5), .mv (.tmp 0), none⟩,
   ⟨(some 6), .nilCheck (.tmp 5), none⟩,
   ⟨(some 7), .fld 0 (.tmp 6), none⟩,
   ⟨(some 8), .load1 (.tmp 7), none⟩,
   ⟨(some 9), .lenM (.tmp 8), none⟩,
   ⟨(some 2), .mv (.tmp 9), none⟩] []) .ret
def c_serve_Table_Len_1 : MCode := .seq c_serve_Table_Len_2 c_serve_Table_Len_5
def c_serve_Table_Len_0 : MCode := .seq (.region [⟨(some 2), .mv (.const (.int .i64 0)), none⟩] []) c_serve_Table_Len_1
/-- (*trefoil/serve.Table).Len -/
def M_serve_Table_Len : MFun := ⟨1, c_serve_Table_Len_0, [.tmp 2]⟩
abbrev F_serve_Table_Len : Nat := 24
set_option maxRecDepth 100000 in
theorem m_serve_Table_Len : InProg Try.prog 0 24 M_serve_Table_Len := ⟨Try.f24, [], Try.func24, by kernel_rfl⟩
def c_ref33_Table_Find_7 : MCode := .cond (.tmp 10) .skip (.exit 0)
def c_ref33_Table_Find_6 : MCode := .seq (.region [⟨(some 6), .mv (.tmp 5), none⟩,
   ⟨(some 7), .fld 0 (.tmp 2), none⟩,
   ⟨(some 8), .load1 (.tmp 7), none⟩,
   ⟨(some 9), .lenV (.tmp 8), none⟩,
   ⟨(some 10), .ar .lss (.tmp 6) (.tmp 9), none⟩] []) c_ref33_Table_Find_7
def c_ref33_Table_Find_12 : MCode := .seq (.region [⟨(some 21), .mv (.tmp 5), none⟩,
   ⟨(some 4), .mv (.tmp 21), none⟩] []) .ret
def c_ref33_Table_Find_11 : MCode := .cond (.tmp 20) c_ref33_Table_Find_12 .skip
def c_ref33_Table_Find_10 : MCode := .seq (.region [⟨(some 13), .fld 0 (.tmp 2), none⟩,
   ⟨(some 14), .load1 (.tmp 13), none⟩,
   ⟨(some 15), .mv (.tmp 5), none⟩,
   ⟨(some 16), .ixV 22 (.tmp 14) (.tmp 15), none⟩,
   ⟨(some 17), .fld 0 (.tmp 16), none⟩,
   ⟨(some 18), .load1 (.tmp 17), none⟩,
   ⟨(some 19), .mv (.tmp 1), none⟩,
   ⟨(some 20), .ar .eql (.tmp 18) (.tmp 19), none⟩] []) c_ref33_Table_Find_11
def c_ref33_Table_Find_9 : MCode := .block 1 c_ref33_Table_Find_10
def c_ref33_Table_Find_13 : MCode := (.region [⟨(some 11), .mv (.tmp 5), none⟩,
   ⟨(some 12), .ar .add (.tmp 11) (.const (.int .i64 1)), none⟩,
   ⟨(some 5), .mv (.tmp 12), none⟩] [])
def c_ref33_Table_Find_8 : MCode := .seq c_ref33_Table_Find_9 c_ref33_Table_Find_13
def c_ref33_Table_Find_5 : MCode := .seq c_ref33_Table_Find_6 c_ref33_Table_Find_8
def c_ref33_Table_Find_4 : MCode := .loop [1, 2, 5] c_ref33_Table_Find_5
def c_ref33_Table_Find_3 : MCode := .block 0 c_ref33_Table_Find_4
def c_ref33_Table_Find_2 : MCode := .seq (.region [⟨(some 5), .mv (.const (.int .i64 0)), none⟩] []) c_ref33_Table_Find_3
def c_ref33_Table_Find_14 : MCode := .seq (.region [⟨(some 4), .mv (.const (.int .i64 (-1))), none⟩] []) .ret
def c_ref33_Table_Find_1 : MCode := .seq c_ref33_Table_Find_2 c_ref33_Table_Find_14
def c_ref33_Table_Find_0 : MCode := .seq (.region [⟨(some 2), .box (.tmp 0), none⟩,
   ⟨(some 4), .mv (.const (.int .i64 0)), none⟩] []) c_ref33_Table_Find_1
/-- (trefoil/trefoilref33.Table).Find -/
def M_ref33_Table_Find : MFun := ⟨2, c_ref33_Table_Find_0, [.tmp 4]⟩
abbrev F_ref33_Table_Find : Nat := 25
set_option maxRecDepth 100000 in
theorem m_ref33_Table_Find : InProg Try.prog 0 25 M_ref33_Table_Find := ⟨Try.f25, [[1, 2, 5]], Try.func25, by kernel_rfl⟩
def c_serve_Table_Reset_5 : MCode := (.region [⟨(some 14), .mv (.tmp 0), none⟩,
   ⟨(some 15), .mv (.tmp 0), none⟩,
   ⟨(some 16), .mkMap, none⟩,
   ⟨(some 17), .nilCheck (.tmp 14), none⟩,
   ⟨(some 18), .fld 0 (.tmp 17), none⟩,
   ⟨none, .store 1 (.tmp 18) (.tmp 16), none⟩,
   ⟨(some 19), .nilCheck (.tmp 15), none⟩,
   ⟨(some 20), .fld 1 (.tmp 19), none⟩,
   ⟨none, .store 1 (.tmp 20) (.const (.int .i64 0)), none⟩] [])
def c_serve_Table_Reset_4 : MCode := .cond (.tmp 13) c_serve_Table_Reset_5 .skip
def c_serve_Table_Reset_3 : MCode := .seq (.region [⟨(some 6), .mv (.tmp 0), none⟩,
   ⟨(some 7), .eq true .ptr (.tmp 6) (.const (.pointer none)), none⟩,
   ⟨(some 8), .mv (.tmp 7), none⟩,
   ⟨(some 9), .mv (.tmp 0), (some (8, true))⟩,
   ⟨(some 10), .nilCheck (.tmp 9), (some (8, true))⟩,
   ⟨(some 11), .fld 2 (.tmp 10), (some (8, true))⟩,
   ⟨(some 12), .load1 (.tmp 11), (some (8, true))⟩,
   ⟨(some 13), .pick (.tmp 8) (.tmp 12) (.const (.bool false)), none⟩] []) c_serve_Table_Reset_4
def c_serve_Table_Reset_6 : MCode := .seq (.region [⟨(some 21), .mv (.tmp 3), none⟩,
   ⟨(some 2), .mv (.tmp 21), none⟩] []) .ret
def c_serve_Table_Reset_2 : MCode := .seq c_serve_Table_Reset_3 c_serve_Table_Reset_6
def c_serve_Table_Reset_1 : MCode := .seq (.region [⟨(some 4), .mv (.tmp 0), none⟩,
   ⟨(some 5), .call 22 [(.tmp 4)], none⟩,
   ⟨(some 3), .mv (.tmp 5), none⟩] []) c_serve_Table_Reset_2
def c_serve_Table_Reset_0 : MCode := .seq (.region [⟨(some 2), .mv (.const (.slice none 0 0)), none⟩] []) c_serve_Table_Reset_1
/-- (*trefoil/serve.Table).Reset -/
def M_serve_Table_Reset : MFun := ⟨1, c_serve_Table_Reset_0, [.tmp 2]⟩
abbrev F_serve_Table_Reset : Nat := 26
set_option maxRecDepth 100000 in
theorem m_serve_Table_Reset : InProg Try.prog 0 26 M_serve_Table_Reset := ⟨Try.f26, [], Try.func26, by kernel_rfl⟩
def c_shape_Check_14 : MCode := .cond (.tmp 19) (.exit 1) .skip
def c_shape_Check_13 : MCode := .seq (.region [⟨(some 20), .ar .eql (.tmp 18) (.const (.int .i64 2)), none⟩,
   ⟨(some 19), .mv (.tmp 20), none⟩] []) c_shape_Check_14
def c_shape_Check_19 : MCode := (.region [⟨(some 23), .ar .eql (.tmp 18) (.const (.int .i64 4)), none⟩,
   ⟨(some 21), .mv (.tmp 23), none⟩] [])
def c_shape_Check_18 : MCode := .cond (.tmp 21) .skip c_shape_Check_19
def c_shape_Check_17 : MCode := .seq (.region [⟨(some 22), .ar .eql (.tmp 18) (.const (.int .i64 1)), none⟩,
   ⟨(some 21), .mv (.tmp 22), none⟩] []) c_shape_Check_18
def c_shape_Check_20 : MCode := .cond (.tmp 21) (.exit 2) .skip
def c_shape_Check_16 : MCode := .seq c_shape_Check_17 c_shape_Check_20
def c_shape_Check_22 : MCode := .cond (.tmp 24) (.exit 3) .skip
def c_shape_Check_21 : MCode := .seq (.region [⟨(some 25), .ar .eql (.tmp 18) (.const (.int .i64 3)), none⟩,
   ⟨(some 24), .mv (.tmp 25), none⟩] []) c_shape_Check_22
def c_shape_Check_15 : MCode := .seq c_shape_Check_16 c_shape_Check_21
def c_shape_Check_12 : MCode := .seq c_shape_Check_13 c_shape_Check_15
def c_shape_Check_11 : MCode := .seq c_shape_Check_12 (.exit 0)
def c_shape_Check_10 : MCode := .block 1 c_shape_Check_11
def c_shape_Check_23 : MCode := (.region [⟨(some 26), .fld 2 (.tmp 1), none⟩,
   ⟨(some 27), .load1 (.tmp 26), none⟩,
   ⟨(some 28), .call 38 [(.tmp 27)], none⟩,
   ⟨(some 29), .mv (.tmp 28), none⟩,
   ⟨(some 30), .fld 3 (.tmp 1), (some (29, true))⟩,
   ⟨(some 31), .load1 (.tmp 30), (some (29, true))⟩,
   ⟨(some 32), .call 38 [(.tmp 31)], (some (29, true))⟩,
   ⟨(some 33), .pick (.tmp 29) (.tmp 32) (.const (.bool false)), none⟩,
   ⟨(some 34), .mv (.tmp 33), none⟩,
   ⟨(some 35), .fld 4 (.tmp 1), (some (34, true))⟩,
   ⟨(some 36), .load1 (.tmp 35), (some (34, true))⟩,
   ⟨(some 37), .call 38 [(.tmp 36)], (some (34, true))⟩,
   ⟨(some 38), .pick (.tmp 34) (.tmp 37) (.const (.bool false)), none⟩,
   ⟨(some 3), .mv (.tmp 38), none⟩] [])
def c_shape_Check_9 : MCode := .seq c_shape_Check_10 c_shape_Check_23
def c_shape_Check_8 : MCode := .block 2 c_shape_Check_9
def c_shape_Check_28 : MCode := .seq (.region [⟨(some 2), .mv (.const (.int .i64 11)), none⟩] []) .ret
def c_shape_Check_27 : MCode := .cond (.tmp 50) c_shape_Check_28 .skip
def c_shape_Check_26 : MCode := .seq (.region [⟨(some 39), .mv (.tmp 3), none⟩,
   ⟨(some 40), .un .not (.tmp 39), none⟩,
   ⟨(some 41), .mv (.tmp 40), none⟩,
   ⟨(some 42), .fld 1 (.tmp 1), (some (41, false))⟩,
   ⟨(some 43), .load1 (.tmp 42), (some (41, false))⟩,
   ⟨(some 44), .ar .lss (.tmp 43) (.const (.int .i64 1)), (some (41, false))⟩,
   ⟨(some 45), .pick (.tmp 41) (.const (.bool true)) (.tmp 44), none⟩,
   ⟨(some 46), .mv (.tmp 45), none⟩,
   ⟨(some 47), .fld 1 (.tmp 1), (some (46, false))⟩,
   ⟨(some 48), .load1 (.tmp 47), (some (46, false))⟩,
   ⟨(some 49), .ar .gtr (.tmp 48) (.const (.int .i64 64)), (some (46, false))⟩,
   ⟨(some 50), .pick (.tmp 46) (.const (.bool true)) (.tmp 49), none⟩] []) c_shape_Check_27
def c_shape_Check_29 : MCode := .seq (.region [⟨(some 2), .mv (.const (.int .i64 0)), none⟩] []) .ret
def c_shape_Check_25 : MCode := .seq c_shape_Check_26 c_shape_Check_29
def c_shape_Check_24 : MCode := .seq c_shape_Check_25 (.exit 0)
def c_shape_Check_7 : MCode := .seq c_shape_Check_8 c_shape_Check_24
def c_shape_Check_6 : MCode := .block 3 c_shape_Check_7
def c_shape_Check_34 : MCode := .seq (.region [⟨(some 2), .mv (.const (.int .i64 11)), none⟩] []) .ret
def c_shape_Check_33 : MCode := .cond (.tmp 57) c_shape_Check_34 .skip
def c_shape_Check_32 : MCode := .seq (.region [⟨(some 51), .mv (.tmp 3), none⟩,
   ⟨(some 52), .un .not (.tmp 51), none⟩,
   ⟨(some 53), .mv (.tmp 52), none⟩,
   ⟨(some 54), .fld 1 (.tmp 1), (some (53, false))⟩,
   ⟨(some 55), .load1 (.tmp 54), (some (53, false))⟩,
   ⟨(some 56), .ar .neq (.tmp 55) (.const (.int .i64 1)), (some (53, false))⟩,
   ⟨(some 57), .pick (.tmp 53) (.const (.bool true)) (.tmp 56), none⟩] []) c_shape_Check_33
def c_shape_Check_35 : MCode := .seq (.region [⟨(some 2), .mv (.const (.int .i64 0)), none⟩] []) .ret
def c_shape_Check_31 : MCode := .seq c_shape_Check_32 c_shape_Check_35
def c_shape_Check_30 : MCode := .seq c_shape_Check_31 (.exit 0)
def c_shape_Check_5 : MCode := .seq c_shape_Check_6 c_shape_Check_30
def c_shape_Check_4 : MCode := .block 0 c_shape_Check_5
def c_shape_Check_3 : MCode := .seq (.region [⟨(some 17), .fld 0 (.tmp 1), none⟩,
   ⟨(some 18), .load1 (.tmp 17), none⟩] []) c_shape_Check_4
def c_shape_Check_36 : MCode := .seq (.region [⟨(some 2), .mv (.const (.int .i64 15)), none⟩] []) .ret
def c_shape_Check_2 : MCode := .seq c_shape_Check_3 c_shape_Check_36
def c_shape_Check_1 : MCode := .seq (.region [⟨(some 4), .fld 2 (.tmp 1), none⟩,
   ⟨(some 5), .load1 (.tmp 4), none⟩,
   ⟨(some 6), .ar .eql (.tmp 5) (.const (.int .i64 0)), none⟩,
   ⟨(some 7), .mv (.tmp 6), none⟩,
   ⟨(some 8), .fld 3 (.tmp 1), (some (7, true))⟩,
   ⟨(some 9), .load1 (.tmp 8), (some (7, true))⟩,
   ⟨(some 10), .ar .eql (.tmp 9) (.const (.int .i64 0)), (some (7, true))⟩,
   ⟨(some 11), .pick (.tmp 7) (.tmp 10) (.const (.bool false)), none⟩,
   ⟨(some 12), .mv (.tmp 11), none⟩,
   ⟨(some 13), .fld 4 (.tmp 1), (some (12, true))⟩,
   ⟨(some 14), .load1 (.tmp 13), (some (12, true))⟩,
   ⟨(some 15), .ar .eql (.tmp 14) (.const (.int .i64 0)), (some (12, true))⟩,
   ⟨(some 16), .pick (.tmp 12) (.tmp 15) (.const (.bool false)), none⟩,
   ⟨(some 3), .mv (.tmp 16), none⟩] []) c_shape_Check_2
def c_shape_Check_0 : MCode := .seq (.region [⟨(some 1), .box (.tmp 0), none⟩,
   ⟨(some 2), .mv (.const (.int .i64 0)), none⟩] []) c_shape_Check_1
/-- trefoil/shape.Check -/
def M_shape_Check : MFun := ⟨1, c_shape_Check_0, [.tmp 2]⟩
abbrev F_shape_Check : Nat := 27
set_option maxRecDepth 100000 in
theorem m_shape_Check : InProg Try.prog 0 27 M_shape_Check := ⟨Try.f27, [], Try.func27, by kernel_rfl⟩
def c_ref09_Check_4 : MCode := .seq (.region [⟨(some 2), .mv (.const (.int .i64 15)), none⟩] []) .ret
def c_ref09_Check_3 : MCode := .cond (.tmp 6) c_ref09_Check_4 .skip
def c_ref09_Check_2 : MCode := .seq (.region [⟨(some 3), .fld 0 (.tmp 1), none⟩,
   ⟨(some 4), .load1 (.tmp 3), none⟩,
   ⟨(some 5), .call 39 [(.tmp 4), (.const (.int .i64 4))], none⟩,
   ⟨(some 6), .un .not (.tmp 5), none⟩] []) c_ref09_Check_3
def c_ref09_Check_8 : MCode := .seq (.region [⟨(some 2), .mv (.const (.int .i64 11)), none⟩] []) .ret
def c_ref09_Check_7 : MCode := .cond (.tmp 20) c_ref09_Check_8 .skip
def c_ref09_Check_6 : MCode := .seq (.region [⟨(some 7), .fld 1 (.tmp 1), none⟩,
   ⟨(some 8), .load1 (.tmp 7), none⟩,
   ⟨(some 9), .call 39 [(.tmp 8), (.const (.int .i64 64))], none⟩,
   ⟨(some 10), .un .not (.tmp 9), none⟩,
   ⟨(some 11), .mv (.tmp 10), none⟩,
   ⟨(some 12), .fld 0 (.tmp 1), (some (11, false))⟩,
   ⟨(some 13), .load1 (.tmp 12), (some (11, false))⟩,
   ⟨(some 14), .ar .eql (.tmp 13) (.const (.int .i64 3)), (some (11, false))⟩,
   ⟨(some 15), .mv (.tmp 14), (some (11, false))⟩,
   ⟨(some 16), .fld 1 (.tmp 1), (some (15, true))⟩,
   ⟨(some 17), .load1 (.tmp 16), (some (15, true))⟩,
   ⟨(some 18), .ar .neq (.tmp 17) (.const (.int .i64 1)), (some (15, true))⟩,
   ⟨(some 19), .pick (.tmp 15) (.tmp 18) (.const (.bool false)), (some (11, false))⟩,
   ⟨(some 20), .pick (.tmp 11) (.const (.bool true)) (.tmp 19), none⟩] []) c_ref09_Check_7
def c_ref09_Check_12 : MCode := .seq (.region [⟨(some 2), .mv (.const (.int .i64 11)), none⟩] []) .ret
def c_ref09_Check_11 : MCode := .cond (.tmp 61) c_ref09_Check_12 .skip
def c_ref09_Check_10 : MCode := .seq (.region [⟨(some 21), .fld 0 (.tmp 1), none⟩,
   ⟨(some 22), .load1 (.tmp 21), none⟩,
   ⟨(some 23), .ar .eql (.tmp 22) (.const (.int .i64 2)), none⟩,
   ⟨(some 24), .mv (.tmp 23), none⟩,
   ⟨(some 25), .fld 2 (.tmp 1), (some (24, true))⟩,
   ⟨(some 26), .load1 (.tmp 25), (some (24, true))⟩,
   ⟨(some 27), .call 39 [(.tmp 26), (.const (.int .i64 6))], (some (24, true))⟩,
   ⟨(some 28), .un .not (.tmp 27), (some (24, true))⟩,
   ⟨(some 29), .mv (.tmp 28), (some (24, true))⟩,
   ⟨(some 30), .fld 3 (.tmp 1), (some (29, false))⟩,
   ⟨(some 31), .load1 (.tmp 30), (some (29, false))⟩,
   ⟨(some 32), .call 39 [(.tmp 31), (.const (.int .i64 6))], (some (29, false))⟩,
   ⟨(some 33), .un .not (.tmp 32), (some (29, false))⟩,
   ⟨(some 34), .pick (.tmp 29) (.const (.bool true)) (.tmp 33), (some (24, true))⟩,
   ⟨(some 35), .mv (.tmp 34), (some (24, true))⟩,
   ⟨(some 36), .fld 4 (.tmp 1), (some (35, false))⟩,
   ⟨(some 37), .load1 (.tmp 36), (some (35, false))⟩,
   ⟨(some 38), .call 39 [(.tmp 37), (.const (.int .i64 6))], (some (35, false))⟩,
   ⟨(some 39), .un .not (.tmp 38), (some (35, false))⟩,
   ⟨(some 40), .pick (.tmp 35) (.const (.bool true)) (.tmp 39), (some (24, true))⟩,
   ⟨(some 41), .pick (.tmp 24) (.tmp 40) (.const (.bool false)), none⟩,
   ⟨(some 42), .mv (.tmp 41), none⟩,
   ⟨(some 43), .fld 0 (.tmp 1), (some (42, false))⟩,
   ⟨(some 44), .load1 (.tmp 43), (some (42, false))⟩,
   ⟨(some 45), .ar .neq (.tmp 44) (.const (.int .i64 2)), (some (42, false))⟩,
   ⟨(some 46), .mv (.tmp 45), (some (42, false))⟩,
   ⟨(some 47), .fld 2 (.tmp 1), (some (46, true))⟩,
   ⟨(some 48), .load1 (.tmp 47), (some (46, true))⟩,
   ⟨(some 49), .ar .neq (.tmp 48) (.const (.int .i64 0)), (some (46, true))⟩,
   ⟨(some 50), .mv (.tmp 49), (some (46, true))⟩,
   ⟨(some 51), .fld 3 (.tmp 1), (some (50, false))⟩,
   ⟨(some 52), .load1 (.tmp 51), (some (50, false))⟩,
   ⟨(some 53), .ar .neq (.tmp 52) (.const (.int .i64 0)), (some (50, false))⟩,
   ⟨(some 54), .pick (.tmp 50) (.const (.bool true)) (.tmp 53), (some (46, true))⟩,
   ⟨(some 55), .mv (.tmp 54), (some (46, true))⟩,
   ⟨(some 56), .fld 4 (.tmp 1), (some (55, false))⟩,
   ⟨(some 57), .load1 (.tmp 56), (some (55, false))⟩,
   ⟨(some 58), .ar .neq (.tmp 57) (.const (.int .i64 0)), (some (55, false))⟩,
   ⟨(some 59), .pick (.tmp 55) (.const (.bool true)) (.tmp 58), (some (46, true))⟩,
   ⟨(some 60), .pick (.tmp 46) (.tmp 59) (.const (.bool false)), (some (42, false))⟩,
   ⟨(some 61), .pick (.tmp 42) (.const (.bool true)) (.tmp 60), none⟩] []) c_ref09_Check_11
def c_ref09_Check_13 : MCode := .seq (.region [⟨(some 2), .mv (.const (.int .i64 0)), none⟩] []) .ret
def c_ref09_Check_9 : MCode := .seq c_ref09_Check_10 c_ref09_Check_13
def c_ref09_Check_5 : MCode := .seq c_ref09_Check_6 c_ref09_Check_9
def c_ref09_Check_1 : MCode := .seq c_ref09_Check_2 c_ref09_Check_5
def c_ref09_Check_0 : MCode := .seq (.region [⟨(some 1), .box (.tmp 0), none⟩,
   ⟨(some 2), .mv (.const (.int .i64 0)), none⟩] []) c_ref09_Check_1
/-- trefoil/trefoilref09.Check -/
def M_ref09_Check : MFun := ⟨1, c_ref09_Check_0, [.tmp 2]⟩
abbrev F_ref09_Check : Nat := 28
set_option maxRecDepth 100000 in
theorem m_ref09_Check : InProg Try.prog 0 28 M_ref09_Check := ⟨Try.f28, [], Try.func28, by kernel_rfl⟩
def c_serve_Table_ready_4 : MCode := .seq (.region [⟨(some 4), .mv (.const (.int .i64 3)), none⟩] []) .ret
def c_serve_Table_ready_3 : MCode := .cond (.tmp 13) c_serve_Table_ready_4 .skip
def c_serve_Table_ready_2 : MCode := .seq (.region [⟨(some 5), .mv (.tmp 0), none⟩,
   ⟨(some 6), .eq false .ptr (.tmp 5) (.const (.pointer none)), none⟩,
   ⟨(some 7), .mv (.tmp 6), none⟩,
   ⟨(some 8), .mv (.tmp 0), (some (7, false))⟩,
   ⟨(some 9), .nilCheck (.tmp 8), (some (7, false))⟩,
   ⟨(some 10), .fld 2 (.tmp 9), (some (7, false))⟩,
   ⟨(some 11), .load1 (.tmp 10), (some (7, false))⟩,
   ⟨(some 12), .un .not (.tmp 11), (some (7, false))⟩,
   ⟨(some 13), .pick (.tmp 7) (.const (.bool true)) (.tmp 12), none⟩] []) c_serve_Table_ready_3
def c_serve_Table_ready_5 : MCode := .seq (.region [⟨(some 14), .loadN 7 (.tmp 3), none⟩,
   ⟨(some 15), .call 7 [(.tmp 14)], none⟩,
   ⟨(some 4), .mv (.tmp 15), none⟩] []) .ret
def c_serve_Table_ready_1 : MCode := .seq c_serve_Table_ready_2 c_serve_Table_ready_5
def c_serve_Table_ready_0 : MCode := .seq (.region [⟨(some 3), .box (.tmp 1), none⟩,
   ⟨(some 4), .mv (.const (.int .i64 0)), none⟩] []) c_serve_Table_ready_1
/-- (*trefoil/serve.Table).ready -/
def M_serve_Table_ready : MFun := ⟨2, c_serve_Table_ready_0, [.tmp 4]⟩
abbrev F_serve_Table_ready : Nat := 29
set_option maxRecDepth 100000 in
theorem m_serve_Table_ready : InProg Try.prog 0 29 M_serve_Table_ready := ⟨Try.f29, [], Try.func29, by kernel_rfl⟩
def c_serve_Table_slot_5 : MCode := .seq (.region [⟨(some 19), .mv (.tmp 6), none⟩,
   ⟨(some 4), .mv (.tmp 19), none⟩,
   ⟨(some 5), .mv (.const (.int .i64 0)), none⟩] []) .ret
def c_serve_Table_slot_4 : MCode := .cond (.tmp 18) c_serve_Table_slot_5 .skip
def c_serve_Table_slot_3 : MCode := .seq (.region [⟨(some 18), .mv (.tmp 7), none⟩] []) c_serve_Table_slot_4
def c_serve_Table_slot_2 : MCode := .seq (.region [⟨(some 10), .mv (.tmp 0), none⟩,
   ⟨(some 11), .nilCheck (.tmp 10), none⟩,
   ⟨(some 12), .fld 0 (.tmp 11), none⟩,
   ⟨(some 13), .load1 (.tmp 12), none⟩,
   ⟨(some 14), .mv (.tmp 1), none⟩,
   ⟨(some 15), .look .int (.pointer none) true (.tmp 13) (.tmp 14), none⟩,
   ⟨(some 9), .mv (.tmp 15), none⟩,
   ⟨(some 16), .ext (.tmp 9) 0, none⟩,
   ⟨(some 17), .ext (.tmp 9) 1, none⟩,
   ⟨(some 6), .mv (.tmp 16), none⟩,
   ⟨(some 7), .mv (.tmp 17), none⟩] []) c_serve_Table_slot_3
def c_serve_Table_slot_9 : MCode := .seq (.region [⟨(some 4), .mv (.const (.pointer none)), none⟩,
   ⟨(some 5), .mv (.const (.int .i64 16)), none⟩] []) .ret
def c_serve_Table_slot_8 : MCode := .cond (.tmp 25) c_serve_Table_slot_9 .skip
def c_serve_Table_slot_7 : MCode := .seq (.region [⟨(some 20), .mv (.tmp 0), none⟩,
   ⟨(some 21), .nilCheck (.tmp 20), none⟩,
   ⟨(some 22), .fld 0 (.tmp 21), none⟩,
   ⟨(some 23), .load1 (.tmp 22), none⟩,
   ⟨(some 24), .lenM (.tmp 23), none⟩,
   ⟨(some 25), .ar .geq (.tmp 24) (.const (.int .i64 64)), none⟩] []) c_serve_Table_slot_8
def c_serve_Table_slot_13 : MCode := .seq (.region [⟨(some 45), .mv (.tmp 8), none⟩,
   ⟨(some 4), .mv (.tmp 45), none⟩,
   ⟨(some 5), .mv (.const (.int .i64 0)), none⟩] []) .ret
def c_serve_Table_slot_12 : MCode := .seq (.region [⟨(some 39), .mv (.tmp 0), none⟩,
   ⟨(some 40), .nilCheck (.tmp 39), none⟩,
   ⟨(some 41), .fld 0 (.tmp 40), none⟩,
   ⟨(some 42), .load1 (.tmp 41), none⟩,
   ⟨(some 43), .mv (.tmp 1), none⟩,
   ⟨(some 44), .mv (.tmp 8), none⟩,
   ⟨none, .mset .int (.tmp 42) (.tmp 43) (.tmp 44), none⟩] []) c_serve_Table_slot_13
def c_serve_Table_slot_11 : MCode := .seq (.region [⟨(some 33), .mv (.tmp 0), none⟩,
   ⟨(some 34), .nilCheck (.tmp 33), none⟩,
   ⟨(some 35), .fld 1 (.tmp 34), none⟩,
   ⟨(some 36), .load1 (.tmp 35), none⟩,
   ⟨(some 37), .build [(.int .i64 0), (.int .i64 0), (.int .i64 0), (.int .i64 0), (.int .i64 0), (.int .i64 0), (.int .i64 0), (.int .i64 0), (.int .i64 0), (.int .i64 0), (.int .i64 0), (.int .i64 0), (.int .i64 0), (.int .i64 0), (.bool false), (.bool false), (.int .i64 0), (.int .i64 0), (.int .i64 0), (.int .i64 0), (.int .i64 0), (.int .i64 0)] [(16, 1, (.tmp 36)), (17, 1, (.const (.int .i64 1)))], none⟩,
   ⟨(some 38), .box (.tmp 37), none⟩,
   ⟨(some 8), .mv (.tmp 38), none⟩] []) c_serve_Table_slot_12
def c_serve_Table_slot_10 : MCode := .seq (.region [⟨(some 26), .mv (.tmp 0), none⟩,
   ⟨(some 27), .nilCheck (.tmp 26), none⟩,
   ⟨(some 28), .fld 1 (.tmp 27), none⟩,
   ⟨(some 29), .load1 (.tmp 28), none⟩,
   ⟨(some 30), .ar .add (.tmp 29) (.const (.int .i64 1)), none⟩,
   ⟨(some 31), .nilCheck (.tmp 26), none⟩,
   ⟨(some 32), .fld 1 (.tmp 31), none⟩,
   ⟨none, .store 1 (.tmp 32) (.tmp 30), none⟩] []) c_serve_Table_slot_11
def c_serve_Table_slot_6 : MCode := .seq c_serve_Table_slot_7 c_serve_Table_slot_10
def c_serve_Table_slot_1 : MCode := .seq c_serve_Table_slot_2 c_serve_Table_slot_6
def c_serve_Table_slot_0 : MCode := .seq (.region [⟨(some 4), .mv (.const (.pointer none)), none⟩,
   ⟨(some 5), .mv (.const (.int .i64 0)), none⟩] []) c_serve_Table_slot_1
/-- (*trefoil/serve.Table).slot -/
def M_serve_Table_slot : MFun := ⟨2, c_serve_Table_slot_0, [.tmp 4, .tmp 5]⟩
abbrev F_serve_Table_slot : Nat := 30
set_option maxRecDepth 100000 in
theorem m_serve_Table_slot : InProg Try.prog 0 30 M_serve_Table_slot := ⟨Try.f30, [], Try.func30, by kernel_rfl⟩
def c_serve_Table_own_4 : MCode := .seq (.region [⟨(some 4), .mv (.const (.pointer none)), none⟩,
   ⟨(some 5), .mv (.const (.int .i64 3)), none⟩] []) .ret
def c_serve_Table_own_3 : MCode := .cond (.tmp 16) c_serve_Table_own_4 .skip
def c_serve_Table_own_2 : MCode := .seq (.region [⟨(some 8), .mv (.tmp 0), none⟩,
   ⟨(some 9), .eq false .ptr (.tmp 8) (.const (.pointer none)), none⟩,
   ⟨(some 10), .mv (.tmp 9), none⟩,
   ⟨(some 11), .mv (.tmp 0), (some (10, false))⟩,
   ⟨(some 12), .nilCheck (.tmp 11), (some (10, false))⟩,
   ⟨(some 13), .fld 2 (.tmp 12), (some (10, false))⟩,
   ⟨(some 14), .load1 (.tmp 13), (some (10, false))⟩,
   ⟨(some 15), .un .not (.tmp 14), (some (10, false))⟩,
   ⟨(some 16), .pick (.tmp 10) (.const (.bool true)) (.tmp 15), none⟩] []) c_serve_Table_own_3
def c_serve_Table_own_10 : MCode := .seq (.region [⟨(some 4), .mv (.const (.pointer none)), none⟩,
   ⟨(some 5), .mv (.const (.int .i64 6)), none⟩] []) .ret
def c_serve_Table_own_13 : MCode := .seq (.region [⟨(some 4), .mv (.const (.pointer none)), none⟩,
   ⟨(some 5), .mv (.const (.int .i64 8)), none⟩] []) .ret
def c_serve_Table_own_12 : MCode := .cond (.tmp 36) c_serve_Table_own_13 .skip
def c_serve_Table_own_11 : MCode := .seq (.region [⟨(some 37), .mv (.tmp 6), none⟩,
   ⟨(some 38), .nilCheck (.tmp 37), none⟩,
   ⟨(some 39), .fld 17 (.tmp 38), none⟩,
   ⟨(some 40), .load1 (.tmp 39), none⟩,
   ⟨(some 41), .ar .neq (.tmp 40) (.const (.int .i64 1)), none⟩,
   ⟨(some 36), .mv (.tmp 41), none⟩] []) c_serve_Table_own_12
def c_serve_Table_own_9 : MCode := .cond (.tmp 26) c_serve_Table_own_10 c_serve_Table_own_11
def c_serve_Table_own_8 : MCode := .seq (.region [⟨(some 27), .mv (.tmp 7), none⟩,
   ⟨(some 28), .un .not (.tmp 27), none⟩,
   ⟨(some 29), .mv (.tmp 28), none⟩,
   ⟨(some 30), .mv (.tmp 6), (some (29, false))⟩,
   ⟨(some 31), .nilCheck (.tmp 30), (some (29, false))⟩,
   ⟨(some 32), .fld 14 (.tmp 31), (some (29, false))⟩,
   ⟨(some 33), .load1 (.tmp 32), (some (29, false))⟩,
   ⟨(some 34), .un .not (.tmp 33), (some (29, false))⟩,
   ⟨(some 35), .pick (.tmp 29) (.const (.bool true)) (.tmp 34), none⟩,
   ⟨(some 26), .mv (.tmp 35), none⟩] []) c_serve_Table_own_9
def c_serve_Table_own_7 : MCode := .block 0 c_serve_Table_own_8
def c_serve_Table_own_14 : MCode := .seq (.region [⟨(some 42), .mv (.tmp 6), none⟩,
   ⟨(some 4), .mv (.tmp 42), none⟩,
   ⟨(some 5), .mv (.const (.int .i64 0)), none⟩] []) .ret
def c_serve_Table_own_6 : MCode := .seq c_serve_Table_own_7 c_serve_Table_own_14
def c_serve_Table_own_5 : MCode := .seq (.region [⟨(some 18), .mv (.tmp 0), none⟩,
   ⟨(some 19), .nilCheck (.tmp 18), none⟩,
   ⟨(some 20), .fld 0 (.tmp 19), none⟩,
   ⟨(some 21), .load1 (.tmp 20), none⟩,
   ⟨(some 22), .mv (.tmp 1), none⟩,
   ⟨(some 23), .look .int (.pointer none) true (.tmp 21) (.tmp 22), none⟩,
   ⟨(some 17), .mv (.tmp 23), none⟩,
   ⟨(some 24), .ext (.tmp 17) 0, none⟩,
   ⟨(some 25), .ext (.tmp 17) 1, none⟩,
   ⟨(some 6), .mv (.tmp 24), none⟩,
   ⟨(some 7), .mv (.tmp 25), none⟩] []) c_serve_Table_own_6
def c_serve_Table_own_1 : MCode := .seq c_serve_Table_own_2 c_serve_Table_own_5
def c_serve_Table_own_0 : MCode := .seq (.region [⟨(some 4), .mv (.const (.pointer none)), none⟩,
   ⟨(some 5), .mv (.const (.int .i64 0)), none⟩] []) c_serve_Table_own_1
/-- (*trefoil/serve.Table).own -/
def M_serve_Table_own : MFun := ⟨2, c_serve_Table_own_0, [.tmp 4, .tmp 5]⟩
abbrev F_serve_Table_own : Nat := 31
set_option maxRecDepth 100000 in
theorem m_serve_Table_own : InProg Try.prog 0 31 M_serve_Table_own := ⟨Try.f31, [], Try.func31, by kernel_rfl⟩
def c_ref33_Table_Add_4 : MCode := .seq (.region [⟨(some 13), .loadN 1 (.tmp 3), none⟩,
   ⟨(some 14), .loadN 7 (.tmp 4), none⟩,
   ⟨(some 15), .call 8 [(.tmp 14)], none⟩,
   ⟨none, .store 1 (.tmp 6) (.tmp 13), none⟩,
   ⟨(some 7), .mv (.tmp 15), none⟩] [(0, 2)]) .ret
def c_ref33_Table_Add_3 : MCode := .cond (.tmp 12) c_ref33_Table_Add_4 .skip
def c_ref33_Table_Add_2 : MCode := .seq (.region [⟨(some 10), .loadN 7 (.tmp 4), none⟩,
   ⟨(some 11), .call 8 [(.tmp 10)], none⟩,
   ⟨(some 12), .ar .neq (.tmp 11) (.const (.int .i64 0)), none⟩] []) c_ref33_Table_Add_3
def c_ref33_Table_Add_10 : MCode := (.region [⟨(some 25), .fld 0 (.tmp 3), none⟩,
   ⟨(some 26), .load1 (.tmp 25), none⟩,
   ⟨(some 27), .mv (.tmp 8), none⟩,
   ⟨(some 28), .ixV 22 (.tmp 26) (.tmp 27), none⟩,
   ⟨(some 29), .loadN 22 (.tmp 28), none⟩,
   ⟨none, .store 22 (.tmp 9) (.tmp 29), none⟩] [])
def c_ref33_Table_Add_9 : MCode := .cond (.tmp 24) c_ref33_Table_Add_10 .skip
def c_ref33_Table_Add_8 : MCode := .seq (.region [⟨(some 23), .mv (.tmp 8), none⟩,
   ⟨(some 24), .ar .geq (.tmp 23) (.const (.int .i64 0)), none⟩] []) c_ref33_Table_Add_9
def c_ref33_Table_Add_14 : MCode := .seq (.region [⟨(some 36), .loadN 1 (.tmp 3), none⟩,
   ⟨none, .store 1 (.tmp 6) (.tmp 36), none⟩,
   ⟨(some 7), .mv (.const (.int .i64 41)), none⟩] []) .ret
def c_ref33_Table_Add_13 : MCode := .cond (.tmp 35) c_ref33_Table_Add_14 .skip
def c_ref33_Table_Add_12 : MCode := .seq (.region [⟨(some 30), .mv (.tmp 2), none⟩,
   ⟨(some 31), .un .not (.tmp 30), none⟩,
   ⟨(some 32), .mv (.tmp 31), none⟩,
   ⟨(some 33), .fld 15 (.tmp 9), (some (32, true))⟩,
   ⟨(some 34), .load1 (.tmp 33), (some (32, true))⟩,
   ⟨(some 35), .pick (.tmp 32) (.tmp 34) (.const (.bool false)), none⟩] []) c_ref33_Table_Add_13
def c_ref33_Table_Add_18 : MCode := .seq (.region [⟨(some 42), .loadN 1 (.tmp 3), none⟩,
   ⟨none, .store 1 (.tmp 6) (.tmp 42), none⟩,
   ⟨(some 7), .mv (.const (.int .i64 7)), none⟩] []) .ret
def c_ref33_Table_Add_17 : MCode := .cond (.tmp 41) c_ref33_Table_Add_18 .skip
def c_ref33_Table_Add_16 : MCode := .seq (.region [⟨(some 37), .mv (.tmp 2), none⟩,
   ⟨(some 38), .mv (.tmp 37), none⟩,
   ⟨(some 39), .fld 16 (.tmp 9), (some (38, true))⟩,
   ⟨(some 40), .load1 (.tmp 39), (some (38, true))⟩,
   ⟨(some 41), .pick (.tmp 38) (.tmp 40) (.const (.bool false)), none⟩] []) c_ref33_Table_Add_17
def c_ref33_Table_Add_22 : MCode := .seq (.region [⟨(some 51), .loadN 1 (.tmp 3), none⟩,
   ⟨none, .store 1 (.tmp 6) (.tmp 51), none⟩,
   ⟨(some 7), .mv (.const (.int .i64 16)), none⟩] []) .ret
def c_ref33_Table_Add_21 : MCode := .cond (.tmp 50) c_ref33_Table_Add_22 .skip
def c_ref33_Table_Add_20 : MCode := .seq (.region [⟨(some 43), .mv (.tmp 8), none⟩,
   ⟨(some 44), .ar .lss (.tmp 43) (.const (.int .i64 0)), none⟩,
   ⟨(some 45), .mv (.tmp 44), none⟩,
   ⟨(some 46), .fld 0 (.tmp 3), (some (45, true))⟩,
   ⟨(some 47), .load1 (.tmp 46), (some (45, true))⟩,
   ⟨(some 48), .lenV (.tmp 47), (some (45, true))⟩,
   ⟨(some 49), .ar .geq (.tmp 48) (.const (.int .i64 64)), (some (45, true))⟩,
   ⟨(some 50), .pick (.tmp 45) (.tmp 49) (.const (.bool false)), none⟩] []) c_ref33_Table_Add_21
def c_ref33_Table_Add_26 : MCode := (.region [⟨(some 53), .loadN 7 (.tmp 4), none⟩,
   ⟨(some 54), .fld 8 (.tmp 9), none⟩,
   ⟨none, .store 7 (.tmp 54) (.tmp 53), none⟩,
   ⟨(some 55), .fld 16 (.tmp 9), none⟩,
   ⟨none, .store 1 (.tmp 55) (.const (.bool true)), none⟩] [])
def c_ref33_Table_Add_27 : MCode := (.region [⟨(some 56), .loadN 7 (.tmp 4), none⟩,
   ⟨(some 57), .fld 1 (.tmp 9), none⟩,
   ⟨none, .store 7 (.tmp 57) (.tmp 56), none⟩,
   ⟨(some 58), .fld 15 (.tmp 9), none⟩,
   ⟨none, .store 1 (.tmp 58) (.const (.bool true)), none⟩] [])
def c_ref33_Table_Add_25 : MCode := .cond (.tmp 52) c_ref33_Table_Add_26 c_ref33_Table_Add_27
def c_ref33_Table_Add_24 : MCode := .seq (.region [⟨(some 52), .mv (.tmp 2), none⟩] []) c_ref33_Table_Add_25
def c_ref33_Table_Add_28 : MCode := .seq (.region [⟨(some 59), .loadN 1 (.tmp 3), none⟩,
   ⟨(some 60), .mv (.tmp 8), none⟩,
   ⟨(some 61), .loadN 22 (.tmp 9), none⟩,
   ⟨(some 62), .call 40 [(.tmp 59), (.tmp 60), (.tmp 61)], none⟩,
   ⟨none, .store 1 (.tmp 6) (.tmp 62), none⟩,
   ⟨(some 7), .mv (.const (.int .i64 0)), none⟩] []) .ret
def c_ref33_Table_Add_23 : MCode := .seq c_ref33_Table_Add_24 c_ref33_Table_Add_28
def c_ref33_Table_Add_19 : MCode := .seq c_ref33_Table_Add_20 c_ref33_Table_Add_23
def c_ref33_Table_Add_15 : MCode := .seq c_ref33_Table_Add_16 c_ref33_Table_Add_19
def c_ref33_Table_Add_11 : MCode := .seq c_ref33_Table_Add_12 c_ref33_Table_Add_15
def c_ref33_Table_Add_7 : MCode := .seq c_ref33_Table_Add_8 c_ref33_Table_Add_11
def c_ref33_Table_Add_6 : MCode := .seq (.region [⟨(some 20), .fld 0 (.tmp 4), none⟩,
   ⟨(some 21), .load1 (.tmp 20), none⟩,
   ⟨(some 22), .build [(.int .i64 0), (.int .i64 0), (.int .i64 0), (.int .i64 0), (.int .i64 0), (.int .i64 0), (.int .i64 0), (.int .i64 0), (.int .i64 0), (.int .i64 0), (.int .i64 0), (.int .i64 0), (.int .i64 0), (.int .i64 0), (.int .i64 0), (.bool false), (.bool false), (.int .i64 0), (.int .i64 0), (.int .i64 0), (.int .i64 0), (.int .i64 0)] [(0, 1, (.tmp 21)), (17, 1, (.const (.int .i64 1)))], none⟩,
   ⟨(some 9), .new [(.int .i64 0), (.int .i64 0), (.int .i64 0), (.int .i64 0), (.int .i64 0), (.int .i64 0), (.int .i64 0), (.int .i64 0), (.int .i64 0), (.int .i64 0), (.int .i64 0), (.int .i64 0), (.int .i64 0), (.int .i64 0), (.int .i64 0), (.bool false), (.bool false), (.int .i64 0), (.int .i64 0), (.int .i64 0), (.int .i64 0), (.int .i64 0)], none⟩,
   ⟨none, .store 22 (.tmp 9) (.tmp 22), none⟩] []) c_ref33_Table_Add_7
def c_ref33_Table_Add_5 : MCode := .seq (.region [⟨(some 16), .loadN 1 (.tmp 3), none⟩,
   ⟨(some 17), .fld 0 (.tmp 4), none⟩,
   ⟨(some 18), .load1 (.tmp 17), none⟩,
   ⟨(some 19), .call 25 [(.tmp 16), (.tmp 18)], none⟩,
   ⟨(some 8), .mv (.tmp 19), none⟩] []) c_ref33_Table_Add_6
def c_ref33_Table_Add_1 : MCode := .seq c_ref33_Table_Add_2 c_ref33_Table_Add_5
def c_ref33_Table_Add_0 : MCode := .seq (.region [⟨(some 3), .box (.tmp 0), none⟩,
   ⟨(some 4), .box (.tmp 1), none⟩,
   ⟨(some 6), .new [(.slice none 0 0)], none⟩,
   ⟨(some 7), .mv (.const (.int .i64 0)), none⟩] []) c_ref33_Table_Add_1
/-- (trefoil/trefoilref33.Table).Add -/
def M_ref33_Table_Add : MFun := ⟨3, c_ref33_Table_Add_0, [.cellN 6 1, .tmp 7]⟩
abbrev F_ref33_Table_Add : Nat := 32
set_option maxRecDepth 100000 in
theorem m_ref33_Table_Add : InProg Try.prog 0 32 M_ref33_Table_Add := ⟨Try.f32, [], Try.func32, by kernel_rfl⟩
def c_ref33_Table_Grant_5 : MCode := .seq (.region [⟨(some 19), .loadN 1 (.tmp 3), none⟩,
   ⟨(some 20), .mv (.tmp 9), none⟩,
   ⟨none, .store 1 (.tmp 6) (.tmp 19), none⟩,
   ⟨(some 7), .mv (.tmp 20), none⟩] []) .ret
def c_ref33_Table_Grant_4 : MCode := .cond (.tmp 18) c_ref33_Table_Grant_5 .skip
def c_ref33_Table_Grant_3 : MCode := .seq (.region [⟨(some 17), .mv (.tmp 9), none⟩,
   ⟨(some 18), .ar .neq (.tmp 17) (.const (.int .i64 0)), none⟩] []) c_ref33_Table_Grant_4
def c_ref33_Table_Grant_10 : MCode := .seq (.region [⟨(some 42), .loadN 1 (.tmp 3), none⟩,
   ⟨none, .store 1 (.tmp 6) (.tmp 42), none⟩,
   ⟨(some 7), .mv (.const (.int .i64 40)), none⟩] []) .ret
def c_ref33_Table_Grant_9 : MCode := .cond (.tmp 41) c_ref33_Table_Grant_10 .skip
def c_ref33_Table_Grant_8 : MCode := .seq (.region [⟨(some 26), .fld 2 (.tmp 5), none⟩,
   ⟨(some 27), .load1 (.tmp 26), none⟩,
   ⟨(some 28), .fld 1 (.tmp 10), none⟩,
   ⟨(some 29), .fld 6 (.tmp 28), none⟩,
   ⟨(some 30), .load1 (.tmp 29), none⟩,
   ⟨(some 31), .ar .neq (.tmp 27) (.tmp 30), none⟩,
   ⟨(some 32), .mv (.tmp 31), none⟩,
   ⟨(some 33), .fld 1 (.tmp 5), (some (32, false))⟩,
   ⟨(some 34), .load1 (.tmp 33), (some (32, false))⟩,
   ⟨(some 35), .ar .lss (.tmp 34) (.const (.int .i64 0)), (some (32, false))⟩,
   ⟨(some 36), .pick (.tmp 32) (.const (.bool true)) (.tmp 35), none⟩,
   ⟨(some 37), .mv (.tmp 36), none⟩,
   ⟨(some 38), .fld 0 (.tmp 5), (some (37, false))⟩,
   ⟨(some 39), .load1 (.tmp 38), (some (37, false))⟩,
   ⟨(some 40), .ar .lss (.tmp 39) (.const (.int .i64 0)), (some (37, false))⟩,
   ⟨(some 41), .pick (.tmp 37) (.const (.bool true)) (.tmp 40), none⟩] []) c_ref33_Table_Grant_9
def c_ref33_Table_Grant_12 : MCode := .seq (.region [⟨(some 46), .loadN 1 (.tmp 3), none⟩,
   ⟨(some 47), .mv (.tmp 8), none⟩,
   ⟨(some 48), .loadN 22 (.tmp 10), none⟩,
   ⟨(some 49), .call 40 [(.tmp 46), (.tmp 47), (.tmp 48)], none⟩,
   ⟨none, .store 1 (.tmp 6) (.tmp 49), none⟩,
   ⟨(some 7), .mv (.const (.int .i64 0)), none⟩] []) .ret
def c_ref33_Table_Grant_11 : MCode := .seq (.region [⟨(some 43), .loadN 3 (.tmp 5), none⟩,
   ⟨(some 44), .fld 17 (.tmp 10), none⟩,
   ⟨none, .store 1 (.tmp 44) (.const (.int .i64 2)), none⟩,
   ⟨(some 45), .fld 19 (.tmp 10), none⟩,
   ⟨none, .store 3 (.tmp 45) (.tmp 43), none⟩] [(0, 2)]) c_ref33_Table_Grant_12
def c_ref33_Table_Grant_7 : MCode := .seq c_ref33_Table_Grant_8 c_ref33_Table_Grant_11
def c_ref33_Table_Grant_6 : MCode := .seq (.region [⟨(some 21), .fld 0 (.tmp 3), none⟩,
   ⟨(some 22), .load1 (.tmp 21), none⟩,
   ⟨(some 23), .mv (.tmp 8), none⟩,
   ⟨(some 24), .ixV 22 (.tmp 22) (.tmp 23), none⟩,
   ⟨(some 25), .loadN 22 (.tmp 24), none⟩,
   ⟨(some 10), .new [(.int .i64 0), (.int .i64 0), (.int .i64 0), (.int .i64 0), (.int .i64 0), (.int .i64 0), (.int .i64 0), (.int .i64 0), (.int .i64 0), (.int .i64 0), (.int .i64 0), (.int .i64 0), (.int .i64 0), (.int .i64 0), (.int .i64 0), (.bool false), (.bool false), (.int .i64 0), (.int .i64 0), (.int .i64 0), (.int .i64 0), (.int .i64 0)], none⟩,
   ⟨none, .store 22 (.tmp 10) (.tmp 25), none⟩] []) c_ref33_Table_Grant_7
def c_ref33_Table_Grant_2 : MCode := .seq c_ref33_Table_Grant_3 c_ref33_Table_Grant_6
def c_ref33_Table_Grant_1 : MCode := .seq (.region [⟨(some 12), .loadN 1 (.tmp 3), none⟩,
   ⟨(some 13), .mv (.tmp 1), none⟩,
   ⟨(some 14), .call 41 [(.tmp 12), (.tmp 13)], none⟩,
   ⟨(some 11), .mv (.tmp 14), none⟩,
   ⟨(some 15), .ext (.tmp 11) 0, none⟩,
   ⟨(some 16), .ext (.tmp 11) 1, none⟩,
   ⟨(some 8), .mv (.tmp 15), none⟩,
   ⟨(some 9), .mv (.tmp 16), none⟩] []) c_ref33_Table_Grant_2
def c_ref33_Table_Grant_0 : MCode := .seq (.region [⟨(some 3), .box (.tmp 0), none⟩,
   ⟨(some 5), .box (.tmp 2), none⟩,
   ⟨(some 6), .new [(.slice none 0 0)], none⟩,
   ⟨(some 7), .mv (.const (.int .i64 0)), none⟩] []) c_ref33_Table_Grant_1
/-- (trefoil/trefoilref33.Table).Grant -/
def M_ref33_Table_Grant : MFun := ⟨3, c_ref33_Table_Grant_0, [.cellN 6 1, .tmp 7]⟩
abbrev F_ref33_Table_Grant : Nat := 33
set_option maxRecDepth 100000 in
theorem m_ref33_Table_Grant : InProg Try.prog 0 33 M_ref33_Table_Grant := ⟨Try.f33, [], Try.func33, by kernel_rfl⟩
def c_ref33_Table_Refuse_5 : MCode := .seq (.region [⟨(some 19), .loadN 1 (.tmp 3), none⟩,
   ⟨(some 20), .mv (.tmp 9), none⟩,
   ⟨none, .store 1 (.tmp 6) (.tmp 19), none⟩,
   ⟨(some 7), .mv (.tmp 20), none⟩] []) .ret
def c_ref33_Table_Refuse_4 : MCode := .cond (.tmp 18) c_ref33_Table_Refuse_5 .skip
def c_ref33_Table_Refuse_3 : MCode := .seq (.region [⟨(some 17), .mv (.tmp 9), none⟩,
   ⟨(some 18), .ar .neq (.tmp 17) (.const (.int .i64 0)), none⟩] []) c_ref33_Table_Refuse_4
def c_ref33_Table_Refuse_9 : MCode := .seq (.region [⟨(some 23), .loadN 1 (.tmp 3), none⟩,
   ⟨none, .store 1 (.tmp 6) (.tmp 23), none⟩,
   ⟨(some 7), .mv (.const (.int .i64 1)), none⟩] []) .ret
def c_ref33_Table_Refuse_8 : MCode := .cond (.tmp 22) c_ref33_Table_Refuse_9 .skip
def c_ref33_Table_Refuse_7 : MCode := .seq (.region [⟨(some 21), .mv (.tmp 2), none⟩,
   ⟨(some 22), .ar .eql (.tmp 21) (.const (.int .i64 0)), none⟩] []) c_ref33_Table_Refuse_8
def c_ref33_Table_Refuse_12 : MCode := .seq (.region [⟨(some 32), .loadN 1 (.tmp 3), none⟩,
   ⟨(some 33), .mv (.tmp 8), none⟩,
   ⟨(some 34), .loadN 22 (.tmp 10), none⟩,
   ⟨(some 35), .call 40 [(.tmp 32), (.tmp 33), (.tmp 34)], none⟩,
   ⟨none, .store 1 (.tmp 6) (.tmp 35), none⟩,
   ⟨(some 7), .mv (.const (.int .i64 0)), none⟩] []) .ret
def c_ref33_Table_Refuse_11 : MCode := .seq (.region [⟨(some 29), .mv (.tmp 2), none⟩,
   ⟨(some 30), .fld 17 (.tmp 10), none⟩,
   ⟨none, .store 1 (.tmp 30) (.const (.int .i64 3)), none⟩,
   ⟨(some 31), .fld 18 (.tmp 10), none⟩,
   ⟨none, .store 1 (.tmp 31) (.tmp 29), none⟩] []) c_ref33_Table_Refuse_12
def c_ref33_Table_Refuse_10 : MCode := .seq (.region [⟨(some 24), .fld 0 (.tmp 3), none⟩,
   ⟨(some 25), .load1 (.tmp 24), none⟩,
   ⟨(some 26), .mv (.tmp 8), none⟩,
   ⟨(some 27), .ixV 22 (.tmp 25) (.tmp 26), none⟩,
   ⟨(some 28), .loadN 22 (.tmp 27), none⟩,
   ⟨(some 10), .new [(.int .i64 0), (.int .i64 0), (.int .i64 0), (.int .i64 0), (.int .i64 0), (.int .i64 0), (.int .i64 0), (.int .i64 0), (.int .i64 0), (.int .i64 0), (.int .i64 0), (.int .i64 0), (.int .i64 0), (.int .i64 0), (.int .i64 0), (.bool false), (.bool false), (.int .i64 0), (.int .i64 0), (.int .i64 0), (.int .i64 0), (.int .i64 0)], none⟩,
   ⟨none, .store 22 (.tmp 10) (.tmp 28), none⟩] []) c_ref33_Table_Refuse_11
def c_ref33_Table_Refuse_6 : MCode := .seq c_ref33_Table_Refuse_7 c_ref33_Table_Refuse_10
def c_ref33_Table_Refuse_2 : MCode := .seq c_ref33_Table_Refuse_3 c_ref33_Table_Refuse_6
def c_ref33_Table_Refuse_1 : MCode := .seq (.region [⟨(some 12), .loadN 1 (.tmp 3), none⟩,
   ⟨(some 13), .mv (.tmp 1), none⟩,
   ⟨(some 14), .call 41 [(.tmp 12), (.tmp 13)], none⟩,
   ⟨(some 11), .mv (.tmp 14), none⟩,
   ⟨(some 15), .ext (.tmp 11) 0, none⟩,
   ⟨(some 16), .ext (.tmp 11) 1, none⟩,
   ⟨(some 8), .mv (.tmp 15), none⟩,
   ⟨(some 9), .mv (.tmp 16), none⟩] []) c_ref33_Table_Refuse_2
def c_ref33_Table_Refuse_0 : MCode := .seq (.region [⟨(some 3), .box (.tmp 0), none⟩,
   ⟨(some 6), .new [(.slice none 0 0)], none⟩,
   ⟨(some 7), .mv (.const (.int .i64 0)), none⟩] []) c_ref33_Table_Refuse_1
/-- (trefoil/trefoilref33.Table).Refuse -/
def M_ref33_Table_Refuse : MFun := ⟨3, c_ref33_Table_Refuse_0, [.cellN 6 1, .tmp 7]⟩
abbrev F_ref33_Table_Refuse : Nat := 34
set_option maxRecDepth 100000 in
theorem m_ref33_Table_Refuse : InProg Try.prog 0 34 M_ref33_Table_Refuse := ⟨Try.f34, [], Try.func34, by kernel_rfl⟩
def c_serve_Table_open_8 : MCode := .cond (.tmp 15) .skip (.exit 0)
def c_serve_Table_open_15 : MCode := (.region [⟨(some 41), .mv (.tmp 3), none⟩,
   ⟨(some 42), .mv (.tmp 6), none⟩,
   ⟨(some 43), .buildSlice [(.pointer none)] 1 [(0, 1, (.tmp 42))], none⟩,
   ⟨(some 44), .app 1 8 (.tmp 41) (.tmp 43), none⟩,
   ⟨(some 3), .mv (.tmp 44), none⟩] [])
def c_serve_Table_open_14 : MCode := .cond (.tmp 40) c_serve_Table_open_15 .skip
def c_serve_Table_open_13 : MCode := .seq (.region [⟨(some 24), .mv (.tmp 6), none⟩,
   ⟨(some 25), .nilCheck (.tmp 24), none⟩,
   ⟨(some 26), .fld 17 (.tmp 25), none⟩,
   ⟨(some 27), .load1 (.tmp 26), none⟩,
   ⟨(some 28), .ar .eql (.tmp 27) (.const (.int .i64 1)), none⟩,
   ⟨(some 29), .mv (.tmp 28), none⟩,
   ⟨(some 30), .mv (.tmp 6), (some (29, true))⟩,
   ⟨(some 31), .nilCheck (.tmp 30), (some (29, true))⟩,
   ⟨(some 32), .fld 14 (.tmp 31), (some (29, true))⟩,
   ⟨(some 33), .load1 (.tmp 32), (some (29, true))⟩,
   ⟨(some 34), .pick (.tmp 29) (.tmp 33) (.const (.bool false)), none⟩,
   ⟨(some 35), .mv (.tmp 34), none⟩,
   ⟨(some 36), .mv (.tmp 6), (some (35, true))⟩,
   ⟨(some 37), .nilCheck (.tmp 36), (some (35, true))⟩,
   ⟨(some 38), .fld 15 (.tmp 37), (some (35, true))⟩,
   ⟨(some 39), .load1 (.tmp 38), (some (35, true))⟩,
   ⟨(some 40), .pick (.tmp 35) (.tmp 39) (.const (.bool false)), none⟩] []) c_serve_Table_open_14
def c_serve_Table_open_12 : MCode := .seq (.region [⟨(some 18), .mv (.tmp 0), none⟩,
   ⟨(some 19), .nilCheck (.tmp 18), none⟩,
   ⟨(some 20), .fld 0 (.tmp 19), none⟩,
   ⟨(some 21), .load1 (.tmp 20), none⟩,
   ⟨(some 22), .mv (.tmp 5), none⟩,
   ⟨(some 23), .look .int (.pointer none) false (.tmp 21) (.tmp 22), none⟩,
   ⟨(some 6), .mv (.tmp 23), none⟩] []) c_serve_Table_open_13
def c_serve_Table_open_11 : MCode := .seq (.region [⟨(some 16), .ixV 1 (.tmp 12) (.tmp 14), none⟩,
   ⟨(some 17), .load1 (.tmp 16), none⟩,
   ⟨(some 5), .mv (.tmp 17), none⟩] []) c_serve_Table_open_12
def c_serve_Table_open_10 : MCode := .block 1 c_serve_Table_open_11
def c_serve_Table_open_16 : MCode := (.region [⟨(some 45), .ar .add (.tmp 14) (.const (.int .i64 1)), none⟩,
   ⟨(some 14), .mv (.tmp 45), none⟩] [])
def c_serve_Table_open_9 : MCode := .seq c_serve_Table_open_10 c_serve_Table_open_16
def c_serve_Table_open_7 : MCode := .seq c_serve_Table_open_8 c_serve_Table_open_9
def c_serve_Table_open_6 : MCode := .seq (.region [⟨(some 15), .ar .lss (.tmp 14) (.tmp 13), none⟩] []) c_serve_Table_open_7
def c_serve_Table_open_5 : MCode := .loop [0, 3, 12, 13, 14] c_serve_Table_open_6
def c_serve_Table_open_4 : MCode := .block 0 c_serve_Table_open_5
def c_serve_Table_open_3 : MCode := .seq (.region [⟨(some 7), .mv (.tmp 0), none⟩,
   ⟨(some 8), .nilCheck (.tmp 7), none⟩,
   ⟨(some 9), .fld 0 (.tmp 8), none⟩,
   ⟨(some 10), .load1 (.tmp 9), none⟩,
   ⟨(some 11), .call 37 [(.tmp 10)], none⟩,
   ⟨(some 12), .call 36 [(.tmp 11)], none⟩,
   ⟨(some 13), .lenV (.tmp 12), none⟩,
   ⟨(some 14), .mv (.const (.int .i64 0)), none⟩] []) c_serve_Table_open_4
def c_serve_Table_open_18 : MCode := .seq (.region [⟨(some 48), .mv (.tmp 3), none⟩,
   ⟨(some 2), .mv (.tmp 48), none⟩] []) .ret
def c_serve_Table_open_17 : MCode := .seq (.region [⟨(some 46), .mv (.tmp 3), none⟩,
   ⟨(some 47), .call 42 [(.tmp 46), (.func 43)], none⟩] []) c_serve_Table_open_18
def c_serve_Table_open_2 : MCode := .seq c_serve_Table_open_3 c_serve_Table_open_17
def c_serve_Table_open_1 : MCode := .seq (.region [⟨(some 3), .mv (.const (.slice none 0 0)), none⟩] []) c_serve_Table_open_2
def c_serve_Table_open_0 : MCode := .seq (.region [⟨(some 2), .mv (.const (.slice none 0 0)), none⟩] []) c_serve_Table_open_1
/-- (*trefoil/serve.Table).open -/
def M_serve_Table_open : MFun := ⟨1, c_serve_Table_open_0, [.tmp 2]⟩
abbrev F_serve_Table_open : Nat := 35
set_option maxRecDepth 100000 in
theorem m_serve_Table_open : InProg Try.prog 0 35 M_serve_Table_open := ⟨Try.f35, [[0, 3, 12, 13, 14]], Try.func35, by kernel_rfl⟩
def c_maps_Keys_map_int_serve_slot_int_serve_slot_1 : MCode := .seq (.region [⟨(some 3), .mkF 46 [] [(.tmp 1)], none⟩,
   ⟨(some 2), .mv (.tmp 3), none⟩] []) .ret
def c_maps_Keys_map_int_serve_slot_int_serve_slot_0 : MCode := .seq (.region [⟨(some 1), .box (.tmp 0), none⟩,
   ⟨(some 2), .mv (.const .nilFunc), none⟩] []) c_maps_Keys_map_int_serve_slot_int_serve_slot_1
/-- maps.Keys[map[int]*trefoil/serve.slot,int,*trefoil/serve.slot] -/
def M_maps_Keys_map_int_serve_slot_int_serve_slot : MFun := ⟨1, c_maps_Keys_map_int_serve_slot_int_serve_slot_0, [.tmp 2]⟩
abbrev F_maps_Keys_map_int_serve_slot_int_serve_slot : Nat := 37
set_option maxRecDepth 100000 in
theorem m_maps_Keys_map_int_serve_slot_int_serve_slot : InProg Try.prog 0 37 M_maps_Keys_map_int_serve_slot_int_serve_slot := ⟨Try.f37, [], Try.func37, by kernel_rfl⟩
def c_shape_side_1 : MCode := .seq (.region [⟨(some 3), .mv (.tmp 0), none⟩,
   ⟨(some 4), .ar .geq (.tmp 3) (.const (.int .i64 1)), none⟩,
   ⟨(some 5), .mv (.tmp 4), none⟩,
   ⟨(some 6), .mv (.tmp 0), (some (5, true))⟩,
   ⟨(some 7), .ar .leq (.tmp 6) (.const (.int .i64 6)), (some (5, true))⟩,
   ⟨(some 8), .pick (.tmp 5) (.tmp 7) (.const (.bool false)), none⟩,
   ⟨(some 2), .mv (.tmp 8), none⟩] []) .ret
def c_shape_side_0 : MCode := .seq (.region [⟨(some 2), .mv (.const (.bool false)), none⟩] []) c_shape_side_1
/-- trefoil/shape.side -/
def M_shape_side : MFun := ⟨1, c_shape_side_0, [.tmp 2]⟩
abbrev F_shape_side : Nat := 38
set_option maxRecDepth 100000 in
theorem m_shape_side : InProg Try.prog 0 38 M_shape_side := ⟨Try.f38, [], Try.func38, by kernel_rfl⟩
def c_ref09_in_1 : MCode := .seq (.region [⟨(some 5), .mv (.tmp 0), none⟩,
   ⟨(some 6), .ar .geq (.tmp 5) (.const (.int .i64 1)), none⟩,
   ⟨(some 7), .mv (.tmp 6), none⟩,
   ⟨(some 8), .mv (.tmp 0), (some (7, true))⟩,
   ⟨(some 9), .mv (.tmp 1), (some (7, true))⟩,
   ⟨(some 10), .ar .leq (.tmp 8) (.tmp 9), (some (7, true))⟩,
   ⟨(some 11), .pick (.tmp 7) (.tmp 10) (.const (.bool false)), none⟩,
   ⟨(some 4), .mv (.tmp 11), none⟩] []) .ret
def c_ref09_in_0 : MCode := .seq (.region [⟨(some 4), .mv (.const (.bool false)), none⟩] []) c_ref09_in_1
/-- trefoil/trefoilref09.in -/
def M_ref09_in : MFun := ⟨2, c_ref09_in_0, [.tmp 4]⟩
abbrev F_ref09_in : Nat := 39
set_option maxRecDepth 100000 in
theorem m_ref09_in : InProg Try.prog 0 39 M_ref09_in := ⟨Try.f39, [], Try.func39, by kernel_rfl⟩
def c_ref33_Table_with_5 : MCode := .seq (.region [⟨(some 14), .mv (.tmp 7), none⟩,
   ⟨(some 15), .loadN 22 (.tmp 5), none⟩,
   ⟨(some 16), .buildSlice [(.int .i64 0), (.int .i64 0), (.int .i64 0), (.int .i64 0), (.int .i64 0), (.int .i64 0), (.int .i64 0), (.int .i64 0), (.int .i64 0), (.int .i64 0), (.int .i64 0), (.int .i64 0), (.int .i64 0), (.int .i64 0), (.int .i64 0), (.bool false), (.bool false), (.int .i64 0), (.int .i64 0), (.int .i64 0), (.int .i64 0), (.int .i64 0)] 1 [(0, 22, (.tmp 15))], none⟩,
   ⟨(some 17), .app 22 168 (.tmp 14) (.tmp 16), none⟩,
   ⟨(some 18), .build [(.slice none 0 0)] [(0, 1, (.tmp 17))], none⟩,
   ⟨none, .store 1 (.tmp 6) (.tmp 18), none⟩] []) .ret
def c_ref33_Table_with_4 : MCode := .cond (.tmp 13) c_ref33_Table_with_5 .skip
def c_ref33_Table_with_3 : MCode := .seq (.region [⟨(some 12), .mv (.tmp 1), none⟩,
   ⟨(some 13), .ar .lss (.tmp 12) (.const (.int .i64 0)), none⟩] []) c_ref33_Table_with_4
def c_ref33_Table_with_7 : MCode := .seq (.region [⟨(some 23), .mv (.tmp 7), none⟩,
   ⟨(some 24), .build [(.slice none 0 0)] [(0, 1, (.tmp 23))], none⟩,
   ⟨none, .store 1 (.tmp 6) (.tmp 24), none⟩] []) .ret
def c_ref33_Table_with_6 : MCode := .seq (.region [⟨(some 19), .mv (.tmp 7), none⟩,
   ⟨(some 20), .mv (.tmp 1), none⟩,
   ⟨(some 21), .loadN 22 (.tmp 5), none⟩,
   ⟨(some 22), .ixV 22 (.tmp 19) (.tmp 20), none⟩,
   ⟨none, .store 22 (.tmp 22) (.tmp 21), none⟩] []) c_ref33_Table_with_7
def c_ref33_Table_with_2 : MCode := .seq c_ref33_Table_with_3 c_ref33_Table_with_6
def c_ref33_Table_with_1 : MCode := .seq (.region [⟨(some 8), .buildSlice [] 0 [], none⟩,
   ⟨(some 9), .fld 0 (.tmp 3), none⟩,
   ⟨(some 10), .load1 (.tmp 9), none⟩,
   ⟨(some 11), .app 22 168 (.tmp 8) (.tmp 10), none⟩,
   ⟨(some 7), .mv (.tmp 11), none⟩] []) c_ref33_Table_with_2
def c_ref33_Table_with_0 : MCode := .seq (.region [⟨(some 3), .box (.tmp 0), none⟩,
   ⟨(some 5), .box (.tmp 2), none⟩,
   ⟨(some 6), .new [(.slice none 0 0)], none⟩] []) c_ref33_Table_with_1
/-- (trefoil/trefoilref33.Table).with -/
def M_ref33_Table_with : MFun := ⟨3, c_ref33_Table_with_0, [.cellN 6 1]⟩
abbrev F_ref33_Table_with : Nat := 40
set_option maxRecDepth 100000 in
theorem m_ref33_Table_with : InProg Try.prog 0 40 M_ref33_Table_with := ⟨Try.f40, [], Try.func40, by kernel_rfl⟩
def c_ref33_Table_own_5 : MCode := .seq (.region [⟨(some 21), .mv (.tmp 6), none⟩,
   ⟨(some 4), .mv (.tmp 21), none⟩,
   ⟨(some 5), .mv (.const (.int .i64 6)), none⟩] []) .ret
def c_ref33_Table_own_4 : MCode := .cond (.tmp 20) c_ref33_Table_own_5 .skip
def c_ref33_Table_own_3 : MCode := .seq (.region [⟨(some 10), .mv (.tmp 6), none⟩,
   ⟨(some 11), .ar .lss (.tmp 10) (.const (.int .i64 0)), none⟩,
   ⟨(some 12), .mv (.tmp 11), none⟩,
   ⟨(some 13), .fld 0 (.tmp 2), (some (12, false))⟩,
   ⟨(some 14), .load1 (.tmp 13), (some (12, false))⟩,
   ⟨(some 15), .mv (.tmp 6), (some (12, false))⟩,
   ⟨(some 16), .ixV 22 (.tmp 14) (.tmp 15), (some (12, false))⟩,
   ⟨(some 17), .fld 15 (.tmp 16), (some (12, false))⟩,
   ⟨(some 18), .load1 (.tmp 17), (some (12, false))⟩,
   ⟨(some 19), .un .not (.tmp 18), (some (12, false))⟩,
   ⟨(some 20), .pick (.tmp 12) (.const (.bool true)) (.tmp 19), none⟩] []) c_ref33_Table_own_4
def c_ref33_Table_own_9 : MCode := .seq (.region [⟨(some 29), .mv (.tmp 6), none⟩,
   ⟨(some 4), .mv (.tmp 29), none⟩,
   ⟨(some 5), .mv (.const (.int .i64 8)), none⟩] []) .ret
def c_ref33_Table_own_8 : MCode := .cond (.tmp 28) c_ref33_Table_own_9 .skip
def c_ref33_Table_own_7 : MCode := .seq (.region [⟨(some 22), .fld 0 (.tmp 2), none⟩,
   ⟨(some 23), .load1 (.tmp 22), none⟩,
   ⟨(some 24), .mv (.tmp 6), none⟩,
   ⟨(some 25), .ixV 22 (.tmp 23) (.tmp 24), none⟩,
   ⟨(some 26), .fld 17 (.tmp 25), none⟩,
   ⟨(some 27), .load1 (.tmp 26), none⟩,
   ⟨(some 28), .ar .neq (.tmp 27) (.const (.int .i64 1)), none⟩] []) c_ref33_Table_own_8
def c_ref33_Table_own_10 : MCode := .seq (.region [⟨(some 30), .mv (.tmp 6), none⟩,
   ⟨(some 4), .mv (.tmp 30), none⟩,
   ⟨(some 5), .mv (.const (.int .i64 0)), none⟩] []) .ret
def c_ref33_Table_own_6 : MCode := .seq c_ref33_Table_own_7 c_ref33_Table_own_10
def c_ref33_Table_own_2 : MCode := .seq c_ref33_Table_own_3 c_ref33_Table_own_6
def c_ref33_Table_own_1 : MCode := .seq (.region [⟨(some 7), .loadN 1 (.tmp 2), none⟩,
   ⟨(some 8), .mv (.tmp 1), none⟩,
   ⟨(some 9), .call 25 [(.tmp 7), (.tmp 8)], none⟩,
   ⟨(some 6), .mv (.tmp 9), none⟩] []) c_ref33_Table_own_2
def c_ref33_Table_own_0 : MCode := .seq (.region [⟨(some 2), .box (.tmp 0), none⟩,
   ⟨(some 4), .mv (.const (.int .i64 0)), none⟩,
   ⟨(some 5), .mv (.const (.int .i64 0)), none⟩] []) c_ref33_Table_own_1
/-- (trefoil/trefoilref33.Table).own -/
def M_ref33_Table_own : MFun := ⟨2, c_ref33_Table_own_0, [.tmp 4, .tmp 5]⟩
abbrev F_ref33_Table_own : Nat := 41
set_option maxRecDepth 100000 in
theorem m_ref33_Table_own : InProg Try.prog 0 41 M_ref33_Table_own := ⟨Try.f41, [], Try.func41, by kernel_rfl⟩
def c_slices_SortStableFunc_serve_slot_serve_slot_0 : MCode := (.region [⟨(some 4), .mv (.tmp 0), none⟩,
   ⟨(some 5), .mv (.tmp 0), none⟩,
   ⟨(some 6), .lenV (.tmp 5), none⟩,
   ⟨(some 7), .mv (.tmp 1), none⟩,
   ⟨(some 8), .call 47 [(.tmp 4), (.tmp 6), (.tmp 7)], none⟩] [])
/-- slices.SortStableFunc[[]*trefoil/serve.slot,*trefoil/serve.slot] -/
def M_slices_SortStableFunc_serve_slot_serve_slot : MFun := ⟨2, c_slices_SortStableFunc_serve_slot_serve_slot_0, []⟩
abbrev F_slices_SortStableFunc_serve_slot_serve_slot : Nat := 42
set_option maxRecDepth 100000 in
theorem m_slices_SortStableFunc_serve_slot_serve_slot : InProg Try.prog 0 42 M_slices_SortStableFunc_serve_slot_serve_slot := ⟨Try.f42, [], Try.func42, by kernel_rfl⟩
def c_serve_Table_open_1_1 : MCode := .seq (.region [⟨(some 5), .mv (.tmp 0), none⟩,
   ⟨(some 6), .nilCheck (.tmp 5), none⟩,
   ⟨(some 7), .fld 16 (.tmp 6), none⟩,
   ⟨(some 8), .load1 (.tmp 7), none⟩,
   ⟨(some 9), .mv (.tmp 1), none⟩,
   ⟨(some 10), .nilCheck (.tmp 9), none⟩,
   ⟨(some 11), .fld 16 (.tmp 10), none⟩,
   ⟨(some 12), .load1 (.tmp 11), none⟩,
   ⟨(some 13), .ar .sub (.tmp 8) (.tmp 12), none⟩,
   ⟨(some 4), .mv (.tmp 13), none⟩] []) .ret
def c_serve_Table_open_1_0 : MCode := .seq (.region [⟨(some 4), .mv (.const (.int .i64 0)), none⟩] []) c_serve_Table_open_1_1
/-- (*trefoil/serve.Table).open$1 -/
def M_serve_Table_open_1 : MFun := ⟨2, c_serve_Table_open_1_0, [.tmp 4]⟩
abbrev F_serve_Table_open_1 : Nat := 43
set_option maxRecDepth 100000 in
theorem m_serve_Table_open_1 : InProg Try.prog 0 43 M_serve_Table_open_1 := ⟨Try.f43, [], Try.func43, by kernel_rfl⟩
def c_slices_stableCmpFunc_serve_slot_7 : MCode := .cond (.tmp 13) .skip (.exit 0)
def c_slices_stableCmpFunc_serve_slot_6 : MCode := .seq (.region [⟨(some 11), .mv (.tmp 8), none⟩,
   ⟨(some 12), .mv (.tmp 1), none⟩,
   ⟨(some 13), .ar .leq (.tmp 11) (.tmp 12), none⟩] []) c_slices_stableCmpFunc_serve_slot_7
def c_slices_stableCmpFunc_serve_slot_11 : MCode := (.region [⟨(some 20), .mv (.tmp 8), none⟩,
   ⟨(some 21), .mv (.tmp 6), none⟩,
   ⟨(some 22), .ar .add (.tmp 20) (.tmp 21), none⟩,
   ⟨(some 8), .mv (.tmp 22), none⟩] [])
def c_slices_stableCmpFunc_serve_slot_10 : MCode := .seq (.region [⟨(some 19), .mv (.tmp 8), none⟩,
   ⟨(some 7), .mv (.tmp 19), none⟩] []) c_slices_stableCmpFunc_serve_slot_11
def c_slices_stableCmpFunc_serve_slot_9 : MCode := .seq (.region [⟨(some 14), .mv (.tmp 0), none⟩,
   ⟨(some 15), .mv (.tmp 7), none⟩,
   ⟨(some 16), .mv (.tmp 8), none⟩,
   ⟨(some 17), .mv (.tmp 2), none⟩,
   ⟨(some 18), .call 51 [(.tmp 14), (.tmp 15), (.tmp 16), (.tmp 17)], none⟩] []) c_slices_stableCmpFunc_serve_slot_10
def c_slices_stableCmpFunc_serve_slot_8 : MCode := .block 1 c_slices_stableCmpFunc_serve_slot_9
def c_slices_stableCmpFunc_serve_slot_5 : MCode := .seq c_slices_stableCmpFunc_serve_slot_6 c_slices_stableCmpFunc_serve_slot_8
def c_slices_stableCmpFunc_serve_slot_4 : MCode := .loop [0, 1, 2, 6, 7, 8] c_slices_stableCmpFunc_serve_slot_5
def c_slices_stableCmpFunc_serve_slot_3 : MCode := .block 0 c_slices_stableCmpFunc_serve_slot_4
def c_slices_stableCmpFunc_serve_slot_17 : MCode := .cond (.tmp 30) .skip (.exit 2)
def c_slices_stableCmpFunc_serve_slot_16 : MCode := .seq (.region [⟨(some 28), .mv (.tmp 6), none⟩,
   ⟨(some 29), .mv (.tmp 1), none⟩,
   ⟨(some 30), .ar .lss (.tmp 28) (.tmp 29), none⟩] []) c_slices_stableCmpFunc_serve_slot_17
def c_slices_stableCmpFunc_serve_slot_25 : MCode := .cond (.tmp 35) .skip (.exit 4)
def c_slices_stableCmpFunc_serve_slot_24 : MCode := .seq (.region [⟨(some 33), .mv (.tmp 8), none⟩,
   ⟨(some 34), .mv (.tmp 1), none⟩,
   ⟨(some 35), .ar .leq (.tmp 33) (.tmp 34), none⟩] []) c_slices_stableCmpFunc_serve_slot_25
def c_slices_stableCmpFunc_serve_slot_29 : MCode := (.region [⟨(some 45), .mv (.tmp 8), none⟩,
   ⟨(some 46), .mv (.tmp 6), none⟩,
   ⟨(some 47), .ar .mul (.const (.int .i64 2)) (.tmp 46), none⟩,
   ⟨(some 48), .ar .add (.tmp 45) (.tmp 47), none⟩,
   ⟨(some 8), .mv (.tmp 48), none⟩] [])
def c_slices_stableCmpFunc_serve_slot_28 : MCode := .seq (.region [⟨(some 44), .mv (.tmp 8), none⟩,
   ⟨(some 7), .mv (.tmp 44), none⟩] []) c_slices_stableCmpFunc_serve_slot_29
def c_slices_stableCmpFunc_serve_slot_27 : MCode := .seq (.region [⟨(some 36), .mv (.tmp 0), none⟩,
   ⟨(some 37), .mv (.tmp 7), none⟩,
   ⟨(some 38), .mv (.tmp 7), none⟩,
   ⟨(some 39), .mv (.tmp 6), none⟩,
   ⟨(some 40), .ar .add (.tmp 38) (.tmp 39), none⟩,
   ⟨(some 41), .mv (.tmp 8), none⟩,
   ⟨(some 42), .mv (.tmp 2), none⟩,
   ⟨(some 43), .call 52 [(.tmp 36), (.tmp 37), (.tmp 40), (.tmp 41), (.tmp 42)], none⟩] []) c_slices_stableCmpFunc_serve_slot_28
def c_slices_stableCmpFunc_serve_slot_26 : MCode := .block 5 c_slices_stableCmpFunc_serve_slot_27
def c_slices_stableCmpFunc_serve_slot_23 : MCode := .seq c_slices_stableCmpFunc_serve_slot_24 c_slices_stableCmpFunc_serve_slot_26
def c_slices_stableCmpFunc_serve_slot_22 : MCode := .loop [0, 1, 2, 6, 7, 8] c_slices_stableCmpFunc_serve_slot_23
def c_slices_stableCmpFunc_serve_slot_21 : MCode := .block 4 c_slices_stableCmpFunc_serve_slot_22
def c_slices_stableCmpFunc_serve_slot_34 : MCode := (.region [⟨(some 55), .mv (.tmp 0), none⟩,
   ⟨(some 56), .mv (.tmp 7), none⟩,
   ⟨(some 57), .mv (.tmp 9), none⟩,
   ⟨(some 58), .mv (.tmp 1), none⟩,
   ⟨(some 59), .mv (.tmp 2), none⟩,
   ⟨(some 60), .call 52 [(.tmp 55), (.tmp 56), (.tmp 57), (.tmp 58), (.tmp 59)], none⟩] [])
def c_slices_stableCmpFunc_serve_slot_33 : MCode := .cond (.tmp 54) c_slices_stableCmpFunc_serve_slot_34 .skip
def c_slices_stableCmpFunc_serve_slot_32 : MCode := .seq (.region [⟨(some 52), .mv (.tmp 9), none⟩,
   ⟨(some 53), .mv (.tmp 1), none⟩,
   ⟨(some 54), .ar .lss (.tmp 52) (.tmp 53), none⟩] []) c_slices_stableCmpFunc_serve_slot_33
def c_slices_stableCmpFunc_serve_slot_31 : MCode := .seq (.region [⟨(some 49), .mv (.tmp 7), none⟩,
   ⟨(some 50), .mv (.tmp 6), none⟩,
   ⟨(some 51), .ar .add (.tmp 49) (.tmp 50), none⟩,
   ⟨(some 9), .mv (.tmp 51), none⟩] []) c_slices_stableCmpFunc_serve_slot_32
def c_slices_stableCmpFunc_serve_slot_35 : MCode := (.region [⟨(some 61), .mv (.tmp 6), none⟩,
   ⟨(some 62), .ar .mul (.tmp 61) (.const (.int .i64 2)), none⟩,
   ⟨(some 6), .mv (.tmp 62), none⟩] [])
def c_slices_stableCmpFunc_serve_slot_30 : MCode := .seq c_slices_stableCmpFunc_serve_slot_31 c_slices_stableCmpFunc_serve_slot_35
def c_slices_stableCmpFunc_serve_slot_20 : MCode := .seq c_slices_stableCmpFunc_serve_slot_21 c_slices_stableCmpFunc_serve_slot_30
def c_slices_stableCmpFunc_serve_slot_19 : MCode := .seq (.region [⟨(some 31), .mv (.tmp 6), none⟩,
   ⟨(some 32), .ar .mul (.const (.int .i64 2)) (.tmp 31), none⟩,
   ⟨(some 7), .mv (.const (.int .i64 0)), none⟩,
   ⟨(some 8), .mv (.tmp 32), none⟩] []) c_slices_stableCmpFunc_serve_slot_20
def c_slices_stableCmpFunc_serve_slot_18 : MCode := .block 3 c_slices_stableCmpFunc_serve_slot_19
def c_slices_stableCmpFunc_serve_slot_15 : MCode := .seq c_slices_stableCmpFunc_serve_slot_16 c_slices_stableCmpFunc_serve_slot_18
def c_slices_stableCmpFunc_serve_slot_14 : MCode := .loop [0, 1, 2, 6] c_slices_stableCmpFunc_serve_slot_15
def c_slices_stableCmpFunc_serve_slot_13 : MCode := .block 2 c_slices_stableCmpFunc_serve_slot_14
def c_slices_stableCmpFunc_serve_slot_12 : MCode := .seq (.region [⟨(some 23), .mv (.tmp 0), none⟩,
   ⟨(some 24), .mv (.tmp 7), none⟩,
   ⟨(some 25), .mv (.tmp 1), none⟩,
   ⟨(some 26), .mv (.tmp 2), none⟩,
   ⟨(some 27), .call 51 [(.tmp 23), (.tmp 24), (.tmp 25), (.tmp 26)], none⟩] []) c_slices_stableCmpFunc_serve_slot_13
def c_slices_stableCmpFunc_serve_slot_2 : MCode := .seq c_slices_stableCmpFunc_serve_slot_3 c_slices_stableCmpFunc_serve_slot_12
def c_slices_stableCmpFunc_serve_slot_1 : MCode := .seq (.region [⟨(some 10), .mv (.tmp 6), none⟩,
   ⟨(some 7), .mv (.const (.int .i64 0)), none⟩,
   ⟨(some 8), .mv (.tmp 10), none⟩] []) c_slices_stableCmpFunc_serve_slot_2
def c_slices_stableCmpFunc_serve_slot_0 : MCode := .seq (.region [⟨(some 6), .mv (.const (.int .i64 20)), none⟩] []) c_slices_stableCmpFunc_serve_slot_1
/-- slices.stableCmpFunc[*trefoil/serve.slot] -/
def M_slices_stableCmpFunc_serve_slot : MFun := ⟨3, c_slices_stableCmpFunc_serve_slot_0, []⟩
abbrev F_slices_stableCmpFunc_serve_slot : Nat := 47
set_option maxRecDepth 100000 in
theorem m_slices_stableCmpFunc_serve_slot : InProg Try.prog 0 47 M_slices_stableCmpFunc_serve_slot := ⟨Try.f47, [[0, 1, 2, 6, 7, 8], [0, 1, 2, 6], [0, 1, 2, 6, 7, 8]], Try.func47, by kernel_rfl⟩
def c_slices_insertionSortCmpFunc_serve_slot_5 : MCode := .cond (.tmp 14) .skip (.exit 0)
def c_slices_insertionSortCmpFunc_serve_slot_4 : MCode := .seq (.region [⟨(some 12), .mv (.tmp 8), none⟩,
   ⟨(some 13), .mv (.tmp 2), none⟩,
   ⟨(some 14), .ar .lss (.tmp 12) (.tmp 13), none⟩] []) c_slices_insertionSortCmpFunc_serve_slot_5
def c_slices_insertionSortCmpFunc_serve_slot_13 : MCode := .cond (.tmp 34) .skip (.exit 2)
def c_slices_insertionSortCmpFunc_serve_slot_12 : MCode := .seq (.region [⟨(some 18), .mv (.tmp 9), none⟩,
   ⟨(some 19), .mv (.tmp 1), none⟩,
   ⟨(some 20), .ar .gtr (.tmp 18) (.tmp 19), none⟩,
   ⟨(some 21), .mv (.tmp 20), none⟩,
   ⟨(some 22), .mv (.tmp 3), (some (21, true))⟩,
   ⟨(some 23), .mv (.tmp 0), (some (21, true))⟩,
   ⟨(some 24), .mv (.tmp 9), (some (21, true))⟩,
   ⟨(some 25), .ixV 1 (.tmp 23) (.tmp 24), (some (21, true))⟩,
   ⟨(some 26), .load1 (.tmp 25), (some (21, true))⟩,
   ⟨(some 27), .mv (.tmp 0), (some (21, true))⟩,
   ⟨(some 28), .mv (.tmp 9), (some (21, true))⟩,
   ⟨(some 29), .ar .sub (.tmp 28) (.const (.int .i64 1)), (some (21, true))⟩,
   ⟨(some 30), .ixV 1 (.tmp 27) (.tmp 29), (some (21, true))⟩,
   ⟨(some 31), .load1 (.tmp 30), (some (21, true))⟩,
   ⟨(some 32), .callV (.tmp 22) [(.tmp 26), (.tmp 31)], (some (21, true))⟩,
   ⟨(some 33), .ar .lss (.tmp 32) (.const (.int .i64 0)), (some (21, true))⟩,
   ⟨(some 34), .pick (.tmp 21) (.tmp 33) (.const (.bool false)), none⟩] []) c_slices_insertionSortCmpFunc_serve_slot_13
def c_slices_insertionSortCmpFunc_serve_slot_16 : MCode := (.region [⟨(some 37), .mv (.tmp 0), none⟩,
   ⟨(some 38), .mv (.tmp 9), none⟩,
   ⟨(some 39), .mv (.tmp 0), none⟩,
   ⟨(some 40), .mv (.tmp 9), none⟩,
   ⟨(some 41), .ar .sub (.tmp 40) (.const (.int .i64 1)), none⟩,
   ⟨(some 42), .mv (.tmp 0), none⟩,
   ⟨(some 43), .mv (.tmp 9), none⟩,
   ⟨(some 44), .ar .sub (.tmp 43) (.const (.int .i64 1)), none⟩,
   ⟨(some 45), .ixV 1 (.tmp 42) (.tmp 44), none⟩,
   ⟨(some 46), .load1 (.tmp 45), none⟩,
   ⟨(some 47), .mv (.tmp 0), none⟩,
   ⟨(some 48), .mv (.tmp 9), none⟩,
   ⟨(some 49), .ixV 1 (.tmp 47) (.tmp 48), none⟩,
   ⟨(some 50), .load1 (.tmp 49), none⟩,
   ⟨(some 51), .ixV 1 (.tmp 37) (.tmp 38), none⟩,
   ⟨none, .store 1 (.tmp 51) (.tmp 46), none⟩,
   ⟨(some 52), .ixV 1 (.tmp 39) (.tmp 41), none⟩,
   ⟨none, .store 1 (.tmp 52) (.tmp 50), none⟩] [])
def c_slices_insertionSortCmpFunc_serve_slot_15 : MCode := .block 3 c_slices_insertionSortCmpFunc_serve_slot_16
def c_slices_insertionSortCmpFunc_serve_slot_17 : MCode := (.region [⟨(some 35), .mv (.tmp 9), none⟩,
   ⟨(some 36), .ar .sub (.tmp 35) (.const (.int .i64 1)), none⟩,
   ⟨(some 9), .mv (.tmp 36), none⟩] [])
def c_slices_insertionSortCmpFunc_serve_slot_14 : MCode := .seq c_slices_insertionSortCmpFunc_serve_slot_15 c_slices_insertionSortCmpFunc_serve_slot_17
def c_slices_insertionSortCmpFunc_serve_slot_11 : MCode := .seq c_slices_insertionSortCmpFunc_serve_slot_12 c_slices_insertionSortCmpFunc_serve_slot_14
def c_slices_insertionSortCmpFunc_serve_slot_10 : MCode := .loop [0, 1, 2, 3, 8, 9] c_slices_insertionSortCmpFunc_serve_slot_11
def c_slices_insertionSortCmpFunc_serve_slot_9 : MCode := .block 2 c_slices_insertionSortCmpFunc_serve_slot_10
def c_slices_insertionSortCmpFunc_serve_slot_8 : MCode := .seq (.region [⟨(some 17), .mv (.tmp 8), none⟩,
   ⟨(some 9), .mv (.tmp 17), none⟩] []) c_slices_insertionSortCmpFunc_serve_slot_9
def c_slices_insertionSortCmpFunc_serve_slot_7 : MCode := .block 1 c_slices_insertionSortCmpFunc_serve_slot_8
def c_slices_insertionSortCmpFunc_serve_slot_18 : MCode := (.region [⟨(some 15), .mv (.tmp 8), none⟩,
   ⟨(some 16), .ar .add (.tmp 15) (.const (.int .i64 1)), none⟩,
   ⟨(some 8), .mv (.tmp 16), none⟩] [])
def c_slices_insertionSortCmpFunc_serve_slot_6 : MCode := .seq c_slices_insertionSortCmpFunc_serve_slot_7 c_slices_insertionSortCmpFunc_serve_slot_18
def c_slices_insertionSortCmpFunc_serve_slot_3 : MCode := .seq c_slices_insertionSortCmpFunc_serve_slot_4 c_slices_insertionSortCmpFunc_serve_slot_6
def c_slices_insertionSortCmpFunc_serve_slot_2 : MCode := .loop [0, 1, 2, 3, 8] c_slices_insertionSortCmpFunc_serve_slot_3
def c_slices_insertionSortCmpFunc_serve_slot_1 : MCode := .block 0 c_slices_insertionSortCmpFunc_serve_slot_2
def c_slices_insertionSortCmpFunc_serve_slot_0 : MCode := .seq (.region [⟨(some 10), .mv (.tmp 1), none⟩,
   ⟨(some 11), .ar .add (.tmp 10) (.const (.int .i64 1)), none⟩,
   ⟨(some 8), .mv (.tmp 11), none⟩] []) c_slices_insertionSortCmpFunc_serve_slot_1
/-- slices.insertionSortCmpFunc[*trefoil/serve.slot] -/
def M_slices_insertionSortCmpFunc_serve_slot : MFun := ⟨4, c_slices_insertionSortCmpFunc_serve_slot_0, []⟩
abbrev F_slices_insertionSortCmpFunc_serve_slot : Nat := 51
set_option maxRecDepth 100000 in
theorem m_slices_insertionSortCmpFunc_serve_slot : InProg Try.prog 0 51 M_slices_insertionSortCmpFunc_serve_slot := ⟨Try.f51, [[0, 1, 2, 3, 8], [0, 1, 2, 3, 8, 9]], Try.func51, by kernel_rfl⟩
def c_slices_symMergeCmpFunc_serve_slot_10 : MCode := .cond (.tmp 33) .skip (.exit 0)
def c_slices_symMergeCmpFunc_serve_slot_9 : MCode := .seq (.region [⟨(some 31), .mv (.tmp 10), none⟩,
   ⟨(some 32), .mv (.tmp 11), none⟩,
   ⟨(some 33), .ar .lss (.tmp 31) (.tmp 32), none⟩] []) c_slices_symMergeCmpFunc_serve_slot_10
def c_slices_symMergeCmpFunc_serve_slot_15 : MCode := (.region [⟨(some 51), .mv (.tmp 12), none⟩,
   ⟨(some 52), .ar .add (.tmp 51) (.const (.int .i64 1)), none⟩,
   ⟨(some 10), .mv (.tmp 52), none⟩] [])
def c_slices_symMergeCmpFunc_serve_slot_16 : MCode := (.region [⟨(some 53), .mv (.tmp 12), none⟩,
   ⟨(some 11), .mv (.tmp 53), none⟩] [])
def c_slices_symMergeCmpFunc_serve_slot_14 : MCode := .cond (.tmp 50) c_slices_symMergeCmpFunc_serve_slot_15 c_slices_symMergeCmpFunc_serve_slot_16
def c_slices_symMergeCmpFunc_serve_slot_13 : MCode := .seq (.region [⟨(some 40), .mv (.tmp 4), none⟩,
   ⟨(some 41), .mv (.tmp 0), none⟩,
   ⟨(some 42), .mv (.tmp 12), none⟩,
   ⟨(some 43), .ixV 1 (.tmp 41) (.tmp 42), none⟩,
   ⟨(some 44), .load1 (.tmp 43), none⟩,
   ⟨(some 45), .mv (.tmp 0), none⟩,
   ⟨(some 46), .mv (.tmp 1), none⟩,
   ⟨(some 47), .ixV 1 (.tmp 45) (.tmp 46), none⟩,
   ⟨(some 48), .load1 (.tmp 47), none⟩,
   ⟨(some 49), .callV (.tmp 40) [(.tmp 44), (.tmp 48)], none⟩,
   ⟨(some 50), .ar .lss (.tmp 49) (.const (.int .i64 0)), none⟩] []) c_slices_symMergeCmpFunc_serve_slot_14
def c_slices_symMergeCmpFunc_serve_slot_12 : MCode := .seq (.region [⟨(some 34), .mv (.tmp 10), none⟩,
   ⟨(some 35), .mv (.tmp 11), none⟩,
   ⟨(some 36), .ar .add (.tmp 34) (.tmp 35), none⟩,
   ⟨(some 37), .conv .u64 (.tmp 36), none⟩,
   ⟨(some 38), .ar .shr (.tmp 37) (.const (.int .u64 1)), none⟩,
   ⟨(some 39), .conv .i64 (.tmp 38), none⟩,
   ⟨(some 12), .mv (.tmp 39), none⟩] []) c_slices_symMergeCmpFunc_serve_slot_13
def c_slices_symMergeCmpFunc_serve_slot_11 : MCode := .block 1 c_slices_symMergeCmpFunc_serve_slot_12
def c_slices_symMergeCmpFunc_serve_slot_8 : MCode := .seq c_slices_symMergeCmpFunc_serve_slot_9 c_slices_symMergeCmpFunc_serve_slot_11
def c_slices_symMergeCmpFunc_serve_slot_7 : MCode := .loop [0, 1, 4, 10, 11] c_slices_symMergeCmpFunc_serve_slot_8
def c_slices_symMergeCmpFunc_serve_slot_6 : MCode := .block 0 c_slices_symMergeCmpFunc_serve_slot_7
def c_slices_symMergeCmpFunc_serve_slot_23 : MCode := .cond (.tmp 58) .skip (.exit 2)
def c_slices_symMergeCmpFunc_serve_slot_22 : MCode := .seq (.region [⟨(some 55), .mv (.tmp 13), none⟩,
   ⟨(some 56), .mv (.tmp 10), none⟩,
   ⟨(some 57), .ar .sub (.tmp 56) (.const (.int .i64 1)), none⟩,
   ⟨(some 58), .ar .lss (.tmp 55) (.tmp 57), none⟩] []) c_slices_symMergeCmpFunc_serve_slot_23
def c_slices_symMergeCmpFunc_serve_slot_26 : MCode := (.region [⟨(some 61), .mv (.tmp 0), none⟩,
   ⟨(some 62), .mv (.tmp 13), none⟩,
   ⟨(some 63), .mv (.tmp 0), none⟩,
   ⟨(some 64), .mv (.tmp 13), none⟩,
   ⟨(some 65), .ar .add (.tmp 64) (.const (.int .i64 1)), none⟩,
   ⟨(some 66), .mv (.tmp 0), none⟩,
   ⟨(some 67), .mv (.tmp 13), none⟩,
   ⟨(some 68), .ar .add (.tmp 67) (.const (.int .i64 1)), none⟩,
   ⟨(some 69), .ixV 1 (.tmp 66) (.tmp 68), none⟩,
   ⟨(some 70), .load1 (.tmp 69), none⟩,
   ⟨(some 71), .mv (.tmp 0), none⟩,
   ⟨(some 72), .mv (.tmp 13), none⟩,
   ⟨(some 73), .ixV 1 (.tmp 71) (.tmp 72), none⟩,
   ⟨(some 74), .load1 (.tmp 73), none⟩,
   ⟨(some 75), .ixV 1 (.tmp 61) (.tmp 62), none⟩,
   ⟨none, .store 1 (.tmp 75) (.tmp 70), none⟩,
   ⟨(some 76), .ixV 1 (.tmp 63) (.tmp 65), none⟩,
   ⟨none, .store 1 (.tmp 76) (.tmp 74), none⟩] [])
def c_slices_symMergeCmpFunc_serve_slot_25 : MCode := .block 3 c_slices_symMergeCmpFunc_serve_slot_26
def c_slices_symMergeCmpFunc_serve_slot_27 : MCode := (.region [⟨(some 59), .mv (.tmp 13), none⟩,
   ⟨(some 60), .ar .add (.tmp 59) (.const (.int .i64 1)), none⟩,
   ⟨(some 13), .mv (.tmp 60), none⟩] [])
def c_slices_symMergeCmpFunc_serve_slot_24 : MCode := .seq c_slices_symMergeCmpFunc_serve_slot_25 c_slices_symMergeCmpFunc_serve_slot_27
def c_slices_symMergeCmpFunc_serve_slot_21 : MCode := .seq c_slices_symMergeCmpFunc_serve_slot_22 c_slices_symMergeCmpFunc_serve_slot_24
def c_slices_symMergeCmpFunc_serve_slot_20 : MCode := .loop [0, 10, 13] c_slices_symMergeCmpFunc_serve_slot_21
def c_slices_symMergeCmpFunc_serve_slot_19 : MCode := .block 2 c_slices_symMergeCmpFunc_serve_slot_20
def c_slices_symMergeCmpFunc_serve_slot_18 : MCode := .seq (.region [⟨(some 54), .mv (.tmp 1), none⟩,
   ⟨(some 13), .mv (.tmp 54), none⟩] []) c_slices_symMergeCmpFunc_serve_slot_19
def c_slices_symMergeCmpFunc_serve_slot_17 : MCode := .seq c_slices_symMergeCmpFunc_serve_slot_18 .ret
def c_slices_symMergeCmpFunc_serve_slot_5 : MCode := .seq c_slices_symMergeCmpFunc_serve_slot_6 c_slices_symMergeCmpFunc_serve_slot_17
def c_slices_symMergeCmpFunc_serve_slot_4 : MCode := .seq (.region [⟨(some 30), .mv (.tmp 3), none⟩,
   ⟨(some 11), .mv (.tmp 30), none⟩] []) c_slices_symMergeCmpFunc_serve_slot_5
def c_slices_symMergeCmpFunc_serve_slot_3 : MCode := .seq (.region [⟨(some 29), .mv (.tmp 2), none⟩,
   ⟨(some 10), .mv (.tmp 29), none⟩] []) c_slices_symMergeCmpFunc_serve_slot_4
def c_slices_symMergeCmpFunc_serve_slot_2 : MCode := .cond (.tmp 28) c_slices_symMergeCmpFunc_serve_slot_3 .skip
def c_slices_symMergeCmpFunc_serve_slot_1 : MCode := .seq (.region [⟨(some 25), .mv (.tmp 2), none⟩,
   ⟨(some 26), .mv (.tmp 1), none⟩,
   ⟨(some 27), .ar .sub (.tmp 25) (.tmp 26), none⟩,
   ⟨(some 28), .ar .eql (.tmp 27) (.const (.int .i64 1)), none⟩] []) c_slices_symMergeCmpFunc_serve_slot_2
def c_slices_symMergeCmpFunc_serve_slot_38 : MCode := .cond (.tmp 85) .skip (.exit 4)
def c_slices_symMergeCmpFunc_serve_slot_37 : MCode := .seq (.region [⟨(some 83), .mv (.tmp 14), none⟩,
   ⟨(some 84), .mv (.tmp 15), none⟩,
   ⟨(some 85), .ar .lss (.tmp 83) (.tmp 84), none⟩] []) c_slices_symMergeCmpFunc_serve_slot_38
def c_slices_symMergeCmpFunc_serve_slot_43 : MCode := (.region [⟨(some 104), .mv (.tmp 16), none⟩,
   ⟨(some 105), .ar .add (.tmp 104) (.const (.int .i64 1)), none⟩,
   ⟨(some 14), .mv (.tmp 105), none⟩] [])
def c_slices_symMergeCmpFunc_serve_slot_44 : MCode := (.region [⟨(some 106), .mv (.tmp 16), none⟩,
   ⟨(some 15), .mv (.tmp 106), none⟩] [])
def c_slices_symMergeCmpFunc_serve_slot_42 : MCode := .cond (.tmp 103) c_slices_symMergeCmpFunc_serve_slot_43 c_slices_symMergeCmpFunc_serve_slot_44
def c_slices_symMergeCmpFunc_serve_slot_41 : MCode := .seq (.region [⟨(some 92), .mv (.tmp 4), none⟩,
   ⟨(some 93), .mv (.tmp 0), none⟩,
   ⟨(some 94), .mv (.tmp 2), none⟩,
   ⟨(some 95), .ixV 1 (.tmp 93) (.tmp 94), none⟩,
   ⟨(some 96), .load1 (.tmp 95), none⟩,
   ⟨(some 97), .mv (.tmp 0), none⟩,
   ⟨(some 98), .mv (.tmp 16), none⟩,
   ⟨(some 99), .ixV 1 (.tmp 97) (.tmp 98), none⟩,
   ⟨(some 100), .load1 (.tmp 99), none⟩,
   ⟨(some 101), .callV (.tmp 92) [(.tmp 96), (.tmp 100)], none⟩,
   ⟨(some 102), .ar .lss (.tmp 101) (.const (.int .i64 0)), none⟩,
   ⟨(some 103), .un .not (.tmp 102), none⟩] []) c_slices_symMergeCmpFunc_serve_slot_42
def c_slices_symMergeCmpFunc_serve_slot_40 : MCode := .seq (.region [⟨(some 86), .mv (.tmp 14), none⟩,
   ⟨(some 87), .mv (.tmp 15), none⟩,
   ⟨(some 88), .ar .add (.tmp 86) (.tmp 87), none⟩,
   ⟨(some 89), .conv .u64 (.tmp 88), none⟩,
   ⟨(some 90), .ar .shr (.tmp 89) (.const (.int .u64 1)), none⟩,
   ⟨(some 91), .conv .i64 (.tmp 90), none⟩,
   ⟨(some 16), .mv (.tmp 91), none⟩] []) c_slices_symMergeCmpFunc_serve_slot_41
def c_slices_symMergeCmpFunc_serve_slot_39 : MCode := .block 5 c_slices_symMergeCmpFunc_serve_slot_40
def c_slices_symMergeCmpFunc_serve_slot_36 : MCode := .seq c_slices_symMergeCmpFunc_serve_slot_37 c_slices_symMergeCmpFunc_serve_slot_39
def c_slices_symMergeCmpFunc_serve_slot_35 : MCode := .loop [0, 2, 4, 14, 15] c_slices_symMergeCmpFunc_serve_slot_36
def c_slices_symMergeCmpFunc_serve_slot_34 : MCode := .block 4 c_slices_symMergeCmpFunc_serve_slot_35
def c_slices_symMergeCmpFunc_serve_slot_51 : MCode := .cond (.tmp 110) .skip (.exit 6)
def c_slices_symMergeCmpFunc_serve_slot_50 : MCode := .seq (.region [⟨(some 108), .mv (.tmp 17), none⟩,
   ⟨(some 109), .mv (.tmp 14), none⟩,
   ⟨(some 110), .ar .gtr (.tmp 108) (.tmp 109), none⟩] []) c_slices_symMergeCmpFunc_serve_slot_51
def c_slices_symMergeCmpFunc_serve_slot_54 : MCode := (.region [⟨(some 113), .mv (.tmp 0), none⟩,
   ⟨(some 114), .mv (.tmp 17), none⟩,
   ⟨(some 115), .mv (.tmp 0), none⟩,
   ⟨(some 116), .mv (.tmp 17), none⟩,
   ⟨(some 117), .ar .sub (.tmp 116) (.const (.int .i64 1)), none⟩,
   ⟨(some 118), .mv (.tmp 0), none⟩,
   ⟨(some 119), .mv (.tmp 17), none⟩,
   ⟨(some 120), .ar .sub (.tmp 119) (.const (.int .i64 1)), none⟩,
   ⟨(some 121), .ixV 1 (.tmp 118) (.tmp 120), none⟩,
   ⟨(some 122), .load1 (.tmp 121), none⟩,
   ⟨(some 123), .mv (.tmp 0), none⟩,
   ⟨(some 124), .mv (.tmp 17), none⟩,
   ⟨(some 125), .ixV 1 (.tmp 123) (.tmp 124), none⟩,
   ⟨(some 126), .load1 (.tmp 125), none⟩,
   ⟨(some 127), .ixV 1 (.tmp 113) (.tmp 114), none⟩,
   ⟨none, .store 1 (.tmp 127) (.tmp 122), none⟩,
   ⟨(some 128), .ixV 1 (.tmp 115) (.tmp 117), none⟩,
   ⟨none, .store 1 (.tmp 128) (.tmp 126), none⟩] [])
def c_slices_symMergeCmpFunc_serve_slot_53 : MCode := .block 7 c_slices_symMergeCmpFunc_serve_slot_54
def c_slices_symMergeCmpFunc_serve_slot_55 : MCode := (.region [⟨(some 111), .mv (.tmp 17), none⟩,
   ⟨(some 112), .ar .sub (.tmp 111) (.const (.int .i64 1)), none⟩,
   ⟨(some 17), .mv (.tmp 112), none⟩] [])
def c_slices_symMergeCmpFunc_serve_slot_52 : MCode := .seq c_slices_symMergeCmpFunc_serve_slot_53 c_slices_symMergeCmpFunc_serve_slot_55
def c_slices_symMergeCmpFunc_serve_slot_49 : MCode := .seq c_slices_symMergeCmpFunc_serve_slot_50 c_slices_symMergeCmpFunc_serve_slot_52
def c_slices_symMergeCmpFunc_serve_slot_48 : MCode := .loop [0, 14, 17] c_slices_symMergeCmpFunc_serve_slot_49
def c_slices_symMergeCmpFunc_serve_slot_47 : MCode := .block 6 c_slices_symMergeCmpFunc_serve_slot_48
def c_slices_symMergeCmpFunc_serve_slot_46 : MCode := .seq (.region [⟨(some 107), .mv (.tmp 2), none⟩,
   ⟨(some 17), .mv (.tmp 107), none⟩] []) c_slices_symMergeCmpFunc_serve_slot_47
def c_slices_symMergeCmpFunc_serve_slot_45 : MCode := .seq c_slices_symMergeCmpFunc_serve_slot_46 .ret
def c_slices_symMergeCmpFunc_serve_slot_33 : MCode := .seq c_slices_symMergeCmpFunc_serve_slot_34 c_slices_symMergeCmpFunc_serve_slot_45
def c_slices_symMergeCmpFunc_serve_slot_32 : MCode := .seq (.region [⟨(some 82), .mv (.tmp 2), none⟩,
   ⟨(some 15), .mv (.tmp 82), none⟩] []) c_slices_symMergeCmpFunc_serve_slot_33
def c_slices_symMergeCmpFunc_serve_slot_31 : MCode := .seq (.region [⟨(some 81), .mv (.tmp 1), none⟩,
   ⟨(some 14), .mv (.tmp 81), none⟩] []) c_slices_symMergeCmpFunc_serve_slot_32
def c_slices_symMergeCmpFunc_serve_slot_30 : MCode := .cond (.tmp 80) c_slices_symMergeCmpFunc_serve_slot_31 .skip
def c_slices_symMergeCmpFunc_serve_slot_29 : MCode := .seq (.region [⟨(some 77), .mv (.tmp 3), none⟩,
   ⟨(some 78), .mv (.tmp 2), none⟩,
   ⟨(some 79), .ar .sub (.tmp 77) (.tmp 78), none⟩,
   ⟨(some 80), .ar .eql (.tmp 79) (.const (.int .i64 1)), none⟩] []) c_slices_symMergeCmpFunc_serve_slot_30
def c_slices_symMergeCmpFunc_serve_slot_63 : MCode := (.region [⟨(some 144), .mv (.tmp 18), none⟩,
   ⟨(some 21), .mv (.tmp 144), none⟩] [])
def c_slices_symMergeCmpFunc_serve_slot_62 : MCode := .seq (.region [⟨(some 141), .mv (.tmp 19), none⟩,
   ⟨(some 142), .mv (.tmp 3), none⟩,
   ⟨(some 143), .ar .sub (.tmp 141) (.tmp 142), none⟩,
   ⟨(some 20), .mv (.tmp 143), none⟩] []) c_slices_symMergeCmpFunc_serve_slot_63
def c_slices_symMergeCmpFunc_serve_slot_65 : MCode := (.region [⟨(some 146), .mv (.tmp 2), none⟩,
   ⟨(some 21), .mv (.tmp 146), none⟩] [])
def c_slices_symMergeCmpFunc_serve_slot_64 : MCode := .seq (.region [⟨(some 145), .mv (.tmp 1), none⟩,
   ⟨(some 20), .mv (.tmp 145), none⟩] []) c_slices_symMergeCmpFunc_serve_slot_65
def c_slices_symMergeCmpFunc_serve_slot_61 : MCode := .cond (.tmp 140) c_slices_symMergeCmpFunc_serve_slot_62 c_slices_symMergeCmpFunc_serve_slot_64
def c_slices_symMergeCmpFunc_serve_slot_60 : MCode := .seq (.region [⟨(some 138), .mv (.tmp 2), none⟩,
   ⟨(some 139), .mv (.tmp 18), none⟩,
   ⟨(some 140), .ar .gtr (.tmp 138) (.tmp 139), none⟩] []) c_slices_symMergeCmpFunc_serve_slot_61
def c_slices_symMergeCmpFunc_serve_slot_72 : MCode := .cond (.tmp 151) .skip (.exit 8)
def c_slices_symMergeCmpFunc_serve_slot_71 : MCode := .seq (.region [⟨(some 149), .mv (.tmp 20), none⟩,
   ⟨(some 150), .mv (.tmp 21), none⟩,
   ⟨(some 151), .ar .lss (.tmp 149) (.tmp 150), none⟩] []) c_slices_symMergeCmpFunc_serve_slot_72
def c_slices_symMergeCmpFunc_serve_slot_77 : MCode := (.region [⟨(some 172), .mv (.tmp 23), none⟩,
   ⟨(some 173), .ar .add (.tmp 172) (.const (.int .i64 1)), none⟩,
   ⟨(some 20), .mv (.tmp 173), none⟩] [])
def c_slices_symMergeCmpFunc_serve_slot_78 : MCode := (.region [⟨(some 174), .mv (.tmp 23), none⟩,
   ⟨(some 21), .mv (.tmp 174), none⟩] [])
def c_slices_symMergeCmpFunc_serve_slot_76 : MCode := .cond (.tmp 171) c_slices_symMergeCmpFunc_serve_slot_77 c_slices_symMergeCmpFunc_serve_slot_78
def c_slices_symMergeCmpFunc_serve_slot_75 : MCode := .seq (.region [⟨(some 158), .mv (.tmp 4), none⟩,
   ⟨(some 159), .mv (.tmp 0), none⟩,
   ⟨(some 160), .mv (.tmp 22), none⟩,
   ⟨(some 161), .mv (.tmp 23), none⟩,
   ⟨(some 162), .ar .sub (.tmp 160) (.tmp 161), none⟩,
   ⟨(some 163), .ixV 1 (.tmp 159) (.tmp 162), none⟩,
   ⟨(some 164), .load1 (.tmp 163), none⟩,
   ⟨(some 165), .mv (.tmp 0), none⟩,
   ⟨(some 166), .mv (.tmp 23), none⟩,
   ⟨(some 167), .ixV 1 (.tmp 165) (.tmp 166), none⟩,
   ⟨(some 168), .load1 (.tmp 167), none⟩,
   ⟨(some 169), .callV (.tmp 158) [(.tmp 164), (.tmp 168)], none⟩,
   ⟨(some 170), .ar .lss (.tmp 169) (.const (.int .i64 0)), none⟩,
   ⟨(some 171), .un .not (.tmp 170), none⟩] []) c_slices_symMergeCmpFunc_serve_slot_76
def c_slices_symMergeCmpFunc_serve_slot_74 : MCode := .seq (.region [⟨(some 152), .mv (.tmp 20), none⟩,
   ⟨(some 153), .mv (.tmp 21), none⟩,
   ⟨(some 154), .ar .add (.tmp 152) (.tmp 153), none⟩,
   ⟨(some 155), .conv .u64 (.tmp 154), none⟩,
   ⟨(some 156), .ar .shr (.tmp 155) (.const (.int .u64 1)), none⟩,
   ⟨(some 157), .conv .i64 (.tmp 156), none⟩,
   ⟨(some 23), .mv (.tmp 157), none⟩] []) c_slices_symMergeCmpFunc_serve_slot_75
def c_slices_symMergeCmpFunc_serve_slot_73 : MCode := .block 9 c_slices_symMergeCmpFunc_serve_slot_74
def c_slices_symMergeCmpFunc_serve_slot_70 : MCode := .seq c_slices_symMergeCmpFunc_serve_slot_71 c_slices_symMergeCmpFunc_serve_slot_73
def c_slices_symMergeCmpFunc_serve_slot_69 : MCode := .loop [0, 1, 2, 3, 4, 18, 19, 20, 21, 22] c_slices_symMergeCmpFunc_serve_slot_70
def c_slices_symMergeCmpFunc_serve_slot_68 : MCode := .block 8 c_slices_symMergeCmpFunc_serve_slot_69
def c_slices_symMergeCmpFunc_serve_slot_83 : MCode := (.region [⟨(some 186), .mv (.tmp 0), none⟩,
   ⟨(some 187), .mv (.tmp 20), none⟩,
   ⟨(some 188), .mv (.tmp 2), none⟩,
   ⟨(some 189), .mv (.tmp 24), none⟩,
   ⟨(some 190), .mv (.tmp 4), none⟩,
   ⟨(some 191), .call 64 [(.tmp 186), (.tmp 187), (.tmp 188), (.tmp 189), (.tmp 190)], none⟩] [])
def c_slices_symMergeCmpFunc_serve_slot_82 : MCode := .cond (.tmp 185) c_slices_symMergeCmpFunc_serve_slot_83 .skip
def c_slices_symMergeCmpFunc_serve_slot_81 : MCode := .seq (.region [⟨(some 178), .mv (.tmp 20), none⟩,
   ⟨(some 179), .mv (.tmp 2), none⟩,
   ⟨(some 180), .ar .lss (.tmp 178) (.tmp 179), none⟩,
   ⟨(some 181), .mv (.tmp 180), none⟩,
   ⟨(some 182), .mv (.tmp 2), (some (181, true))⟩,
   ⟨(some 183), .mv (.tmp 24), (some (181, true))⟩,
   ⟨(some 184), .ar .lss (.tmp 182) (.tmp 183), (some (181, true))⟩,
   ⟨(some 185), .pick (.tmp 181) (.tmp 184) (.const (.bool false)), none⟩] []) c_slices_symMergeCmpFunc_serve_slot_82
def c_slices_symMergeCmpFunc_serve_slot_87 : MCode := (.region [⟨(some 200), .mv (.tmp 0), none⟩,
   ⟨(some 201), .mv (.tmp 1), none⟩,
   ⟨(some 202), .mv (.tmp 20), none⟩,
   ⟨(some 203), .mv (.tmp 18), none⟩,
   ⟨(some 204), .mv (.tmp 4), none⟩,
   ⟨(some 205), .call 52 [(.tmp 200), (.tmp 201), (.tmp 202), (.tmp 203), (.tmp 204)], none⟩] [])
def c_slices_symMergeCmpFunc_serve_slot_86 : MCode := .cond (.tmp 199) c_slices_symMergeCmpFunc_serve_slot_87 .skip
def c_slices_symMergeCmpFunc_serve_slot_85 : MCode := .seq (.region [⟨(some 192), .mv (.tmp 1), none⟩,
   ⟨(some 193), .mv (.tmp 20), none⟩,
   ⟨(some 194), .ar .lss (.tmp 192) (.tmp 193), none⟩,
   ⟨(some 195), .mv (.tmp 194), none⟩,
   ⟨(some 196), .mv (.tmp 20), (some (195, true))⟩,
   ⟨(some 197), .mv (.tmp 18), (some (195, true))⟩,
   ⟨(some 198), .ar .lss (.tmp 196) (.tmp 197), (some (195, true))⟩,
   ⟨(some 199), .pick (.tmp 195) (.tmp 198) (.const (.bool false)), none⟩] []) c_slices_symMergeCmpFunc_serve_slot_86
def c_slices_symMergeCmpFunc_serve_slot_90 : MCode := (.region [⟨(some 214), .mv (.tmp 0), none⟩,
   ⟨(some 215), .mv (.tmp 18), none⟩,
   ⟨(some 216), .mv (.tmp 24), none⟩,
   ⟨(some 217), .mv (.tmp 3), none⟩,
   ⟨(some 218), .mv (.tmp 4), none⟩,
   ⟨(some 219), .call 52 [(.tmp 214), (.tmp 215), (.tmp 216), (.tmp 217), (.tmp 218)], none⟩] [])
def c_slices_symMergeCmpFunc_serve_slot_89 : MCode := .cond (.tmp 213) c_slices_symMergeCmpFunc_serve_slot_90 .skip
def c_slices_symMergeCmpFunc_serve_slot_88 : MCode := .seq (.region [⟨(some 206), .mv (.tmp 18), none⟩,
   ⟨(some 207), .mv (.tmp 24), none⟩,
   ⟨(some 208), .ar .lss (.tmp 206) (.tmp 207), none⟩,
   ⟨(some 209), .mv (.tmp 208), none⟩,
   ⟨(some 210), .mv (.tmp 24), (some (209, true))⟩,
   ⟨(some 211), .mv (.tmp 3), (some (209, true))⟩,
   ⟨(some 212), .ar .lss (.tmp 210) (.tmp 211), (some (209, true))⟩,
   ⟨(some 213), .pick (.tmp 209) (.tmp 212) (.const (.bool false)), none⟩] []) c_slices_symMergeCmpFunc_serve_slot_89
def c_slices_symMergeCmpFunc_serve_slot_84 : MCode := .seq c_slices_symMergeCmpFunc_serve_slot_85 c_slices_symMergeCmpFunc_serve_slot_88
def c_slices_symMergeCmpFunc_serve_slot_80 : MCode := .seq c_slices_symMergeCmpFunc_serve_slot_81 c_slices_symMergeCmpFunc_serve_slot_84
def c_slices_symMergeCmpFunc_serve_slot_79 : MCode := .seq (.region [⟨(some 175), .mv (.tmp 19), none⟩,
   ⟨(some 176), .mv (.tmp 20), none⟩,
   ⟨(some 177), .ar .sub (.tmp 175) (.tmp 176), none⟩,
   ⟨(some 24), .mv (.tmp 177), none⟩] []) c_slices_symMergeCmpFunc_serve_slot_80
def c_slices_symMergeCmpFunc_serve_slot_67 : MCode := .seq c_slices_symMergeCmpFunc_serve_slot_68 c_slices_symMergeCmpFunc_serve_slot_79
def c_slices_symMergeCmpFunc_serve_slot_66 : MCode := .seq (.region [⟨(some 147), .mv (.tmp 19), none⟩,
   ⟨(some 148), .ar .sub (.tmp 147) (.const (.int .i64 1)), none⟩,
   ⟨(some 22), .mv (.tmp 148), none⟩] []) c_slices_symMergeCmpFunc_serve_slot_67
def c_slices_symMergeCmpFunc_serve_slot_59 : MCode := .seq c_slices_symMergeCmpFunc_serve_slot_60 c_slices_symMergeCmpFunc_serve_slot_66
def c_slices_symMergeCmpFunc_serve_slot_58 : MCode := .seq (.region [⟨(some 20), .mv (.const (.int .i64 0)), none⟩,
   ⟨(some 21), .mv (.const (.int .i64 0)), none⟩] []) c_slices_symMergeCmpFunc_serve_slot_59
def c_slices_symMergeCmpFunc_serve_slot_57 : MCode := .seq (.region [⟨(some 135), .mv (.tmp 18), none⟩,
   ⟨(some 136), .mv (.tmp 2), none⟩,
   ⟨(some 137), .ar .add (.tmp 135) (.tmp 136), none⟩,
   ⟨(some 19), .mv (.tmp 137), none⟩] []) c_slices_symMergeCmpFunc_serve_slot_58
def c_slices_symMergeCmpFunc_serve_slot_56 : MCode := .seq (.region [⟨(some 129), .mv (.tmp 1), none⟩,
   ⟨(some 130), .mv (.tmp 3), none⟩,
   ⟨(some 131), .ar .add (.tmp 129) (.tmp 130), none⟩,
   ⟨(some 132), .conv .u64 (.tmp 131), none⟩,
   ⟨(some 133), .ar .shr (.tmp 132) (.const (.int .u64 1)), none⟩,
   ⟨(some 134), .conv .i64 (.tmp 133), none⟩,
   ⟨(some 18), .mv (.tmp 134), none⟩] []) c_slices_symMergeCmpFunc_serve_slot_57
def c_slices_symMergeCmpFunc_serve_slot_28 : MCode := .seq c_slices_symMergeCmpFunc_serve_slot_29 c_slices_symMergeCmpFunc_serve_slot_56
def c_slices_symMergeCmpFunc_serve_slot_0 : MCode := .seq c_slices_symMergeCmpFunc_serve_slot_1 c_slices_symMergeCmpFunc_serve_slot_28
/-- slices.symMergeCmpFunc[*trefoil/serve.slot] -/
def M_slices_symMergeCmpFunc_serve_slot : MFun := ⟨5, c_slices_symMergeCmpFunc_serve_slot_0, []⟩
abbrev F_slices_symMergeCmpFunc_serve_slot : Nat := 52
set_option maxRecDepth 100000 in
theorem m_slices_symMergeCmpFunc_serve_slot : InProg Try.prog 0 52 M_slices_symMergeCmpFunc_serve_slot := ⟨Try.f52, [[0, 1, 4, 10, 11], [0, 10, 13], [0, 2, 4, 14, 15], [0, 14, 17], [0, 1, 2, 3, 4, 18, 19, 20, 21, 22]], Try.func52, by kernel_rfl⟩
def c_slices_rotateCmpFunc_serve_slot_7 : MCode := .cond (.tmp 20) .skip (.exit 0)
def c_slices_rotateCmpFunc_serve_slot_6 : MCode := .seq (.region [⟨(some 18), .mv (.tmp 10), none⟩,
   ⟨(some 19), .mv (.tmp 11), none⟩,
   ⟨(some 20), .ar .neq (.tmp 18) (.tmp 19), none⟩] []) c_slices_rotateCmpFunc_serve_slot_7
def c_slices_rotateCmpFunc_serve_slot_12 : MCode := (.region [⟨(some 32), .mv (.tmp 10), none⟩,
   ⟨(some 33), .mv (.tmp 11), none⟩,
   ⟨(some 34), .ar .sub (.tmp 32) (.tmp 33), none⟩,
   ⟨(some 10), .mv (.tmp 34), none⟩] [])
def c_slices_rotateCmpFunc_serve_slot_11 : MCode := .seq (.region [⟨(some 24), .mv (.tmp 0), none⟩,
   ⟨(some 25), .mv (.tmp 2), none⟩,
   ⟨(some 26), .mv (.tmp 10), none⟩,
   ⟨(some 27), .ar .sub (.tmp 25) (.tmp 26), none⟩,
   ⟨(some 28), .mv (.tmp 2), none⟩,
   ⟨(some 29), .mv (.tmp 11), none⟩,
   ⟨(some 30), .mv (.tmp 4), none⟩,
   ⟨(some 31), .call 71 [(.tmp 24), (.tmp 27), (.tmp 28), (.tmp 29), (.tmp 30)], none⟩] []) c_slices_rotateCmpFunc_serve_slot_12
def c_slices_rotateCmpFunc_serve_slot_14 : MCode := (.region [⟨(some 47), .mv (.tmp 11), none⟩,
   ⟨(some 48), .mv (.tmp 10), none⟩,
   ⟨(some 49), .ar .sub (.tmp 47) (.tmp 48), none⟩,
   ⟨(some 11), .mv (.tmp 49), none⟩] [])
def c_slices_rotateCmpFunc_serve_slot_13 : MCode := .seq (.region [⟨(some 35), .mv (.tmp 0), none⟩,
   ⟨(some 36), .mv (.tmp 2), none⟩,
   ⟨(some 37), .mv (.tmp 10), none⟩,
   ⟨(some 38), .ar .sub (.tmp 36) (.tmp 37), none⟩,
   ⟨(some 39), .mv (.tmp 2), none⟩,
   ⟨(some 40), .mv (.tmp 11), none⟩,
   ⟨(some 41), .ar .add (.tmp 39) (.tmp 40), none⟩,
   ⟨(some 42), .mv (.tmp 10), none⟩,
   ⟨(some 43), .ar .sub (.tmp 41) (.tmp 42), none⟩,
   ⟨(some 44), .mv (.tmp 10), none⟩,
   ⟨(some 45), .mv (.tmp 4), none⟩,
   ⟨(some 46), .call 71 [(.tmp 35), (.tmp 38), (.tmp 43), (.tmp 44), (.tmp 45)], none⟩] []) c_slices_rotateCmpFunc_serve_slot_14
def c_slices_rotateCmpFunc_serve_slot_10 : MCode := .cond (.tmp 23) c_slices_rotateCmpFunc_serve_slot_11 c_slices_rotateCmpFunc_serve_slot_13
def c_slices_rotateCmpFunc_serve_slot_9 : MCode := .seq (.region [⟨(some 21), .mv (.tmp 10), none⟩,
   ⟨(some 22), .mv (.tmp 11), none⟩,
   ⟨(some 23), .ar .gtr (.tmp 21) (.tmp 22), none⟩] []) c_slices_rotateCmpFunc_serve_slot_10
def c_slices_rotateCmpFunc_serve_slot_8 : MCode := .block 1 c_slices_rotateCmpFunc_serve_slot_9
def c_slices_rotateCmpFunc_serve_slot_5 : MCode := .seq c_slices_rotateCmpFunc_serve_slot_6 c_slices_rotateCmpFunc_serve_slot_8
def c_slices_rotateCmpFunc_serve_slot_4 : MCode := .loop [0, 2, 4, 10, 11] c_slices_rotateCmpFunc_serve_slot_5
def c_slices_rotateCmpFunc_serve_slot_3 : MCode := .block 0 c_slices_rotateCmpFunc_serve_slot_4
def c_slices_rotateCmpFunc_serve_slot_15 : MCode := (.region [⟨(some 50), .mv (.tmp 0), none⟩,
   ⟨(some 51), .mv (.tmp 2), none⟩,
   ⟨(some 52), .mv (.tmp 10), none⟩,
   ⟨(some 53), .ar .sub (.tmp 51) (.tmp 52), none⟩,
   ⟨(some 54), .mv (.tmp 2), none⟩,
   ⟨(some 55), .mv (.tmp 10), none⟩,
   ⟨(some 56), .mv (.tmp 4), none⟩,
   ⟨(some 57), .call 71 [(.tmp 50), (.tmp 53), (.tmp 54), (.tmp 55), (.tmp 56)], none⟩] [])
def c_slices_rotateCmpFunc_serve_slot_2 : MCode := .seq c_slices_rotateCmpFunc_serve_slot_3 c_slices_rotateCmpFunc_serve_slot_15
def c_slices_rotateCmpFunc_serve_slot_1 : MCode := .seq (.region [⟨(some 15), .mv (.tmp 3), none⟩,
   ⟨(some 16), .mv (.tmp 2), none⟩,
   ⟨(some 17), .ar .sub (.tmp 15) (.tmp 16), none⟩,
   ⟨(some 11), .mv (.tmp 17), none⟩] []) c_slices_rotateCmpFunc_serve_slot_2
def c_slices_rotateCmpFunc_serve_slot_0 : MCode := .seq (.region [⟨(some 12), .mv (.tmp 2), none⟩,
   ⟨(some 13), .mv (.tmp 1), none⟩,
   ⟨(some 14), .ar .sub (.tmp 12) (.tmp 13), none⟩,
   ⟨(some 10), .mv (.tmp 14), none⟩] []) c_slices_rotateCmpFunc_serve_slot_1
/-- slices.rotateCmpFunc[*trefoil/serve.slot] -/
def M_slices_rotateCmpFunc_serve_slot : MFun := ⟨5, c_slices_rotateCmpFunc_serve_slot_0, []⟩
abbrev F_slices_rotateCmpFunc_serve_slot : Nat := 64
set_option maxRecDepth 100000 in
theorem m_slices_rotateCmpFunc_serve_slot : InProg Try.prog 0 64 M_slices_rotateCmpFunc_serve_slot := ⟨Try.f64, [[0, 2, 4, 10, 11]], Try.func64, by kernel_rfl⟩
def c_slices_swapRangeCmpFunc_serve_slot_5 : MCode := .cond (.tmp 13) .skip (.exit 0)
def c_slices_swapRangeCmpFunc_serve_slot_4 : MCode := .seq (.region [⟨(some 11), .mv (.tmp 10), none⟩,
   ⟨(some 12), .mv (.tmp 3), none⟩,
   ⟨(some 13), .ar .lss (.tmp 11) (.tmp 12), none⟩] []) c_slices_swapRangeCmpFunc_serve_slot_5
def c_slices_swapRangeCmpFunc_serve_slot_8 : MCode := (.region [⟨(some 16), .mv (.tmp 0), none⟩,
   ⟨(some 17), .mv (.tmp 1), none⟩,
   ⟨(some 18), .mv (.tmp 10), none⟩,
   ⟨(some 19), .ar .add (.tmp 17) (.tmp 18), none⟩,
   ⟨(some 20), .mv (.tmp 0), none⟩,
   ⟨(some 21), .mv (.tmp 2), none⟩,
   ⟨(some 22), .mv (.tmp 10), none⟩,
   ⟨(some 23), .ar .add (.tmp 21) (.tmp 22), none⟩,
   ⟨(some 24), .mv (.tmp 0), none⟩,
   ⟨(some 25), .mv (.tmp 2), none⟩,
   ⟨(some 26), .mv (.tmp 10), none⟩,
   ⟨(some 27), .ar .add (.tmp 25) (.tmp 26), none⟩,
   ⟨(some 28), .ixV 1 (.tmp 24) (.tmp 27), none⟩,
   ⟨(some 29), .load1 (.tmp 28), none⟩,
   ⟨(some 30), .mv (.tmp 0), none⟩,
   ⟨(some 31), .mv (.tmp 1), none⟩,
   ⟨(some 32), .mv (.tmp 10), none⟩,
   ⟨(some 33), .ar .add (.tmp 31) (.tmp 32), none⟩,
   ⟨(some 34), .ixV 1 (.tmp 30) (.tmp 33), none⟩,
   ⟨(some 35), .load1 (.tmp 34), none⟩,
   ⟨(some 36), .ixV 1 (.tmp 16) (.tmp 19), none⟩,
   ⟨none, .store 1 (.tmp 36) (.tmp 29), none⟩,
   ⟨(some 37), .ixV 1 (.tmp 20) (.tmp 23), none⟩,
   ⟨none, .store 1 (.tmp 37) (.tmp 35), none⟩] [])
def c_slices_swapRangeCmpFunc_serve_slot_7 : MCode := .block 1 c_slices_swapRangeCmpFunc_serve_slot_8
def c_slices_swapRangeCmpFunc_serve_slot_9 : MCode := (.region [⟨(some 14), .mv (.tmp 10), none⟩,
   ⟨(some 15), .ar .add (.tmp 14) (.const (.int .i64 1)), none⟩,
   ⟨(some 10), .mv (.tmp 15), none⟩] [])
def c_slices_swapRangeCmpFunc_serve_slot_6 : MCode := .seq c_slices_swapRangeCmpFunc_serve_slot_7 c_slices_swapRangeCmpFunc_serve_slot_9
def c_slices_swapRangeCmpFunc_serve_slot_3 : MCode := .seq c_slices_swapRangeCmpFunc_serve_slot_4 c_slices_swapRangeCmpFunc_serve_slot_6
def c_slices_swapRangeCmpFunc_serve_slot_2 : MCode := .loop [0, 1, 2, 3, 10] c_slices_swapRangeCmpFunc_serve_slot_3
def c_slices_swapRangeCmpFunc_serve_slot_1 : MCode := .block 0 c_slices_swapRangeCmpFunc_serve_slot_2
def c_slices_swapRangeCmpFunc_serve_slot_0 : MCode := .seq (.region [⟨(some 10), .mv (.const (.int .i64 0)), none⟩] []) c_slices_swapRangeCmpFunc_serve_slot_1
/-- slices.swapRangeCmpFunc[*trefoil/serve.slot] -/
def M_slices_swapRangeCmpFunc_serve_slot : MFun := ⟨5, c_slices_swapRangeCmpFunc_serve_slot_0, []⟩
abbrev F_slices_swapRangeCmpFunc_serve_slot : Nat := 71
set_option maxRecDepth 100000 in
theorem m_slices_swapRangeCmpFunc_serve_slot : InProg Try.prog 0 71 M_slices_swapRangeCmpFunc_serve_slot := ⟨Try.f71, [[0, 1, 2, 3, 10]], Try.func71, by kernel_rfl⟩
def tab : List (Nat × MFun) := [(3, M_law33_ServeChecks), (4, M_law33_ServeOnce), (5, M_law33_ServePlays), (6, M_law33_ServeNobody), (7, M_serve_Check), (8, M_ref33_Check), (9, M_law33_awake), (10, M_serve_New), (11, M_serve_Table_Ask), (12, M_serve_Table_Grant), (13, M_serve_Table_Refuse), (14, M_serve_Table_Get), (15, M_serve_Table_Hear), (16, M_law33_does), (17, M_ref33_Table_Both), (18, M_ref33_Tickets), (19, M_serve_Table_Matched), (20, M_ref01_Ints), (21, M_serve_Table_Unlike), (22, M_serve_Table_Waiting), (23, M_ref33_Table_Waiting), (24, M_serve_Table_Len), (25, M_ref33_Table_Find), (26, M_serve_Table_Reset), (27, M_shape_Check), (28, M_ref09_Check), (29, M_serve_Table_ready), (30, M_serve_Table_slot), (31, M_serve_Table_own), (32, M_ref33_Table_Add), (33, M_ref33_Table_Grant), (34, M_ref33_Table_Refuse), (35, M_serve_Table_open), (37, M_maps_Keys_map_int_serve_slot_int_serve_slot), (38, M_shape_side), (39, M_ref09_in), (40, M_ref33_Table_with), (41, M_ref33_Table_own), (42, M_slices_SortStableFunc_serve_slot_serve_slot), (43, M_serve_Table_open_1), (47, M_slices_stableCmpFunc_serve_slot), (51, M_slices_insertionSortCmpFunc_serve_slot), (52, M_slices_symMergeCmpFunc_serve_slot), (64, M_slices_rotateCmpFunc_serve_slot), (71, M_slices_swapRangeCmpFunc_serve_slot)]
theorem tabIn : AllIn Try.prog 0 tab := ⟨m_law33_ServeChecks, m_law33_ServeOnce, m_law33_ServePlays, m_law33_ServeNobody, m_serve_Check, m_ref33_Check, m_law33_awake, m_serve_New, m_serve_Table_Ask, m_serve_Table_Grant, m_serve_Table_Refuse, m_serve_Table_Get, m_serve_Table_Hear, m_law33_does, m_ref33_Table_Both, m_ref33_Tickets, m_serve_Table_Matched, m_ref01_Ints, m_serve_Table_Unlike, m_serve_Table_Waiting, m_ref33_Table_Waiting, m_serve_Table_Len, m_ref33_Table_Find, m_serve_Table_Reset, m_shape_Check, m_ref09_Check, m_serve_Table_ready, m_serve_Table_slot, m_serve_Table_own, m_ref33_Table_Add, m_ref33_Table_Grant, m_ref33_Table_Refuse, m_serve_Table_open, m_maps_Keys_map_int_serve_slot_int_serve_slot, m_shape_side, m_ref09_in, m_ref33_Table_with, m_ref33_Table_own, m_slices_SortStableFunc_serve_slot_serve_slot, m_serve_Table_open_1, m_slices_stableCmpFunc_serve_slot, m_slices_insertionSortCmpFunc_serve_slot, m_slices_symMergeCmpFunc_serve_slot, m_slices_rotateCmpFunc_serve_slot, m_slices_swapRangeCmpFunc_serve_slot, trivial⟩
theorem mixed : Try.prog.follows .mixedOrders = true := by kernel_rfl
end Go.Proofs.Ytfbhmogjnjejmaa

/- The canonical machine: rules to walk through its code. Conditions: none. -/
namespace Go.Cm
open Go.RowKit
set_option linter.unusedVariables false
set_option linter.unusedSimpArgs false

def Fr.look : Fr → Nat → Option Value
  | [], _ => none
  | (t, v) :: r, s => match Nat.beq s t with | true => some v | false => Fr.look r s
def evO (f : Fr) : Operand → Option Value
  | .tmp t => f.look t
  | .const v => some v
  | .global g => some (.pointer (some ⟨g, 0, none⟩))
  | .func g => some (.func (.func g) #[] #[])
def evL (f : Fr) : List Operand → Option (List Value)
  | [] => some []
  | x :: xs => match evO f x, evL f xs with | some v, some vs => some (v :: vs) | _, _ => none
def keepO (f : Fr) : List Nat → Option Fr
  | [] => some []
  | t :: l => match f.look t, keepO f l with | some v, some r => some ((t, v) :: r) | none, some r => some ((t, unk) :: r) | _, none => none

theorem Fr.look_get {f : Fr} {t : Nat} {v : Value} (h : f.look t = some v) : f.get t = v := by
  induction f with
  | nil => cases h
  | cons p r ih =>
    obtain ⟨s, w⟩ := p
    simp only [Fr.look] at h
    simp only [Fr.get]
    split at h
    · rename_i hb
      rw [if_pos (Nat.eq_of_beq_eq_true hb)]
      cases h; rfl
    · rename_i hb
      rw [if_neg (Nat.ne_of_beq_eq_false hb)]
      exact ih h
theorem Fr.look_none {f : Fr} {t : Nat} (h : f.look t = none) : f.get t = unk := by
  induction f with
  | nil => rfl
  | cons p r ih =>
    obtain ⟨s, w⟩ := p
    simp only [Fr.look] at h
    simp only [Fr.get]
    split at h
    · cases h
    · rename_i hb
      rw [if_neg (Nat.ne_of_beq_eq_false hb)]
      exact ih h
theorem evO_ok {f : Fr} {x : Operand} {v : Value} (h : evO f x = some v) : f.ev x = v := by
  cases x with
  | tmp t => exact Fr.look_get h
  | const c => cases h; rfl
  | global g => cases h; rfl
  | func g => cases h; rfl
theorem evL_ok {f : Fr} : ∀ {xs : List Operand} {vs : List Value}, evL f xs = some vs → xs.map f.ev = vs
  | [], vs, h => by cases h; rfl
  | x :: xs, vs, h => by
    simp only [evL] at h
    split at h
    · rename_i v ws h1 h2
      cases h
      rw [List.map_cons, evO_ok h1, evL_ok h2]
    · cases h
theorem keepO_ok {f : Fr} : ∀ {l : List Nat} {r : Fr}, keepO f l = some r → f.keep l = r
  | [], r, h => by cases h; rfl
  | t :: l, r, h => by
    simp only [keepO] at h
    split at h
    · rename_i v r' h1 h2
      cases h
      rw [Fr.keep, Fr.look_get h1, keepO_ok h2]
    · rename_i r' h1 h2
      cases h
      rw [Fr.keep, Fr.look_none h1, keepO_ok h2]
    · cases h

def resOneL (f : Fr) (h : Heap) : MRes → Option Value
  | .tmp t => f.look t
  | .cell1 t => match f.look t with | some (.pointer (some a)) => h.rd1 a | _ => none
  | .cellN t n => match f.look t with | some (.pointer (some a)) => (match h.rdN a n with | some vs => some (.agg vs.toArray) | none => none) | _ => none
def resAllL (f : Fr) (h : Heap) : List MRes → Option (List Value)
  | [] => some []
  | r :: rs => match resOneL f h r, resAllL f h rs with | some v, some vs => some (v :: vs) | _, _ => none
def resL (rs : List MRes) (f : Fr) (h : Heap) : Option Value :=
  match resAllL f h rs with
  | some [v] => some v
  | some vs => some (.tuple vs.toArray)
  | none => none
theorem resOneL_ok {f : Fr} {h : Heap} {r : MRes} {v : Value} (H : resOneL f h r = some v) : resOne f h r = some v := by
  cases r with
  | tmp t => simp only [resOneL] at H; simp only [resOne, Fr.look_get H]
  | cell1 t =>
    simp only [resOneL] at H
    split at H
    · rename_i a ha; simp only [resOne, Fr.look_get ha, H]
    · cases H
  | cellN t n =>
    simp only [resOneL] at H
    split at H
    · rename_i a ha; simp only [resOne, Fr.look_get ha]; exact H
    · cases H
theorem resAllL_ok {f : Fr} {h : Heap} : ∀ {rs : List MRes} {vs : List Value}, resAllL f h rs = some vs → resAll f h rs = some vs
  | [], vs, H => H
  | r :: rs, vs, H => by
    simp only [resAllL] at H
    split at H
    · rename_i v ws h1 h2
      cases H
      simp only [resAll, resOneL_ok h1, resAllL_ok h2]
    · cases H
theorem resL_ok {rs : List MRes} {f : Fr} {h : Heap} {v : Value} (H : resL rs f h = some v) : resC rs f h = some v := by
  unfold resL at H
  unfold resC
  split at H
  · rename_i u hu; rw [resAllL_ok hu]; exact H
  · rename_i vs hne hu
    rw [resAllL_ok hu]
    cases H
    split
    · rename_i u e; cases e; exact (hne u rfl).elim
    · rename_i e; cases e; rfl
    · rename_i e; cases e
  · cases H

section
variable (M : Prg)

/-- a piece of code is left in a state that satisfies Q -/
def wp (c : MCode) (Q : Ex → Fr → Heap → Prop) (f : Fr) (h : Heap) : Prop := ∃ e f' h', Ev M (.code c f h e f' h') ∧ Q e f' h'
def wpR (live : List Nat) (c : MCode) (Q : Ex → Fr → Heap → Prop) (f : Fr) (h : Heap) : Prop := ∃ e f' h', Ev M (.rounds live c f h e f' h') ∧ Q e f' h'
def wpO (l : List MO) (K : Fr → Heap → Prop) (f : Fr) (h : Heap) : Prop := ∃ trs f' h', Ev M (.ops l f h trs f' h') ∧ K f' h'
/-- with what each did -/
def wpT (l : List MO) (K : List Tr → Fr → Heap → Prop) (f : Fr) (h : Heap) : Prop := ∃ trs f' h', Ev M (.ops l f h trs f' h') ∧ K trs f' h'
/-- a call -/
def Cl (g : FuncId) (args : List Value) (h : Heap) (K : Value → Heap → Prop) : Prop := ∃ v h', Ev M (.call g args h v h') ∧ K v h'

variable {M}

theorem Cl.mono {g : FuncId} {args : List Value} {h : Heap} {K K' : Value → Heap → Prop} (H : Cl M g args h K) (hk : ∀ v h', K v h' → K' v h') : Cl M g args h K' :=
  let ⟨v, h', e, k⟩ := H; ⟨v, h', e, hk v h' k⟩
theorem Cl.of {g : FuncId} {args : List Value} {h h' : Heap} {v : Value} (H : Ev M (.call g args h v h')) : Cl M g args h fun u k => u = v ∧ k = h' := ⟨v, h', H, rfl, rfl⟩
theorem Cl.eq {g : FuncId} {args : List Value} {h h' : Heap} {v : Value} (H : Cl M g args h fun u k => u = v ∧ k = h') : Ev M (.call g args h v h') := by
  obtain ⟨u, k, e, rfl, rfl⟩ := H; exact e

variable {Q : Ex → Fr → Heap → Prop} {K : Fr → Heap → Prop} {f : Fr} {h : Heap}

/-- what is asked behind the first of two -/
def Ex.then (Q1 : Fr → Heap → Prop) (Q : Ex → Fr → Heap → Prop) : Ex → Fr → Heap → Prop
  | .norm, f, h => Q1 f h
  | e, f, h => Q e f h

theorem w_skip (H : Q .norm f h) : wp M .skip Q f h := ⟨_, _, _, .skip, H⟩
theorem w_ret (H : Q .ret f h) : wp M .ret Q f h := ⟨_, _, _, .ret, H⟩
theorem w_exit {i : Nat} (H : Q (.exit i) f h) : wp M (.exit i) Q f h := ⟨_, _, _, .exit, H⟩
theorem w_seq {a b : MCode} (H : wp M a (Ex.then (wp M b Q) Q) f h) : wp M (.seq a b) Q f h := by
  obtain ⟨e, f1, h1, ha, hq⟩ := H
  cases e with
  | norm => obtain ⟨e2, f2, h2, hb, hq2⟩ := hq; exact ⟨e2, f2, h2, .seqN ha hb, hq2⟩
  | exit i => exact ⟨_, f1, h1, .seqX ha (by simp), hq⟩
  | ret => exact ⟨_, f1, h1, .seqX ha (by simp), hq⟩
theorem w_ops {l : List MO} (H : wpO M l (Q .norm) f h) : wp M (.region l []) Q f h := by
  obtain ⟨trs, f1, h1, ho, hq⟩ := H
  exact ⟨_, _, _, .region ho (fun _ hij => by cases hij), hq⟩
theorem w_opsT {l : List MO} {x : List (Nat × Nat)} (H : wpT M l (fun trs f' h' => (∀ ij ∈ x, CrossOK l trs ij) ∧ Q .norm f' h') f h) : wp M (.region l x) Q f h := by
  obtain ⟨trs, f1, h1, ho, hx, hq⟩ := H
  exact ⟨_, _, _, .region ho hx, hq⟩
theorem w_opsS {l : List MO} {b : MCode} (H : wpO M l (wp M b Q) f h) : wp M (.seq (.region l []) b) Q f h := w_seq (w_ops H)
theorem w_cond {c : Operand} {a b : MCode} {t : Bool} (hc : evO f c = some (.bool t)) (ht : t = true → wp M a Q f h) (hf : t = false → wp M b Q f h) : wp M (.cond c a b) Q f h := by
  cases t with
  | true => obtain ⟨e, f1, h1, ha, hq⟩ := ht rfl; exact ⟨e, f1, h1, .condT (evO_ok hc) ha, hq⟩
  | false => obtain ⟨e, f1, h1, ha, hq⟩ := hf rfl; exact ⟨e, f1, h1, .condF (evO_ok hc) ha, hq⟩
theorem w_condT {c : Operand} {a b : MCode} (hc : evO f c = some (.bool true)) (H : wp M a Q f h) : wp M (.cond c a b) Q f h := w_cond hc (fun _ => H) (fun e => by cases e)
theorem w_condF {c : Operand} {a b : MCode} (hc : evO f c = some (.bool false)) (H : wp M b Q f h) : wp M (.cond c a b) Q f h := w_cond hc (fun e => by cases e) (fun _ => H)

def Ex.inB (i : Nat) (Q : Ex → Fr → Heap → Prop) : Ex → Fr → Heap → Prop
  | .exit j, f, h => if j = i then Q .norm f h else Q (.exit j) f h
  | e, f, h => Q e f h
theorem w_block {i : Nat} {b : MCode} (H : wp M b (Ex.inB i Q) f h) : wp M (.block i b) Q f h := by
  obtain ⟨e, f1, h1, hb, hq⟩ := H
  cases e with
  | norm => exact ⟨_, f1, h1, .blockO hb (by simp), hq⟩
  | ret => exact ⟨_, f1, h1, .blockO hb (by simp), hq⟩
  | exit j =>
    simp only [Ex.inB] at hq
    by_cases hj : j = i
    · rw [if_pos hj] at hq; subst hj; exact ⟨_, f1, h1, .blockX hb, hq⟩
    · rw [if_neg hj] at hq; exact ⟨_, f1, h1, .blockO hb (by simpa using hj), hq⟩
theorem w_loop {live : List Nat} {b : MCode} {f' : Fr} (hk : keepO f live = some f') (H : wpR M live b Q f' h) : wp M (.loop live b) Q f h := by
  obtain ⟨e, f1, h1, hr, hq⟩ := H
  refine ⟨e, f1, h1, .loop ?_, hq⟩
  rw [keepO_ok hk]; exact hr
/-- a round; 'again': what is asked at the loop's head -/
def Ex.round (live : List Nat) (again : Fr → Heap → Prop) (Q : Ex → Fr → Heap → Prop) : Ex → Fr → Heap → Prop
  | .norm, f, h => ∃ f', keepO f live = some f' ∧ again f' h
  | e, f, h => Q e f h
theorem w_round {live : List Nat} {b : MCode} (H : wp M b (Ex.round live (wpR M live b Q) Q) f h) : wpR M live b Q f h := by
  obtain ⟨e, f1, h1, hb, hq⟩ := H
  cases e with
  | norm =>
    obtain ⟨f2, hk, e2, f3, h3, hr, hq⟩ := hq
    refine ⟨e2, f3, h3, .again hb ?_, hq⟩
    rw [keepO_ok hk]; exact hr
  | exit i => exact ⟨_, f1, h1, .out hb (by simp), hq⟩
  | ret => exact ⟨_, f1, h1, .out hb (by simp), hq⟩
theorem w_call {g : FuncId} {F : MFun} {args : List Value} {R : Value → Heap → Prop} (hF : M.fn g = some F) (hl : args.length = F.nargs)
    (H : wp M F.body (fun e f h => (e = .norm ∨ e = .ret) ∧ ∃ v, resL F.res f h = some v ∧ R v h) (initF 0 args) h) : Cl M g args h R := by
  obtain ⟨e, f1, h1, hb, he, v, hv, hr⟩ := H
  exact ⟨v, h1, .fcall hF hl hb he (resL_ok hv), hr⟩
theorem wp_mono {c : MCode} {Q' : Ex → Fr → Heap → Prop} (H : wp M c Q f h) (hq : ∀ e f h, Q e f h → Q' e f h) : wp M c Q' f h :=
  let ⟨e, f1, h1, hb, q⟩ := H; ⟨e, f1, h1, hb, hq _ _ _ q⟩

/-! ### operations -/

theorem o_nil (H : K f h) : wpO M [] K f h := ⟨_, _, _, .nil, H⟩
theorem o_op {o : MO} {r : List MO} {v : Value} {h' : Heap} (hw : wantedC f o.guard = some true) (ho : Ev M (.op o.op f h v h')) (H : wpO M r K (f.put o.dst v) h') : wpO M (o :: r) K f h := by
  obtain ⟨trs, f1, h1, he, hk⟩ := H
  exact ⟨_, f1, h1, .run hw ho he, hk⟩
theorem o_pass {t : Nat} {op : MOp} {g : Option (Nat × Bool)} {r : List MO} (hw : wantedC f g = some false) (H : wpO M r K ((t, undef) :: f) h) : wpO M (⟨some t, op, g⟩ :: r) K f h := by
  obtain ⟨trs, f1, h1, he, hk⟩ := H
  exact ⟨_, f1, h1, .pass hw he, hk⟩
theorem o_passN {op : MOp} {g : Option (Nat × Bool)} {r : List MO} (hw : wantedC f g = some false) (H : wpO M r K f h) : wpO M (⟨none, op, g⟩ :: r) K f h := by
  obtain ⟨trs, f1, h1, he, hk⟩ := H
  exact ⟨_, f1, h1, .pass hw he, hk⟩
/-- an operation that is reckoned -/
theorem o_prim {t : Nat} {op : MOp} {g : Option (Nat × Bool)} {r : List MO} {v : Value} {h' : Heap} (hw : wantedC f g = some true) (hc : cop f.ev h op = some (v, h')) (H : wpO M r K ((t, v) :: f) h') : wpO M (⟨some t, op, g⟩ :: r) K f h := o_op hw (.prim hc) H
theorem o_primN {op : MOp} {g : Option (Nat × Bool)} {r : List MO} {v : Value} {h' : Heap} (hw : wantedC f g = some true) (hc : cop f.ev h op = some (v, h')) (H : wpO M r K f h') : wpO M (⟨none, op, g⟩ :: r) K f h := o_op hw (.prim hc) H
theorem o_mv {t : Nat} {x : Operand} {g : Option (Nat × Bool)} {r : List MO} {v : Value} (hw : wantedC f g = some true) (hx : evO f x = some v) (H : wpO M r K ((t, v) :: f) h) : wpO M (⟨some t, .mv x, g⟩ :: r) K f h :=
  o_op hw (.prim (by simp only [cop, evO_ok hx])) H
theorem o_pickT {t : Nat} {c x y : Operand} {g : Option (Nat × Bool)} {r : List MO} {v : Value} (hw : wantedC f g = some true) (hc : evO f c = some (.bool true)) (hx : evO f x = some v) (H : wpO M r K ((t, v) :: f) h) : wpO M (⟨some t, .pick c x y, g⟩ :: r) K f h :=
  o_op hw (.prim (by simp only [cop, evO_ok hx, evO_ok hc, if_true])) H
theorem o_pickF {t : Nat} {c x y : Operand} {g : Option (Nat × Bool)} {r : List MO} {v : Value} (hw : wantedC f g = some true) (hc : evO f c = some (.bool false)) (hx : evO f y = some v) (H : wpO M r K ((t, v) :: f) h) : wpO M (⟨some t, .pick c x y, g⟩ :: r) K f h :=
  o_op hw (.prim (by simp [cop, evO_ok hx, evO_ok hc])) H
theorem o_lenV {t : Nat} {x : Operand} {g : Option (Nat × Bool)} {r : List MO} {a : Option Addr} {len cap : Nat} (hw : wantedC f g = some true) (hx : evO f x = some (.slice a len cap)) (H : wpO M r K ((t, .int .i64 len) :: f) h) : wpO M (⟨some t, .lenV x, g⟩ :: r) K f h :=
  o_op hw (.prim (by simp only [cop, evO_ok hx])) H
theorem o_ixV {t : Nat} {e : Nat} {x i : Operand} {g : Option (Nat × Bool)} {r : List MO} {a : Addr} {len cap : Nat} {k : IntKind} {n : Int} (hw : wantedC f g = some true) (hx : evO f x = some (.slice (some a) len cap)) (hi : evO f i = some (.int k n)) (hb : 0 ≤ n ∧ n < len)
    (H : wpO M r K ((t, .pointer (some (addOff a (n.toNat * e)))) :: f) h) : wpO M (⟨some t, .ixV e x i, g⟩ :: r) K f h :=
  o_op hw (.prim (by simp only [cop, evO_ok hx, evO_ok hi]; rw [if_pos hb])) H
theorem o_load1 {t : Nat} {x : Operand} {g : Option (Nat × Bool)} {r : List MO} {a : Addr} {v : Value} (hw : wantedC f g = some true) (hx : evO f x = some (.pointer (some a))) (hr : h.rd1 a = some v) (H : wpO M r K ((t, v) :: f) h) : wpO M (⟨some t, .load1 x, g⟩ :: r) K f h :=
  o_op hw (.prim (by simp only [cop, evO_ok hx, hr])) H
theorem o_loadN {t : Nat} {n : Nat} {x : Operand} {g : Option (Nat × Bool)} {r : List MO} {a : Addr} {vs : List Value} (hw : wantedC f g = some true) (hx : evO f x = some (.pointer (some a))) (hr : h.rdN a n = some vs) (H : wpO M r K ((t, .agg vs.toArray) :: f) h) : wpO M (⟨some t, .loadN n x, g⟩ :: r) K f h :=
  o_op hw (.prim (by simp only [cop, evO_ok hx, hr])) H
/-- a comparison of numbers, its outcome known ahead -/
theorem o_cmp {t : Nat} {op : BinOp} {x y : Operand} {g : Option (Nat × Bool)} {r : List MO} {k : IntKind} {a b : Int} {c d : Bool} (hw : wantedC f g = some true) (hx : evO f x = some (.int k a)) (hy : evO f y = some (.int k b))
    (hc : arith op (.int k a) (.int k b) = some (.bool c)) (hd : c = d) (H : wpO M r K ((t, .bool d) :: f) h) : wpO M (⟨some t, .ar op x y, g⟩ :: r) K f h :=
  o_op hw (.prim (by simp only [cop, evO_ok hx, evO_ok hy, hc, hd])) H
theorem o_ar {t : Nat} {op : BinOp} {x y : Operand} {g : Option (Nat × Bool)} {r : List MO} {u v w w' : Value} (hw : wantedC f g = some true) (hx : evO f x = some u) (hy : evO f y = some v)
    (hc : arith op u v = some w) (hd : w = w') (H : wpO M r K ((t, w') :: f) h) : wpO M (⟨some t, .ar op x y, g⟩ :: r) K f h :=
  o_op hw (.prim (by simp only [cop, evO_ok hx, evO_ok hy, hc, hd])) H
theorem o_call {t : Nat} {k : FuncId} {xs : List Operand} {g : Option (Nat × Bool)} {r : List MO} {vs : List Value} {R : Value → Heap → Prop} (hw : wantedC f g = some true) (hx : evL f xs = some vs) (hc : Cl M k vs h R)
    (H : ∀ v h', R v h' → wpO M r K ((t, v) :: f) h') : wpO M (⟨some t, .call k xs, g⟩ :: r) K f h := by
  obtain ⟨v, h', he, hr⟩ := hc
  refine o_op (v := v) (h' := h') hw (.opcall ?_) (H v h' hr)
  rw [evL_ok hx]; exact he
theorem o_callN {k : FuncId} {xs : List Operand} {g : Option (Nat × Bool)} {r : List MO} {vs : List Value} {R : Value → Heap → Prop} (hw : wantedC f g = some true) (hx : evL f xs = some vs) (hc : Cl M k vs h R)
    (H : ∀ v h', R v h' → wpO M r K f h') : wpO M (⟨none, .call k xs, g⟩ :: r) K f h := by
  obtain ⟨v, h', he, hr⟩ := hc
  refine o_op (v := v) (h' := h') hw (.opcall ?_) (H v h' hr)
  rw [evL_ok hx]; exact he


/-- operations whose outcome is better told by a rule of their own -/
def isCmp : MOp → Bool
  | .mv _ | .pick .. | .eq .. => true
  | .ar op _ _ => match op with | .eql | .neq | .lss | .leq | .gtr | .geq => true | _ => false
  | _ => false
theorem o_primS {t : Nat} {op : MOp} {g : Option (Nat × Bool)} {r : List MO} {v : Value} {h' : Heap} (hs : isCmp op = false) (hw : wantedC f g = some true) (hc : cop f.ev h op = some (v, h')) (H : wpO M r K ((t, v) :: f) h') : wpO M (⟨some t, op, g⟩ :: r) K f h := o_op hw (.prim hc) H
theorem t_primS {T : List Tr → Fr → Heap → Prop} {t : Nat} {op : MOp} {g : Option (Nat × Bool)} {r : List MO} {v : Value} {h' : Heap} (hs : isCmp op = false) (hw : wantedC f g = some true) (hc : cop f.ev h op = some (v, h')) (H : wpT M r (fun trs => T (⟨true, f, h, h', v⟩ :: trs)) ((t, v) :: f) h') : wpT M (⟨some t, op, g⟩ :: r) T f h := by
  obtain ⟨trs, f1, h1, he, hk⟩ := H
  exact ⟨_, f1, h1, .run (o := ⟨some t, op, g⟩) hw (.prim hc) he, hk⟩
theorem o_eqB {t : Nat} {neg : Bool} {e : EqT} {x y : Operand} {g : Option (Nat × Bool)} {r : List MO} {u v : Value} {b d : Bool} (hw : wantedC f g = some true) (hx : evO f x = some u) (hy : evO f y = some v) (hc : eqVal e u v = some b) (hd : (if neg then !b else b) = d)
    (H : wpO M r K ((t, .bool d) :: f) h) : wpO M (⟨some t, .eq neg e x y, g⟩ :: r) K f h :=
  o_op hw (.prim (by simp only [cop, evO_ok hx, evO_ok hy, hc, hd])) H
/-- a string's comparison and the like: any value that is told -/
theorem o_is {t : Nat} {op : MOp} {g : Option (Nat × Bool)} {r : List MO} {v w : Value} {h' : Heap} (hw : wantedC f g = some true) (hc : cop f.ev h op = some (v, h')) (hv : v = w) (H : wpO M r K ((t, w) :: f) h') : wpO M (⟨some t, op, g⟩ :: r) K f h := by
  subst hv; exact o_op hw (.prim hc) H

/-! ### the same, where what each did is kept -/
section
variable {T : List Tr → Fr → Heap → Prop}
theorem t_nil (H : T [] f h) : wpT M [] T f h := ⟨_, _, _, .nil, H⟩
theorem t_op {o : MO} {r : List MO} {v : Value} {h' : Heap} (hw : wantedC f o.guard = some true) (ho : Ev M (.op o.op f h v h')) (H : wpT M r (fun trs => T (⟨true, f, h, h', v⟩ :: trs)) (f.put o.dst v) h') : wpT M (o :: r) T f h := by
  obtain ⟨trs, f1, h1, he, hk⟩ := H
  exact ⟨_, f1, h1, .run hw ho he, hk⟩
theorem t_pass {t : Nat} {op : MOp} {g : Option (Nat × Bool)} {r : List MO} (hw : wantedC f g = some false) (H : wpT M r (fun trs => T (⟨false, f, h, h, undef⟩ :: trs)) ((t, undef) :: f) h) : wpT M (⟨some t, op, g⟩ :: r) T f h := by
  obtain ⟨trs, f1, h1, he, hk⟩ := H
  exact ⟨_, f1, h1, .pass hw he, hk⟩
theorem t_prim {t : Nat} {op : MOp} {g : Option (Nat × Bool)} {r : List MO} {v : Value} {h' : Heap} (hw : wantedC f g = some true) (hc : cop f.ev h op = some (v, h')) (H : wpT M r (fun trs => T (⟨true, f, h, h', v⟩ :: trs)) ((t, v) :: f) h') : wpT M (⟨some t, op, g⟩ :: r) T f h := t_op hw (.prim hc) H
theorem t_primN {op : MOp} {g : Option (Nat × Bool)} {r : List MO} {v : Value} {h' : Heap} (hw : wantedC f g = some true) (hc : cop f.ev h op = some (v, h')) (H : wpT M r (fun trs => T (⟨true, f, h, h', v⟩ :: trs)) f h') : wpT M (⟨none, op, g⟩ :: r) T f h := t_op hw (.prim hc) H
theorem t_mv {t : Nat} {x : Operand} {g : Option (Nat × Bool)} {r : List MO} {v : Value} (hw : wantedC f g = some true) (hx : evO f x = some v) (H : wpT M r (fun trs => T (⟨true, f, h, h, v⟩ :: trs)) ((t, v) :: f) h) : wpT M (⟨some t, .mv x, g⟩ :: r) T f h :=
  t_op hw (.prim (by simp only [cop, evO_ok hx])) H
theorem t_pickT {t : Nat} {c x y : Operand} {g : Option (Nat × Bool)} {r : List MO} {v : Value} (hw : wantedC f g = some true) (hc : evO f c = some (.bool true)) (hx : evO f x = some v) (H : wpT M r (fun trs => T (⟨true, f, h, h, v⟩ :: trs)) ((t, v) :: f) h) : wpT M (⟨some t, .pick c x y, g⟩ :: r) T f h :=
  t_op hw (.prim (by simp only [cop, evO_ok hx, evO_ok hc, if_true])) H
theorem t_pickF {t : Nat} {c x y : Operand} {g : Option (Nat × Bool)} {r : List MO} {v : Value} (hw : wantedC f g = some true) (hc : evO f c = some (.bool false)) (hx : evO f y = some v) (H : wpT M r (fun trs => T (⟨true, f, h, h, v⟩ :: trs)) ((t, v) :: f) h) : wpT M (⟨some t, .pick c x y, g⟩ :: r) T f h :=
  t_op hw (.prim (by simp [cop, evO_ok hx, evO_ok hc])) H
theorem t_load1 {t : Nat} {x : Operand} {g : Option (Nat × Bool)} {r : List MO} {a : Addr} {v : Value} (hw : wantedC f g = some true) (hx : evO f x = some (.pointer (some a))) (hr : h.rd1 a = some v) (H : wpT M r (fun trs => T (⟨true, f, h, h, v⟩ :: trs)) ((t, v) :: f) h) : wpT M (⟨some t, .load1 x, g⟩ :: r) T f h :=
  t_op hw (.prim (by simp only [cop, evO_ok hx, hr])) H
theorem t_loadN {t : Nat} {n : Nat} {x : Operand} {g : Option (Nat × Bool)} {r : List MO} {a : Addr} {vs : List Value} (hw : wantedC f g = some true) (hx : evO f x = some (.pointer (some a))) (hr : h.rdN a n = some vs) (H : wpT M r (fun trs => T (⟨true, f, h, h, .agg vs.toArray⟩ :: trs)) ((t, .agg vs.toArray) :: f) h) : wpT M (⟨some t, .loadN n x, g⟩ :: r) T f h :=
  t_op hw (.prim (by simp only [cop, evO_ok hx, hr])) H
theorem t_ar {t : Nat} {op : BinOp} {x y : Operand} {g : Option (Nat × Bool)} {r : List MO} {u v w w' : Value} (hw : wantedC f g = some true) (hx : evO f x = some u) (hy : evO f y = some v)
    (hc : arith op u v = some w) (hd : w = w') (H : wpT M r (fun trs => T (⟨true, f, h, h, w'⟩ :: trs)) ((t, w') :: f) h) : wpT M (⟨some t, .ar op x y, g⟩ :: r) T f h :=
  t_op hw (.prim (by simp only [cop, evO_ok hx, evO_ok hy, hc, hd])) H
theorem t_call {t : Nat} {k : FuncId} {xs : List Operand} {g : Option (Nat × Bool)} {r : List MO} {vs : List Value} {R : Value → Heap → Prop} (hw : wantedC f g = some true) (hx : evL f xs = some vs) (hc : Cl M k vs h R)
    (H : ∀ v h', R v h' → wpT M r (fun trs => T (⟨true, f, h, h', v⟩ :: trs)) ((t, v) :: f) h') : wpT M (⟨some t, .call k xs, g⟩ :: r) T f h := by
  obtain ⟨v, h', he, hr⟩ := hc
  refine t_op (v := v) (h' := h') hw (.opcall ?_) (H v h' hr)
  rw [evL_ok hx]; exact he
end

/-! ### memory -/
theorem Heap.get?_push {h : Heap} {o : CObj} {c : Nat} : (h.push o).get? c = if c = h.n then some o else h.get? c := by
  by_cases hc : c = h.n
  · rw [if_pos hc, hc]; exact Heap.get?_push_new
  · rw [if_neg hc]
    by_cases hl : c < h.n
    · exact Heap.get?_push_old hl
    · have h1 : (h.push o).get? c = none := by
        cases hg : (h.push o).get? c with
        | none => rfl
        | some x => have := Heap.get?_lt hg; simp [Heap.push] at this; omega
      have h2 : h.get? c = none := by
        cases hg : h.get? c with
        | none => rfl
        | some x => exact absurd (Heap.get?_lt hg) hl
      rw [h1, h2]
theorem Heap.push_n {h : Heap} {o : CObj} : (h.push o).n = h.n + 1 := rfl
theorem Heap.set_n {h : Heap} {o : CObj} {c : Nat} : (h.set c o).n = h.n := rfl

/-- memory that has only been made longer -/
def Le (h h' : Heap) : Prop := h.n ≤ h'.n ∧ ∀ c, c < h.n → h'.get? c = h.get? c
theorem Le.refl {h : Heap} : Le h h := ⟨Nat.le_refl _, fun _ _ => rfl⟩
theorem Le.trans {a b c : Heap} (h1 : Le a b) (h2 : Le b c) : Le a c := ⟨Nat.le_trans h1.1 h2.1, fun k hk => (h2.2 k (Nat.lt_of_lt_of_le hk h1.1)).trans (h1.2 k hk)⟩
theorem Le.push {h : Heap} {o : CObj} : Le h (h.push o) := ⟨by simp [Heap.push], fun c hc => Heap.get?_push_old hc⟩
theorem Le.get {h h' : Heap} (l : Le h h') {c : Nat} {o : CObj} (ho : h.get? c = some o) : h'.get? c = some o := by rw [l.2 c (Heap.get?_lt ho)]; exact ho
theorem Le.cells {h h' : Heap} (l : Le h h') {c : Nat} {cs : List Value} (hc : h.cells c = some cs) : h'.cells c = some cs := by
  unfold Heap.cells at hc ⊢
  cases hg : h.get? c with
  | none => rw [hg] at hc; cases hc
  | some o => rw [l.get hg]; rw [hg] at hc; exact hc
theorem Le.rd1 {h h' : Heap} (l : Le h h') {a : Addr} {v : Value} (hr : h.rd1 a = some v) : h'.rd1 a = some v := by
  unfold Heap.rd1 at hr ⊢
  split at hr
  · cases hr
  · rename_i hs
    rw [if_neg hs]
    split at hr
    · rename_i cs hc; rw [l.cells hc]; exact hr
    · cases hr
theorem Le.rdN {h h' : Heap} (l : Le h h') {a : Addr} {n : Nat} {vs : List Value} (hr : h.rdN a n = some vs) : h'.rdN a n = some vs := by
  unfold Heap.rdN at hr ⊢
  split at hr
  · cases hr
  · rename_i hs
    rw [if_neg hs]
    split at hr
    · rename_i cs hc; rw [l.cells hc]; exact hr
    · cases hr
theorem Heap.cells_push {h : Heap} {cs : List Value} : (h.push (.rw cs)).cells h.n = some cs := by unfold Heap.cells; rw [Heap.get?_push_new]
theorem Heap.rdN_all {h : Heap} {c : Nat} {cs : List Value} (hc : h.cells c = some cs) : h.rdN ⟨c, 0, none⟩ cs.length = some cs := by
  unfold Heap.rdN
  simp [hc]
theorem Heap.rd1_at {h : Heap} {c o : Nat} {cs : List Value} (hc : h.cells c = some cs) : h.rd1 ⟨c, o, none⟩ = cs[o]? := by
  unfold Heap.rd1
  simp [hc]
theorem Heap.cells_of {h : Heap} {c : Nat} {cs : List Value} (hg : h.get? c = some (.rw cs)) : h.cells c = some cs := by unfold Heap.cells; rw [hg]

end
end Go.Cm

/- The canonical machine: a call without addresses, known on no memory, is known on every memory. Conditions: none. -/
namespace Go.Cm
open Go.RowKit
set_option linter.unusedVariables false
set_option linter.unusedSimpArgs false

/-- a result without addresses -/
def flatR : Value → Bool
  | .tuple vs => vs.toList.all flat
  | v => flat v
theorem flatR_eq {φ : Emb} {u v : Value} (h : RelV φ u v) (hf : flatR u = true) : v = u := by
  cases h with
  | @tuple a b hs hh =>
    simp only [flatR] at hf
    rw [List.all_eq_true] at hf
    congr 1
    refine Array.ext hs.symm fun i h1 h2 => ?_
    exact flat_eq (hh i a[i] b[i] (Array.getElem?_eq_getElem h2) (Array.getElem?_eq_getElem h1)) (hf _ (by simp))
  | top v => simp [flatR, flat, flat1, unk] at hf
  | @agg a b ho hs hh => exact flat_eq (.agg ho hs hh) hf
  | _ => first | rfl | (simp [flatR, flat, flat1] at hf)
theorem RelV.sameR {φ : Emb} {u : Value} (hf : flatR u = true) : RelV φ u u := by
  cases u with
  | tuple a =>
    simp only [flatR] at hf
    rw [List.all_eq_true] at hf
    exact .tuple rfl fun i v v' p q => by rw [p] at q; cases q; exact RelV.same (hf v (by simpa using Array.mem_of_getElem? p))
  | _ => exact RelV.same hf

theorem pure_call {P : Program} {M : Prg} {g : FuncId} {args : List Value} {v : Value} {h1 : Heap} (hmix : P.follows .mixedOrders = true) (hM : Knows P 0 M) (hev : Ev M (.call g args ⟨0, []⟩ v h1)) (hargs : args.all flat = true) (hv : flatR v = true)
    (B : Nat) (W0 : World) (h : Heap) : GoodCall P 0 B W0 g args h v h := by
  have hs := fun B W0 => (sound (B := B) (W0 := W0) hmix hM.fn (hM.orac B W0) hev).2
  refine ⟨(hs B W0).1, fun φ W args' s gl hr free => ?_⟩
  refine ((hs W.heap.size W).2 (fun _ => none) W args' (Sim.nothing W 0) (Glob.none _) (relL_flat hr hargs) (fun _ _ _ => rfl)).mono ?_
  rintro e W' ⟨φ', v', rfl, hv', s', x'⟩
  have := flatR_eq hv' hv
  subst this
  exact ⟨φ, v', rfl, RelV.sameR hv, s.below' s'.below, .below s'.below⟩

theorem Ev.mono {M M' : Prg} (hf : M'.fn = M.fn) (ho : ∀ g args h v h', M.orac g args h v h' → M'.orac g args h v h') {j : Jd} (H : Ev M j) : Ev M' j := by
  induction H with
  | prim hc => exact .prim hc
  | opcall _ ih => exact .opcall ih
  | opcallV hx _ ih => exact .opcallV hx ih
  | nil => exact .nil
  | run hw _ _ ih1 ih2 => exact .run hw ih1 ih2
  | pass hw _ ih => exact .pass hw ih
  | skip => exact .skip
  | region _ hx ih => exact .region ih hx
  | seqN _ _ ih1 ih2 => exact .seqN ih1 ih2
  | seqX _ hne ih => exact .seqX ih hne
  | condT hc _ ih => exact .condT hc ih
  | condF hc _ ih => exact .condF hc ih
  | blockX _ ih => exact .blockX ih
  | blockO _ hne ih => exact .blockO ih hne
  | loop _ ih => exact .loop ih
  | again _ _ ih1 ih2 => exact .again ih1 ih2
  | out _ hne ih => exact .out ih hne
  | exit => exact .exit
  | ret => exact .ret
  | fcall hF hl _ he hv ih => exact .fcall (by rw [hf]; exact hF) hl ih he hv
  | known h => exact .known (ho _ _ _ _ _ h)

end Go.Cm

/- The canonical machine: a call whose arguments have no addresses, known on no memory, is known on every memory: what it made lies behind. Conditions: none. -/
namespace Go.Cm
open Go.RowKit
set_option linter.unusedVariables false
set_option linter.unusedSimpArgs false

/-- one cell's value, its addresses moved -/
def shC (n : Nat) (k : Nat) : Value → Value := match k with
  | 0 => fun v => match v with
    | .pointer (some a) => .pointer (some ⟨n + a.block, a.off, a.spot⟩)
    | .slice (some a) l c => .slice (some ⟨n + a.block, a.off, a.spot⟩) l c
    | .map (some c) => .map (some (n + c))
    | .iface t _ => .iface t unk
    | .func f a b => .func f (a.map fun _ => unk) (b.map fun _ => unk)
    | .agg _ => unk
    | .tuple _ => unk
    | v => v
  | k + 1 => fun v => match v with
    | .pointer (some a) => .pointer (some ⟨n + a.block, a.off, a.spot⟩)
    | .slice (some a) l c => .slice (some ⟨n + a.block, a.off, a.spot⟩) l c
    | .map (some c) => .map (some (n + c))
    | .iface t v => .iface t (match v with | .agg cs => .agg (cs.map (shC n k)) | v => shC n k v)
    | .func f a b => .func f (a.map fun v => match v with | .agg cs => .agg (cs.map (shC n k)) | v => shC n k v) (b.map fun v => match v with | .agg cs => .agg (cs.map (shC n k)) | v => shC n k v)
    | .agg _ => unk
    | .tuple _ => unk
    | v => v
def shX (n : Nat) (k : Nat) (v : Value) : Value := match v with
  | .agg cs => .agg (cs.map (shC n k))
  | v => shC n k v
def shR (n : Nat) : Value → Value
  | .tuple vs => .tuple (vs.map (shX n 3))
  | v => shX n 3 v
def shO (n : Nat) : CObj → CObj
  | .ro cs => .ro (cs.map (shC n 3))
  | .rw cs => .rw (cs.map (shC n 3))
  | .loose e cs => .loose e (cs.map (shC n 3))
  | .dead => .dead
  | .map es k => .map (es.map fun e => (shX n 3 e.1, shX n 3 e.2.1, e.2.2)) k
def Heap.add (h h1 : Heap) : Heap := ⟨h.n + h1.n, h1.l.map (shO h.n) ++ h.l⟩

section
variable {φ ψ : Emb} {n : Nat} (hφ : ∀ c l, φ c = some l → ψ (n + c) = some l)
include hφ

theorem shC_rel : ∀ (k : Nat) (u v : Value), RelV φ u v → RelV ψ (shC n k u) v ∧ (one u = true → one (shC n k u) = true)
  | 0, u, v, h => by
    cases h with
    | top v => exact ⟨.top v, id⟩
    | bool b => exact ⟨.bool b, id⟩
    | int q m => exact ⟨.int q m, id⟩
    | str s => exact ⟨.str s, id⟩
    | nilp => exact ⟨.nilp, id⟩
    | ptr hc => exact ⟨.ptr (hφ _ _ hc), fun _ => rfl⟩
    | nils => exact ⟨.nils, id⟩
    | sl hc hk hn => exact ⟨.sl (hφ _ _ hc) hk hn, fun _ => rfl⟩
    | slz => exact ⟨.slz, fun _ => rfl⟩
    | nilm => exact ⟨.nilm, id⟩
    | map hc hb => exact ⟨.map (hφ _ _ hc) hb, fun _ => rfl⟩
    | nilf => exact ⟨.nilf, id⟩
    | nili => exact ⟨.nili, id⟩
    | iface h => exact ⟨.iface (.top _), fun _ => rfl⟩
    | agg => exact ⟨.top _, fun e => by cases e⟩
    | tuple => exact ⟨.top _, fun e => by cases e⟩
    | func h1 h2 h3 h4 =>
      refine ⟨.func (by simpa using h1) (fun i p q e1 e2 => ?_) (by simpa using h3) (fun i p q e1 e2 => ?_), fun _ => rfl⟩
      · simp only [Array.getElem?_map, Option.map_eq_some_iff] at e1
        obtain ⟨_, _, rfl⟩ := e1; exact .top _
      · simp only [Array.getElem?_map, Option.map_eq_some_iff] at e1
        obtain ⟨_, _, rfl⟩ := e1; exact .top _
  | k + 1, u, v, h => by
    have inner : ∀ p q, RelV φ p q → RelV ψ (match p with | .agg cs => .agg (cs.map (shC n k)) | v => shC n k v) q := by
      intro p q hpq
      cases hpq with
      | @agg a b ho hs hh =>
        refine .agg ?_ (by simpa using hs) fun i v v' e1 e2 => ?_
        · rw [List.all_eq_true] at ho ⊢
          intro x hx
          simp only [Array.toList_map, List.mem_map] at hx
          obtain ⟨y, hy, rfl⟩ := hx
          obtain ⟨i, hi⟩ := List.getElem?_of_mem hy
          have hlt : i < b.size := by
            rw [← hs]
            rcases Nat.lt_or_ge i a.size with g | g
            · exact g
            · rw [List.getElem?_eq_none (by simpa using g)] at hi; cases hi
          exact (shC_rel k y b[i] (hh i y b[i] (by simpa using hi) (Array.getElem?_eq_getElem hlt))).2 (ho y hy)
        · simp only [Array.getElem?_map, Option.map_eq_some_iff] at e1
          obtain ⟨y, e3, rfl⟩ := e1
          exact (shC_rel k y v' (hh i y v' e3 e2)).1
      | top v => exact (shC_rel k (.chan none) _ (.top _)).1
      | bool b => exact (shC_rel k _ _ (.bool b)).1
      | int a b => exact (shC_rel k _ _ (.int a b)).1
      | str s => exact (shC_rel k _ _ (.str s)).1
      | nilp => exact (shC_rel k _ _ .nilp).1
      | ptr hc => exact (shC_rel k _ _ (.ptr hc)).1
      | nils => exact (shC_rel k _ _ .nils).1
      | sl hc hk hn => exact (shC_rel k _ _ (.sl hc hk hn)).1
      | slz => exact (shC_rel k _ _ .slz).1
      | nilm => exact (shC_rel k _ _ .nilm).1
      | map hc hb => exact (shC_rel k _ _ (.map hc hb)).1
      | nilf => exact (shC_rel k _ _ .nilf).1
      | nili => exact (shC_rel k _ _ .nili).1
      | iface h => exact (shC_rel k _ _ (.iface h)).1
      | tuple h1 h2 => exact (shC_rel k _ _ (.tuple h1 h2)).1
      | func h1 h2 h3 h4 => exact (shC_rel k _ _ (.func h1 h2 h3 h4)).1
    cases h with
    | top v => exact ⟨.top v, id⟩
    | bool b => exact ⟨.bool b, id⟩
    | int q m => exact ⟨.int q m, id⟩
    | str s => exact ⟨.str s, id⟩
    | nilp => exact ⟨.nilp, id⟩
    | ptr hc => exact ⟨.ptr (hφ _ _ hc), fun _ => rfl⟩
    | nils => exact ⟨.nils, id⟩
    | sl hc hk hn => exact ⟨.sl (hφ _ _ hc) hk hn, fun _ => rfl⟩
    | slz => exact ⟨.slz, fun _ => rfl⟩
    | nilm => exact ⟨.nilm, id⟩
    | map hc hb => exact ⟨.map (hφ _ _ hc) hb, fun _ => rfl⟩
    | nilf => exact ⟨.nilf, id⟩
    | nili => exact ⟨.nili, id⟩
    | iface h => exact ⟨.iface (inner _ _ h), fun _ => rfl⟩
    | agg => exact ⟨.top _, fun e => by cases e⟩
    | tuple => exact ⟨.top _, fun e => by cases e⟩
    | func h1 h2 h3 h4 =>
      refine ⟨.func (by simpa using h1) (fun i p q e1 e2 => ?_) (by simpa using h3) (fun i p q e1 e2 => ?_), fun _ => rfl⟩
      · simp only [Array.getElem?_map, Option.map_eq_some_iff] at e1
        obtain ⟨y, e3, rfl⟩ := e1; exact inner _ _ (h2 i y q e3 e2)
      · simp only [Array.getElem?_map, Option.map_eq_some_iff] at e1
        obtain ⟨y, e3, rfl⟩ := e1; exact inner _ _ (h4 i y q e3 e2)

theorem shX_rel (k : Nat) {u v : Value} (h : RelV φ u v) : RelV ψ (shX n k u) v := by
  unfold shX
  cases h with
  | @agg a b ho hs hh =>
    refine .agg ?_ (by simpa using hs) fun i v v' e1 e2 => ?_
    · rw [List.all_eq_true] at ho ⊢
      intro x hx
      simp only [Array.toList_map, List.mem_map] at hx
      obtain ⟨y, hy, rfl⟩ := hx
      obtain ⟨i, hi⟩ := List.getElem?_of_mem hy
      have hlt : i < b.size := by
        rw [← hs]
        rcases Nat.lt_or_ge i a.size with g | g
        · exact g
        · rw [List.getElem?_eq_none (by simpa using g)] at hi; cases hi
      exact (shC_rel hφ k y b[i] (hh i y b[i] (by simpa using hi) (Array.getElem?_eq_getElem hlt))).2 (ho y hy)
    · simp only [Array.getElem?_map, Option.map_eq_some_iff] at e1
      obtain ⟨y, e3, rfl⟩ := e1
      exact (shC_rel hφ k y v' (hh i y v' e3 e2)).1
  | top v => exact (shC_rel hφ k _ _ (.top v)).1
  | bool b => exact (shC_rel hφ k _ _ (.bool b)).1
  | int a b => exact (shC_rel hφ k _ _ (.int a b)).1
  | str s => exact (shC_rel hφ k _ _ (.str s)).1
  | nilp => exact (shC_rel hφ k _ _ .nilp).1
  | ptr hc => exact (shC_rel hφ k _ _ (.ptr hc)).1
  | nils => exact (shC_rel hφ k _ _ .nils).1
  | sl hc hk hn => exact (shC_rel hφ k _ _ (.sl hc hk hn)).1
  | slz => exact (shC_rel hφ k _ _ .slz).1
  | nilm => exact (shC_rel hφ k _ _ .nilm).1
  | map hc hb => exact (shC_rel hφ k _ _ (.map hc hb)).1
  | nilf => exact (shC_rel hφ k _ _ .nilf).1
  | nili => exact (shC_rel hφ k _ _ .nili).1
  | iface h => exact (shC_rel hφ k _ _ (.iface h)).1
  | tuple h1 h2 => exact (shC_rel hφ k _ _ (.tuple h1 h2)).1
  | func h1 h2 h3 h4 => exact (shC_rel hφ k _ _ (.func h1 h2 h3 h4)).1

theorem shR_rel {u v : Value} (h : RelV φ u v) : RelV ψ (shR n u) v := by
  cases h with
  | tuple hs hh =>
    refine .tuple (by simpa using hs) fun i v v' e1 e2 => ?_
    simp only [Array.getElem?_map, Option.map_eq_some_iff] at e1
    obtain ⟨y, e3, rfl⟩ := e1
    exact shX_rel hφ 3 (hh i y v' e3 e2)
  | top v => exact shX_rel hφ 3 (.top v)
  | bool b => exact shX_rel hφ 3 (.bool b)
  | int a b => exact shX_rel hφ 3 (.int a b)
  | str s => exact shX_rel hφ 3 (.str s)
  | nilp => exact shX_rel hφ 3 .nilp
  | ptr hc => exact shX_rel hφ 3 (.ptr hc)
  | nils => exact shX_rel hφ 3 .nils
  | sl hc hk hn => exact shX_rel hφ 3 (.sl hc hk hn)
  | slz => exact shX_rel hφ 3 .slz
  | nilm => exact shX_rel hφ 3 .nilm
  | map hc hb => exact shX_rel hφ 3 (.map hc hb)
  | nilf => exact shX_rel hφ 3 .nilf
  | nili => exact shX_rel hφ 3 .nili
  | iface h => exact shX_rel hφ 3 (.iface h)
  | agg h1 h2 h3 => exact shX_rel hφ 3 (.agg h1 h2 h3)
  | func h1 h2 h3 h4 => exact shX_rel hφ 3 (.func h1 h2 h3 h4)

theorem shCells_rel {W : World} {l : Loc} {cs : List Value} (h : CellsRel φ W l cs) : CellsRel ψ W l (cs.map (shC n 3)) := by
  intro i v hv
  rw [List.getElem?_map, Option.map_eq_some_iff] at hv
  obtain ⟨u, hu, rfl⟩ := hv
  obtain ⟨ho, v', hc, hr⟩ := h i u hu
  obtain ⟨r1, r2⟩ := shC_rel hφ 3 u v' hr
  exact ⟨r2 ho, v', hc, r1⟩

theorem shEnt_rel : ∀ {es : List (Value × Value × Nat)} {es' : List MapEntry}, EntRel φ es es' → EntRel ψ (es.map fun e => (shX n 3 e.1, shX n 3 e.2.1, e.2.2)) es'
  | [], [], _ => trivial
  | [], _ :: _, h => h.elim
  | _ :: _, [], h => h.elim
  | (k, v, m) :: es, e :: es', h => ⟨shX_rel hφ 3 h.1, shX_rel hφ 3 h.2.1, h.2.2.1, shEnt_rel h.2.2.2⟩

theorem shO_rel {B B' : Nat} {W : World} {l : Loc} {o : CObj} (hb : B' ≤ B) (hro : ∀ cs, o ≠ .ro cs) (h : ObjRel B φ W l o) : ObjRel B' ψ W l (shO n o) := by
  cases o with
  | ro cs => exact absurd rfl (hro cs)
  | rw cs =>
    obtain ⟨h1, h2, h3, h4, h5⟩ := h
    exact ⟨Nat.le_trans hb h1, h2, shCells_rel hφ h3, by rw [List.length_map]; exact h4, h5⟩
  | loose e cs =>
    obtain ⟨h1, lo, h2, h3, h4, h5, h6, h7, h8, h9⟩ := h
    exact ⟨Nat.le_trans hb h1, lo, h2, by rw [List.length_map]; exact h3, h4, h5, by rw [List.length_map]; exact h6, shCells_rel hφ h7, h8, h9⟩
  | dead => trivial
  | map es k =>
    obtain ⟨h1, h2, h3, es', h4, h5⟩ := h
    exact ⟨Nat.le_trans hb h1, h2, h3, es', h4, shEnt_rel hφ h5⟩
end

theorem get_add {h h1 : Heap} (hl : h1.l.length = h1.n) (c : Nat) : (h.add h1).get? c = if c < h.n then h.get? c else (h1.get? (c - h.n)).map (shO h.n) := by
  unfold Heap.add Heap.get?
  by_cases hc : c < h.n
  · rw [if_pos hc]
    simp only
    rw [if_pos (by omega), if_pos hc, List.getElem?_append_right (by simp; omega)]
    congr 1
    simp; omega
  · rw [if_neg hc]
    simp only
    by_cases hc2 : c < h.n + h1.n
    · rw [if_pos hc2, if_pos (by omega), List.getElem?_append_left (by simp; omega), List.getElem?_map]
      congr 2
      omega
    · rw [if_neg hc2, if_neg (by omega)]; rfl

/-- nothing in it is only read; its list is as long as it says -/
def madeOnly (h : Heap) : Bool := Nat.beq h.l.length h.n && h.l.all fun | .ro _ => false | _ => true
theorem madeOnly_ro {h : Heap} (hm : madeOnly h = true) {c : Nat} {o : CObj} (ho : h.get? c = some o) : ∀ cs, o ≠ .ro cs := by
  rintro cs rfl
  unfold madeOnly at hm
  rw [Bool.and_eq_true, List.all_eq_true] at hm
  unfold Heap.get? at ho
  split at ho
  · have := hm.2 _ (List.mem_of_getElem? ho)
    cases this
  · cases ho

theorem made_call {P : Program} {M : Prg} {g : FuncId} {args : List Value} {v : Value} {h1 : Heap} (hmix : P.follows .mixedOrders = true) (hM : Knows P 0 M) (hev : Ev M (.call g args ⟨0, []⟩ v h1)) (hargs : args.all flat = true) (hm : madeOnly h1 = true)
    (B : Nat) (W0 : World) (h : Heap) : GoodCall P 0 B W0 g args h (shR h.n v) (h.add h1) := by
  have hs := fun B W0 => (sound (B := B) (W0 := W0) hmix hM.fn (hM.orac B W0) hev).2
  have hl : h1.l.length = h1.n := by
    unfold madeOnly at hm
    rw [Bool.and_eq_true] at hm
    exact Nat.eq_of_beq_eq_true hm.1
  refine ⟨(hs B W0).1, fun φ W args' s gl hr free => ?_⟩
  refine ((hs W.heap.size W).2 (fun _ => none) W args' (Sim.nothing W 0) (Glob.none _) (relL_flat hr hargs) (fun _ _ _ => rfl)).mono ?_
  rintro e W' ⟨φ1, v', rfl, hv', s', x'⟩
  have hdom : ∀ c l, φ1 c = some l → c < h1.n ∧ W.heap.size ≤ l.b := by
    intro c l hc
    refine ⟨(x'.dom c l rfl hc).2, ?_⟩
    rcases x'.img c l rfl hc with g | ⟨c0, l0, o0, k1, _⟩
    · exact g
    · cases k1
  let ψ : Emb := fun c => if c < h.n then φ c else if c < h.n + h1.n then φ1 (c - h.n) else φ c
  have hψ1 : ∀ c l, φ1 c = some l → ψ (h.n + c) = some l := by
    intro c l hc
    have := (hdom c l hc).1
    simp only [ψ]
    rw [if_neg (by omega), if_pos (by omega), show h.n + c - h.n = c from by omega]; exact hc
  have hψ0 : ∀ c l, φ c = some l → ψ c = some l := by
    intro c l hc
    simp only [ψ]
    by_cases h0 : c < h.n
    · rw [if_pos h0]; exact hc
    · rw [if_neg h0]
      by_cases h2 : c < h.n + h1.n
      · have := free c (by omega) h2
        rw [hc] at this; cases this
      · rw [if_neg h2]; exact hc
  have hget : ∀ c o, (h.add h1).get? c = some o → (c < h.n ∧ h.get? c = some o) ∨ (h.n ≤ c ∧ c < h.n + h1.n ∧ ∃ o1, h1.get? (c - h.n) = some o1 ∧ o = shO h.n o1) := by
    intro c o ho
    rw [get_add hl] at ho
    split at ho
    · rename_i hc; exact .inl ⟨hc, ho⟩
    · rename_i hc
      rw [Option.map_eq_some_iff] at ho
      obtain ⟨o1, q1, q2⟩ := ho
      have := Heap.get?_lt q1
      exact .inr ⟨by omega, by omega, o1, q1, q2.symm⟩
  have hψlo : ∀ c l, c < h.n → ψ c = some l → φ c = some l := by
    intro c l hc hl'
    simp only [ψ] at hl'
    rwa [if_pos hc] at hl'
  have hψhi : ∀ c l, h.n ≤ c → c < h.n + h1.n → ψ c = some l → φ1 (c - h.n) = some l := by
    intro c l hc hc2 hl'
    simp only [ψ] at hl'
    rwa [if_neg (by omega), if_pos hc2] at hl'
  have hexcl : ∀ o : CObj, (shO h.n o).excl = o.excl := by intro o; cases o <;> rfl
  have sold := s.below' s'.below
  refine ⟨ψ, v', rfl, shR_rel hψ1 hv', ⟨sold.below, sold.inB, ?_, ?_, ?_⟩, ⟨hψ0, ?_, ?_, fun b hb _ => s'.below.block b hb, ?_, ?_, s'.below.size, by simp [Heap.add]⟩⟩
  · intro c l hc
    simp only [ψ] at hc
    split at hc
    · exact sold.lt c l hc
    · split at hc
      · exact s'.lt _ l hc
      · exact sold.lt c l hc
  · intro c l o hc ho
    rcases hget c o ho with ⟨q1, q2⟩ | ⟨q1, q2, o1, q3, rfl⟩
    · exact (sold.obj c l o (hψlo c l q1 hc) q2).keep hψ0 rfl
    · exact shO_rel hψ1 s.inB (madeOnly_ro hm q3) (s'.obj _ l o1 (hψhi c l q1 q2 hc) q3)
  · intro c1 c2 l1 l2 o1 o2 g1 g2 p1 p2 e1 e2 e
    rcases hget c1 o1 p1 with ⟨a1, a2⟩ | ⟨a1, a2, x1, a3, rfl⟩ <;> rcases hget c2 o2 p2 with ⟨b1, b2⟩ | ⟨b1, b2, x2, b3, rfl⟩
    · exact s.inj c1 c2 l1 l2 o1 o2 (hψlo _ _ a1 g1) (hψlo _ _ b1 g2) a2 b2 e1 e2 e
    · have k1 := s.lt _ _ (hψlo _ _ a1 g1)
      have k2 := (hdom _ _ (hψhi _ _ b1 b2 g2)).2
      omega
    · have k1 := s.lt _ _ (hψlo _ _ b1 g2)
      have k2 := (hdom _ _ (hψhi _ _ a1 a2 g1)).2
      omega
    · rw [hexcl] at e1 e2
      have := s'.inj _ _ l1 l2 x1 x2 (hψhi _ _ a1 a2 g1) (hψhi _ _ b1 b2 g2) a3 b3 e1 e2 e
      omega
  · intro c l hn hc
    simp only [ψ] at hc
    split at hc
    · rw [hn] at hc; cases hc
    · split at hc
      · refine ⟨by omega, ?_⟩
        show c < h.n + h1.n
        assumption
      · rw [hn] at hc; cases hc
  · intro c l hn hc
    simp only [ψ] at hc
    split at hc
    · rw [hn] at hc; cases hc
    · split at hc
      · exact .inl (hdom _ _ hc).2
      · rw [hn] at hc; cases hc
  · intro c hc _
    rw [get_add hl, if_pos hc]
  · intro c o' hc ho e
    rw [get_add hl, if_pos hc] at ho
    exact ⟨o', ho, e⟩

end Go.Cm

/- The canonical machine: a program closed under its calls without addresses. Conditions: none. -/
namespace Go.Cm
open Go.RowKit
set_option linter.unusedVariables false
set_option linter.unusedSimpArgs false

/-- the program, with its calls without addresses -/
def Prg.pure (M : Prg) : Prg := ⟨M.fn, fun g args h v h' => M.orac g args h v h' ∨ (args.all flat = true ∧ flatR v = true ∧ h' = h ∧ ∃ h1, Ev M (.call g args ⟨0, []⟩ v h1)) ∨
  (args.all flat = true ∧ ∃ v1 h1, Ev M (.call g args ⟨0, []⟩ v1 h1) ∧ madeOnly h1 = true ∧ v = shR h.n v1 ∧ h' = h.add h1)⟩
def Prg.pureN (M : Prg) : Nat → Prg
  | 0 => M
  | n + 1 => (M.pureN n).pure
def Prg.inf (M : Prg) : Prg := ⟨M.fn, fun g args h v h' => ∃ n, (M.pureN n).orac g args h v h'⟩

theorem Prg.pureN_fn {M : Prg} : ∀ n, (M.pureN n).fn = M.fn
  | 0 => rfl
  | n + 1 => Prg.pureN_fn n
theorem Prg.pureN_up {M : Prg} {g : FuncId} {args : List Value} {h h' : Heap} {v : Value} {n : Nat} (H : (M.pureN n).orac g args h v h') : ∀ d, (M.pureN (n + d)).orac g args h v h'
  | 0 => H
  | d + 1 => .inl (Prg.pureN_up H d)
theorem Prg.pureN_mono {M : Prg} {n m : Nat} (h : n ≤ m) {j : Jd} (H : Ev (M.pureN n) j) : Ev (M.pureN m) j :=
  H.mono ((Prg.pureN_fn m).trans (Prg.pureN_fn n).symm) fun g args h v h' ho => by
    have := Prg.pureN_up ho (m - n)
    rwa [show n + (m - n) = m from by omega] at this

theorem Ev.level {M : Prg} {j : Jd} (H : Ev M.inf j) : ∃ n, Ev (M.pureN n) j := by
  induction H with
  | prim hc => exact ⟨0, .prim hc⟩
  | opcall _ ih => obtain ⟨n, ih⟩ := ih; exact ⟨n, .opcall ih⟩
  | opcallV hx _ ih => obtain ⟨n, ih⟩ := ih; exact ⟨n, .opcallV hx ih⟩
  | nil => exact ⟨0, .nil⟩
  | run hw _ _ ih1 ih2 =>
    obtain ⟨n, ih1⟩ := ih1; obtain ⟨m, ih2⟩ := ih2
    exact ⟨n + m, .run hw (Prg.pureN_mono (by omega) ih1) (Prg.pureN_mono (by omega) ih2)⟩
  | pass hw _ ih => obtain ⟨n, ih⟩ := ih; exact ⟨n, .pass hw ih⟩
  | skip => exact ⟨0, .skip⟩
  | region _ hx ih => obtain ⟨n, ih⟩ := ih; exact ⟨n, .region ih hx⟩
  | seqN _ _ ih1 ih2 =>
    obtain ⟨n, ih1⟩ := ih1; obtain ⟨m, ih2⟩ := ih2
    exact ⟨n + m, .seqN (Prg.pureN_mono (by omega) ih1) (Prg.pureN_mono (by omega) ih2)⟩
  | seqX _ hne ih => obtain ⟨n, ih⟩ := ih; exact ⟨n, .seqX ih hne⟩
  | condT hc _ ih => obtain ⟨n, ih⟩ := ih; exact ⟨n, .condT hc ih⟩
  | condF hc _ ih => obtain ⟨n, ih⟩ := ih; exact ⟨n, .condF hc ih⟩
  | blockX _ ih => obtain ⟨n, ih⟩ := ih; exact ⟨n, .blockX ih⟩
  | blockO _ hne ih => obtain ⟨n, ih⟩ := ih; exact ⟨n, .blockO ih hne⟩
  | loop _ ih => obtain ⟨n, ih⟩ := ih; exact ⟨n, .loop ih⟩
  | again _ _ ih1 ih2 =>
    obtain ⟨n, ih1⟩ := ih1; obtain ⟨m, ih2⟩ := ih2
    exact ⟨n + m, .again (Prg.pureN_mono (by omega) ih1) (Prg.pureN_mono (by omega) ih2)⟩
  | out _ hne ih => obtain ⟨n, ih⟩ := ih; exact ⟨n, .out ih hne⟩
  | exit => exact ⟨0, .exit⟩
  | ret => exact ⟨0, .ret⟩
  | fcall hF hl _ he hv ih => obtain ⟨n, ih⟩ := ih; exact ⟨n, .fcall (by rw [Prg.pureN_fn]; exact hF) hl ih he hv⟩
  | known h => obtain ⟨n, h⟩ := h; exact ⟨n, .known h⟩

/-- a call without addresses may be made on no memory -/
structure PureClosed (M : Prg) : Prop where
  pure : ∀ {g args v h1}, Ev M (.call g args ⟨0, []⟩ v h1) → args.all flat = true → flatR v = true → ∀ h, Ev M (.call g args h v h)
  made : ∀ {g args v h1}, Ev M (.call g args ⟨0, []⟩ v h1) → args.all flat = true → madeOnly h1 = true → ∀ h, Ev M (.call g args h (shR h.n v) (h.add h1))
theorem Prg.inf_pure (M : Prg) : PureClosed M.inf where
  pure := fun H ha hv h => by
    obtain ⟨n, H⟩ := H.level
    exact .known ⟨n + 1, .inr (.inl ⟨ha, hv, rfl, _, H⟩)⟩
  made := fun H ha hm h => by
    obtain ⟨n, H⟩ := H.level
    exact .known ⟨n + 1, .inr (.inr ⟨ha, _, _, H, hm, rfl, rfl⟩)⟩

theorem Knows.pureN {P : Program} {M : Prg} (hmix : P.follows .mixedOrders = true) (hM : Knows P 0 M) : ∀ n, Knows P 0 (M.pureN n)
  | 0 => hM
  | n + 1 => by
    have ih := hM.pureN hmix n
    refine ⟨ih.fn, fun B W0 g args h v h' ho => ?_⟩
    rcases ho with ho | ⟨h1, h2, rfl, k, h3⟩ | ⟨h1, v1, k, h2, h3, rfl, rfl⟩
    · exact ih.orac B W0 g args h v h' ho
    · exact ⟨Nat.le_refl _, pure_call hmix ih h3 h1 h2 B W0 _⟩
    · exact ⟨by simp [Heap.add], made_call hmix ih h2 h1 h3 B W0 _⟩
theorem Knows.inf {P : Program} {M : Prg} (hmix : P.follows .mixedOrders = true) (hM : Knows P 0 M) : Knows P 0 M.inf :=
  ⟨hM.fn, fun B W0 g args h v h' ⟨n, ho⟩ => (hM.pureN hmix n).orac B W0 g args h v h' ho⟩

/-- such a call, as a walk uses it -/
theorem Cl.pure {M : Prg} (hp : PureClosed M) {g : FuncId} {args : List Value} {K : Value → Prop} (ha : args.all flat = true) (H : Cl M g args ⟨0, []⟩ fun v _ => flatR v = true ∧ K v) (h : Heap) : Cl M g args h fun v h' => K v ∧ h' = h := by
  obtain ⟨v, h1, he, hv, hk⟩ := H
  exact ⟨v, h, hp.pure he ha hv h, hk, rfl⟩
/-- such a call, reckoned -/
theorem Cl.run {M : Prg} (hp : PureClosed M) {tab : List (Nat × MFun)} (hf : M.fn = lookF tab) {g : FuncId} {args : List Value} {K : Value → Prop} (n : Nat) (h : Heap) {r : Option (Value × Heap)} (hr : evalCall (lookF tab) n g args ⟨0, []⟩ = r)
    (ha : args.all flat = true) (hk : ∃ v h1, r = some (v, h1) ∧ flatR v = true ∧ K v) : Cl M g args h fun v h' => K v ∧ h' = h := by
  obtain ⟨v, h1, rfl, hv, hk⟩ := hk
  rw [← hf] at hr
  exact Cl.pure hp ha ⟨v, h1, call_ev n hr, hv, hk⟩ h

/-- such a call that has made memory -/
theorem Cl.made {M : Prg} (hp : PureClosed M) {g : FuncId} {args : List Value} {K : Value → Heap → Prop} (ha : args.all flat = true) (H : Cl M g args ⟨0, []⟩ fun v h1 => madeOnly h1 = true ∧ K v h1) (h : Heap) :
    Cl M g args h fun v h' => ∃ v1 h1, madeOnly h1 = true ∧ K v1 h1 ∧ v = shR h.n v1 ∧ h' = h.add h1 := by
  obtain ⟨v, h1, he, hv, hk⟩ := H
  exact ⟨_, _, hp.made he ha hv h, v, h1, hv, hk, rfl, rfl⟩

theorem Le.add {h h1 : Heap} (hl : h1.l.length = h1.n) : Le h (h.add h1) := ⟨by simp [Heap.add], fun c hc => by rw [get_add hl, if_pos hc]⟩
theorem madeOnly_len {h : Heap} (hm : madeOnly h = true) : h.l.length = h.n := by
  unfold madeOnly at hm
  rw [Bool.and_eq_true] at hm
  exact Nat.eq_of_beq_eq_true hm.1

end Go.Cm

/- The canonical machine: an answer known ahead: slices.Sorted(maps.Keys(m)) at keys of the kind int: the keys, rising. Conditions: the library's functions lie as the shelf lays them. -/
namespace Go.Cm
open Go.RowKit Go.Proofs Go.Shelf Go.Maps Go.Sort Go.WideElems
set_option linter.unusedVariables false
set_option linter.unusedSimpArgs false

def insI (x : Int) : List Int → List Int
  | [] => [x]
  | y :: r => match decide (x ≤ y) with | true => x :: y :: r | false => y :: insI x r
/-- a list of numbers, rising -/
def isort : List Int → List Int
  | [] => []
  | x :: r => insI x (isort r)
theorem insI_perm (x : Int) : ∀ l, (insI x l).Perm (x :: l)
  | [] => .refl _
  | y :: r => by
    unfold insI
    split
    · exact .refl _
    · exact ((insI_perm x r).cons y).trans (.swap x y r)
theorem isort_perm : ∀ l, (isort l).Perm l
  | [] => .refl _
  | x :: r => (insI_perm x _).trans ((isort_perm r).cons x)
theorem insI_sorted (x : Int) : ∀ l : List Int, l.Pairwise (· ≤ ·) → (insI x l).Pairwise (· ≤ ·)
  | [], _ => by simp [insI]
  | y :: r, h => by
    unfold insI
    split
    · rename_i hd
      have hd := of_decide_eq_true hd
      refine List.pairwise_cons.2 ⟨fun z hz => ?_, h⟩
      rcases List.mem_cons.1 hz with rfl | hz
      · exact hd
      · exact Int.le_trans hd ((List.pairwise_cons.1 h).1 z hz)
    · rename_i hd
      have hd := of_decide_eq_false hd
      obtain ⟨h1, h2⟩ := List.pairwise_cons.1 h
      refine List.pairwise_cons.2 ⟨fun z hz => ?_, insI_sorted x r h2⟩
      rcases List.mem_cons.1 ((insI_perm x r).mem_iff.1 hz) with rfl | hz
      · omega
      · exact h1 z hz
theorem isort_sorted : ∀ l, (isort l).Pairwise (· ≤ ·)
  | [] => .nil
  | x :: r => insI_sorted x _ (isort_sorted r)
theorem isort_eq (l : List Int) : (l.mergeSort fun x y => decide (x ≤ y)) = isort l := by
  refine List.Perm.eq_of_pairwise (le := fun a b : Int => a ≤ b) (fun a b _ _ h1 h2 => Int.le_antisymm h1 h2) ?_ (isort_sorted l) ((List.mergeSort_perm l _).trans (isort_perm l).symm)
  have := List.pairwise_mergeSort (le := fun x y : Int => decide (x ≤ y)) (fun a b c h1 h2 => by simp only [decide_eq_true_eq] at *; exact Int.le_trans h1 h2) (fun a b => by simp only [Bool.or_eq_true, decide_eq_true_eq]; exact Int.le_total a b) l
  exact this.imp (fun h => of_decide_eq_true h)
theorem isort_of_perm {l l' : List Int} (h : l.Perm l') : isort l = isort l' :=
  List.Perm.eq_of_pairwise (le := fun a b : Int => a ≤ b) (fun a b _ _ h1 h2 => Int.le_antisymm h1 h2) (isort_sorted l) (isort_sorted l') (((isort_perm l).trans h).trans (isort_perm l').symm)

/-- a map's entries: their keys are these numbers, each once; its times are as they must be -/
structure KeysOK (es : List (Value × Value × Nat)) (clock : Nat) (ks : List Int) : Prop where
  keys : es.map (·.1) = ks.map (Value.int .i64)
  nodup : ks.Nodup
  wf : ∀ x ∈ ks, (Lit.int .i64 x).wf = true
  few : es.length ≤ 1099511627776
  born : ∀ e ∈ es, e.2.2 < clock
  once : (es.map (·.2.2)).Nodup

def sortedRes (h : Heap) (l : List Int) : Value × Heap := match l with
  | [] => (.slice none 0 0, h)
  | x :: r => (.slice (some ⟨h.n, 0, none⟩) (x :: r).length (x :: r).length, h.push (.loose 1 ((x :: r).map (Value.int .i64))))

/-- what the call answers -/
def SortedAns (fS fK : Nat) (g : FuncId) (args : List Value) (h : Heap) (v : Value) (h' : Heap) : Prop :=
  g = fS ∧ ∃ c, args = [.func (.func fK) #[] #[.pointer (some ⟨c, 0, none⟩)]] ∧
    ((h.get? c = some (.rw [.map none]) ∧ (v, h') = sortedRes h []) ∨
      ∃ m es clock ks, h.get? c = some (.rw [.map (some m)]) ∧ h.get? m = some (.map es clock) ∧ KeysOK es clock ks ∧ (v, h') = sortedRes h (isort ks))

theorem relFn {φ : Emb} {f c : Nat} {v' : Value} (h : RelV φ (.func (.func f) #[] #[.pointer (some ⟨c, 0, none⟩)]) v') : ∃ l, φ c = some l ∧ v' = .func (.func f) #[] #[.pointer (some ⟨l.b, l.base, none⟩)] := by
  cases h with
  | @func _ a b cc d h1 h2 h3 h4 =>
    obtain ⟨b⟩ := b
    obtain ⟨d⟩ := d
    have hb : b = [] := List.eq_nil_of_length_eq_zero h1.symm
    have hd : d.length = 1 := h3.symm
    match d, hd with
    | [d0], _ =>
      have := h4 0 _ _ rfl rfl
      cases this with
      | ptr hc => exact ⟨_, hc, by rw [hb]; rfl⟩

theorem entRel_keys {φ : Emb} : ∀ {es : List (Value × Value × Nat)} {es' : List MapEntry}, EntRel φ es es' → ∀ {ks : List Int}, es.map (·.1) = ks.map (Value.int .i64) → es'.map (·.key) = ks.map (Value.int .i64) ∧ es'.map (·.born) = es.map (·.2.2) ∧ es'.length = es.length
  | [], [], _, ks, hk => ⟨hk, rfl, rfl⟩
  | [], _ :: _, h, _, _ => h.elim
  | _ :: _, [], h, _, _ => h.elim
  | (k, v, n) :: es, e :: es', h, [], hk => by simp at hk
  | (k, v, n) :: es, e :: es', h, x :: ks, hk => by
      obtain ⟨h1, h2, h3, h4⟩ := h
      simp only [List.map_cons, List.cons.injEq] at hk
      obtain ⟨rfl, hk'⟩ := hk
      obtain ⟨i1, i2, i3⟩ := entRel_keys h4 hk'
      cases h1' : e.key with
      | int q a =>
        rw [h1'] at h1
        cases h1
        exact ⟨by simp [h1', i1], by simp [h3, i2], by simp [i3]⟩
      | _ => rw [h1'] at h1; cases h1

theorem cells_rd {φ : Emb} {W : World} {l : Loc} {cs : List Value} (h : CellsRel φ W l cs) {i : Nat} {v : Value} (hv : cs[i]? = some v) : ∃ v', W.cell? ⟨l.b, l.base + i, none⟩ = some v' ∧ RelV φ v v' := (h i v hv).2

section
variable {P : Program} {G : Nat}

/-- memory to which the model has added blocks of which nothing is known, and one row -/
theorem good_row {B : Nat} {W0 : World} {φ : Emb} {h : Heap} {W W' : World} (s : Sim B W0 φ h.get? W) {cs : List Value} (free : Free φ h (h.push (.loose 1 cs))) (hb : Below W.heap.size W W') {e : TypeId} {v' : Value} (hne : cs ≠ []) (hone : cs.all plain1 = true)
    (hrow : W'.ownsRow W.heap.size e 1 v' cs.length cs) :
    ∃ φ', RelV φ' (.slice (some ⟨h.n, 0, none⟩) cs.length cs.length) v' ∧ Sim B W0 φ' (h.push (.loose 1 cs)).get? W' ∧ Ext φ φ' h (h.push (.loose 1 cs)) W W' := by
  obtain ⟨_, hr⟩ := hrow
  rcases hr with ⟨_, hz⟩ | ⟨gb, cap, cur, rfl, hbase, hgb, r1, r2, r3, r4⟩
  · exact absurd (List.eq_nil_of_length_eq_zero hz) hne
  have hgl : gb < W'.heap.size := (Array.getElem?_eq_some_iff.1 hgb).1
  rw [Nat.mul_one] at r3 r4
  let L : Loc := ⟨gb, 0, some ⟨cs.length, 1, cap⟩⟩
  let ψ : Emb := fun c => if c = h.n then some L else φ c
  have hfree : φ h.n = none := free h.n (Nat.le_refl _) (by simp [Heap.push])
  have hψ0 : ∀ c l, φ c = some l → ψ c = some l := by
    intro c l hc
    simp only [ψ]
    by_cases h0 : c = h.n
    · subst h0; rw [hfree] at hc; cases hc
    · rw [if_neg h0]; exact hc
  have hψn : ψ h.n = some L := by simp [ψ]
  have hψo : ∀ c l, c ≠ h.n → ψ c = some l → φ c = some l := by
    intro c l hc hl
    simp only [ψ] at hl
    rwa [if_neg hc] at hl
  have hcell : ∀ i v, cs[i]? = some v → W'.cell? ⟨gb, i, none⟩ = some v := by
    intro i v hv
    have hi : i < cs.length := by
      rcases Nat.lt_or_ge i cs.length with g | g
      · exact g
      · rw [List.getElem?_eq_none g] at hv; cases hv
    have : cur.toList[i]? = some v := by rw [← r4, List.getElem?_take_of_lt hi] at hv; exact hv
    rw [World.cell?]
    simp only [hgb, Option.isSome_none, Bool.false_eq_true, if_false]
    simpa using this
  refine ⟨ψ, .sl (l := L) hψn ?_ (Nat.le_refl _), ⟨(s.below' hb).below, Nat.le_trans s.inB hb.size, ?_, ?_, ?_⟩, ⟨hψ0, ?_, ?_, fun b hlt _ => hb.block b hlt, ?_, ?_, hb.size, by simp [Heap.push]⟩⟩
  · exact .inr ⟨⟨cs.length, 1, cap⟩, rfl, by simp, r1, by simp [L]⟩
  · intro c l hc
    by_cases h0 : c = h.n
    · subst h0; rw [hψn] at hc; cases hc; exact hgl
    · exact Nat.lt_of_lt_of_le (s.lt c l (hψo c l h0 hc)) hb.size
  · intro c l o hc ho
    by_cases h0 : c = h.n
    · subst h0
      rw [hψn] at hc; cases hc
      rw [Heap.get?_push_new] at ho; cases ho
      refine ⟨Nat.le_trans s.inB hbase, ⟨cs.length, 1, cap⟩, rfl, rfl, rfl, Nat.one_pos, by simpa [L] using r1, ?_, ?_, ?_⟩
      · intro i v hv
        have hp := (List.all_eq_true.1 hone) v (List.mem_of_getElem? hv)
        refine ⟨?_, v, by simpa [L] using hcell i v hv, ?_⟩
        · unfold plain1 at hp; unfold one; split at hp <;> first | rfl | cases hp
        · unfold plain1 at hp; split at hp <;> first | (constructor; done) | cases hp
      · intro j _ _
        simp [L, World.frozen?, hgb]
      · intro j _ hj
        simp only [L] at hj ⊢
        rw [World.cell?]
        simp only [hgb, Option.isSome_none, Bool.false_eq_true, if_false]
        rw [Array.getElem?_eq_getElem (by omega)]
        rfl
    · have ho' : h.get? c = some o := by rw [Heap.get?_push, if_neg h0] at ho; exact ho
      exact ((s.below' hb).obj c l o (hψo c l h0 hc) ho').keep hψ0 rfl
  · intro c1 c2 l1 l2 o1 o2 g1 g2 p1 p2 e1 e2 e
    by_cases a1 : c1 = h.n
    · by_cases a2 : c2 = h.n
      · rw [a1, a2]
      · subst a1
        rw [hψn] at g1; cases g1
        have := s.lt c2 l2 (hψo c2 l2 a2 g2)
        simp only [L] at e
        omega
    · by_cases a2 : c2 = h.n
      · subst a2
        rw [hψn] at g2; cases g2
        have := s.lt c1 l1 (hψo c1 l1 a1 g1)
        simp only [L] at e
        omega
      · rw [Heap.get?_push, if_neg a1] at p1
        rw [Heap.get?_push, if_neg a2] at p2
        exact s.inj c1 c2 l1 l2 o1 o2 (hψo c1 l1 a1 g1) (hψo c2 l2 a2 g2) p1 p2 e1 e2 e
  · intro c l hn hc
    by_cases h0 : c = h.n
    · subst h0; exact ⟨Nat.le_refl _, by simp [Heap.push]⟩
    · rw [hψo c l h0 hc] at hn; cases hn
  · intro c l hn hc
    by_cases h0 : c = h.n
    · subst h0; rw [hψn] at hc; cases hc; exact .inl hbase
    · rw [hψo c l h0 hc] at hn; cases hn
  · intro c hc _
    exact Heap.get?_push_old hc
  · intro c o' hc ho e
    rw [Heap.get?_push_old hc] at ho
    exact ⟨o', ho, e⟩

theorem sorted_good {ρk ρs : Ren} (K : SlLaysZI.n10 P ρk) (S : SlLaysZI.n6 P ρs) (hcall : Callable P (ρs.f 6)) (hsort : ∀ m, AnyZI.SortsIn P ρs Fence.wide m)
    (e9 : ∀ args w, (callFunc (ρs.f 9) args).run P w = .ok (.enter (ρs.f 9) args) w) (eK : ∀ args w, (callFunc (ρk.f 10) args).run P w = .ok (.enter (ρk.f 10) args) w)
    {B : Nat} {W0 : World} {g : FuncId} {args : List Value} {h h' : Heap} {v : Value} (H : SortedAns (ρs.f 6) (ρk.f 10) g args h v h') : h.n ≤ h'.n ∧ GoodCall P G B W0 g args h v h' := by
  obtain ⟨rfl, c, rfl, H⟩ := H
  have hle : h.n ≤ h'.n := by
    rcases H with ⟨_, H⟩ | ⟨_, _, _, ks, _, _, _, H⟩
    · cases H; exact Nat.le_refl _
    · unfold sortedRes at H
      split at H <;> cases H
      · exact Nat.le_refl _
      · simp [Heap.push]
  refine ⟨hle, hcall, fun φ W args' s gl hr free => ?_⟩
  obtain ⟨args'⟩ := args'
  have hlen : args'.length = 1 := hr.1.symm
  match args', hlen with
  | [v0], _ =>
    obtain ⟨l, hl, rfl⟩ := relFn (hr.2 0 _ _ rfl rfl)
    have hlt := s.lt c l hl
    rcases H with ⟨hc, H⟩ | ⟨m, es, clock, ks, hc, hm, hk, H⟩
    · obtain ⟨_, hlo, hcs, _, hb0⟩ := s.obj c l _ hl hc
      obtain ⟨u, hu, hru⟩ := cells_rd hcs (i := 0) rfl
      cases hru
      rw [hb0] at hu ⊢
      refine (callsIn_wide (n := 5)).1 ((AnyZI.sorted_in S Fence.wide 5 trivial trivial trivial trivial rfl (by omega) (hsort _) e9 (ρk.f 10) #[.pointer (some ⟨l.b, 0, none⟩)] trivial eK _ 0 (Nat.zero_le _) (by omega) W
        (AnyZI.keys_gives_nil K Fence.wide 2 trivial rfl l.b W hlt (by simpa using hu))).mono ?_)
      rintro e W' ⟨v, ss, rfl, rfl, hrow, hnil, hb⟩
      cases H
      exact ⟨φ, v, rfl, by rw [hnil.2 rfl]; exact .nils, s.below' hb, .below hb⟩
    · obtain ⟨_, hlo, hcs, _, hb0⟩ := s.obj c l _ hl hc
      obtain ⟨u, hu, hru⟩ := cells_rd hcs (i := 0) rfl
      cases hru with
      | @map _ lm hlm hbm =>
      rw [hb0] at hu ⊢
      obtain ⟨_, _, _, es', hes, hent⟩ := s.obj m lm _ hlm hm
      obtain ⟨k1, k2, k3⟩ := entRel_keys hent hk.keys
      have hint : P.underlying (ρs.t 26) = P.underlying (ρs.t 26) := rfl
      have u26 := K.t26
      have hlen : ks.length = es.length := by
        have := congrArg List.length hk.keys
        simpa using this.symm
      let R : Value → Option (DataW Unit × List MemPlace) := fun _ => some (.nil, [])
      let D : DataW Unit := .map ((es'.toList.map (rg P (ρk.t 26) R)).foldr DataW.insert [])
      have hwf : ∀ x ∈ es'.toList, ∃ a, x.key = .int .i64 a ∧ a ∈ ks ∧ (Lit.int .i64 a).wf = true := by
        intro x hx
        have : x.key ∈ es'.toList.map (·.key) := List.mem_map.2 ⟨x, hx, rfl⟩
        rw [k1, List.mem_map] at this
        obtain ⟨a, ha, e⟩ := this
        exact ⟨a, e.symm, ha, hk.wf a ha⟩
      have hkeyOf : ∀ a, (Lit.int .i64 a).wf = true → keyOf P (ρk.t 26) (.int .i64 a) = some (.int .i64 a) := fun a ha => keyOf_int_mk u26 ha
      have hown : W.ownsMap P (ρk.t 26) R lm.b es.length D := by
        refine ⟨es', clock, hes, ⟨?_, ⟨?_, ?_, ?_⟩, ?_⟩, ?_, rfl⟩
        · have := hk.few
          rw [← Array.length_toList, k3]
          simp only [maxLen]; omega
        · intro x hx
          have : x.born ∈ es'.toList.map (·.born) := List.mem_map.2 ⟨x, hx, rfl⟩
          rw [k2, List.mem_map] at this
          obtain ⟨e, he, h1⟩ := this
          rw [← h1]; exact hk.born e he
        · rw [k2]; exact hk.once
        · rw [k1]; exact List.Pairwise.map _ (fun a b hab e => hab (by simpa using e)) hk.nodup
        · intro x hx
          obtain ⟨a, e1, _, e2⟩ := hwf x hx
          obtain ⟨xk, xv, xb⟩ := x
          simp only at e1
          subst e1
          exact ⟨_, rd_mk (hkeyOf a e2) rfl⟩
        · rw [← Array.length_toList, k3]; exact Nat.le_refl _
      have hsize : Maps.size D = es.length := by
        show ((es'.toList.map (rg P (ρk.t 26) R)).foldr DataW.insert []).length = _
        rw [length_sorted, List.length_map, k3]
      have hkeys : (intKeys D).Perm ks := by
        refine (List.perm_ext_iff_of_nodup ?_ hk.nodup).2 fun x => ?_
        · obtain ⟨es2, hD, hpw, _⟩ := hown.entries (int_keyed u26)
          obtain ⟨es3, hD3, hko⟩ := hown.keysOf
          obtain rfl : es2 = es3 := by rw [hD] at hD3; simpa using hD3
          rw [hD]
          show (es2.map fun p => intOf p.1).Nodup
          refine List.pairwise_map.2 (hpw.imp_of_mem fun {p q} hp' hq' hne e => hne ?_)
          obtain ⟨vp, hvp⟩ := hko p hp'
          obtain ⟨vq, hvq⟩ := hko q hq'
          obtain ⟨a, _, ha, _⟩ := Maps.keyOf_i64 u26 hvp
          obtain ⟨b, _, hb, _⟩ := Maps.keyOf_i64 u26 hvq
          rw [ha, hb] at e ⊢
          exact congrArg _ e
        · show x ∈ ((es'.toList.map (rg P (ρk.t 26) R)).foldr DataW.insert []).map (fun p => intOf p.1) ↔ _
          have hmem : ∀ (l : List (Lit × DataW Unit)) (p : Lit × DataW Unit), p ∈ l.foldr DataW.insert [] ↔ p ∈ l := by
            have hins : ∀ (q : Lit × DataW Unit) (l : List (Lit × DataW Unit)) (p : Lit × DataW Unit), p ∈ DataW.insert q l ↔ p = q ∨ p ∈ l := by
              intro q l p
              induction l with
              | nil => simp [DataW.insert]
              | cons y r ih =>
                unfold DataW.insert
                split
                · simp
                · simp only [List.mem_cons, ih]
                  constructor
                  · rintro (h | h | h) <;> simp [h]
                  · rintro (h | h | h) <;> simp [h]
            intro l p
            induction l with
            | nil => simp
            | cons y r ih => rw [List.foldr_cons, hins, ih]; simp
          rw [List.mem_map]
          constructor
          · rintro ⟨p, hp, rfl⟩
            rw [hmem, List.mem_map] at hp
            obtain ⟨y, hy, rfl⟩ := hp
            obtain ⟨a, e1, e3, e2⟩ := hwf y hy
            obtain ⟨yk, yv, yb⟩ := y
            simp only at e1
            subst e1
            rw [rg_of (rd_mk (hkeyOf a e2) rfl)]
            exact e3
          · intro hx
            have : Value.int .i64 x ∈ es'.toList.map (·.key) := by rw [k1]; exact List.mem_map.2 ⟨x, hx, rfl⟩
            rw [List.mem_map] at this
            obtain ⟨y, hy, e1⟩ := this
            refine ⟨rg P (ρk.t 26) R y, by rw [hmem]; exact List.mem_map.2 ⟨y, hy, rfl⟩, ?_⟩
            obtain ⟨yk, yv, yb⟩ := y
            simp only at e1
            subst e1
            rw [rg_of (rd_mk (hkeyOf x (hk.wf x hx)) rfl)]
            rfl
      have hfew := hk.few
      refine (callsIn_wide (n := 5)).1 ((AnyZI.sorted_in S Fence.wide 5 trivial trivial trivial trivial rfl (by omega) (hsort _) e9 (ρk.f 10) #[.pointer (some ⟨l.b, 0, none⟩)] trivial eK _ (Maps.size D) (by rw [hsize]; simp only [maxLen]; omega) (by rw [hsize]; omega) W
        (AnyZI.keys_gives K Fence.wide 2 trivial rfl (by omega) l.b lm.b es.length D W hlt (by simpa using hu) hown)).mono ?_)
      rintro e W' ⟨v', ss, rfl, hperm, hrow, hnil, hb⟩
      have hss : isort ss = isort ks := isort_of_perm (hperm.trans hkeys)
      rw [isort_eq, hss] at hrow
      have hsl : ss.length = (isort ks).length := ((hperm.trans hkeys).trans (isort_perm ks).symm).length_eq
      rw [hsl] at hrow
      cases hi : isort ks with
      | nil =>
        rw [hi] at H hsl
        cases H
        have : ss = [] := List.eq_nil_of_length_eq_zero hsl
        exact ⟨φ, v', rfl, by rw [hnil.2 this]; exact .nils, s.below' hb, .below hb⟩
      | cons x r =>
        rw [hi] at H hrow
        cases H
        have hrow2 : W'.ownsRow W.heap.size (ρs.t 26) 1 v' ((x :: r).map (Value.int .i64)).length ((x :: r).map (Value.int .i64)) := by rw [List.length_map]; exact hrow
        obtain ⟨φ', g1, g2, g3⟩ := good_row (cs := (x :: r).map (Value.int .i64)) s free hb (by simp) (by rw [List.all_eq_true]; intro y hy; obtain ⟨a, _, rfl⟩ := List.mem_map.1 hy; rfl) hrow2
        exact ⟨φ', v', rfl, by simpa using g1, g2, g3⟩
end
end Go.Cm
