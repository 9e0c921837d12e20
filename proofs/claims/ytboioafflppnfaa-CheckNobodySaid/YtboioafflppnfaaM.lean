/- The program's functions, resolved for the canonical machine. Conditions: none. Made by program. -/
import Derived.Test.YtboioafflppnfaaRows
import Derived.Test.YtboioafflppnfaaCm20
namespace Go.Proofs.Ytboioafflppnfaa
open Go.Cm
/-- trefoil/trefoillaw30.CheckNobody -/
def M6 : MFun := ⟨2,
 (.seq (.region [⟨(some 2), .box (.tmp 0), none⟩,
    ⟨(some 4), .mv (.const (.bool false)), none⟩] [])
 (.seq (.seq (.region [⟨(some 9), .build [(.int .i64 0), (.int .i64 0), (.int .i64 0), (.int .i64 0), (.int .i64 0), (.slice none 0 0), (.slice none 0 0), (.slice none 0 0), (.slice none 0 0), (.bool false), (.bool false)] [], none⟩,
     ⟨(some 10), .box (.tmp 9), none⟩,
     ⟨(some 11), .buildSlice [(.pointer none), (.pointer none)] 2 [(0, 1, (.const (.pointer none))), (1, 1, (.tmp 10))], none⟩,
     ⟨(some 12), .lenV (.tmp 11), none⟩,
     ⟨(some 13), .mv (.const (.int .i64 0)), none⟩] [])
  (.block 0 (.loop [1, 2, 11, 12, 13]
   (.seq (.region [⟨(some 14), .ar .lss (.tmp 13) (.tmp 12), none⟩] [])
   (.seq (.cond (.tmp 14)
     .skip
     (.exit 0))
   (.seq (.block 1 (.seq (.region [⟨(some 15), .ixV 1 (.tmp 11) (.tmp 13), none⟩,
       ⟨(some 16), .load1 (.tmp 15), none⟩,
       ⟨(some 6), .mv (.tmp 16), none⟩] [])
    (.seq (.region [⟨(some 18), .mv (.tmp 6), none⟩,
       ⟨(some 19), .call 21 [(.tmp 18)], none⟩,
       ⟨(some 17), .mv (.tmp 19), none⟩,
       ⟨(some 20), .ext (.tmp 17) 0, none⟩,
       ⟨(some 21), .ext (.tmp 17) 1, none⟩,
       ⟨(some 7), .mv (.tmp 20), none⟩,
       ⟨(some 8), .mv (.tmp 21), none⟩] [])
    (.seq (.region [⟨(some 22), .mv (.tmp 6), none⟩,
       ⟨(some 23), .loadN 5 (.tmp 2), none⟩,
       ⟨(some 24), .mv (.tmp 1), none⟩,
       ⟨(some 25), .call 20 [(.tmp 22), (.tmp 23), (.tmp 24)], none⟩,
       ⟨(some 26), .ar .neq (.tmp 25) (.const (.int .i64 3)), none⟩,
       ⟨(some 27), .mv (.tmp 26), none⟩,
       ⟨(some 28), .mv (.tmp 6), (some (27, false))⟩,
       ⟨(some 29), .call 17 [(.tmp 28)], (some (27, false))⟩,
       ⟨(some 30), .lenV (.tmp 29), (some (27, false))⟩,
       ⟨(some 31), .ar .neq (.tmp 30) (.const (.int .i64 0)), (some (27, false))⟩,
       ⟨(some 32), .pick (.tmp 27) (.const (.bool true)) (.tmp 31), none⟩,
       ⟨(some 33), .mv (.tmp 32), none⟩,
       ⟨(some 34), .mv (.tmp 6), (some (33, false))⟩,
       ⟨(some 35), .call 19 [(.tmp 34)], (some (33, false))⟩,
       ⟨(some 36), .lenV (.tmp 35), (some (33, false))⟩,
       ⟨(some 37), .ar .neq (.tmp 36) (.const (.int .i64 0)), (some (33, false))⟩,
       ⟨(some 38), .pick (.tmp 33) (.const (.bool true)) (.tmp 37), none⟩,
       ⟨(some 39), .mv (.tmp 38), none⟩,
       ⟨(some 40), .mv (.tmp 6), (some (39, false))⟩,
       ⟨(some 41), .call 22 [(.tmp 40)], (some (39, false))⟩,
       ⟨(some 42), .lenV (.tmp 41), (some (39, false))⟩,
       ⟨(some 43), .ar .neq (.tmp 42) (.const (.int .i64 0)), (some (39, false))⟩,
       ⟨(some 44), .pick (.tmp 39) (.const (.bool true)) (.tmp 43), none⟩,
       ⟨(some 45), .mv (.tmp 44), none⟩,
       ⟨(some 46), .mv (.tmp 7), (some (45, false))⟩,
       ⟨(some 47), .lenV (.tmp 46), (some (45, false))⟩,
       ⟨(some 48), .ar .neq (.tmp 47) (.const (.int .i64 0)), (some (45, false))⟩,
       ⟨(some 49), .pick (.tmp 45) (.const (.bool true)) (.tmp 48), none⟩,
       ⟨(some 50), .mv (.tmp 49), none⟩,
       ⟨(some 51), .mv (.tmp 8), (some (50, false))⟩,
       ⟨(some 52), .pick (.tmp 50) (.const (.bool true)) (.tmp 51), none⟩] [])
    (.cond (.tmp 52)
     (.seq (.region [⟨(some 4), .mv (.const (.bool false)), none⟩] [])
     .ret)
     .skip)))))
   (.region [⟨(some 53), .ar .add (.tmp 13) (.const (.int .i64 1)), none⟩,
     ⟨(some 13), .mv (.tmp 53), none⟩] [])))))))
 (.seq (.region [⟨(some 54), .call 15 [], none⟩,
    ⟨(some 4), .mv (.tmp 54), none⟩] [])
 .ret))),
 [.tmp 4]⟩
set_option maxRecDepth 100000 in
theorem m6 : InProg Try.prog 0 6 M6 := ⟨Try.f6, [[1, 2, 11, 12, 13]], Try.func6, by kernel_rfl⟩
/-- trefoil/sample.Shuffle -/
def M7 : MFun := ⟨2,
 (.seq (.region [⟨(some 2), .box (.tmp 0), none⟩,
    ⟨(some 4), .mv (.const (.slice none 0 0)), none⟩,
    ⟨(some 5), .mv (.const (.int .i64 0)), none⟩] [])
 (.seq (.seq (.region [⟨(some 12), .mv (.tmp 1), none⟩,
     ⟨(some 13), .ar .lss (.tmp 12) (.const (.int .i64 0)), none⟩,
     ⟨(some 14), .mv (.tmp 13), none⟩,
     ⟨(some 15), .mv (.tmp 1), (some (14, false))⟩,
     ⟨(some 16), .ar .gtr (.tmp 15) (.const (.int .i64 24)), (some (14, false))⟩,
     ⟨(some 17), .pick (.tmp 14) (.const (.bool true)) (.tmp 16), none⟩] [])
  (.cond (.tmp 17)
   (.seq (.region [⟨(some 4), .mv (.const (.slice none 0 0)), none⟩,
      ⟨(some 5), .mv (.const (.int .i64 2)), none⟩] [])
   .ret)
   .skip))
 (.seq (.region [⟨(some 18), .mv (.tmp 1), none⟩,
    ⟨(some 19), .mkSl 8 [(.int .i64 0)] (.tmp 18) (.tmp 18), none⟩,
    ⟨(some 6), .mv (.tmp 19), none⟩] [])
 (.seq (.seq (.region [⟨(some 20), .mv (.tmp 6), none⟩,
     ⟨(some 21), .lenV (.tmp 20), none⟩,
     ⟨(some 22), .mv (.const (.int .i64 0)), none⟩] [])
  (.block 0 (.loop [1, 2, 6, 21, 22]
   (.seq (.region [⟨(some 23), .ar .lss (.tmp 22) (.tmp 21), none⟩] [])
   (.seq (.cond (.tmp 23)
     .skip
     (.exit 0))
   (.seq (.block 1 (.seq (.region [⟨(some 24), .mv (.tmp 22), none⟩,
       ⟨(some 7), .mv (.tmp 24), none⟩] [])
    (.region [⟨(some 25), .mv (.tmp 6), none⟩,
      ⟨(some 26), .mv (.tmp 7), none⟩,
      ⟨(some 27), .mv (.tmp 7), none⟩,
      ⟨(some 28), .ixV 1 (.tmp 25) (.tmp 26), none⟩,
      ⟨none, .store 1 (.tmp 28) (.tmp 27), none⟩] [])))
   (.region [⟨(some 29), .ar .add (.tmp 22) (.const (.int .i64 1)), none⟩,
     ⟨(some 22), .mv (.tmp 29), none⟩] [])))))))
 (.seq (.region [⟨(some 30), .loadN 32 (.tmp 2), none⟩,
    ⟨(some 31), .call 23 [(.tmp 30), (.const (.int .u32 3))], none⟩,
    ⟨(some 8), .mv (.tmp 31), none⟩] [])
 (.seq (.seq (.region [⟨(some 32), .mv (.tmp 1), none⟩,
     ⟨(some 33), .ar .sub (.tmp 32) (.const (.int .i64 1)), none⟩,
     ⟨(some 9), .mv (.tmp 33), none⟩] [])
  (.block 2 (.loop [6, 8, 9]
   (.seq (.seq (.region [⟨(some 34), .mv (.tmp 9), none⟩,
       ⟨(some 35), .ar .gtr (.tmp 34) (.const (.int .i64 0)), none⟩] [])
    (.cond (.tmp 35)
     .skip
     (.exit 2)))
   (.seq (.block 3 (.seq (.region [⟨(some 39), .mv (.tmp 8), none⟩,
       ⟨(some 40), .mv (.tmp 9), none⟩,
       ⟨(some 41), .ar .add (.tmp 40) (.const (.int .i64 1)), none⟩,
       ⟨(some 42), .conv .u64 (.tmp 41), none⟩,
       ⟨(some 43), .call 24 [(.tmp 39), (.tmp 42)], none⟩,
       ⟨(some 38), .mv (.tmp 43), none⟩,
       ⟨(some 44), .ext (.tmp 38) 0, none⟩,
       ⟨(some 45), .ext (.tmp 38) 1, none⟩,
       ⟨(some 10), .mv (.tmp 44), none⟩,
       ⟨(some 11), .mv (.tmp 45), none⟩] [])
    (.seq (.seq (.region [⟨(some 46), .mv (.tmp 11), none⟩,
        ⟨(some 47), .ar .neq (.tmp 46) (.const (.int .i64 0)), none⟩] [])
     (.cond (.tmp 47)
      (.seq (.region [⟨(some 48), .mv (.tmp 11), none⟩,
         ⟨(some 4), .mv (.const (.slice none 0 0)), none⟩,
         ⟨(some 5), .mv (.tmp 48), none⟩] [])
      .ret)
      .skip))
    (.region [⟨(some 49), .mv (.tmp 6), none⟩,
      ⟨(some 50), .mv (.tmp 9), none⟩,
      ⟨(some 51), .mv (.tmp 6), none⟩,
      ⟨(some 52), .mv (.tmp 10), none⟩,
      ⟨(some 53), .mv (.tmp 6), none⟩,
      ⟨(some 54), .mv (.tmp 10), none⟩,
      ⟨(some 55), .ixV 1 (.tmp 53) (.tmp 54), none⟩,
      ⟨(some 56), .load1 (.tmp 55), none⟩,
      ⟨(some 57), .mv (.tmp 6), none⟩,
      ⟨(some 58), .mv (.tmp 9), none⟩,
      ⟨(some 59), .ixV 1 (.tmp 57) (.tmp 58), none⟩,
      ⟨(some 60), .load1 (.tmp 59), none⟩,
      ⟨(some 61), .ixV 1 (.tmp 49) (.tmp 50), none⟩,
      ⟨none, .store 1 (.tmp 61) (.tmp 56), none⟩,
      ⟨(some 62), .ixV 1 (.tmp 51) (.tmp 52), none⟩,
      ⟨none, .store 1 (.tmp 62) (.tmp 60), none⟩] []))))
   (.region [⟨(some 36), .mv (.tmp 9), none⟩,
     ⟨(some 37), .ar .sub (.tmp 36) (.const (.int .i64 1)), none⟩,
     ⟨(some 9), .mv (.tmp 37), none⟩] []))))))
 (.seq (.region [⟨(some 63), .mv (.tmp 6), none⟩,
    ⟨(some 4), .mv (.tmp 63), none⟩,
    ⟨(some 5), .mv (.const (.int .i64 0)), none⟩] [])
 .ret))))))),
 [.tmp 4, .tmp 5]⟩
set_option maxRecDepth 100000 in
theorem m7 : InProg Try.prog 0 7 M7 := ⟨Try.f7, [[1, 2, 6, 21, 22], [6, 8, 9]], Try.func7, by kernel_rfl⟩
/-- trefoil/sample.Pick -/
def M9 : MFun := ⟨3,
 (.seq (.region [⟨(some 3), .box (.tmp 0), none⟩,
    ⟨(some 6), .mv (.const (.slice none 0 0)), none⟩,
    ⟨(some 7), .mv (.const (.int .i64 0)), none⟩] [])
 (.seq (.seq (.region [⟨(some 10), .mv (.tmp 2), none⟩,
     ⟨(some 11), .ar .lss (.tmp 10) (.const (.int .i64 0)), none⟩,
     ⟨(some 12), .mv (.tmp 11), none⟩,
     ⟨(some 13), .mv (.tmp 2), (some (12, false))⟩,
     ⟨(some 14), .mv (.tmp 1), (some (12, false))⟩,
     ⟨(some 15), .ar .gtr (.tmp 13) (.tmp 14), (some (12, false))⟩,
     ⟨(some 16), .pick (.tmp 12) (.const (.bool true)) (.tmp 15), none⟩] [])
  (.cond (.tmp 16)
   (.seq (.region [⟨(some 6), .mv (.const (.slice none 0 0)), none⟩,
      ⟨(some 7), .mv (.const (.int .i64 1)), none⟩] [])
   .ret)
   .skip))
 (.seq (.region [⟨(some 18), .loadN 32 (.tmp 3), none⟩,
    ⟨(some 19), .mv (.tmp 1), none⟩,
    ⟨(some 20), .call 7 [(.tmp 18), (.tmp 19)], none⟩,
    ⟨(some 17), .mv (.tmp 20), none⟩,
    ⟨(some 21), .ext (.tmp 17) 0, none⟩,
    ⟨(some 22), .ext (.tmp 17) 1, none⟩,
    ⟨(some 8), .mv (.tmp 21), none⟩,
    ⟨(some 9), .mv (.tmp 22), none⟩] [])
 (.seq (.seq (.region [⟨(some 23), .mv (.tmp 9), none⟩,
     ⟨(some 24), .ar .neq (.tmp 23) (.const (.int .i64 0)), none⟩] [])
  (.cond (.tmp 24)
   (.seq (.region [⟨(some 25), .mv (.tmp 9), none⟩,
      ⟨(some 6), .mv (.const (.slice none 0 0)), none⟩,
      ⟨(some 7), .mv (.tmp 25), none⟩] [])
   .ret)
   .skip))
 (.seq (.region [⟨(some 26), .mv (.tmp 8), none⟩,
    ⟨(some 27), .mv (.tmp 2), none⟩,
    ⟨(some 28), .slV 1 (.tmp 26) none (some (.tmp 27)) none, none⟩,
    ⟨(some 8), .mv (.tmp 28), none⟩] [])
 (.seq (.region [⟨(some 29), .mv (.tmp 8), none⟩,
    ⟨(some 30), .call 26 [(.tmp 29)], none⟩] [])
 (.seq (.region [⟨(some 31), .mv (.tmp 8), none⟩,
    ⟨(some 32), .call 27 [(.tmp 31)], none⟩,
    ⟨(some 6), .mv (.tmp 32), none⟩,
    ⟨(some 7), .mv (.const (.int .i64 0)), none⟩] [])
 .ret))))))),
 [.tmp 6, .tmp 7]⟩
set_option maxRecDepth 100000 in
theorem m9 : InProg Try.prog 0 9 M9 := ⟨Try.f9, [], Try.func9, by kernel_rfl⟩
/-- trefoil/sample.Rest -/
def M13 : MFun := ⟨2,
 (.seq (.region [⟨(some 4), .mv (.const (.slice none 0 0)), none⟩,
    ⟨(some 5), .mv (.const (.int .i64 0)), none⟩] [])
 (.seq (.seq (.region [⟨(some 9), .mv (.tmp 0), none⟩,
     ⟨(some 10), .ar .lss (.tmp 9) (.const (.int .i64 0)), none⟩,
     ⟨(some 11), .mv (.tmp 10), none⟩,
     ⟨(some 12), .mv (.tmp 0), (some (11, false))⟩,
     ⟨(some 13), .ar .gtr (.tmp 12) (.const (.int .i64 24)), (some (11, false))⟩,
     ⟨(some 14), .pick (.tmp 11) (.const (.bool true)) (.tmp 13), none⟩] [])
  (.cond (.tmp 14)
   (.seq (.region [⟨(some 4), .mv (.const (.slice none 0 0)), none⟩,
      ⟨(some 5), .mv (.const (.int .i64 2)), none⟩] [])
   .ret)
   .skip))
 (.seq (.region [⟨(some 6), .mv (.const (.int .i64 0)), none⟩] [])
 (.seq (.region [⟨(some 7), .mv (.const (.slice none 0 0)), none⟩] [])
 (.seq (.seq (.region [⟨(some 15), .mv (.tmp 0), none⟩,
     ⟨(some 16), .mv (.const (.int .i64 0)), none⟩] [])
  (.block 0 (.loop [1, 6, 7, 15, 16]
   (.seq (.region [⟨(some 17), .ar .lss (.tmp 16) (.tmp 15), none⟩] [])
   (.seq (.cond (.tmp 17)
     .skip
     (.exit 0))
   (.seq (.block 1 (.seq (.region [⟨(some 18), .mv (.tmp 16), none⟩,
       ⟨(some 8), .mv (.tmp 18), none⟩] [])
    (.seq (.seq (.region [⟨(some 19), .mv (.tmp 6), none⟩,
        ⟨(some 20), .mv (.tmp 1), none⟩,
        ⟨(some 21), .lenV (.tmp 20), none⟩,
        ⟨(some 22), .ar .lss (.tmp 19) (.tmp 21), none⟩,
        ⟨(some 23), .mv (.tmp 22), none⟩,
        ⟨(some 24), .mv (.tmp 1), (some (23, true))⟩,
        ⟨(some 25), .mv (.tmp 6), (some (23, true))⟩,
        ⟨(some 26), .ixV 1 (.tmp 24) (.tmp 25), (some (23, true))⟩,
        ⟨(some 27), .load1 (.tmp 26), (some (23, true))⟩,
        ⟨(some 28), .mv (.tmp 8), (some (23, true))⟩,
        ⟨(some 29), .ar .eql (.tmp 27) (.tmp 28), (some (23, true))⟩,
        ⟨(some 30), .pick (.tmp 23) (.tmp 29) (.const (.bool false)), none⟩] [])
     (.cond (.tmp 30)
      (.seq (.region [⟨(some 31), .mv (.tmp 6), none⟩,
         ⟨(some 32), .ar .add (.tmp 31) (.const (.int .i64 1)), none⟩,
         ⟨(some 6), .mv (.tmp 32), none⟩] [])
      (.exit 1))
      .skip))
    (.region [⟨(some 33), .mv (.tmp 7), none⟩,
      ⟨(some 34), .mv (.tmp 8), none⟩,
      ⟨(some 35), .buildSlice [(.int .i64 0)] 1 [(0, 1, (.tmp 34))], none⟩,
      ⟨(some 36), .app 1 8 (.tmp 33) (.tmp 35), none⟩,
      ⟨(some 7), .mv (.tmp 36), none⟩] []))))
   (.region [⟨(some 37), .ar .add (.tmp 16) (.const (.int .i64 1)), none⟩,
     ⟨(some 16), .mv (.tmp 37), none⟩] [])))))))
 (.seq (.seq (.region [⟨(some 38), .mv (.tmp 6), none⟩,
     ⟨(some 39), .mv (.tmp 1), none⟩,
     ⟨(some 40), .lenV (.tmp 39), none⟩,
     ⟨(some 41), .ar .lss (.tmp 38) (.tmp 40), none⟩] [])
  (.cond (.tmp 41)
   (.seq (.region [⟨(some 4), .mv (.const (.slice none 0 0)), none⟩,
      ⟨(some 5), .mv (.const (.int .i64 1)), none⟩] [])
   .ret)
   .skip))
 (.seq (.region [⟨(some 42), .mv (.tmp 7), none⟩,
    ⟨(some 4), .mv (.tmp 42), none⟩,
    ⟨(some 5), .mv (.const (.int .i64 0)), none⟩] [])
 .ret))))))),
 [.tmp 4, .tmp 5]⟩
set_option maxRecDepth 100000 in
theorem m13 : InProg Try.prog 0 13 M13 := ⟨Try.f13, [[1, 6, 7, 15, 16]], Try.func13, by kernel_rfl⟩
/-- trefoil/trefoillaw30.awake -/
def M15 : MFun := ⟨0,
 (.seq (.region [⟨(some 0), .mv (.const (.bool false)), none⟩] [])
 (.seq (.region [⟨(some 6), .build [(.int .i64 0), (.int .i64 0), (.int .i64 0), (.int .i64 0), (.int .i64 0)] [(0, 1, (.const (.int .i64 1))), (1, 1, (.const (.int .i64 8)))], none⟩,
    ⟨(some 1), .new [(.int .i64 0), (.int .i64 0), (.int .i64 0), (.int .i64 0), (.int .i64 0)], none⟩,
    ⟨none, .store 5 (.tmp 1) (.tmp 6), none⟩] [])
 (.seq (.region [⟨(some 8), .loadN 5 (.tmp 1), none⟩,
    ⟨(some 9), .build [(.int .u8 0), (.int .u8 0), (.int .u8 0), (.int .u8 0), (.int .u8 0), (.int .u8 0), (.int .u8 0), (.int .u8 0), (.int .u8 0), (.int .u8 0), (.int .u8 0), (.int .u8 0), (.int .u8 0), (.int .u8 0), (.int .u8 0), (.int .u8 0), (.int .u8 0), (.int .u8 0), (.int .u8 0), (.int .u8 0), (.int .u8 0), (.int .u8 0), (.int .u8 0), (.int .u8 0), (.int .u8 0), (.int .u8 0), (.int .u8 0), (.int .u8 0), (.int .u8 0), (.int .u8 0), (.int .u8 0), (.int .u8 0)] [], none⟩,
    ⟨(some 10), .call 16 [(.tmp 8), (.const (.slice none 0 0)), (.tmp 9), (.const (.int .i64 0))], none⟩,
    ⟨(some 7), .mv (.tmp 10), none⟩,
    ⟨(some 11), .ext (.tmp 7) 0, none⟩,
    ⟨(some 12), .ext (.tmp 7) 1, none⟩,
    ⟨(some 2), .mv (.tmp 11), none⟩,
    ⟨(some 3), .mv (.tmp 12), none⟩] [])
 (.seq (.seq (.region [⟨(some 13), .mv (.tmp 3), none⟩,
     ⟨(some 14), .ar .neq (.tmp 13) (.const (.int .i64 0)), none⟩,
     ⟨(some 15), .mv (.tmp 14), none⟩,
     ⟨(some 16), .mv (.tmp 2), (some (15, false))⟩,
     ⟨(some 17), .loadN 5 (.tmp 1), (some (15, false))⟩,
     ⟨(some 18), .call 20 [(.tmp 16), (.tmp 17), (.const (.slice none 0 0))], (some (15, false))⟩,
     ⟨(some 19), .ar .neq (.tmp 18) (.const (.int .i64 0)), (some (15, false))⟩,
     ⟨(some 20), .pick (.tmp 15) (.const (.bool true)) (.tmp 19), none⟩] [])
  (.cond (.tmp 20)
   (.seq (.region [⟨(some 0), .mv (.const (.bool false)), none⟩] [])
   .ret)
   .skip))
 (.seq (.region [⟨(some 22), .mv (.tmp 2), none⟩,
    ⟨(some 23), .call 21 [(.tmp 22)], none⟩,
    ⟨(some 21), .mv (.tmp 23), none⟩,
    ⟨(some 24), .ext (.tmp 21) 0, none⟩,
    ⟨(some 25), .ext (.tmp 21) 1, none⟩,
    ⟨(some 4), .mv (.tmp 24), none⟩,
    ⟨(some 5), .mv (.tmp 25), none⟩] [])
 (.seq (.region [⟨(some 26), .mv (.tmp 5), none⟩,
    ⟨(some 27), .mv (.tmp 26), none⟩,
    ⟨(some 28), .mv (.tmp 4), (some (27, true))⟩,
    ⟨(some 29), .lenV (.tmp 28), (some (27, true))⟩,
    ⟨(some 30), .ar .eql (.tmp 29) (.const (.int .i64 0)), (some (27, true))⟩,
    ⟨(some 31), .pick (.tmp 27) (.tmp 30) (.const (.bool false)), none⟩,
    ⟨(some 32), .mv (.tmp 31), none⟩,
    ⟨(some 33), .mv (.tmp 2), (some (32, true))⟩,
    ⟨(some 34), .loadN 5 (.tmp 1), (some (32, true))⟩,
    ⟨(some 35), .call 20 [(.tmp 33), (.tmp 34), (.const (.slice none 0 0))], (some (32, true))⟩,
    ⟨(some 36), .ar .eql (.tmp 35) (.const (.int .i64 7)), (some (32, true))⟩,
    ⟨(some 37), .pick (.tmp 32) (.tmp 36) (.const (.bool false)), none⟩,
    ⟨(some 0), .mv (.tmp 37), none⟩] [])
 .ret)))))),
 [.tmp 0]⟩
set_option maxRecDepth 100000 in
theorem m15 : InProg Try.prog 0 15 M15 := ⟨Try.f15, [], Try.func15, by kernel_rfl⟩
/-- trefoil/check.New -/
def M16 : MFun := ⟨4,
 (.seq (.region [⟨(some 4), .box (.tmp 0), none⟩,
    ⟨(some 6), .box (.tmp 2), none⟩,
    ⟨(some 8), .mv (.const (.pointer none)), none⟩,
    ⟨(some 9), .mv (.const (.int .i64 0)), none⟩] [])
 (.seq (.seq (.region [⟨(some 19), .loadN 5 (.tmp 4), none⟩,
     ⟨(some 20), .call 28 [(.tmp 19)], none⟩,
     ⟨(some 10), .mv (.tmp 20), none⟩] [])
  (.seq (.region [⟨(some 21), .mv (.tmp 10), none⟩,
     ⟨(some 22), .ar .neq (.tmp 21) (.const (.int .i64 0)), none⟩] [])
  (.cond (.tmp 22)
   (.seq (.region [⟨(some 23), .mv (.tmp 10), none⟩,
      ⟨(some 8), .mv (.const (.pointer none)), none⟩,
      ⟨(some 9), .mv (.tmp 23), none⟩] [])
   .ret)
   .skip)))
 (.seq (.seq (.region [⟨(some 24), .mv (.tmp 1), none⟩,
     ⟨(some 25), .lenV (.tmp 24), none⟩,
     ⟨(some 26), .mv (.const (.int .i64 0)), none⟩] [])
  (.block 0 (.loop [1, 3, 4, 6, 24, 25, 26]
   (.seq (.region [⟨(some 27), .ar .lss (.tmp 26) (.tmp 25), none⟩] [])
   (.seq (.cond (.tmp 27)
     .skip
     (.exit 0))
   (.seq (.block 1 (.seq (.region [⟨(some 28), .ixV 3 (.tmp 24) (.tmp 26), none⟩,
       ⟨(some 29), .loadN 3 (.tmp 28), none⟩,
       ⟨(some 12), .new [(.slice none 0 0), (.slice none 0 0), (.slice none 0 0)], none⟩,
       ⟨none, .store 3 (.tmp 12) (.tmp 29), none⟩] [])
    (.seq (.region [⟨(some 30), .loadN 5 (.tmp 4), none⟩,
       ⟨(some 31), .loadN 3 (.tmp 12), none⟩,
       ⟨(some 32), .call 29 [(.tmp 30), (.tmp 31)], none⟩,
       ⟨(some 33), .un .not (.tmp 32), none⟩] [])
    (.cond (.tmp 33)
     (.seq (.region [⟨(some 8), .mv (.const (.pointer none)), none⟩,
        ⟨(some 9), .mv (.const (.int .i64 11)), none⟩] [])
     .ret)
     .skip))))
   (.region [⟨(some 34), .ar .add (.tmp 26) (.const (.int .i64 1)), none⟩,
     ⟨(some 26), .mv (.tmp 34), none⟩] [])))))))
 (.seq (.region [⟨(some 36), .loadN 32 (.tmp 6), none⟩,
    ⟨(some 37), .mv (.tmp 1), none⟩,
    ⟨(some 38), .lenV (.tmp 37), none⟩,
    ⟨(some 39), .mv (.tmp 3), none⟩,
    ⟨(some 40), .call 9 [(.tmp 36), (.tmp 38), (.tmp 39)], none⟩,
    ⟨(some 35), .mv (.tmp 40), none⟩,
    ⟨(some 41), .ext (.tmp 35) 0, none⟩,
    ⟨(some 42), .ext (.tmp 35) 1, none⟩,
    ⟨(some 13), .mv (.tmp 41), none⟩,
    ⟨(some 14), .mv (.tmp 42), none⟩] [])
 (.seq (.seq (.region [⟨(some 43), .mv (.tmp 14), none⟩,
     ⟨(some 44), .ar .neq (.tmp 43) (.const (.int .i64 0)), none⟩] [])
  (.cond (.tmp 44)
   (.seq (.region [⟨(some 45), .mv (.tmp 14), none⟩,
      ⟨(some 8), .mv (.const (.pointer none)), none⟩,
      ⟨(some 9), .mv (.tmp 45), none⟩] [])
   .ret)
   .skip))
 (.seq (.region [⟨(some 47), .mv (.tmp 1), none⟩,
    ⟨(some 48), .lenV (.tmp 47), none⟩,
    ⟨(some 49), .mv (.tmp 13), none⟩,
    ⟨(some 50), .call 13 [(.tmp 48), (.tmp 49)], none⟩,
    ⟨(some 46), .mv (.tmp 50), none⟩,
    ⟨(some 51), .ext (.tmp 46) 0, none⟩,
    ⟨(some 52), .ext (.tmp 46) 1, none⟩,
    ⟨(some 15), .mv (.tmp 51), none⟩,
    ⟨(some 14), .mv (.tmp 52), none⟩] [])
 (.seq (.seq (.region [⟨(some 53), .mv (.tmp 14), none⟩,
     ⟨(some 54), .ar .neq (.tmp 53) (.const (.int .i64 0)), none⟩] [])
  (.cond (.tmp 54)
   (.seq (.region [⟨(some 55), .mv (.tmp 14), none⟩,
      ⟨(some 8), .mv (.const (.pointer none)), none⟩,
      ⟨(some 9), .mv (.tmp 55), none⟩] [])
   .ret)
   .skip))
 (.seq (.region [⟨(some 56), .loadN 5 (.tmp 4), none⟩,
    ⟨(some 57), .mv (.tmp 13), none⟩,
    ⟨(some 58), .mv (.tmp 15), none⟩,
    ⟨(some 59), .build [(.int .i64 0), (.int .i64 0), (.int .i64 0), (.int .i64 0), (.int .i64 0), (.slice none 0 0), (.slice none 0 0), (.slice none 0 0), (.slice none 0 0), (.bool false), (.bool false)] [(0, 5, (.tmp 56)), (6, 1, (.tmp 57)), (7, 1, (.tmp 58))], none⟩,
    ⟨(some 60), .box (.tmp 59), none⟩,
    ⟨(some 16), .mv (.tmp 60), none⟩] [])
 (.seq (.seq (.region [⟨(some 61), .mv (.tmp 1), none⟩,
     ⟨(some 62), .lenV (.tmp 61), none⟩,
     ⟨(some 63), .mv (.const (.int .i64 0)), none⟩] [])
  (.block 2 (.loop [16, 61, 62, 63]
   (.seq (.region [⟨(some 64), .ar .lss (.tmp 63) (.tmp 62), none⟩] [])
   (.seq (.cond (.tmp 64)
     .skip
     (.exit 2))
   (.seq (.block 3 (.seq (.region [⟨(some 65), .ixV 3 (.tmp 61) (.tmp 63), none⟩,
       ⟨(some 66), .loadN 3 (.tmp 65), none⟩,
       ⟨(some 18), .new [(.slice none 0 0), (.slice none 0 0), (.slice none 0 0)], none⟩,
       ⟨none, .store 3 (.tmp 18) (.tmp 66), none⟩] [])
    (.region [⟨(some 67), .mv (.tmp 16), none⟩,
      ⟨(some 68), .mv (.tmp 16), none⟩,
      ⟨(some 69), .nilCheck (.tmp 68), none⟩,
      ⟨(some 70), .fld 5 (.tmp 69), none⟩,
      ⟨(some 71), .load1 (.tmp 70), none⟩,
      ⟨(some 72), .loadN 3 (.tmp 18), none⟩,
      ⟨(some 73), .call 30 [(.tmp 72)], none⟩,
      ⟨(some 74), .buildSlice [(.slice none 0 0), (.slice none 0 0), (.slice none 0 0)] 1 [(0, 3, (.tmp 73))], none⟩,
      ⟨(some 75), .app 3 72 (.tmp 71) (.tmp 74), none⟩,
      ⟨(some 76), .nilCheck (.tmp 67), none⟩,
      ⟨(some 77), .fld 5 (.tmp 76), none⟩,
      ⟨none, .store 1 (.tmp 77) (.tmp 75), none⟩] [(4, 6)])))
   (.region [⟨(some 78), .ar .add (.tmp 63) (.const (.int .i64 1)), none⟩,
     ⟨(some 63), .mv (.tmp 78), none⟩] [])))))))
 (.seq (.region [⟨(some 79), .mv (.tmp 16), none⟩,
    ⟨(some 8), .mv (.tmp 79), none⟩,
    ⟨(some 9), .mv (.const (.int .i64 0)), none⟩] [])
 .ret)))))))))),
 [.tmp 8, .tmp 9]⟩
set_option maxRecDepth 100000 in
theorem m16 : InProg Try.prog 0 16 M16 := ⟨Try.f16, [[1, 3, 4, 6, 24, 25, 26], [16, 61, 62, 63]], Try.func16, by kernel_rfl⟩
/-- (*trefoil/check.Trial).Picked -/
def M17 : MFun := ⟨1,
 (.seq (.region [⟨(some 2), .mv (.const (.slice none 0 0)), none⟩] [])
 (.seq (.seq (.region [⟨(some 3), .mv (.tmp 0), none⟩,
     ⟨(some 4), .call 31 [(.tmp 3)], none⟩,
     ⟨(some 5), .un .not (.tmp 4), none⟩] [])
  (.cond (.tmp 5)
   (.seq (.region [⟨(some 2), .mv (.const (.slice none 0 0)), none⟩] [])
   .ret)
   .skip))
 (.seq (.region [⟨(some 6), .mv (.tmp 0), none⟩,
    ⟨(some 7), .nilCheck (.tmp 6), none⟩,
    ⟨(some 8), .fld 6 (.tmp 7), none⟩,
    ⟨(some 9), .load1 (.tmp 8), none⟩,
    ⟨(some 10), .app 1 8 (.const (.slice none 0 0)) (.tmp 9), none⟩,
    ⟨(some 2), .mv (.tmp 10), none⟩] [])
 .ret))),
 [.tmp 2]⟩
set_option maxRecDepth 100000 in
theorem m17 : InProg Try.prog 0 17 M17 := ⟨Try.f17, [], Try.func17, by kernel_rfl⟩
/-- (*trefoil/check.Trial).Open -/
def M19 : MFun := ⟨1,
 (.seq (.region [⟨(some 2), .mv (.const (.slice none 0 0)), none⟩] [])
 (.seq (.seq (.region [⟨(some 5), .mv (.tmp 0), none⟩,
     ⟨(some 6), .call 31 [(.tmp 5)], none⟩,
     ⟨(some 7), .un .not (.tmp 6), none⟩] [])
  (.cond (.tmp 7)
   (.seq (.region [⟨(some 2), .mv (.const (.slice none 0 0)), none⟩] [])
   .ret)
   .skip))
 (.seq (.region [⟨(some 9), .mv (.tmp 0), none⟩,
    ⟨(some 10), .nilCheck (.tmp 9), none⟩,
    ⟨(some 11), .fld 5 (.tmp 10), none⟩,
    ⟨(some 12), .load1 (.tmp 11), none⟩,
    ⟨(some 13), .mv (.tmp 0), none⟩,
    ⟨(some 14), .nilCheck (.tmp 13), none⟩,
    ⟨(some 15), .fld 6 (.tmp 14), none⟩,
    ⟨(some 16), .load1 (.tmp 15), none⟩,
    ⟨(some 17), .call 35 [(.tmp 12), (.tmp 16)], none⟩,
    ⟨(some 8), .mv (.tmp 17), none⟩,
    ⟨(some 18), .ext (.tmp 8) 0, none⟩,
    ⟨(some 19), .ext (.tmp 8) 1, none⟩,
    ⟨(some 3), .mv (.tmp 18), none⟩,
    ⟨(some 4), .mv (.tmp 19), none⟩] [])
 (.seq (.region [⟨(some 20), .mv (.tmp 3), none⟩,
    ⟨(some 2), .mv (.tmp 20), none⟩] [])
 .ret)))),
 [.tmp 2]⟩
set_option maxRecDepth 100000 in
theorem m19 : InProg Try.prog 0 19 M19 := ⟨Try.f19, [], Try.func19, by kernel_rfl⟩
/-- (*trefoil/check.Trial).Look -/
def M20 : MFun := ⟨3,
 (.seq (.region [⟨(some 4), .box (.tmp 1), none⟩,
    ⟨(some 6), .mv (.const (.int .i64 0)), none⟩] [])
 (.seq (.block 0 (.seq (.region [⟨(some 10), .mv (.tmp 0), none⟩,
     ⟨(some 11), .call 31 [(.tmp 10)], none⟩,
     ⟨(some 12), .un .not (.tmp 11), none⟩,
     ⟨(some 9), .mv (.tmp 12), none⟩] [])
  (.cond (.tmp 9)
   (.seq (.region [⟨(some 6), .mv (.const (.int .i64 3)), none⟩] [])
   .ret)
   (.seq (.region [⟨(some 14), .mv (.tmp 0), none⟩,
      ⟨(some 15), .nilCheck (.tmp 14), none⟩,
      ⟨(some 16), .fld 9 (.tmp 15), none⟩,
      ⟨(some 17), .load1 (.tmp 16), none⟩,
      ⟨(some 13), .mv (.tmp 17), none⟩] [])
   (.cond (.tmp 13)
    (.seq (.region [⟨(some 6), .mv (.const (.int .i64 7)), none⟩] [])
    .ret)
    .skip)))))
 (.seq (.region [⟨(some 18), .mv (.tmp 0), none⟩,
    ⟨(some 19), .nilCheck (.tmp 18), none⟩,
    ⟨(some 20), .fld 9 (.tmp 19), none⟩,
    ⟨none, .store 1 (.tmp 20) (.const (.bool true)), none⟩] [])
 (.seq (.seq (.region [⟨(some 21), .loadN 5 (.tmp 4), none⟩,
     ⟨(some 22), .mv (.tmp 0), none⟩,
     ⟨(some 23), .nilCheck (.tmp 22), none⟩,
     ⟨(some 24), .fld 0 (.tmp 23), none⟩,
     ⟨(some 25), .loadN 5 (.tmp 24), none⟩,
     ⟨(some 26), .eq true (.plain (.st [(0, 1, false, .int), (1, 1, false, .int), (2, 1, false, .int), (3, 1, false, .int), (4, 1, false, .int)])) (.tmp 21) (.tmp 25), none⟩,
     ⟨(some 27), .mv (.tmp 26), none⟩,
     ⟨(some 28), .mv (.tmp 2), (some (27, false))⟩,
     ⟨(some 29), .lenV (.tmp 28), (some (27, false))⟩,
     ⟨(some 30), .mv (.tmp 0), (some (27, false))⟩,
     ⟨(some 31), .nilCheck (.tmp 30), (some (27, false))⟩,
     ⟨(some 32), .fld 6 (.tmp 31), (some (27, false))⟩,
     ⟨(some 33), .load1 (.tmp 32), (some (27, false))⟩,
     ⟨(some 34), .lenV (.tmp 33), (some (27, false))⟩,
     ⟨(some 35), .ar .neq (.tmp 29) (.tmp 34), (some (27, false))⟩,
     ⟨(some 36), .pick (.tmp 27) (.const (.bool true)) (.tmp 35), none⟩] [])
  (.cond (.tmp 36)
   (.seq (.region [⟨(some 37), .mv (.tmp 0), none⟩,
      ⟨(some 38), .mv (.tmp 0), none⟩,
      ⟨(some 39), .nilCheck (.tmp 38), none⟩,
      ⟨(some 40), .fld 6 (.tmp 39), none⟩,
      ⟨(some 41), .load1 (.tmp 40), none⟩,
      ⟨(some 42), .app 1 8 (.const (.slice none 0 0)) (.tmp 41), none⟩,
      ⟨(some 43), .nilCheck (.tmp 37), none⟩,
      ⟨(some 44), .fld 8 (.tmp 43), none⟩,
      ⟨none, .store 1 (.tmp 44) (.tmp 42), none⟩] [])
   (.seq (.region [⟨(some 6), .mv (.const (.int .i64 31)), none⟩] [])
   .ret))
   .skip))
 (.seq (.seq (.region [⟨(some 45), .mv (.tmp 0), none⟩,
     ⟨(some 46), .nilCheck (.tmp 45), none⟩,
     ⟨(some 47), .fld 6 (.tmp 46), none⟩,
     ⟨(some 48), .load1 (.tmp 47), none⟩,
     ⟨(some 49), .lenV (.tmp 48), none⟩,
     ⟨(some 50), .mv (.const (.int .i64 0)), none⟩] [])
  (.block 1 (.loop [0, 2, 48, 49, 50]
   (.seq (.region [⟨(some 51), .ar .lss (.tmp 50) (.tmp 49), none⟩] [])
   (.seq (.cond (.tmp 51)
     .skip
     (.exit 1))
   (.seq (.block 2 (.seq (.region [⟨(some 52), .mv (.tmp 50), none⟩,
       ⟨(some 53), .ixV 1 (.tmp 48) (.tmp 50), none⟩,
       ⟨(some 54), .load1 (.tmp 53), none⟩,
       ⟨(some 7), .mv (.tmp 52), none⟩,
       ⟨(some 8), .mv (.tmp 54), none⟩] [])
    (.seq (.region [⟨(some 55), .mv (.tmp 0), none⟩,
       ⟨(some 56), .nilCheck (.tmp 55), none⟩,
       ⟨(some 57), .fld 0 (.tmp 56), none⟩,
       ⟨(some 58), .loadN 5 (.tmp 57), none⟩,
       ⟨(some 59), .mv (.tmp 0), none⟩,
       ⟨(some 60), .nilCheck (.tmp 59), none⟩,
       ⟨(some 61), .fld 5 (.tmp 60), none⟩,
       ⟨(some 62), .load1 (.tmp 61), none⟩,
       ⟨(some 63), .mv (.tmp 8), none⟩,
       ⟨(some 64), .ixV 3 (.tmp 62) (.tmp 63), none⟩,
       ⟨(some 65), .loadN 3 (.tmp 64), none⟩,
       ⟨(some 66), .mv (.tmp 2), none⟩,
       ⟨(some 67), .mv (.tmp 7), none⟩,
       ⟨(some 68), .ixV 3 (.tmp 66) (.tmp 67), none⟩,
       ⟨(some 69), .loadN 3 (.tmp 68), none⟩,
       ⟨(some 70), .call 36 [(.tmp 58), (.tmp 65), (.tmp 69)], none⟩,
       ⟨(some 71), .un .not (.tmp 70), none⟩] [])
    (.cond (.tmp 71)
     (.region [⟨(some 72), .mv (.tmp 0), none⟩,
       ⟨(some 73), .mv (.tmp 0), none⟩,
       ⟨(some 74), .nilCheck (.tmp 73), none⟩,
       ⟨(some 75), .fld 8 (.tmp 74), none⟩,
       ⟨(some 76), .load1 (.tmp 75), none⟩,
       ⟨(some 77), .mv (.tmp 8), none⟩,
       ⟨(some 78), .buildSlice [(.int .i64 0)] 1 [(0, 1, (.tmp 77))], none⟩,
       ⟨(some 79), .app 1 8 (.tmp 76) (.tmp 78), none⟩,
       ⟨(some 80), .nilCheck (.tmp 72), none⟩,
       ⟨(some 81), .fld 8 (.tmp 80), none⟩,
       ⟨none, .store 1 (.tmp 81) (.tmp 79), none⟩] [])
     .skip))))
   (.region [⟨(some 82), .ar .add (.tmp 50) (.const (.int .i64 1)), none⟩,
     ⟨(some 50), .mv (.tmp 82), none⟩] [])))))))
 (.seq (.seq (.region [⟨(some 83), .mv (.tmp 0), none⟩,
     ⟨(some 84), .nilCheck (.tmp 83), none⟩,
     ⟨(some 85), .fld 8 (.tmp 84), none⟩,
     ⟨(some 86), .load1 (.tmp 85), none⟩,
     ⟨(some 87), .lenV (.tmp 86), none⟩,
     ⟨(some 88), .ar .gtr (.tmp 87) (.const (.int .i64 0)), none⟩] [])
  (.cond (.tmp 88)
   (.seq (.region [⟨(some 6), .mv (.const (.int .i64 32)), none⟩] [])
   .ret)
   .skip))
 (.seq (.region [⟨(some 89), .mv (.tmp 0), none⟩,
    ⟨(some 90), .nilCheck (.tmp 89), none⟩,
    ⟨(some 91), .fld 10 (.tmp 90), none⟩,
    ⟨none, .store 1 (.tmp 91) (.const (.bool true)), none⟩] [])
 (.seq (.region [⟨(some 6), .mv (.const (.int .i64 0)), none⟩] [])
 .ret)))))))),
 [.tmp 6]⟩
set_option maxRecDepth 100000 in
theorem m20 : InProg Try.prog 0 20 M20 := ⟨Try.f20, [[0, 2, 48, 49, 50]], Try.func20, by kernel_rfl⟩
/-- (*trefoil/check.Trial).Kept -/
def M21 : MFun := ⟨1,
 (.seq (.region [⟨(some 2), .mv (.const (.slice none 0 0)), none⟩,
    ⟨(some 3), .mv (.const (.bool false)), none⟩] [])
 (.seq (.seq (.region [⟨(some 6), .mv (.tmp 0), none⟩,
     ⟨(some 7), .call 31 [(.tmp 6)], none⟩,
     ⟨(some 8), .un .not (.tmp 7), none⟩,
     ⟨(some 9), .mv (.tmp 8), none⟩,
     ⟨(some 10), .mv (.tmp 0), (some (9, false))⟩,
     ⟨(some 11), .nilCheck (.tmp 10), (some (9, false))⟩,
     ⟨(some 12), .fld 10 (.tmp 11), (some (9, false))⟩,
     ⟨(some 13), .load1 (.tmp 12), (some (9, false))⟩,
     ⟨(some 14), .un .not (.tmp 13), (some (9, false))⟩,
     ⟨(some 15), .pick (.tmp 9) (.const (.bool true)) (.tmp 14), none⟩] [])
  (.cond (.tmp 15)
   (.seq (.region [⟨(some 2), .mv (.const (.slice none 0 0)), none⟩,
      ⟨(some 3), .mv (.const (.bool false)), none⟩] [])
   .ret)
   .skip))
 (.seq (.region [⟨(some 17), .mv (.tmp 0), none⟩,
    ⟨(some 18), .nilCheck (.tmp 17), none⟩,
    ⟨(some 19), .fld 5 (.tmp 18), none⟩,
    ⟨(some 20), .load1 (.tmp 19), none⟩,
    ⟨(some 21), .mv (.tmp 0), none⟩,
    ⟨(some 22), .nilCheck (.tmp 21), none⟩,
    ⟨(some 23), .fld 7 (.tmp 22), none⟩,
    ⟨(some 24), .load1 (.tmp 23), none⟩,
    ⟨(some 25), .call 35 [(.tmp 20), (.tmp 24)], none⟩,
    ⟨(some 16), .mv (.tmp 25), none⟩,
    ⟨(some 26), .ext (.tmp 16) 0, none⟩,
    ⟨(some 27), .ext (.tmp 16) 1, none⟩,
    ⟨(some 4), .mv (.tmp 26), none⟩,
    ⟨(some 5), .mv (.tmp 27), none⟩] [])
 (.seq (.region [⟨(some 28), .mv (.tmp 4), none⟩,
    ⟨(some 2), .mv (.tmp 28), none⟩,
    ⟨(some 3), .mv (.const (.bool true)), none⟩] [])
 .ret)))),
 [.tmp 2, .tmp 3]⟩
set_option maxRecDepth 100000 in
theorem m21 : InProg Try.prog 0 21 M21 := ⟨Try.f21, [], Try.func21, by kernel_rfl⟩
/-- (*trefoil/check.Trial).Bad -/
def M22 : MFun := ⟨1,
 (.seq (.region [⟨(some 2), .mv (.const (.slice none 0 0)), none⟩] [])
 (.seq (.seq (.region [⟨(some 3), .mv (.tmp 0), none⟩,
     ⟨(some 4), .call 31 [(.tmp 3)], none⟩,
     ⟨(some 5), .un .not (.tmp 4), none⟩] [])
  (.cond (.tmp 5)
   (.seq (.region [⟨(some 2), .mv (.const (.slice none 0 0)), none⟩] [])
   .ret)
   .skip))
 (.seq (.region [⟨(some 6), .mv (.tmp 0), none⟩,
    ⟨(some 7), .nilCheck (.tmp 6), none⟩,
    ⟨(some 8), .fld 8 (.tmp 7), none⟩,
    ⟨(some 9), .load1 (.tmp 8), none⟩,
    ⟨(some 10), .app 1 8 (.const (.slice none 0 0)) (.tmp 9), none⟩,
    ⟨(some 2), .mv (.tmp 10), none⟩] [])
 .ret))),
 [.tmp 2]⟩
set_option maxRecDepth 100000 in
theorem m22 : InProg Try.prog 0 22 M22 := ⟨Try.f22, [], Try.func22, by kernel_rfl⟩
/-- trefoil/prg.New -/
def M23 : MFun := ⟨2,
 (.seq (.region [⟨(some 2), .box (.tmp 0), none⟩,
    ⟨(some 4), .mv (.const (.pointer none)), none⟩] [])
 (.seq (.region [⟨(some 5), .loadN 32 (.tmp 2), none⟩,
    ⟨(some 6), .mv (.tmp 1), none⟩,
    ⟨(some 7), .build [(.int .u8 0), (.int .u8 0), (.int .u8 0), (.int .u8 0), (.int .u8 0), (.int .u8 0), (.int .u8 0), (.int .u8 0), (.int .u8 0), (.int .u8 0), (.int .u8 0), (.int .u8 0), (.int .u8 0), (.int .u8 0), (.int .u8 0), (.int .u8 0), (.int .u8 0), (.int .u8 0), (.int .u8 0), (.int .u8 0), (.int .u8 0), (.int .u8 0), (.int .u8 0), (.int .u8 0), (.int .u8 0), (.int .u8 0), (.int .u8 0), (.int .u8 0), (.int .u8 0), (.int .u8 0), (.int .u8 0), (.int .u8 0), (.int .u32 0), (.int .i64 0), (.bool false)] [(0, 32, (.tmp 5)), (32, 1, (.tmp 6)), (34, 1, (.const (.bool true)))], none⟩,
    ⟨(some 8), .box (.tmp 7), none⟩,
    ⟨(some 4), .mv (.tmp 8), none⟩] [])
 .ret)),
 [.tmp 4]⟩
set_option maxRecDepth 100000 in
theorem m23 : InProg Try.prog 0 23 M23 := ⟨Try.f23, [], Try.func23, by kernel_rfl⟩
/-- (*trefoil/prg.Source).Below -/
def M24 : MFun := ⟨2,
 (.seq (.region [⟨(some 4), .mv (.const (.int .u64 0)), none⟩,
    ⟨(some 5), .mv (.const (.int .i64 0)), none⟩] [])
 (.seq (.seq (.region [⟨(some 9), .mv (.tmp 0), none⟩,
     ⟨(some 10), .eq false .ptr (.tmp 9) (.const (.pointer none)), none⟩,
     ⟨(some 11), .mv (.tmp 10), none⟩,
     ⟨(some 12), .mv (.tmp 0), (some (11, false))⟩,
     ⟨(some 13), .nilCheck (.tmp 12), (some (11, false))⟩,
     ⟨(some 14), .fld 34 (.tmp 13), (some (11, false))⟩,
     ⟨(some 15), .load1 (.tmp 14), (some (11, false))⟩,
     ⟨(some 16), .un .not (.tmp 15), (some (11, false))⟩,
     ⟨(some 17), .pick (.tmp 11) (.const (.bool true)) (.tmp 16), none⟩] [])
  (.cond (.tmp 17)
   (.seq (.region [⟨(some 4), .mv (.const (.int .u64 0)), none⟩,
      ⟨(some 5), .mv (.const (.int .i64 3)), none⟩] [])
   .ret)
   .skip))
 (.seq (.seq (.region [⟨(some 18), .mv (.tmp 1), none⟩,
     ⟨(some 19), .ar .eql (.tmp 18) (.const (.int .u64 0)), none⟩] [])
  (.cond (.tmp 19)
   (.seq (.region [⟨(some 4), .mv (.const (.int .u64 0)), none⟩,
      ⟨(some 5), .mv (.const (.int .i64 1)), none⟩] [])
   .ret)
   .skip))
 (.seq (.region [⟨(some 20), .mv (.tmp 1), none⟩,
    ⟨(some 21), .call 37 [(.tmp 20)], none⟩,
    ⟨(some 6), .mv (.tmp 21), none⟩] [])
 (.seq (.seq (.region [⟨(some 22), .mv (.const (.int .i64 0)), none⟩] [])
  (.block 0 (.loop [0, 1, 6, 22]
   (.seq (.region [⟨(some 23), .ar .lss (.tmp 22) (.const (.int .i64 64)), none⟩] [])
   (.seq (.cond (.tmp 23)
     .skip
     (.exit 0))
   (.seq (.block 1 (.seq (.region [⟨(some 25), .mv (.tmp 0), none⟩,
       ⟨(some 26), .call 38 [(.tmp 25)], none⟩,
       ⟨(some 24), .mv (.tmp 26), none⟩,
       ⟨(some 27), .ext (.tmp 24) 0, none⟩,
       ⟨(some 28), .ext (.tmp 24) 1, none⟩,
       ⟨(some 7), .mv (.tmp 27), none⟩,
       ⟨(some 8), .mv (.tmp 28), none⟩] [])
    (.seq (.seq (.region [⟨(some 29), .mv (.tmp 8), none⟩,
        ⟨(some 30), .ar .neq (.tmp 29) (.const (.int .i64 0)), none⟩] [])
     (.cond (.tmp 30)
      (.seq (.region [⟨(some 31), .mv (.tmp 8), none⟩,
         ⟨(some 4), .mv (.const (.int .u64 0)), none⟩,
         ⟨(some 5), .mv (.tmp 31), none⟩] [])
      .ret)
      .skip))
    (.seq (.region [⟨(some 32), .mv (.tmp 6), none⟩,
       ⟨(some 33), .ar .eql (.tmp 32) (.const (.int .u64 0)), none⟩,
       ⟨(some 34), .mv (.tmp 33), none⟩,
       ⟨(some 35), .mv (.tmp 7), (some (34, false))⟩,
       ⟨(some 36), .mv (.tmp 6), (some (34, false))⟩,
       ⟨(some 37), .ar .lss (.tmp 35) (.tmp 36), (some (34, false))⟩,
       ⟨(some 38), .pick (.tmp 34) (.const (.bool true)) (.tmp 37), none⟩] [])
    (.cond (.tmp 38)
     (.seq (.region [⟨(some 39), .mv (.tmp 7), none⟩,
        ⟨(some 40), .mv (.tmp 1), none⟩,
        ⟨(some 41), .ar .rem (.tmp 39) (.tmp 40), none⟩,
        ⟨(some 4), .mv (.tmp 41), none⟩,
        ⟨(some 5), .mv (.const (.int .i64 0)), none⟩] [])
     .ret)
     .skip)))))
   (.region [⟨(some 42), .ar .add (.tmp 22) (.const (.int .i64 1)), none⟩,
     ⟨(some 22), .mv (.tmp 42), none⟩] [])))))))
 (.seq (.region [⟨(some 4), .mv (.const (.int .u64 0)), none⟩,
    ⟨(some 5), .mv (.const (.int .i64 24)), none⟩] [])
 .ret)))))),
 [.tmp 4, .tmp 5]⟩
set_option maxRecDepth 100000 in
theorem m24 : InProg Try.prog 0 24 M24 := ⟨Try.f24, [[0, 1, 6, 22]], Try.func24, by kernel_rfl⟩
/-- slices.Sort[[]int,int] -/
def M26 : MFun := ⟨1,
 (.seq (.region [⟨(some 3), .mv (.tmp 0), none⟩,
    ⟨(some 4), .lenV (.tmp 3), none⟩,
    ⟨(some 2), .mv (.tmp 4), none⟩] [])
 (.region [⟨(some 5), .mv (.tmp 0), none⟩,
   ⟨(some 6), .mv (.tmp 2), none⟩,
   ⟨(some 7), .mv (.tmp 2), none⟩,
   ⟨(some 8), .conv .u64 (.tmp 7), none⟩,
   ⟨(some 9), .call 42 [(.tmp 8)], none⟩,
   ⟨(some 10), .call 41 [(.tmp 5), (.const (.int .i64 0)), (.tmp 6), (.tmp 9)], none⟩] [])),
 []⟩
set_option maxRecDepth 100000 in
theorem m26 : InProg Try.prog 0 26 M26 := ⟨Try.f26, [], Try.func26, by kernel_rfl⟩
/-- slices.Clip[[]int,int] -/
def M27 : MFun := ⟨1,
 (.seq (.region [⟨(some 2), .mv (.const (.slice none 0 0)), none⟩] [])
 (.seq (.region [⟨(some 3), .mv (.tmp 0), none⟩,
    ⟨(some 4), .mv (.tmp 0), none⟩,
    ⟨(some 5), .lenV (.tmp 4), none⟩,
    ⟨(some 6), .mv (.tmp 0), none⟩,
    ⟨(some 7), .lenV (.tmp 6), none⟩,
    ⟨(some 8), .slV 1 (.tmp 3) none (some (.tmp 5)) (some (.tmp 7)), none⟩,
    ⟨(some 2), .mv (.tmp 8), none⟩] [])
 .ret)),
 [.tmp 2]⟩
set_option maxRecDepth 100000 in
theorem m27 : InProg Try.prog 0 27 M27 := ⟨Try.f27, [], Try.func27, by kernel_rfl⟩
/-- trefoil/shape.Check -/
def M28 : MFun := ⟨1,
 (.seq (.region [⟨(some 1), .box (.tmp 0), none⟩,
    ⟨(some 2), .mv (.const (.int .i64 0)), none⟩] [])
 (.seq (.region [⟨(some 4), .fld 2 (.tmp 1), none⟩,
    ⟨(some 5), .load1 (.tmp 4), none⟩,
    ⟨(some 6), .ar .eql (.tmp 5) (.const (.int .i64 0)), none⟩,
    ⟨(some 7), .mv (.tmp 6), none⟩,
    ⟨(some 8), .fld 3 (.tmp 1), (some (7, true))⟩,
    ⟨(some 9), .load1 (.tmp 8), (some (7, true))⟩,
    ⟨(some 10), .ar .eql (.tmp 9) (.const (.int .i64 0)), (some (7, true))⟩,
    ⟨(some 11), .pick (.tmp 7) (.tmp 10) (.const (.bool false)), none⟩,
    ⟨(some 12), .mv (.tmp 11), none⟩,
    ⟨(some 13), .fld 4 (.tmp 1), (some (12, true))⟩,
    ⟨(some 14), .load1 (.tmp 13), (some (12, true))⟩,
    ⟨(some 15), .ar .eql (.tmp 14) (.const (.int .i64 0)), (some (12, true))⟩,
    ⟨(some 16), .pick (.tmp 12) (.tmp 15) (.const (.bool false)), none⟩,
    ⟨(some 3), .mv (.tmp 16), none⟩] [])
 (.seq (.seq (.region [⟨(some 17), .fld 0 (.tmp 1), none⟩,
     ⟨(some 18), .load1 (.tmp 17), none⟩] [])
  (.block 0 (.seq (.block 3 (.seq (.block 2 (.seq (.block 1 (.seq (.seq (.seq (.region [⟨(some 20), .ar .eql (.tmp 18) (.const (.int .i64 2)), none⟩,
          ⟨(some 19), .mv (.tmp 20), none⟩] [])
       (.cond (.tmp 19)
        (.exit 1)
        .skip))
      (.seq (.seq (.seq (.region [⟨(some 22), .ar .eql (.tmp 18) (.const (.int .i64 1)), none⟩,
           ⟨(some 21), .mv (.tmp 22), none⟩] [])
        (.cond (.tmp 21)
         .skip
         (.region [⟨(some 23), .ar .eql (.tmp 18) (.const (.int .i64 4)), none⟩,
           ⟨(some 21), .mv (.tmp 23), none⟩] [])))
       (.cond (.tmp 21)
        (.exit 2)
        .skip))
      (.seq (.region [⟨(some 25), .ar .eql (.tmp 18) (.const (.int .i64 3)), none⟩,
         ⟨(some 24), .mv (.tmp 25), none⟩] [])
      (.cond (.tmp 24)
       (.exit 3)
       .skip))))
     (.exit 0)))
    (.region [⟨(some 26), .fld 2 (.tmp 1), none⟩,
      ⟨(some 27), .load1 (.tmp 26), none⟩,
      ⟨(some 28), .call 43 [(.tmp 27)], none⟩,
      ⟨(some 29), .mv (.tmp 28), none⟩,
      ⟨(some 30), .fld 3 (.tmp 1), (some (29, true))⟩,
      ⟨(some 31), .load1 (.tmp 30), (some (29, true))⟩,
      ⟨(some 32), .call 43 [(.tmp 31)], (some (29, true))⟩,
      ⟨(some 33), .pick (.tmp 29) (.tmp 32) (.const (.bool false)), none⟩,
      ⟨(some 34), .mv (.tmp 33), none⟩,
      ⟨(some 35), .fld 4 (.tmp 1), (some (34, true))⟩,
      ⟨(some 36), .load1 (.tmp 35), (some (34, true))⟩,
      ⟨(some 37), .call 43 [(.tmp 36)], (some (34, true))⟩,
      ⟨(some 38), .pick (.tmp 34) (.tmp 37) (.const (.bool false)), none⟩,
      ⟨(some 3), .mv (.tmp 38), none⟩] [])))
   (.seq (.seq (.seq (.region [⟨(some 39), .mv (.tmp 3), none⟩,
        ⟨(some 40), .un .not (.tmp 39), none⟩,
        ⟨(some 41), .mv (.tmp 40), none⟩,
        ⟨(some 42), .fld 1 (.tmp 1), (some (41, false))⟩,
        ⟨(some 43), .load1 (.tmp 42), (some (41, false))⟩,
        ⟨(some 44), .ar .lss (.tmp 43) (.const (.int .i64 1)), (some (41, false))⟩,
        ⟨(some 45), .pick (.tmp 41) (.const (.bool true)) (.tmp 44), none⟩,
        ⟨(some 46), .mv (.tmp 45), none⟩,
        ⟨(some 47), .fld 1 (.tmp 1), (some (46, false))⟩,
        ⟨(some 48), .load1 (.tmp 47), (some (46, false))⟩,
        ⟨(some 49), .ar .gtr (.tmp 48) (.const (.int .i64 64)), (some (46, false))⟩,
        ⟨(some 50), .pick (.tmp 46) (.const (.bool true)) (.tmp 49), none⟩] [])
     (.cond (.tmp 50)
      (.seq (.region [⟨(some 2), .mv (.const (.int .i64 11)), none⟩] [])
      .ret)
      .skip))
    (.seq (.region [⟨(some 2), .mv (.const (.int .i64 0)), none⟩] [])
    .ret))
   (.exit 0))))
  (.seq (.seq (.seq (.region [⟨(some 51), .mv (.tmp 3), none⟩,
       ⟨(some 52), .un .not (.tmp 51), none⟩,
       ⟨(some 53), .mv (.tmp 52), none⟩,
       ⟨(some 54), .fld 1 (.tmp 1), (some (53, false))⟩,
       ⟨(some 55), .load1 (.tmp 54), (some (53, false))⟩,
       ⟨(some 56), .ar .neq (.tmp 55) (.const (.int .i64 1)), (some (53, false))⟩,
       ⟨(some 57), .pick (.tmp 53) (.const (.bool true)) (.tmp 56), none⟩] [])
    (.cond (.tmp 57)
     (.seq (.region [⟨(some 2), .mv (.const (.int .i64 11)), none⟩] [])
     .ret)
     .skip))
   (.seq (.region [⟨(some 2), .mv (.const (.int .i64 0)), none⟩] [])
   .ret))
  (.exit 0)))))
 (.seq (.region [⟨(some 2), .mv (.const (.int .i64 15)), none⟩] [])
 .ret)))),
 [.tmp 2]⟩
set_option maxRecDepth 100000 in
theorem m28 : InProg Try.prog 0 28 M28 := ⟨Try.f28, [], Try.func28, by kernel_rfl⟩
/-- trefoil/shape.Fits -/
def M29 : MFun := ⟨2,
 (.seq (.region [⟨(some 2), .box (.tmp 0), none⟩,
    ⟨(some 3), .box (.tmp 1), none⟩,
    ⟨(some 4), .mv (.const (.bool false)), none⟩] [])
 (.seq (.seq (.region [⟨(some 11), .loadN 5 (.tmp 2), none⟩,
     ⟨(some 12), .call 28 [(.tmp 11)], none⟩,
     ⟨(some 13), .ar .neq (.tmp 12) (.const (.int .i64 0)), none⟩] [])
  (.cond (.tmp 13)
   (.seq (.region [⟨(some 4), .mv (.const (.bool false)), none⟩] [])
   .ret)
   .skip))
 (.seq (.region [⟨(some 15), .loadN 5 (.tmp 2), none⟩,
    ⟨(some 16), .call 44 [(.tmp 15)], none⟩,
    ⟨(some 14), .mv (.tmp 16), none⟩,
    ⟨(some 17), .ext (.tmp 14) 0, none⟩,
    ⟨(some 18), .ext (.tmp 14) 1, none⟩,
    ⟨(some 19), .ext (.tmp 14) 2, none⟩,
    ⟨(some 5), .mv (.tmp 17), none⟩,
    ⟨(some 6), .mv (.tmp 18), none⟩,
    ⟨(some 7), .mv (.tmp 19), none⟩] [])
 (.seq (.region [⟨(some 21), .loadN 5 (.tmp 2), none⟩,
    ⟨(some 22), .call 45 [(.tmp 21)], none⟩,
    ⟨(some 20), .mv (.tmp 22), none⟩,
    ⟨(some 23), .ext (.tmp 20) 0, none⟩,
    ⟨(some 24), .ext (.tmp 20) 1, none⟩,
    ⟨(some 25), .ext (.tmp 20) 2, none⟩,
    ⟨(some 8), .mv (.tmp 23), none⟩,
    ⟨(some 9), .mv (.tmp 24), none⟩,
    ⟨(some 10), .mv (.tmp 25), none⟩] [])
 (.seq (.region [⟨(some 26), .mv (.tmp 5), none⟩,
    ⟨(some 27), .mv (.tmp 8), none⟩,
    ⟨(some 28), .fld 0 (.tmp 3), none⟩,
    ⟨(some 29), .load1 (.tmp 28), none⟩,
    ⟨(some 30), .call 46 [(.tmp 26), (.tmp 27), (.tmp 29)], none⟩,
    ⟨(some 31), .mv (.tmp 30), none⟩,
    ⟨(some 32), .mv (.tmp 6), (some (31, true))⟩,
    ⟨(some 33), .mv (.tmp 9), (some (31, true))⟩,
    ⟨(some 34), .fld 1 (.tmp 3), (some (31, true))⟩,
    ⟨(some 35), .load1 (.tmp 34), (some (31, true))⟩,
    ⟨(some 36), .call 46 [(.tmp 32), (.tmp 33), (.tmp 35)], (some (31, true))⟩,
    ⟨(some 37), .pick (.tmp 31) (.tmp 36) (.const (.bool false)), none⟩,
    ⟨(some 38), .mv (.tmp 37), none⟩,
    ⟨(some 39), .mv (.tmp 7), (some (38, true))⟩,
    ⟨(some 40), .mv (.tmp 10), (some (38, true))⟩,
    ⟨(some 41), .fld 2 (.tmp 3), (some (38, true))⟩,
    ⟨(some 42), .load1 (.tmp 41), (some (38, true))⟩,
    ⟨(some 43), .call 46 [(.tmp 39), (.tmp 40), (.tmp 42)], (some (38, true))⟩,
    ⟨(some 44), .pick (.tmp 38) (.tmp 43) (.const (.bool false)), none⟩,
    ⟨(some 4), .mv (.tmp 44), none⟩] [])
 .ret))))),
 [.tmp 4]⟩
set_option maxRecDepth 100000 in
theorem m29 : InProg Try.prog 0 29 M29 := ⟨Try.f29, [], Try.func29, by kernel_rfl⟩
/-- trefoil/sample.Copy -/
def M30 : MFun := ⟨1,
 (.seq (.region [⟨(some 1), .box (.tmp 0), none⟩,
    ⟨(some 2), .new [(.slice none 0 0), (.slice none 0 0), (.slice none 0 0)], none⟩] [])
 (.seq (.region [⟨(some 3), .fld 0 (.tmp 1), none⟩,
    ⟨(some 4), .load1 (.tmp 3), none⟩,
    ⟨(some 5), .call 47 [(.tmp 4)], none⟩,
    ⟨(some 6), .fld 1 (.tmp 1), none⟩,
    ⟨(some 7), .load1 (.tmp 6), none⟩,
    ⟨(some 8), .call 47 [(.tmp 7)], none⟩,
    ⟨(some 9), .fld 2 (.tmp 1), none⟩,
    ⟨(some 10), .load1 (.tmp 9), none⟩,
    ⟨(some 11), .call 47 [(.tmp 10)], none⟩,
    ⟨(some 12), .build [(.slice none 0 0), (.slice none 0 0), (.slice none 0 0)] [(0, 1, (.tmp 5)), (1, 1, (.tmp 8)), (2, 1, (.tmp 11))], none⟩,
    ⟨none, .store 3 (.tmp 2) (.tmp 12), none⟩] [(4, 2), (7, 2), (7, 5)])
 .ret)),
 [.cellN 2 3]⟩
set_option maxRecDepth 100000 in
theorem m30 : InProg Try.prog 0 30 M30 := ⟨Try.f30, [], Try.func30, by kernel_rfl⟩
/-- (*trefoil/check.Trial).made -/
def M31 : MFun := ⟨1,
 (.seq (.region [⟨(some 2), .mv (.const (.bool false)), none⟩] [])
 (.seq (.region [⟨(some 3), .mv (.tmp 0), none⟩,
    ⟨(some 4), .eq true .ptr (.tmp 3) (.const (.pointer none)), none⟩,
    ⟨(some 5), .mv (.tmp 4), none⟩,
    ⟨(some 6), .mv (.tmp 0), (some (5, true))⟩,
    ⟨(some 7), .nilCheck (.tmp 6), (some (5, true))⟩,
    ⟨(some 8), .fld 0 (.tmp 7), (some (5, true))⟩,
    ⟨(some 9), .loadN 5 (.tmp 8), (some (5, true))⟩,
    ⟨(some 10), .call 28 [(.tmp 9)], (some (5, true))⟩,
    ⟨(some 11), .ar .eql (.tmp 10) (.const (.int .i64 0)), (some (5, true))⟩,
    ⟨(some 12), .pick (.tmp 5) (.tmp 11) (.const (.bool false)), none⟩,
    ⟨(some 2), .mv (.tmp 12), none⟩] [])
 .ret)),
 [.tmp 2]⟩
set_option maxRecDepth 100000 in
theorem m31 : InProg Try.prog 0 31 M31 := ⟨Try.f31, [], Try.func31, by kernel_rfl⟩
/-- trefoil/sample.Of -/
def M35 : MFun := ⟨2,
 (.seq (.region [⟨(some 4), .mv (.const (.slice none 0 0)), none⟩,
    ⟨(some 5), .mv (.const (.int .i64 0)), none⟩] [])
 (.seq (.region [⟨(some 6), .mv (.tmp 0), none⟩,
    ⟨(some 7), .mv (.tmp 1), none⟩,
    ⟨(some 8), .call 56 [(.tmp 6), (.tmp 7), (.func 30)], none⟩,
    ⟨(some 9), .ext (.tmp 8) 0, none⟩,
    ⟨(some 10), .ext (.tmp 8) 1, none⟩,
    ⟨(some 4), .mv (.tmp 9), none⟩,
    ⟨(some 5), .mv (.tmp 10), none⟩] [])
 .ret)),
 [.tmp 4, .tmp 5]⟩
set_option maxRecDepth 100000 in
theorem m35 : InProg Try.prog 0 35 M35 := ⟨Try.f35, [], Try.func35, by kernel_rfl⟩
/-- trefoil/batch.Right -/
def M36 : MFun := ⟨3,
 (.seq (.region [⟨(some 3), .box (.tmp 0), none⟩,
    ⟨(some 4), .box (.tmp 1), none⟩,
    ⟨(some 5), .box (.tmp 2), none⟩,
    ⟨(some 6), .mv (.const (.bool false)), none⟩] [])
 (.seq (.seq (.region [⟨(some 7), .fld 0 (.tmp 3), none⟩,
     ⟨(some 8), .load1 (.tmp 7), none⟩] [])
  (.block 0 (.seq (.region [⟨(some 10), .ar .eql (.tmp 8) (.const (.int .i64 1)), none⟩,
     ⟨(some 9), .mv (.tmp 10), none⟩] [])
  (.cond (.tmp 9)
   (.seq (.region [⟨(some 11), .loadN 5 (.tmp 3), none⟩,
      ⟨(some 12), .loadN 3 (.tmp 4), none⟩,
      ⟨(some 13), .loadN 3 (.tmp 5), none⟩,
      ⟨(some 14), .call 57 [(.tmp 11), (.tmp 12), (.tmp 13)], none⟩,
      ⟨(some 6), .mv (.tmp 14), none⟩] [])
   .ret)
   (.seq (.region [⟨(some 16), .ar .eql (.tmp 8) (.const (.int .i64 2)), none⟩,
      ⟨(some 15), .mv (.tmp 16), none⟩] [])
   (.cond (.tmp 15)
    (.seq (.region [⟨(some 17), .loadN 5 (.tmp 3), none⟩,
       ⟨(some 18), .loadN 3 (.tmp 4), none⟩,
       ⟨(some 19), .loadN 3 (.tmp 5), none⟩,
       ⟨(some 20), .call 58 [(.tmp 17), (.tmp 18), (.tmp 19)], none⟩,
       ⟨(some 6), .mv (.tmp 20), none⟩] [])
    .ret)
    (.seq (.region [⟨(some 22), .ar .eql (.tmp 8) (.const (.int .i64 4)), none⟩,
       ⟨(some 21), .mv (.tmp 22), none⟩] [])
    (.cond (.tmp 21)
     (.seq (.region [⟨(some 23), .loadN 5 (.tmp 3), none⟩,
        ⟨(some 24), .loadN 3 (.tmp 4), none⟩,
        ⟨(some 25), .loadN 3 (.tmp 5), none⟩,
        ⟨(some 26), .call 59 [(.tmp 23), (.tmp 24), (.tmp 25)], none⟩,
        ⟨(some 6), .mv (.tmp 26), none⟩] [])
     .ret)
     (.seq (.region [⟨(some 28), .ar .eql (.tmp 8) (.const (.int .i64 3)), none⟩,
        ⟨(some 27), .mv (.tmp 28), none⟩] [])
     (.cond (.tmp 27)
      (.seq (.region [⟨(some 29), .loadN 5 (.tmp 3), none⟩,
         ⟨(some 30), .loadN 3 (.tmp 4), none⟩,
         ⟨(some 31), .call 29 [(.tmp 29), (.tmp 30)], none⟩,
         ⟨(some 32), .mv (.tmp 31), none⟩,
         ⟨(some 33), .loadN 5 (.tmp 3), (some (32, true))⟩,
         ⟨(some 34), .loadN 3 (.tmp 5), (some (32, true))⟩,
         ⟨(some 35), .call 29 [(.tmp 33), (.tmp 34)], (some (32, true))⟩,
         ⟨(some 36), .pick (.tmp 32) (.tmp 35) (.const (.bool false)), none⟩,
         ⟨(some 37), .mv (.tmp 36), none⟩,
         ⟨(some 38), .fld 0 (.tmp 4), (some (37, true))⟩,
         ⟨(some 39), .load1 (.tmp 38), (some (37, true))⟩,
         ⟨(some 40), .ixV 1 (.tmp 39) (.const (.int .i64 0)), (some (37, true))⟩,
         ⟨(some 41), .load1 (.tmp 40), (some (37, true))⟩,
         ⟨(some 42), .fld 0 (.tmp 5), (some (37, true))⟩,
         ⟨(some 43), .load1 (.tmp 42), (some (37, true))⟩,
         ⟨(some 44), .ixV 1 (.tmp 43) (.const (.int .i64 0)), (some (37, true))⟩,
         ⟨(some 45), .load1 (.tmp 44), (some (37, true))⟩,
         ⟨(some 46), .ar .xor (.tmp 41) (.tmp 45), (some (37, true))⟩,
         ⟨(some 47), .fld 1 (.tmp 4), (some (37, true))⟩,
         ⟨(some 48), .load1 (.tmp 47), (some (37, true))⟩,
         ⟨(some 49), .ixV 1 (.tmp 48) (.const (.int .i64 0)), (some (37, true))⟩,
         ⟨(some 50), .load1 (.tmp 49), (some (37, true))⟩,
         ⟨(some 51), .fld 1 (.tmp 5), (some (37, true))⟩,
         ⟨(some 52), .load1 (.tmp 51), (some (37, true))⟩,
         ⟨(some 53), .ixV 1 (.tmp 52) (.const (.int .i64 0)), (some (37, true))⟩,
         ⟨(some 54), .load1 (.tmp 53), (some (37, true))⟩,
         ⟨(some 55), .ar .xor (.tmp 50) (.tmp 54), (some (37, true))⟩,
         ⟨(some 56), .ar .and (.tmp 46) (.tmp 55), (some (37, true))⟩,
         ⟨(some 57), .fld 2 (.tmp 4), (some (37, true))⟩,
         ⟨(some 58), .load1 (.tmp 57), (some (37, true))⟩,
         ⟨(some 59), .ixV 1 (.tmp 58) (.const (.int .i64 0)), (some (37, true))⟩,
         ⟨(some 60), .load1 (.tmp 59), (some (37, true))⟩,
         ⟨(some 61), .fld 2 (.tmp 5), (some (37, true))⟩,
         ⟨(some 62), .load1 (.tmp 61), (some (37, true))⟩,
         ⟨(some 63), .ixV 1 (.tmp 62) (.const (.int .i64 0)), (some (37, true))⟩,
         ⟨(some 64), .load1 (.tmp 63), (some (37, true))⟩,
         ⟨(some 65), .ar .xor (.tmp 60) (.tmp 64), (some (37, true))⟩,
         ⟨(some 66), .ar .eql (.tmp 56) (.tmp 65), (some (37, true))⟩,
         ⟨(some 67), .pick (.tmp 37) (.tmp 66) (.const (.bool false)), none⟩,
         ⟨(some 6), .mv (.tmp 67), none⟩] [])
      .ret)
      .skip))))))))))
 (.seq (.region [⟨(some 6), .mv (.const (.bool false)), none⟩] [])
 .ret))),
 [.tmp 6]⟩
set_option maxRecDepth 100000 in
theorem m36 : InProg Try.prog 0 36 M36 := ⟨Try.f36, [], Try.func36, by kernel_rfl⟩
/-- trefoil/prg.Cut -/
def M37 : MFun := ⟨1,
 (.seq (.region [⟨(some 2), .mv (.const (.int .u64 0)), none⟩] [])
 (.seq (.seq (.region [⟨(some 3), .mv (.tmp 0), none⟩,
     ⟨(some 4), .ar .eql (.tmp 3) (.const (.int .u64 0)), none⟩] [])
  (.cond (.tmp 4)
   (.seq (.region [⟨(some 2), .mv (.const (.int .u64 0)), none⟩] [])
   .ret)
   .skip))
 (.seq (.region [⟨(some 5), .mv (.tmp 0), none⟩,
    ⟨(some 6), .un .neg (.tmp 5), none⟩,
    ⟨(some 7), .mv (.tmp 0), none⟩,
    ⟨(some 8), .ar .rem (.tmp 6) (.tmp 7), none⟩,
    ⟨(some 9), .un .neg (.tmp 8), none⟩,
    ⟨(some 2), .mv (.tmp 9), none⟩] [])
 .ret))),
 [.tmp 2]⟩
set_option maxRecDepth 100000 in
theorem m37 : InProg Try.prog 0 37 M37 := ⟨Try.f37, [], Try.func37, by kernel_rfl⟩
/-- (*trefoil/prg.Source).Next -/
def M38 : MFun := ⟨1,
 (.seq (.region [⟨(some 2), .mv (.const (.int .u64 0)), none⟩,
    ⟨(some 3), .mv (.const (.int .i64 0)), none⟩] [])
 (.seq (.seq (.region [⟨(some 6), .mv (.tmp 0), none⟩,
     ⟨(some 7), .eq false .ptr (.tmp 6) (.const (.pointer none)), none⟩,
     ⟨(some 8), .mv (.tmp 7), none⟩,
     ⟨(some 9), .mv (.tmp 0), (some (8, false))⟩,
     ⟨(some 10), .nilCheck (.tmp 9), (some (8, false))⟩,
     ⟨(some 11), .fld 34 (.tmp 10), (some (8, false))⟩,
     ⟨(some 12), .load1 (.tmp 11), (some (8, false))⟩,
     ⟨(some 13), .un .not (.tmp 12), (some (8, false))⟩,
     ⟨(some 14), .pick (.tmp 8) (.const (.bool true)) (.tmp 13), none⟩] [])
  (.cond (.tmp 14)
   (.seq (.region [⟨(some 2), .mv (.const (.int .u64 0)), none⟩,
      ⟨(some 3), .mv (.const (.int .i64 3)), none⟩] [])
   .ret)
   .skip))
 (.seq (.region [⟨(some 16), .mv (.tmp 0), none⟩,
    ⟨(some 17), .nilCheck (.tmp 16), none⟩,
    ⟨(some 18), .fld 0 (.tmp 17), none⟩,
    ⟨(some 19), .loadN 32 (.tmp 18), none⟩,
    ⟨(some 20), .mv (.tmp 0), none⟩,
    ⟨(some 21), .nilCheck (.tmp 20), none⟩,
    ⟨(some 22), .fld 32 (.tmp 21), none⟩,
    ⟨(some 23), .load1 (.tmp 22), none⟩,
    ⟨(some 24), .mv (.tmp 0), none⟩,
    ⟨(some 25), .nilCheck (.tmp 24), none⟩,
    ⟨(some 26), .fld 33 (.tmp 25), none⟩,
    ⟨(some 27), .load1 (.tmp 26), none⟩,
    ⟨(some 28), .call 60 [(.tmp 19), (.tmp 23), (.tmp 27), (.const (.int .i64 1))], none⟩,
    ⟨(some 15), .mv (.tmp 28), none⟩,
    ⟨(some 29), .ext (.tmp 15) 0, none⟩,
    ⟨(some 30), .ext (.tmp 15) 1, none⟩,
    ⟨(some 4), .mv (.tmp 29), none⟩,
    ⟨(some 5), .mv (.tmp 30), none⟩] [])
 (.seq (.seq (.region [⟨(some 31), .mv (.tmp 5), none⟩,
     ⟨(some 32), .ar .neq (.tmp 31) (.const (.int .i64 0)), none⟩] [])
  (.cond (.tmp 32)
   (.seq (.region [⟨(some 33), .mv (.tmp 5), none⟩,
      ⟨(some 2), .mv (.const (.int .u64 0)), none⟩,
      ⟨(some 3), .mv (.tmp 33), none⟩] [])
   .ret)
   .skip))
 (.seq (.region [⟨(some 34), .mv (.tmp 0), none⟩,
    ⟨(some 35), .nilCheck (.tmp 34), none⟩,
    ⟨(some 36), .fld 33 (.tmp 35), none⟩,
    ⟨(some 37), .load1 (.tmp 36), none⟩,
    ⟨(some 38), .ar .add (.tmp 37) (.const (.int .i64 1)), none⟩,
    ⟨(some 39), .nilCheck (.tmp 34), none⟩,
    ⟨(some 40), .fld 33 (.tmp 39), none⟩,
    ⟨none, .store 1 (.tmp 40) (.tmp 38), none⟩] [])
 (.seq (.region [⟨(some 41), .mv (.tmp 4), none⟩,
    ⟨(some 42), .ixV 1 (.tmp 41) (.const (.int .i64 0)), none⟩,
    ⟨(some 43), .load1 (.tmp 42), none⟩,
    ⟨(some 2), .mv (.tmp 43), none⟩,
    ⟨(some 3), .mv (.const (.int .i64 0)), none⟩] [])
 .ret)))))),
 [.tmp 2, .tmp 3]⟩
set_option maxRecDepth 100000 in
theorem m38 : InProg Try.prog 0 38 M38 := ⟨Try.f38, [], Try.func38, by kernel_rfl⟩
/-- slices.pdqsortOrdered[int] -/
def M41 : MFun := ⟨4,
 (.seq (.region [⟨(some 8), .mv (.const (.bool true)), none⟩] [])
 (.seq (.region [⟨(some 9), .mv (.const (.bool true)), none⟩] [])
 (.block 0 (.loop [0, 1, 2, 3, 8, 9]
  (.block 1 (.seq (.region [⟨(some 19), .mv (.tmp 2), none⟩,
     ⟨(some 20), .mv (.tmp 1), none⟩,
     ⟨(some 21), .ar .sub (.tmp 19) (.tmp 20), none⟩,
     ⟨(some 10), .mv (.tmp 21), none⟩] [])
  (.seq (.seq (.region [⟨(some 22), .mv (.tmp 10), none⟩,
      ⟨(some 23), .ar .leq (.tmp 22) (.const (.int .i64 12)), none⟩] [])
   (.cond (.tmp 23)
    (.seq (.region [⟨(some 24), .mv (.tmp 0), none⟩,
       ⟨(some 25), .mv (.tmp 1), none⟩,
       ⟨(some 26), .mv (.tmp 2), none⟩,
       ⟨(some 27), .call 62 [(.tmp 24), (.tmp 25), (.tmp 26)], none⟩] [])
    .ret)
    .skip))
  (.seq (.seq (.region [⟨(some 28), .mv (.tmp 3), none⟩,
      ⟨(some 29), .ar .eql (.tmp 28) (.const (.int .i64 0)), none⟩] [])
   (.cond (.tmp 29)
    (.seq (.region [⟨(some 30), .mv (.tmp 0), none⟩,
       ⟨(some 31), .mv (.tmp 1), none⟩,
       ⟨(some 32), .mv (.tmp 2), none⟩,
       ⟨(some 33), .call 63 [(.tmp 30), (.tmp 31), (.tmp 32)], none⟩] [])
    .ret)
    .skip))
  (.seq (.seq (.region [⟨(some 34), .mv (.tmp 8), none⟩,
      ⟨(some 35), .un .not (.tmp 34), none⟩] [])
   (.cond (.tmp 35)
    (.seq (.region [⟨(some 36), .mv (.tmp 0), none⟩,
       ⟨(some 37), .mv (.tmp 1), none⟩,
       ⟨(some 38), .mv (.tmp 2), none⟩,
       ⟨(some 39), .call 64 [(.tmp 36), (.tmp 37), (.tmp 38)], none⟩] [])
    (.region [⟨(some 40), .mv (.tmp 3), none⟩,
      ⟨(some 41), .ar .sub (.tmp 40) (.const (.int .i64 1)), none⟩,
      ⟨(some 3), .mv (.tmp 41), none⟩] []))
    .skip))
  (.seq (.region [⟨(some 43), .mv (.tmp 0), none⟩,
     ⟨(some 44), .mv (.tmp 1), none⟩,
     ⟨(some 45), .mv (.tmp 2), none⟩,
     ⟨(some 46), .call 65 [(.tmp 43), (.tmp 44), (.tmp 45)], none⟩,
     ⟨(some 42), .mv (.tmp 46), none⟩,
     ⟨(some 47), .ext (.tmp 42) 0, none⟩,
     ⟨(some 48), .ext (.tmp 42) 1, none⟩,
     ⟨(some 11), .mv (.tmp 47), none⟩,
     ⟨(some 12), .mv (.tmp 48), none⟩] [])
  (.seq (.seq (.region [⟨(some 49), .mv (.tmp 12), none⟩,
      ⟨(some 50), .ar .eql (.tmp 49) (.const (.int .i64 2)), none⟩] [])
   (.cond (.tmp 50)
    (.seq (.region [⟨(some 51), .mv (.tmp 0), none⟩,
       ⟨(some 52), .mv (.tmp 1), none⟩,
       ⟨(some 53), .mv (.tmp 2), none⟩,
       ⟨(some 54), .call 66 [(.tmp 51), (.tmp 52), (.tmp 53)], none⟩] [])
    (.seq (.region [⟨(some 55), .mv (.tmp 2), none⟩,
       ⟨(some 56), .ar .sub (.tmp 55) (.const (.int .i64 1)), none⟩,
       ⟨(some 57), .mv (.tmp 11), none⟩,
       ⟨(some 58), .mv (.tmp 1), none⟩,
       ⟨(some 59), .ar .sub (.tmp 57) (.tmp 58), none⟩,
       ⟨(some 60), .ar .sub (.tmp 56) (.tmp 59), none⟩,
       ⟨(some 11), .mv (.tmp 60), none⟩] [])
    (.region [⟨(some 12), .mv (.const (.int .i64 1)), none⟩] [])))
    .skip))
  (.seq (.seq (.region [⟨(some 61), .mv (.tmp 8), none⟩,
      ⟨(some 62), .mv (.tmp 61), none⟩,
      ⟨(some 63), .mv (.tmp 9), (some (62, true))⟩,
      ⟨(some 64), .pick (.tmp 62) (.tmp 63) (.const (.bool false)), none⟩,
      ⟨(some 65), .mv (.tmp 64), none⟩,
      ⟨(some 66), .mv (.tmp 12), (some (65, true))⟩,
      ⟨(some 67), .ar .eql (.tmp 66) (.const (.int .i64 1)), (some (65, true))⟩,
      ⟨(some 68), .pick (.tmp 65) (.tmp 67) (.const (.bool false)), none⟩] [])
   (.cond (.tmp 68)
    (.seq (.region [⟨(some 69), .mv (.tmp 0), none⟩,
       ⟨(some 70), .mv (.tmp 1), none⟩,
       ⟨(some 71), .mv (.tmp 2), none⟩,
       ⟨(some 72), .call 67 [(.tmp 69), (.tmp 70), (.tmp 71)], none⟩] [])
    (.cond (.tmp 72)
     .ret
     .skip))
    .skip))
  (.seq (.seq (.region [⟨(some 73), .mv (.tmp 1), none⟩,
      ⟨(some 74), .ar .gtr (.tmp 73) (.const (.int .i64 0)), none⟩,
      ⟨(some 75), .mv (.tmp 74), none⟩,
      ⟨(some 76), .mv (.tmp 0), (some (75, true))⟩,
      ⟨(some 77), .mv (.tmp 1), (some (75, true))⟩,
      ⟨(some 78), .ar .sub (.tmp 77) (.const (.int .i64 1)), (some (75, true))⟩,
      ⟨(some 79), .ixV 1 (.tmp 76) (.tmp 78), (some (75, true))⟩,
      ⟨(some 80), .load1 (.tmp 79), (some (75, true))⟩,
      ⟨(some 81), .mv (.tmp 0), (some (75, true))⟩,
      ⟨(some 82), .mv (.tmp 11), (some (75, true))⟩,
      ⟨(some 83), .ixV 1 (.tmp 81) (.tmp 82), (some (75, true))⟩,
      ⟨(some 84), .load1 (.tmp 83), (some (75, true))⟩,
      ⟨(some 85), .call 68 [(.tmp 80), (.tmp 84)], (some (75, true))⟩,
      ⟨(some 86), .un .not (.tmp 85), (some (75, true))⟩,
      ⟨(some 87), .pick (.tmp 75) (.tmp 86) (.const (.bool false)), none⟩] [])
   (.cond (.tmp 87)
    (.seq (.region [⟨(some 88), .mv (.tmp 0), none⟩,
       ⟨(some 89), .mv (.tmp 1), none⟩,
       ⟨(some 90), .mv (.tmp 2), none⟩,
       ⟨(some 91), .mv (.tmp 11), none⟩,
       ⟨(some 92), .call 69 [(.tmp 88), (.tmp 89), (.tmp 90), (.tmp 91)], none⟩,
       ⟨(some 13), .mv (.tmp 92), none⟩] [])
    (.seq (.region [⟨(some 93), .mv (.tmp 13), none⟩,
       ⟨(some 1), .mv (.tmp 93), none⟩] [])
    (.exit 1)))
    .skip))
  (.seq (.region [⟨(some 95), .mv (.tmp 0), none⟩,
     ⟨(some 96), .mv (.tmp 1), none⟩,
     ⟨(some 97), .mv (.tmp 2), none⟩,
     ⟨(some 98), .mv (.tmp 11), none⟩,
     ⟨(some 99), .call 70 [(.tmp 95), (.tmp 96), (.tmp 97), (.tmp 98)], none⟩,
     ⟨(some 94), .mv (.tmp 99), none⟩,
     ⟨(some 100), .ext (.tmp 94) 0, none⟩,
     ⟨(some 101), .ext (.tmp 94) 1, none⟩,
     ⟨(some 14), .mv (.tmp 100), none⟩,
     ⟨(some 15), .mv (.tmp 101), none⟩] [])
  (.seq (.region [⟨(some 102), .mv (.tmp 15), none⟩,
     ⟨(some 9), .mv (.tmp 102), none⟩] [])
  (.seq (.region [⟨(some 103), .mv (.tmp 14), none⟩,
     ⟨(some 104), .mv (.tmp 1), none⟩,
     ⟨(some 105), .ar .sub (.tmp 103) (.tmp 104), none⟩,
     ⟨(some 106), .mv (.tmp 2), none⟩,
     ⟨(some 107), .mv (.tmp 14), none⟩,
     ⟨(some 108), .ar .sub (.tmp 106) (.tmp 107), none⟩,
     ⟨(some 16), .mv (.tmp 105), none⟩,
     ⟨(some 17), .mv (.tmp 108), none⟩] [])
  (.seq (.region [⟨(some 109), .mv (.tmp 10), none⟩,
     ⟨(some 110), .ar .quo (.tmp 109) (.const (.int .i64 8)), none⟩,
     ⟨(some 18), .mv (.tmp 110), none⟩] [])
  (.seq (.region [⟨(some 111), .mv (.tmp 16), none⟩,
     ⟨(some 112), .mv (.tmp 17), none⟩,
     ⟨(some 113), .ar .lss (.tmp 111) (.tmp 112), none⟩] [])
  (.cond (.tmp 113)
   (.seq (.region [⟨(some 114), .mv (.tmp 16), none⟩,
      ⟨(some 115), .mv (.tmp 18), none⟩,
      ⟨(some 116), .ar .geq (.tmp 114) (.tmp 115), none⟩,
      ⟨(some 8), .mv (.tmp 116), none⟩] [])
   (.seq (.region [⟨(some 117), .mv (.tmp 0), none⟩,
      ⟨(some 118), .mv (.tmp 1), none⟩,
      ⟨(some 119), .mv (.tmp 14), none⟩,
      ⟨(some 120), .mv (.tmp 3), none⟩,
      ⟨(some 121), .call 41 [(.tmp 117), (.tmp 118), (.tmp 119), (.tmp 120)], none⟩] [])
   (.region [⟨(some 122), .mv (.tmp 14), none⟩,
     ⟨(some 123), .ar .add (.tmp 122) (.const (.int .i64 1)), none⟩,
     ⟨(some 1), .mv (.tmp 123), none⟩] [])))
   (.seq (.region [⟨(some 124), .mv (.tmp 17), none⟩,
      ⟨(some 125), .mv (.tmp 18), none⟩,
      ⟨(some 126), .ar .geq (.tmp 124) (.tmp 125), none⟩,
      ⟨(some 8), .mv (.tmp 126), none⟩] [])
   (.seq (.region [⟨(some 127), .mv (.tmp 0), none⟩,
      ⟨(some 128), .mv (.tmp 14), none⟩,
      ⟨(some 129), .ar .add (.tmp 128) (.const (.int .i64 1)), none⟩,
      ⟨(some 130), .mv (.tmp 2), none⟩,
      ⟨(some 131), .mv (.tmp 3), none⟩,
      ⟨(some 132), .call 41 [(.tmp 127), (.tmp 129), (.tmp 130), (.tmp 131)], none⟩] [])
   (.region [⟨(some 133), .mv (.tmp 14), none⟩,
     ⟨(some 2), .mv (.tmp 133), none⟩] [])))))))))))))))))))))),
 []⟩
set_option maxRecDepth 100000 in
theorem m41 : InProg Try.prog 0 41 M41 := ⟨Try.f41, [[0, 1, 2, 3, 8, 9]], Try.func41, by kernel_rfl⟩
/-- math/bits.Len -/
def M42 : MFun := ⟨1,
 (.seq (.region [⟨(some 2), .mv (.const (.int .i64 0)), none⟩] [])
 (.seq (.cond (.const (.bool false))
   (.seq (.region [⟨(some 3), .mv (.tmp 0), none⟩,
      ⟨(some 4), .conv .u32 (.tmp 3), none⟩,
      ⟨(some 5), .call 71 [(.tmp 4)], none⟩,
      ⟨(some 2), .mv (.tmp 5), none⟩] [])
   .ret)
   .skip)
 (.seq (.region [⟨(some 6), .mv (.tmp 0), none⟩,
    ⟨(some 7), .call 72 [(.tmp 6)], none⟩,
    ⟨(some 2), .mv (.tmp 7), none⟩] [])
 .ret))),
 [.tmp 2]⟩
set_option maxRecDepth 100000 in
theorem m42 : InProg Try.prog 0 42 M42 := ⟨Try.f42, [], Try.func42, by kernel_rfl⟩
/-- trefoil/shape.side -/
def M43 : MFun := ⟨1,
 (.seq (.region [⟨(some 2), .mv (.const (.bool false)), none⟩] [])
 (.seq (.region [⟨(some 3), .mv (.tmp 0), none⟩,
    ⟨(some 4), .ar .geq (.tmp 3) (.const (.int .i64 1)), none⟩,
    ⟨(some 5), .mv (.tmp 4), none⟩,
    ⟨(some 6), .mv (.tmp 0), (some (5, true))⟩,
    ⟨(some 7), .ar .leq (.tmp 6) (.const (.int .i64 6)), (some (5, true))⟩,
    ⟨(some 8), .pick (.tmp 5) (.tmp 7) (.const (.bool false)), none⟩,
    ⟨(some 2), .mv (.tmp 8), none⟩] [])
 .ret)),
 [.tmp 2]⟩
set_option maxRecDepth 100000 in
theorem m43 : InProg Try.prog 0 43 M43 := ⟨Try.f43, [], Try.func43, by kernel_rfl⟩
/-- trefoil/shape.Sizes -/
def M44 : MFun := ⟨1,
 (.seq (.region [⟨(some 1), .box (.tmp 0), none⟩,
    ⟨(some 2), .mv (.const (.int .i64 0)), none⟩,
    ⟨(some 3), .mv (.const (.int .i64 0)), none⟩,
    ⟨(some 4), .mv (.const (.int .i64 0)), none⟩] [])
 (.seq (.seq (.region [⟨(some 5), .loadN 5 (.tmp 1), none⟩,
     ⟨(some 6), .call 28 [(.tmp 5)], none⟩,
     ⟨(some 7), .ar .neq (.tmp 6) (.const (.int .i64 0)), none⟩] [])
  (.cond (.tmp 7)
   (.seq (.region [⟨(some 2), .mv (.const (.int .i64 0)), none⟩,
      ⟨(some 3), .mv (.const (.int .i64 0)), none⟩,
      ⟨(some 4), .mv (.const (.int .i64 0)), none⟩] [])
   .ret)
   .skip))
 (.seq (.seq (.region [⟨(some 8), .fld 0 (.tmp 1), none⟩,
     ⟨(some 9), .load1 (.tmp 8), none⟩] [])
  (.block 0 (.seq (.region [⟨(some 11), .ar .eql (.tmp 9) (.const (.int .i64 2)), none⟩,
     ⟨(some 10), .mv (.tmp 11), none⟩] [])
  (.cond (.tmp 10)
   (.seq (.region [⟨(some 12), .fld 2 (.tmp 1), none⟩,
      ⟨(some 13), .load1 (.tmp 12), none⟩,
      ⟨(some 14), .fld 3 (.tmp 1), none⟩,
      ⟨(some 15), .load1 (.tmp 14), none⟩,
      ⟨(some 16), .ar .mul (.tmp 13) (.tmp 15), none⟩,
      ⟨(some 17), .fld 3 (.tmp 1), none⟩,
      ⟨(some 18), .load1 (.tmp 17), none⟩,
      ⟨(some 19), .fld 4 (.tmp 1), none⟩,
      ⟨(some 20), .load1 (.tmp 19), none⟩,
      ⟨(some 21), .ar .mul (.tmp 18) (.tmp 20), none⟩,
      ⟨(some 22), .fld 2 (.tmp 1), none⟩,
      ⟨(some 23), .load1 (.tmp 22), none⟩,
      ⟨(some 24), .fld 4 (.tmp 1), none⟩,
      ⟨(some 25), .load1 (.tmp 24), none⟩,
      ⟨(some 26), .ar .mul (.tmp 23) (.tmp 25), none⟩,
      ⟨(some 2), .mv (.tmp 16), none⟩,
      ⟨(some 3), .mv (.tmp 21), none⟩,
      ⟨(some 4), .mv (.tmp 26), none⟩] [])
   .ret)
   (.seq (.region [⟨(some 28), .ar .eql (.tmp 9) (.const (.int .i64 4)), none⟩,
      ⟨(some 27), .mv (.tmp 28), none⟩] [])
   (.cond (.tmp 27)
    (.seq (.region [⟨(some 2), .mv (.const (.int .i64 1)), none⟩,
       ⟨(some 3), .mv (.const (.int .i64 1)), none⟩,
       ⟨(some 4), .mv (.const (.int .i64 0)), none⟩] [])
    .ret)
    .skip))))))
 (.seq (.region [⟨(some 2), .mv (.const (.int .i64 1)), none⟩,
    ⟨(some 3), .mv (.const (.int .i64 1)), none⟩,
    ⟨(some 4), .mv (.const (.int .i64 1)), none⟩] [])
 .ret)))),
 [.tmp 2, .tmp 3, .tmp 4]⟩
set_option maxRecDepth 100000 in
theorem m44 : InProg Try.prog 0 44 M44 := ⟨Try.f44, [], Try.func44, by kernel_rfl⟩
/-- trefoil/shape.Widths -/
def M45 : MFun := ⟨1,
 (.seq (.region [⟨(some 1), .box (.tmp 0), none⟩,
    ⟨(some 2), .mv (.const (.int .i64 0)), none⟩,
    ⟨(some 3), .mv (.const (.int .i64 0)), none⟩,
    ⟨(some 4), .mv (.const (.int .i64 0)), none⟩] [])
 (.seq (.seq (.region [⟨(some 5), .loadN 5 (.tmp 1), none⟩,
     ⟨(some 6), .call 28 [(.tmp 5)], none⟩,
     ⟨(some 7), .ar .neq (.tmp 6) (.const (.int .i64 0)), none⟩] [])
  (.cond (.tmp 7)
   (.seq (.region [⟨(some 2), .mv (.const (.int .i64 0)), none⟩,
      ⟨(some 3), .mv (.const (.int .i64 0)), none⟩,
      ⟨(some 4), .mv (.const (.int .i64 0)), none⟩] [])
   .ret)
   .skip))
 (.seq (.seq (.region [⟨(some 8), .fld 0 (.tmp 1), none⟩,
     ⟨(some 9), .load1 (.tmp 8), none⟩,
     ⟨(some 10), .ar .eql (.tmp 9) (.const (.int .i64 4)), none⟩] [])
  (.cond (.tmp 10)
   (.seq (.region [⟨(some 11), .fld 1 (.tmp 1), none⟩,
      ⟨(some 12), .load1 (.tmp 11), none⟩,
      ⟨(some 13), .fld 1 (.tmp 1), none⟩,
      ⟨(some 14), .load1 (.tmp 13), none⟩,
      ⟨(some 2), .mv (.const (.int .i64 1)), none⟩,
      ⟨(some 3), .mv (.tmp 12), none⟩,
      ⟨(some 4), .mv (.tmp 14), none⟩] [])
   .ret)
   .skip))
 (.seq (.region [⟨(some 15), .fld 1 (.tmp 1), none⟩,
    ⟨(some 16), .load1 (.tmp 15), none⟩,
    ⟨(some 17), .fld 1 (.tmp 1), none⟩,
    ⟨(some 18), .load1 (.tmp 17), none⟩,
    ⟨(some 19), .fld 1 (.tmp 1), none⟩,
    ⟨(some 20), .load1 (.tmp 19), none⟩,
    ⟨(some 2), .mv (.tmp 16), none⟩,
    ⟨(some 3), .mv (.tmp 18), none⟩,
    ⟨(some 4), .mv (.tmp 20), none⟩] [])
 .ret)))),
 [.tmp 2, .tmp 3, .tmp 4]⟩
set_option maxRecDepth 100000 in
theorem m45 : InProg Try.prog 0 45 M45 := ⟨Try.f45, [], Try.func45, by kernel_rfl⟩
/-- trefoil/shape.fits -/
def M46 : MFun := ⟨3,
 (.seq (.region [⟨(some 6), .mv (.const (.bool false)), none⟩] [])
 (.seq (.seq (.region [⟨(some 9), .mv (.tmp 2), none⟩,
     ⟨(some 10), .lenV (.tmp 9), none⟩,
     ⟨(some 11), .mv (.tmp 0), none⟩,
     ⟨(some 12), .ar .neq (.tmp 10) (.tmp 11), none⟩] [])
  (.cond (.tmp 12)
   (.seq (.region [⟨(some 6), .mv (.const (.bool false)), none⟩] [])
   .ret)
   .skip))
 (.seq (.seq (.region [⟨(some 13), .mv (.tmp 2), none⟩,
     ⟨(some 14), .lenV (.tmp 13), none⟩,
     ⟨(some 15), .mv (.const (.int .i64 0)), none⟩] [])
  (.block 0 (.loop [1, 13, 14, 15]
   (.seq (.region [⟨(some 16), .ar .lss (.tmp 15) (.tmp 14), none⟩] [])
   (.seq (.cond (.tmp 16)
     .skip
     (.exit 0))
   (.seq (.block 1 (.seq (.region [⟨(some 17), .ixV 1 (.tmp 13) (.tmp 15), none⟩,
       ⟨(some 18), .load1 (.tmp 17), none⟩,
       ⟨(some 8), .mv (.tmp 18), none⟩] [])
    (.seq (.region [⟨(some 19), .mv (.tmp 1), none⟩,
       ⟨(some 20), .ar .lss (.tmp 19) (.const (.int .i64 64)), none⟩,
       ⟨(some 21), .mv (.tmp 20), none⟩,
       ⟨(some 22), .mv (.tmp 8), (some (21, true))⟩,
       ⟨(some 23), .mv (.tmp 1), (some (21, true))⟩,
       ⟨(some 24), .conv .u64 (.tmp 23), (some (21, true))⟩,
       ⟨(some 25), .ar .shr (.tmp 22) (.tmp 24), (some (21, true))⟩,
       ⟨(some 26), .ar .neq (.tmp 25) (.const (.int .u64 0)), (some (21, true))⟩,
       ⟨(some 27), .pick (.tmp 21) (.tmp 26) (.const (.bool false)), none⟩] [])
    (.cond (.tmp 27)
     (.seq (.region [⟨(some 6), .mv (.const (.bool false)), none⟩] [])
     .ret)
     .skip))))
   (.region [⟨(some 28), .ar .add (.tmp 15) (.const (.int .i64 1)), none⟩,
     ⟨(some 15), .mv (.tmp 28), none⟩] [])))))))
 (.seq (.region [⟨(some 6), .mv (.const (.bool true)), none⟩] [])
 .ret)))),
 [.tmp 6]⟩
set_option maxRecDepth 100000 in
theorem m46 : InProg Try.prog 0 46 M46 := ⟨Try.f46, [[1, 13, 14, 15]], Try.func46, by kernel_rfl⟩
/-- slices.Clone[[]uint64,uint64] -/
def M47 : MFun := ⟨1,
 (.seq (.region [⟨(some 2), .mv (.const (.slice none 0 0)), none⟩] [])
 (.seq (.seq (.region [⟨(some 3), .mv (.tmp 0), none⟩,
     ⟨(some 4), .eq false .slice (.tmp 3) (.const (.slice none 0 0)), none⟩] [])
  (.cond (.tmp 4)
   (.seq (.region [⟨(some 2), .mv (.const (.slice none 0 0)), none⟩] [])
   .ret)
   .skip))
 (.seq (.region [⟨(some 5), .buildSlice [] 0 [], none⟩,
    ⟨(some 6), .mv (.tmp 0), none⟩,
    ⟨(some 7), .app 1 8 (.tmp 5) (.tmp 6), none⟩,
    ⟨(some 2), .mv (.tmp 7), none⟩] [])
 .ret))),
 [.tmp 2]⟩
set_option maxRecDepth 100000 in
theorem m47 : InProg Try.prog 0 47 M47 := ⟨Try.f47, [], Try.func47, by kernel_rfl⟩
/-- trefoil/sample.those[trefoil/api.Share] -/
def M56 : MFun := ⟨3,
 (.seq (.region [⟨(some 6), .mv (.const (.slice none 0 0)), none⟩,
    ⟨(some 7), .mv (.const (.int .i64 0)), none⟩] [])
 (.seq (.region [⟨(some 11), .mv (.tmp 1), none⟩,
    ⟨(some 12), .lenV (.tmp 11), none⟩,
    ⟨(some 13), .mkSl 72 [(.slice none 0 0), (.slice none 0 0), (.slice none 0 0)] (.const (.int .i64 0)) (.tmp 12), none⟩,
    ⟨(some 8), .mv (.tmp 13), none⟩] [])
 (.seq (.seq (.region [⟨(some 14), .mv (.tmp 1), none⟩,
     ⟨(some 15), .lenV (.tmp 14), none⟩,
     ⟨(some 16), .mv (.const (.int .i64 0)), none⟩] [])
  (.block 0 (.loop [0, 2, 8, 14, 15, 16]
   (.seq (.region [⟨(some 17), .ar .lss (.tmp 16) (.tmp 15), none⟩] [])
   (.seq (.cond (.tmp 17)
     .skip
     (.exit 0))
   (.seq (.block 1 (.seq (.region [⟨(some 18), .ixV 1 (.tmp 14) (.tmp 16), none⟩,
       ⟨(some 19), .load1 (.tmp 18), none⟩,
       ⟨(some 10), .mv (.tmp 19), none⟩] [])
    (.seq (.seq (.region [⟨(some 20), .mv (.tmp 10), none⟩,
        ⟨(some 21), .ar .lss (.tmp 20) (.const (.int .i64 0)), none⟩,
        ⟨(some 22), .mv (.tmp 21), none⟩,
        ⟨(some 23), .mv (.tmp 10), (some (22, false))⟩,
        ⟨(some 24), .mv (.tmp 0), (some (22, false))⟩,
        ⟨(some 25), .lenV (.tmp 24), (some (22, false))⟩,
        ⟨(some 26), .ar .geq (.tmp 23) (.tmp 25), (some (22, false))⟩,
        ⟨(some 27), .pick (.tmp 22) (.const (.bool true)) (.tmp 26), none⟩] [])
     (.cond (.tmp 27)
      (.seq (.region [⟨(some 6), .mv (.const (.slice none 0 0)), none⟩,
         ⟨(some 7), .mv (.const (.int .i64 6)), none⟩] [])
      .ret)
      .skip))
    (.region [⟨(some 28), .mv (.tmp 8), none⟩,
      ⟨(some 29), .mv (.tmp 2), none⟩,
      ⟨(some 30), .mv (.tmp 0), none⟩,
      ⟨(some 31), .mv (.tmp 10), none⟩,
      ⟨(some 32), .ixV 3 (.tmp 30) (.tmp 31), none⟩,
      ⟨(some 33), .loadN 3 (.tmp 32), none⟩,
      ⟨(some 34), .callV (.tmp 29) [(.tmp 33)], none⟩,
      ⟨(some 35), .buildSlice [(.slice none 0 0), (.slice none 0 0), (.slice none 0 0)] 1 [(0, 3, (.tmp 34))], none⟩,
      ⟨(some 36), .app 3 72 (.tmp 28) (.tmp 35), none⟩,
      ⟨(some 8), .mv (.tmp 36), none⟩] []))))
   (.region [⟨(some 37), .ar .add (.tmp 16) (.const (.int .i64 1)), none⟩,
     ⟨(some 16), .mv (.tmp 37), none⟩] [])))))))
 (.seq (.region [⟨(some 38), .mv (.tmp 8), none⟩,
    ⟨(some 6), .mv (.tmp 38), none⟩,
    ⟨(some 7), .mv (.const (.int .i64 0)), none⟩] [])
 .ret)))),
 [.tmp 6, .tmp 7]⟩
set_option maxRecDepth 100000 in
theorem m56 : InProg Try.prog 0 56 M56 := ⟨Try.f56, [[0, 2, 8, 14, 15, 16]], Try.func56, by kernel_rfl⟩
/-- trefoil/scalar.Right -/
def M57 : MFun := ⟨3,
 (.seq (.region [⟨(some 3), .box (.tmp 0), none⟩,
    ⟨(some 4), .box (.tmp 1), none⟩,
    ⟨(some 5), .box (.tmp 2), none⟩,
    ⟨(some 6), .mv (.const (.bool false)), none⟩] [])
 (.seq (.seq (.region [⟨(some 8), .fld 0 (.tmp 3), none⟩,
     ⟨(some 9), .load1 (.tmp 8), none⟩,
     ⟨(some 10), .ar .neq (.tmp 9) (.const (.int .i64 1)), none⟩,
     ⟨(some 11), .mv (.tmp 10), none⟩,
     ⟨(some 12), .loadN 5 (.tmp 3), (some (11, false))⟩,
     ⟨(some 13), .loadN 3 (.tmp 4), (some (11, false))⟩,
     ⟨(some 14), .call 29 [(.tmp 12), (.tmp 13)], (some (11, false))⟩,
     ⟨(some 15), .un .not (.tmp 14), (some (11, false))⟩,
     ⟨(some 16), .pick (.tmp 11) (.const (.bool true)) (.tmp 15), none⟩,
     ⟨(some 17), .mv (.tmp 16), none⟩,
     ⟨(some 18), .loadN 5 (.tmp 3), (some (17, false))⟩,
     ⟨(some 19), .loadN 3 (.tmp 5), (some (17, false))⟩,
     ⟨(some 20), .call 29 [(.tmp 18), (.tmp 19)], (some (17, false))⟩,
     ⟨(some 21), .un .not (.tmp 20), (some (17, false))⟩,
     ⟨(some 22), .pick (.tmp 17) (.const (.bool true)) (.tmp 21), none⟩] [])
  (.cond (.tmp 22)
   (.seq (.region [⟨(some 6), .mv (.const (.bool false)), none⟩] [])
   .ret)
   .skip))
 (.seq (.region [⟨(some 23), .fld 1 (.tmp 3), none⟩,
    ⟨(some 24), .load1 (.tmp 23), none⟩,
    ⟨(some 7), .mv (.tmp 24), none⟩] [])
 (.seq (.region [⟨(some 25), .mv (.tmp 7), none⟩,
    ⟨(some 26), .mv (.tmp 7), none⟩,
    ⟨(some 27), .fld 0 (.tmp 4), none⟩,
    ⟨(some 28), .load1 (.tmp 27), none⟩,
    ⟨(some 29), .ixV 1 (.tmp 28) (.const (.int .i64 0)), none⟩,
    ⟨(some 30), .load1 (.tmp 29), none⟩,
    ⟨(some 31), .fld 0 (.tmp 5), none⟩,
    ⟨(some 32), .load1 (.tmp 31), none⟩,
    ⟨(some 33), .ixV 1 (.tmp 32) (.const (.int .i64 0)), none⟩,
    ⟨(some 34), .load1 (.tmp 33), none⟩,
    ⟨(some 35), .call 80 [(.tmp 26), (.tmp 30), (.tmp 34)], none⟩,
    ⟨(some 36), .mv (.tmp 7), none⟩,
    ⟨(some 37), .fld 1 (.tmp 4), none⟩,
    ⟨(some 38), .load1 (.tmp 37), none⟩,
    ⟨(some 39), .ixV 1 (.tmp 38) (.const (.int .i64 0)), none⟩,
    ⟨(some 40), .load1 (.tmp 39), none⟩,
    ⟨(some 41), .fld 1 (.tmp 5), none⟩,
    ⟨(some 42), .load1 (.tmp 41), none⟩,
    ⟨(some 43), .ixV 1 (.tmp 42) (.const (.int .i64 0)), none⟩,
    ⟨(some 44), .load1 (.tmp 43), none⟩,
    ⟨(some 45), .call 80 [(.tmp 36), (.tmp 40), (.tmp 44)], none⟩,
    ⟨(some 46), .call 79 [(.tmp 25), (.tmp 35), (.tmp 45)], none⟩,
    ⟨(some 47), .mv (.tmp 7), none⟩,
    ⟨(some 48), .fld 2 (.tmp 4), none⟩,
    ⟨(some 49), .load1 (.tmp 48), none⟩,
    ⟨(some 50), .ixV 1 (.tmp 49) (.const (.int .i64 0)), none⟩,
    ⟨(some 51), .load1 (.tmp 50), none⟩,
    ⟨(some 52), .fld 2 (.tmp 5), none⟩,
    ⟨(some 53), .load1 (.tmp 52), none⟩,
    ⟨(some 54), .ixV 1 (.tmp 53) (.const (.int .i64 0)), none⟩,
    ⟨(some 55), .load1 (.tmp 54), none⟩,
    ⟨(some 56), .call 80 [(.tmp 47), (.tmp 51), (.tmp 55)], none⟩,
    ⟨(some 57), .ar .eql (.tmp 46) (.tmp 56), none⟩,
    ⟨(some 6), .mv (.tmp 57), none⟩] [(13, 10), (15, 10), (17, 10), (19, 10), (24, 10), (24, 20), (24, 21), (26, 10), (26, 20), (26, 21), (28, 10), (28, 20), (28, 21), (30, 10), (30, 20), (30, 21)])
 .ret)))),
 [.tmp 6]⟩
set_option maxRecDepth 100000 in
theorem m57 : InProg Try.prog 0 57 M57 := ⟨Try.f57, [], Try.func57, by kernel_rfl⟩
/-- trefoil/matrix.Right -/
def M58 : MFun := ⟨3,
 (.seq (.region [⟨(some 3), .box (.tmp 0), none⟩,
    ⟨(some 4), .box (.tmp 1), none⟩,
    ⟨(some 5), .box (.tmp 2), none⟩,
    ⟨(some 6), .mv (.const (.bool false)), none⟩] [])
 (.seq (.seq (.region [⟨(some 16), .fld 0 (.tmp 3), none⟩,
     ⟨(some 17), .load1 (.tmp 16), none⟩,
     ⟨(some 18), .ar .neq (.tmp 17) (.const (.int .i64 2)), none⟩,
     ⟨(some 19), .mv (.tmp 18), none⟩,
     ⟨(some 20), .loadN 5 (.tmp 3), (some (19, false))⟩,
     ⟨(some 21), .loadN 3 (.tmp 4), (some (19, false))⟩,
     ⟨(some 22), .call 29 [(.tmp 20), (.tmp 21)], (some (19, false))⟩,
     ⟨(some 23), .un .not (.tmp 22), (some (19, false))⟩,
     ⟨(some 24), .pick (.tmp 19) (.const (.bool true)) (.tmp 23), none⟩,
     ⟨(some 25), .mv (.tmp 24), none⟩,
     ⟨(some 26), .loadN 5 (.tmp 3), (some (25, false))⟩,
     ⟨(some 27), .loadN 3 (.tmp 5), (some (25, false))⟩,
     ⟨(some 28), .call 29 [(.tmp 26), (.tmp 27)], (some (25, false))⟩,
     ⟨(some 29), .un .not (.tmp 28), (some (25, false))⟩,
     ⟨(some 30), .pick (.tmp 25) (.const (.bool true)) (.tmp 29), none⟩] [])
  (.cond (.tmp 30)
   (.seq (.region [⟨(some 6), .mv (.const (.bool false)), none⟩] [])
   .ret)
   .skip))
 (.seq (.region [⟨(some 32), .fld 1 (.tmp 3), none⟩,
    ⟨(some 33), .load1 (.tmp 32), none⟩,
    ⟨(some 34), .fld 0 (.tmp 4), none⟩,
    ⟨(some 35), .load1 (.tmp 34), none⟩,
    ⟨(some 36), .fld 0 (.tmp 5), none⟩,
    ⟨(some 37), .load1 (.tmp 36), none⟩,
    ⟨(some 38), .call 81 [(.tmp 33), (.tmp 35), (.tmp 37)], none⟩,
    ⟨(some 31), .mv (.tmp 38), none⟩,
    ⟨(some 39), .ext (.tmp 31) 0, none⟩,
    ⟨(some 40), .ext (.tmp 31) 1, none⟩,
    ⟨(some 7), .mv (.tmp 39), none⟩,
    ⟨(some 8), .mv (.tmp 40), none⟩] [])
 (.seq (.region [⟨(some 42), .fld 1 (.tmp 3), none⟩,
    ⟨(some 43), .load1 (.tmp 42), none⟩,
    ⟨(some 44), .fld 1 (.tmp 4), none⟩,
    ⟨(some 45), .load1 (.tmp 44), none⟩,
    ⟨(some 46), .fld 1 (.tmp 5), none⟩,
    ⟨(some 47), .load1 (.tmp 46), none⟩,
    ⟨(some 48), .call 81 [(.tmp 43), (.tmp 45), (.tmp 47)], none⟩,
    ⟨(some 41), .mv (.tmp 48), none⟩,
    ⟨(some 49), .ext (.tmp 41) 0, none⟩,
    ⟨(some 50), .ext (.tmp 41) 1, none⟩,
    ⟨(some 9), .mv (.tmp 49), none⟩,
    ⟨(some 10), .mv (.tmp 50), none⟩] [])
 (.seq (.region [⟨(some 52), .fld 1 (.tmp 3), none⟩,
    ⟨(some 53), .load1 (.tmp 52), none⟩,
    ⟨(some 54), .fld 2 (.tmp 4), none⟩,
    ⟨(some 55), .load1 (.tmp 54), none⟩,
    ⟨(some 56), .fld 2 (.tmp 5), none⟩,
    ⟨(some 57), .load1 (.tmp 56), none⟩,
    ⟨(some 58), .call 81 [(.tmp 53), (.tmp 55), (.tmp 57)], none⟩,
    ⟨(some 51), .mv (.tmp 58), none⟩,
    ⟨(some 59), .ext (.tmp 51) 0, none⟩,
    ⟨(some 60), .ext (.tmp 51) 1, none⟩,
    ⟨(some 11), .mv (.tmp 59), none⟩,
    ⟨(some 12), .mv (.tmp 60), none⟩] [])
 (.seq (.region [⟨(some 62), .fld 1 (.tmp 3), none⟩,
    ⟨(some 63), .load1 (.tmp 62), none⟩,
    ⟨(some 64), .fld 2 (.tmp 3), none⟩,
    ⟨(some 65), .load1 (.tmp 64), none⟩,
    ⟨(some 66), .fld 3 (.tmp 3), none⟩,
    ⟨(some 67), .load1 (.tmp 66), none⟩,
    ⟨(some 68), .fld 4 (.tmp 3), none⟩,
    ⟨(some 69), .load1 (.tmp 68), none⟩,
    ⟨(some 70), .mv (.tmp 7), none⟩,
    ⟨(some 71), .mv (.tmp 9), none⟩,
    ⟨(some 72), .call 82 [(.tmp 63), (.tmp 65), (.tmp 67), (.tmp 69), (.tmp 70), (.tmp 71)], none⟩,
    ⟨(some 61), .mv (.tmp 72), none⟩,
    ⟨(some 73), .ext (.tmp 61) 0, none⟩,
    ⟨(some 74), .ext (.tmp 61) 1, none⟩,
    ⟨(some 13), .mv (.tmp 73), none⟩,
    ⟨(some 14), .mv (.tmp 74), none⟩] [])
 (.seq (.seq (.region [⟨(some 75), .mv (.tmp 14), none⟩,
     ⟨(some 76), .ar .neq (.tmp 75) (.const (.int .i64 0)), none⟩] [])
  (.cond (.tmp 76)
   (.seq (.region [⟨(some 6), .mv (.const (.bool false)), none⟩] [])
   .ret)
   .skip))
 (.seq (.seq (.region [⟨(some 77), .mv (.tmp 13), none⟩,
     ⟨(some 78), .lenV (.tmp 77), none⟩,
     ⟨(some 79), .mv (.const (.int .i64 0)), none⟩] [])
  (.block 0 (.loop [11, 13, 78, 79]
   (.seq (.region [⟨(some 80), .ar .lss (.tmp 79) (.tmp 78), none⟩] [])
   (.seq (.cond (.tmp 80)
     .skip
     (.exit 0))
   (.seq (.block 1 (.seq (.region [⟨(some 81), .mv (.tmp 79), none⟩,
       ⟨(some 15), .mv (.tmp 81), none⟩] [])
    (.seq (.region [⟨(some 82), .mv (.tmp 13), none⟩,
       ⟨(some 83), .mv (.tmp 15), none⟩,
       ⟨(some 84), .ixV 1 (.tmp 82) (.tmp 83), none⟩,
       ⟨(some 85), .load1 (.tmp 84), none⟩,
       ⟨(some 86), .mv (.tmp 11), none⟩,
       ⟨(some 87), .mv (.tmp 15), none⟩,
       ⟨(some 88), .ixV 1 (.tmp 86) (.tmp 87), none⟩,
       ⟨(some 89), .load1 (.tmp 88), none⟩,
       ⟨(some 90), .ar .neq (.tmp 85) (.tmp 89), none⟩] [])
    (.cond (.tmp 90)
     (.seq (.region [⟨(some 6), .mv (.const (.bool false)), none⟩] [])
     .ret)
     .skip))))
   (.region [⟨(some 91), .ar .add (.tmp 79) (.const (.int .i64 1)), none⟩,
     ⟨(some 79), .mv (.tmp 91), none⟩] [])))))))
 (.seq (.region [⟨(some 6), .mv (.const (.bool true)), none⟩] [])
 .ret))))))))),
 [.tmp 6]⟩
set_option maxRecDepth 100000 in
theorem m58 : InProg Try.prog 0 58 M58 := ⟨Try.f58, [[11, 13, 78, 79]], Try.func58, by kernel_rfl⟩
/-- trefoil/dabit.Right -/
def M59 : MFun := ⟨3,
 (.seq (.region [⟨(some 3), .box (.tmp 0), none⟩,
    ⟨(some 4), .box (.tmp 1), none⟩,
    ⟨(some 5), .box (.tmp 2), none⟩,
    ⟨(some 6), .mv (.const (.bool false)), none⟩] [])
 (.seq (.seq (.region [⟨(some 7), .fld 0 (.tmp 3), none⟩,
     ⟨(some 8), .load1 (.tmp 7), none⟩,
     ⟨(some 9), .ar .neq (.tmp 8) (.const (.int .i64 4)), none⟩,
     ⟨(some 10), .mv (.tmp 9), none⟩,
     ⟨(some 11), .loadN 5 (.tmp 3), (some (10, false))⟩,
     ⟨(some 12), .loadN 3 (.tmp 4), (some (10, false))⟩,
     ⟨(some 13), .call 29 [(.tmp 11), (.tmp 12)], (some (10, false))⟩,
     ⟨(some 14), .un .not (.tmp 13), (some (10, false))⟩,
     ⟨(some 15), .pick (.tmp 10) (.const (.bool true)) (.tmp 14), none⟩,
     ⟨(some 16), .mv (.tmp 15), none⟩,
     ⟨(some 17), .loadN 5 (.tmp 3), (some (16, false))⟩,
     ⟨(some 18), .loadN 3 (.tmp 5), (some (16, false))⟩,
     ⟨(some 19), .call 29 [(.tmp 17), (.tmp 18)], (some (16, false))⟩,
     ⟨(some 20), .un .not (.tmp 19), (some (16, false))⟩,
     ⟨(some 21), .pick (.tmp 16) (.const (.bool true)) (.tmp 20), none⟩] [])
  (.cond (.tmp 21)
   (.seq (.region [⟨(some 6), .mv (.const (.bool false)), none⟩] [])
   .ret)
   .skip))
 (.seq (.region [⟨(some 22), .fld 1 (.tmp 3), none⟩,
    ⟨(some 23), .load1 (.tmp 22), none⟩,
    ⟨(some 24), .fld 1 (.tmp 4), none⟩,
    ⟨(some 25), .load1 (.tmp 24), none⟩,
    ⟨(some 26), .ixV 1 (.tmp 25) (.const (.int .i64 0)), none⟩,
    ⟨(some 27), .load1 (.tmp 26), none⟩,
    ⟨(some 28), .fld 1 (.tmp 5), none⟩,
    ⟨(some 29), .load1 (.tmp 28), none⟩,
    ⟨(some 30), .ixV 1 (.tmp 29) (.const (.int .i64 0)), none⟩,
    ⟨(some 31), .load1 (.tmp 30), none⟩,
    ⟨(some 32), .call 80 [(.tmp 23), (.tmp 27), (.tmp 31)], none⟩,
    ⟨(some 33), .fld 0 (.tmp 4), none⟩,
    ⟨(some 34), .load1 (.tmp 33), none⟩,
    ⟨(some 35), .ixV 1 (.tmp 34) (.const (.int .i64 0)), none⟩,
    ⟨(some 36), .load1 (.tmp 35), none⟩,
    ⟨(some 37), .fld 0 (.tmp 5), none⟩,
    ⟨(some 38), .load1 (.tmp 37), none⟩,
    ⟨(some 39), .ixV 1 (.tmp 38) (.const (.int .i64 0)), none⟩,
    ⟨(some 40), .load1 (.tmp 39), none⟩,
    ⟨(some 41), .ar .xor (.tmp 36) (.tmp 40), none⟩,
    ⟨(some 42), .ar .eql (.tmp 32) (.tmp 41), none⟩,
    ⟨(some 6), .mv (.tmp 42), none⟩] [(12, 10), (14, 10), (16, 10), (18, 10)])
 .ret))),
 [.tmp 6]⟩
set_option maxRecDepth 100000 in
theorem m59 : InProg Try.prog 0 59 M59 := ⟨Try.f59, [], Try.func59, by kernel_rfl⟩
/-- trefoil/prg.Words -/
def M60 : MFun := ⟨4,
 (.seq (.region [⟨(some 4), .box (.tmp 0), none⟩,
    ⟨(some 8), .mv (.const (.slice none 0 0)), none⟩,
    ⟨(some 9), .mv (.const (.int .i64 0)), none⟩] [])
 (.seq (.seq (.region [⟨(some 15), .mv (.tmp 2), none⟩,
     ⟨(some 16), .ar .lss (.tmp 15) (.const (.int .i64 0)), none⟩,
     ⟨(some 17), .mv (.tmp 16), none⟩,
     ⟨(some 18), .mv (.tmp 3), (some (17, false))⟩,
     ⟨(some 19), .ar .lss (.tmp 18) (.const (.int .i64 0)), (some (17, false))⟩,
     ⟨(some 20), .pick (.tmp 17) (.const (.bool true)) (.tmp 19), none⟩,
     ⟨(some 21), .mv (.tmp 20), none⟩,
     ⟨(some 22), .mv (.tmp 2), (some (21, false))⟩,
     ⟨(some 23), .ar .gtr (.tmp 22) (.const (.int .i64 134217728)), (some (21, false))⟩,
     ⟨(some 24), .pick (.tmp 21) (.const (.bool true)) (.tmp 23), none⟩,
     ⟨(some 25), .mv (.tmp 24), none⟩,
     ⟨(some 26), .mv (.tmp 3), (some (25, false))⟩,
     ⟨(some 27), .ar .gtr (.tmp 26) (.const (.int .i64 4096)), (some (25, false))⟩,
     ⟨(some 28), .pick (.tmp 25) (.const (.bool true)) (.tmp 27), none⟩] [])
  (.cond (.tmp 28)
   (.seq (.region [⟨(some 8), .mv (.const (.slice none 0 0)), none⟩,
      ⟨(some 9), .mv (.const (.int .i64 2)), none⟩] [])
   .ret)
   .skip))
 (.seq (.region [⟨(some 30), .loadN 32 (.tmp 4), none⟩,
    ⟨(some 31), .mv (.tmp 1), none⟩,
    ⟨(some 32), .mv (.tmp 2), none⟩,
    ⟨(some 33), .ar .mul (.const (.int .i64 8)) (.tmp 32), none⟩,
    ⟨(some 34), .mv (.tmp 3), none⟩,
    ⟨(some 35), .ar .mul (.const (.int .i64 8)) (.tmp 34), none⟩,
    ⟨(some 36), .call 83 [(.tmp 30), (.tmp 31), (.tmp 33), (.tmp 35)], none⟩,
    ⟨(some 29), .mv (.tmp 36), none⟩,
    ⟨(some 37), .ext (.tmp 29) 0, none⟩,
    ⟨(some 38), .ext (.tmp 29) 1, none⟩,
    ⟨(some 10), .mv (.tmp 37), none⟩,
    ⟨(some 11), .mv (.tmp 38), none⟩] [])
 (.seq (.seq (.region [⟨(some 39), .mv (.tmp 11), none⟩,
     ⟨(some 40), .ar .neq (.tmp 39) (.const (.int .i64 0)), none⟩] [])
  (.cond (.tmp 40)
   (.seq (.region [⟨(some 41), .mv (.tmp 11), none⟩,
      ⟨(some 8), .mv (.const (.slice none 0 0)), none⟩,
      ⟨(some 9), .mv (.tmp 41), none⟩] [])
   .ret)
   .skip))
 (.seq (.region [⟨(some 42), .mv (.tmp 3), none⟩,
    ⟨(some 43), .mkSl 8 [(.int .u64 0)] (.tmp 42) (.tmp 42), none⟩,
    ⟨(some 12), .mv (.tmp 43), none⟩] [])
 (.seq (.seq (.region [⟨(some 44), .mv (.tmp 12), none⟩,
     ⟨(some 45), .lenV (.tmp 44), none⟩,
     ⟨(some 46), .mv (.const (.int .i64 0)), none⟩] [])
  (.block 0 (.loop [10, 12, 45, 46]
   (.seq (.region [⟨(some 47), .ar .lss (.tmp 46) (.tmp 45), none⟩] [])
   (.seq (.cond (.tmp 47)
     .skip
     (.exit 0))
   (.seq (.block 1 (.seq (.region [⟨(some 48), .mv (.tmp 46), none⟩,
       ⟨(some 13), .mv (.tmp 48), none⟩] [])
    (.seq (.region [⟨(some 49), .mv (.const (.int .i64 0)), none⟩] [])
    (.block 2 (.loop [10, 12, 13, 45, 46, 49]
     (.seq (.region [⟨(some 50), .ar .lss (.tmp 49) (.const (.int .i64 8)), none⟩] [])
     (.seq (.cond (.tmp 50)
       .skip
       (.exit 2))
     (.seq (.block 3 (.seq (.region [⟨(some 51), .mv (.tmp 49), none⟩,
         ⟨(some 14), .mv (.tmp 51), none⟩] [])
      (.region [⟨(some 52), .mv (.tmp 12), none⟩,
        ⟨(some 53), .mv (.tmp 13), none⟩,
        ⟨(some 54), .ixV 1 (.tmp 52) (.tmp 53), none⟩,
        ⟨(some 55), .load1 (.tmp 54), none⟩,
        ⟨(some 56), .mv (.tmp 10), none⟩,
        ⟨(some 57), .mv (.tmp 13), none⟩,
        ⟨(some 58), .ar .mul (.const (.int .i64 8)) (.tmp 57), none⟩,
        ⟨(some 59), .mv (.tmp 14), none⟩,
        ⟨(some 60), .ar .add (.tmp 58) (.tmp 59), none⟩,
        ⟨(some 61), .ixS (.tmp 56) (.tmp 60), none⟩,
        ⟨(some 62), .conv .u64 (.tmp 61), none⟩,
        ⟨(some 63), .mv (.tmp 14), none⟩,
        ⟨(some 64), .ar .mul (.const (.int .i64 8)) (.tmp 63), none⟩,
        ⟨(some 65), .conv .u64 (.tmp 64), none⟩,
        ⟨(some 66), .ar .shl (.tmp 62) (.tmp 65), none⟩,
        ⟨(some 67), .ar .or (.tmp 55) (.tmp 66), none⟩,
        ⟨(some 68), .ixV 1 (.tmp 52) (.tmp 53), none⟩,
        ⟨none, .store 1 (.tmp 68) (.tmp 67), none⟩] [])))
     (.region [⟨(some 69), .ar .add (.tmp 49) (.const (.int .i64 1)), none⟩,
       ⟨(some 49), .mv (.tmp 69), none⟩] [])))))))))
   (.region [⟨(some 70), .ar .add (.tmp 46) (.const (.int .i64 1)), none⟩,
     ⟨(some 46), .mv (.tmp 70), none⟩] [])))))))
 (.seq (.region [⟨(some 71), .mv (.tmp 12), none⟩,
    ⟨(some 8), .mv (.tmp 71), none⟩,
    ⟨(some 9), .mv (.const (.int .i64 0)), none⟩] [])
 .ret))))))),
 [.tmp 8, .tmp 9]⟩
set_option maxRecDepth 100000 in
theorem m60 : InProg Try.prog 0 60 M60 := ⟨Try.f60, [[10, 12, 45, 46], [10, 12, 13, 45, 46, 49]], Try.func60, by kernel_rfl⟩
/-- slices.insertionSortOrdered[int] -/
def M62 : MFun := ⟨3,
 (.seq (.region [⟨(some 8), .mv (.tmp 1), none⟩,
    ⟨(some 9), .ar .add (.tmp 8) (.const (.int .i64 1)), none⟩,
    ⟨(some 6), .mv (.tmp 9), none⟩] [])
 (.block 0 (.loop [0, 1, 2, 6]
  (.seq (.seq (.region [⟨(some 10), .mv (.tmp 6), none⟩,
      ⟨(some 11), .mv (.tmp 2), none⟩,
      ⟨(some 12), .ar .lss (.tmp 10) (.tmp 11), none⟩] [])
   (.cond (.tmp 12)
    .skip
    (.exit 0)))
  (.seq (.block 1 (.seq (.region [⟨(some 15), .mv (.tmp 6), none⟩,
      ⟨(some 7), .mv (.tmp 15), none⟩] [])
   (.block 2 (.loop [0, 1, 2, 6, 7]
    (.seq (.seq (.region [⟨(some 16), .mv (.tmp 7), none⟩,
        ⟨(some 17), .mv (.tmp 1), none⟩,
        ⟨(some 18), .ar .gtr (.tmp 16) (.tmp 17), none⟩,
        ⟨(some 19), .mv (.tmp 18), none⟩,
        ⟨(some 20), .mv (.tmp 0), (some (19, true))⟩,
        ⟨(some 21), .mv (.tmp 7), (some (19, true))⟩,
        ⟨(some 22), .ixV 1 (.tmp 20) (.tmp 21), (some (19, true))⟩,
        ⟨(some 23), .load1 (.tmp 22), (some (19, true))⟩,
        ⟨(some 24), .mv (.tmp 0), (some (19, true))⟩,
        ⟨(some 25), .mv (.tmp 7), (some (19, true))⟩,
        ⟨(some 26), .ar .sub (.tmp 25) (.const (.int .i64 1)), (some (19, true))⟩,
        ⟨(some 27), .ixV 1 (.tmp 24) (.tmp 26), (some (19, true))⟩,
        ⟨(some 28), .load1 (.tmp 27), (some (19, true))⟩,
        ⟨(some 29), .call 68 [(.tmp 23), (.tmp 28)], (some (19, true))⟩,
        ⟨(some 30), .pick (.tmp 19) (.tmp 29) (.const (.bool false)), none⟩] [])
     (.cond (.tmp 30)
      .skip
      (.exit 2)))
    (.seq (.block 3 (.region [⟨(some 33), .mv (.tmp 0), none⟩,
       ⟨(some 34), .mv (.tmp 7), none⟩,
       ⟨(some 35), .mv (.tmp 0), none⟩,
       ⟨(some 36), .mv (.tmp 7), none⟩,
       ⟨(some 37), .ar .sub (.tmp 36) (.const (.int .i64 1)), none⟩,
       ⟨(some 38), .mv (.tmp 0), none⟩,
       ⟨(some 39), .mv (.tmp 7), none⟩,
       ⟨(some 40), .ar .sub (.tmp 39) (.const (.int .i64 1)), none⟩,
       ⟨(some 41), .ixV 1 (.tmp 38) (.tmp 40), none⟩,
       ⟨(some 42), .load1 (.tmp 41), none⟩,
       ⟨(some 43), .mv (.tmp 0), none⟩,
       ⟨(some 44), .mv (.tmp 7), none⟩,
       ⟨(some 45), .ixV 1 (.tmp 43) (.tmp 44), none⟩,
       ⟨(some 46), .load1 (.tmp 45), none⟩,
       ⟨(some 47), .ixV 1 (.tmp 33) (.tmp 34), none⟩,
       ⟨none, .store 1 (.tmp 47) (.tmp 42), none⟩,
       ⟨(some 48), .ixV 1 (.tmp 35) (.tmp 37), none⟩,
       ⟨none, .store 1 (.tmp 48) (.tmp 46), none⟩] []))
    (.region [⟨(some 31), .mv (.tmp 7), none⟩,
      ⟨(some 32), .ar .sub (.tmp 31) (.const (.int .i64 1)), none⟩,
      ⟨(some 7), .mv (.tmp 32), none⟩] [])))))))
  (.region [⟨(some 13), .mv (.tmp 6), none⟩,
    ⟨(some 14), .ar .add (.tmp 13) (.const (.int .i64 1)), none⟩,
    ⟨(some 6), .mv (.tmp 14), none⟩] [])))))),
 []⟩
set_option maxRecDepth 100000 in
theorem m62 : InProg Try.prog 0 62 M62 := ⟨Try.f62, [[0, 1, 2, 6], [0, 1, 2, 6, 7]], Try.func62, by kernel_rfl⟩
/-- slices.heapSortOrdered[int] -/
def M63 : MFun := ⟨3,
 (.seq (.region [⟨(some 11), .mv (.tmp 1), none⟩,
    ⟨(some 6), .mv (.tmp 11), none⟩] [])
 (.seq (.region [⟨(some 7), .mv (.const (.int .i64 0)), none⟩] [])
 (.seq (.region [⟨(some 12), .mv (.tmp 2), none⟩,
    ⟨(some 13), .mv (.tmp 1), none⟩,
    ⟨(some 14), .ar .sub (.tmp 12) (.tmp 13), none⟩,
    ⟨(some 8), .mv (.tmp 14), none⟩] [])
 (.seq (.seq (.region [⟨(some 15), .mv (.tmp 8), none⟩,
     ⟨(some 16), .ar .sub (.tmp 15) (.const (.int .i64 1)), none⟩,
     ⟨(some 17), .ar .quo (.tmp 16) (.const (.int .i64 2)), none⟩,
     ⟨(some 9), .mv (.tmp 17), none⟩] [])
  (.block 0 (.loop [0, 6, 7, 8, 9]
   (.seq (.seq (.region [⟨(some 18), .mv (.tmp 9), none⟩,
       ⟨(some 19), .ar .geq (.tmp 18) (.const (.int .i64 0)), none⟩] [])
    (.cond (.tmp 19)
     .skip
     (.exit 0)))
   (.seq (.block 1 (.region [⟨(some 22), .mv (.tmp 0), none⟩,
      ⟨(some 23), .mv (.tmp 9), none⟩,
      ⟨(some 24), .mv (.tmp 8), none⟩,
      ⟨(some 25), .mv (.tmp 6), none⟩,
      ⟨(some 26), .call 86 [(.tmp 22), (.tmp 23), (.tmp 24), (.tmp 25)], none⟩] []))
   (.region [⟨(some 20), .mv (.tmp 9), none⟩,
     ⟨(some 21), .ar .sub (.tmp 20) (.const (.int .i64 1)), none⟩,
     ⟨(some 9), .mv (.tmp 21), none⟩] []))))))
 (.seq (.region [⟨(some 27), .mv (.tmp 8), none⟩,
    ⟨(some 28), .ar .sub (.tmp 27) (.const (.int .i64 1)), none⟩,
    ⟨(some 10), .mv (.tmp 28), none⟩] [])
 (.block 2 (.loop [0, 6, 7, 10]
  (.seq (.seq (.region [⟨(some 29), .mv (.tmp 10), none⟩,
      ⟨(some 30), .ar .geq (.tmp 29) (.const (.int .i64 0)), none⟩] [])
   (.cond (.tmp 30)
    .skip
    (.exit 2)))
  (.seq (.block 3 (.seq (.region [⟨(some 33), .mv (.tmp 0), none⟩,
      ⟨(some 34), .mv (.tmp 6), none⟩,
      ⟨(some 35), .mv (.tmp 0), none⟩,
      ⟨(some 36), .mv (.tmp 6), none⟩,
      ⟨(some 37), .mv (.tmp 10), none⟩,
      ⟨(some 38), .ar .add (.tmp 36) (.tmp 37), none⟩,
      ⟨(some 39), .mv (.tmp 0), none⟩,
      ⟨(some 40), .mv (.tmp 6), none⟩,
      ⟨(some 41), .mv (.tmp 10), none⟩,
      ⟨(some 42), .ar .add (.tmp 40) (.tmp 41), none⟩,
      ⟨(some 43), .ixV 1 (.tmp 39) (.tmp 42), none⟩,
      ⟨(some 44), .load1 (.tmp 43), none⟩,
      ⟨(some 45), .mv (.tmp 0), none⟩,
      ⟨(some 46), .mv (.tmp 6), none⟩,
      ⟨(some 47), .ixV 1 (.tmp 45) (.tmp 46), none⟩,
      ⟨(some 48), .load1 (.tmp 47), none⟩,
      ⟨(some 49), .ixV 1 (.tmp 33) (.tmp 34), none⟩,
      ⟨none, .store 1 (.tmp 49) (.tmp 44), none⟩,
      ⟨(some 50), .ixV 1 (.tmp 35) (.tmp 38), none⟩,
      ⟨none, .store 1 (.tmp 50) (.tmp 48), none⟩] [])
   (.region [⟨(some 51), .mv (.tmp 0), none⟩,
     ⟨(some 52), .mv (.tmp 7), none⟩,
     ⟨(some 53), .mv (.tmp 10), none⟩,
     ⟨(some 54), .mv (.tmp 6), none⟩,
     ⟨(some 55), .call 86 [(.tmp 51), (.tmp 52), (.tmp 53), (.tmp 54)], none⟩] [])))
  (.region [⟨(some 31), .mv (.tmp 10), none⟩,
    ⟨(some 32), .ar .sub (.tmp 31) (.const (.int .i64 1)), none⟩,
    ⟨(some 10), .mv (.tmp 32), none⟩] [])))))))))),
 []⟩
set_option maxRecDepth 100000 in
theorem m63 : InProg Try.prog 0 63 M63 := ⟨Try.f63, [[0, 6, 7, 8, 9], [0, 6, 7, 10]], Try.func63, by kernel_rfl⟩
/-- slices.breakPatternsOrdered[int] -/
def M64 : MFun := ⟨3,
 (.seq (.region [⟨(some 11), .mv (.tmp 2), none⟩,
    ⟨(some 12), .mv (.tmp 1), none⟩,
    ⟨(some 13), .ar .sub (.tmp 11) (.tmp 12), none⟩,
    ⟨(some 6), .mv (.tmp 13), none⟩] [])
 (.seq (.region [⟨(some 14), .mv (.tmp 6), none⟩,
    ⟨(some 15), .ar .geq (.tmp 14) (.const (.int .i64 8)), none⟩] [])
 (.cond (.tmp 15)
  (.seq (.region [⟨(some 16), .mv (.tmp 6), none⟩,
     ⟨(some 17), .conv .u64 (.tmp 16), none⟩,
     ⟨(some 7), .new [(.int .u64 0)], none⟩,
     ⟨none, .store 1 (.tmp 7) (.tmp 17), none⟩] [])
  (.seq (.region [⟨(some 18), .mv (.tmp 6), none⟩,
     ⟨(some 19), .call 87 [(.tmp 18)], none⟩,
     ⟨(some 8), .mv (.tmp 19), none⟩] [])
  (.seq (.region [⟨(some 20), .mv (.tmp 1), none⟩,
     ⟨(some 21), .mv (.tmp 6), none⟩,
     ⟨(some 22), .ar .quo (.tmp 21) (.const (.int .i64 4)), none⟩,
     ⟨(some 23), .ar .mul (.tmp 22) (.const (.int .i64 2)), none⟩,
     ⟨(some 24), .ar .add (.tmp 20) (.tmp 23), none⟩,
     ⟨(some 25), .ar .sub (.tmp 24) (.const (.int .i64 1)), none⟩,
     ⟨(some 9), .mv (.tmp 25), none⟩] [])
  (.block 0 (.loop [0, 1, 6, 7, 8, 9]
   (.seq (.seq (.region [⟨(some 26), .mv (.tmp 9), none⟩,
       ⟨(some 27), .mv (.tmp 1), none⟩,
       ⟨(some 28), .mv (.tmp 6), none⟩,
       ⟨(some 29), .ar .quo (.tmp 28) (.const (.int .i64 4)), none⟩,
       ⟨(some 30), .ar .mul (.tmp 29) (.const (.int .i64 2)), none⟩,
       ⟨(some 31), .ar .add (.tmp 27) (.tmp 30), none⟩,
       ⟨(some 32), .ar .add (.tmp 31) (.const (.int .i64 1)), none⟩,
       ⟨(some 33), .ar .leq (.tmp 26) (.tmp 32), none⟩] [])
    (.cond (.tmp 33)
     .skip
     (.exit 0)))
   (.seq (.block 1 (.seq (.region [⟨(some 36), .call 88 [(.tmp 7)], none⟩,
       ⟨(some 37), .mv (.tmp 8), none⟩,
       ⟨(some 38), .ar .sub (.tmp 37) (.const (.int .u64 1)), none⟩,
       ⟨(some 39), .ar .and (.tmp 36) (.tmp 38), none⟩,
       ⟨(some 40), .conv .i64 (.tmp 39), none⟩,
       ⟨(some 10), .mv (.tmp 40), none⟩] [])
    (.seq (.seq (.region [⟨(some 41), .mv (.tmp 10), none⟩,
        ⟨(some 42), .mv (.tmp 6), none⟩,
        ⟨(some 43), .ar .geq (.tmp 41) (.tmp 42), none⟩] [])
     (.cond (.tmp 43)
      (.region [⟨(some 44), .mv (.tmp 10), none⟩,
        ⟨(some 45), .mv (.tmp 6), none⟩,
        ⟨(some 46), .ar .sub (.tmp 44) (.tmp 45), none⟩,
        ⟨(some 10), .mv (.tmp 46), none⟩] [])
      .skip))
    (.region [⟨(some 47), .mv (.tmp 0), none⟩,
      ⟨(some 48), .mv (.tmp 9), none⟩,
      ⟨(some 49), .mv (.tmp 0), none⟩,
      ⟨(some 50), .mv (.tmp 1), none⟩,
      ⟨(some 51), .mv (.tmp 10), none⟩,
      ⟨(some 52), .ar .add (.tmp 50) (.tmp 51), none⟩,
      ⟨(some 53), .mv (.tmp 0), none⟩,
      ⟨(some 54), .mv (.tmp 1), none⟩,
      ⟨(some 55), .mv (.tmp 10), none⟩,
      ⟨(some 56), .ar .add (.tmp 54) (.tmp 55), none⟩,
      ⟨(some 57), .ixV 1 (.tmp 53) (.tmp 56), none⟩,
      ⟨(some 58), .load1 (.tmp 57), none⟩,
      ⟨(some 59), .mv (.tmp 0), none⟩,
      ⟨(some 60), .mv (.tmp 9), none⟩,
      ⟨(some 61), .ixV 1 (.tmp 59) (.tmp 60), none⟩,
      ⟨(some 62), .load1 (.tmp 61), none⟩,
      ⟨(some 63), .ixV 1 (.tmp 47) (.tmp 48), none⟩,
      ⟨none, .store 1 (.tmp 63) (.tmp 58), none⟩,
      ⟨(some 64), .ixV 1 (.tmp 49) (.tmp 52), none⟩,
      ⟨none, .store 1 (.tmp 64) (.tmp 62), none⟩] []))))
   (.region [⟨(some 34), .mv (.tmp 9), none⟩,
     ⟨(some 35), .ar .add (.tmp 34) (.const (.int .i64 1)), none⟩,
     ⟨(some 9), .mv (.tmp 35), none⟩] []))))))))
  .skip))),
 []⟩
set_option maxRecDepth 100000 in
theorem m64 : InProg Try.prog 0 64 M64 := ⟨Try.f64, [[0, 1, 6, 7, 8, 9]], Try.func64, by kernel_rfl⟩
/-- slices.choosePivotOrdered[int] -/
def M65 : MFun := ⟨3,
 (.seq (.region [⟨(some 6), .mv (.const (.int .i64 0)), none⟩,
    ⟨(some 7), .mv (.const (.int .i64 0)), none⟩] [])
 (.seq (.region [⟨(some 13), .mv (.tmp 2), none⟩,
    ⟨(some 14), .mv (.tmp 1), none⟩,
    ⟨(some 15), .ar .sub (.tmp 13) (.tmp 14), none⟩,
    ⟨(some 8), .mv (.tmp 15), none⟩] [])
 (.seq (.region [⟨(some 9), .new [(.int .i64 0)], none⟩] [])
 (.seq (.region [⟨(some 16), .mv (.tmp 1), none⟩,
    ⟨(some 17), .mv (.tmp 8), none⟩,
    ⟨(some 18), .ar .quo (.tmp 17) (.const (.int .i64 4)), none⟩,
    ⟨(some 19), .ar .mul (.tmp 18) (.const (.int .i64 1)), none⟩,
    ⟨(some 20), .ar .add (.tmp 16) (.tmp 19), none⟩,
    ⟨(some 10), .mv (.tmp 20), none⟩] [])
 (.seq (.region [⟨(some 21), .mv (.tmp 1), none⟩,
    ⟨(some 22), .mv (.tmp 8), none⟩,
    ⟨(some 23), .ar .quo (.tmp 22) (.const (.int .i64 4)), none⟩,
    ⟨(some 24), .ar .mul (.tmp 23) (.const (.int .i64 2)), none⟩,
    ⟨(some 25), .ar .add (.tmp 21) (.tmp 24), none⟩,
    ⟨(some 11), .mv (.tmp 25), none⟩] [])
 (.seq (.region [⟨(some 26), .mv (.tmp 1), none⟩,
    ⟨(some 27), .mv (.tmp 8), none⟩,
    ⟨(some 28), .ar .quo (.tmp 27) (.const (.int .i64 4)), none⟩,
    ⟨(some 29), .ar .mul (.tmp 28) (.const (.int .i64 3)), none⟩,
    ⟨(some 30), .ar .add (.tmp 26) (.tmp 29), none⟩,
    ⟨(some 12), .mv (.tmp 30), none⟩] [])
 (.seq (.seq (.region [⟨(some 31), .mv (.tmp 8), none⟩,
     ⟨(some 32), .ar .geq (.tmp 31) (.const (.int .i64 8)), none⟩] [])
  (.cond (.tmp 32)
   (.seq (.seq (.region [⟨(some 33), .mv (.tmp 8), none⟩,
       ⟨(some 34), .ar .geq (.tmp 33) (.const (.int .i64 50)), none⟩] [])
    (.cond (.tmp 34)
     (.seq (.region [⟨(some 35), .mv (.tmp 0), none⟩,
        ⟨(some 36), .mv (.tmp 10), none⟩,
        ⟨(some 37), .call 89 [(.tmp 35), (.tmp 36), (.tmp 9)], none⟩,
        ⟨(some 10), .mv (.tmp 37), none⟩] [])
     (.seq (.region [⟨(some 38), .mv (.tmp 0), none⟩,
        ⟨(some 39), .mv (.tmp 11), none⟩,
        ⟨(some 40), .call 89 [(.tmp 38), (.tmp 39), (.tmp 9)], none⟩,
        ⟨(some 11), .mv (.tmp 40), none⟩] [])
     (.region [⟨(some 41), .mv (.tmp 0), none⟩,
       ⟨(some 42), .mv (.tmp 12), none⟩,
       ⟨(some 43), .call 89 [(.tmp 41), (.tmp 42), (.tmp 9)], none⟩,
       ⟨(some 12), .mv (.tmp 43), none⟩] [])))
     .skip))
   (.region [⟨(some 44), .mv (.tmp 0), none⟩,
     ⟨(some 45), .mv (.tmp 10), none⟩,
     ⟨(some 46), .mv (.tmp 11), none⟩,
     ⟨(some 47), .mv (.tmp 12), none⟩,
     ⟨(some 48), .call 90 [(.tmp 44), (.tmp 45), (.tmp 46), (.tmp 47), (.tmp 9)], none⟩,
     ⟨(some 11), .mv (.tmp 48), none⟩] []))
   .skip))
 (.seq (.region [⟨(some 49), .load1 (.tmp 9), none⟩] [])
 (.block 0 (.seq (.region [⟨(some 52), .ar .eql (.tmp 49) (.const (.int .i64 0)), none⟩,
    ⟨(some 51), .mv (.tmp 52), none⟩] [])
 (.cond (.tmp 51)
  (.seq (.region [⟨(some 53), .mv (.tmp 11), none⟩,
     ⟨(some 6), .mv (.tmp 53), none⟩,
     ⟨(some 7), .mv (.const (.int .i64 1)), none⟩] [])
  .ret)
  (.seq (.region [⟨(some 55), .ar .eql (.tmp 49) (.const (.int .i64 12)), none⟩,
     ⟨(some 54), .mv (.tmp 55), none⟩] [])
  (.cond (.tmp 54)
   (.seq (.region [⟨(some 56), .mv (.tmp 11), none⟩,
      ⟨(some 6), .mv (.tmp 56), none⟩,
      ⟨(some 7), .mv (.const (.int .i64 2)), none⟩] [])
   .ret)
   (.seq (.region [⟨(some 50), .mv (.tmp 11), none⟩,
      ⟨(some 6), .mv (.tmp 50), none⟩,
      ⟨(some 7), .mv (.const (.int .i64 0)), none⟩] [])
   .ret)))))))))))))),
 [.tmp 6, .tmp 7]⟩
set_option maxRecDepth 100000 in
theorem m65 : InProg Try.prog 0 65 M65 := ⟨Try.f65, [], Try.func65, by kernel_rfl⟩
/-- slices.reverseRangeOrdered[int] -/
def M66 : MFun := ⟨3,
 (.seq (.region [⟨(some 8), .mv (.tmp 1), none⟩,
    ⟨(some 6), .mv (.tmp 8), none⟩] [])
 (.seq (.region [⟨(some 9), .mv (.tmp 2), none⟩,
    ⟨(some 10), .ar .sub (.tmp 9) (.const (.int .i64 1)), none⟩,
    ⟨(some 7), .mv (.tmp 10), none⟩] [])
 (.block 0 (.loop [0, 6, 7]
  (.seq (.seq (.region [⟨(some 11), .mv (.tmp 6), none⟩,
      ⟨(some 12), .mv (.tmp 7), none⟩,
      ⟨(some 13), .ar .lss (.tmp 11) (.tmp 12), none⟩] [])
   (.cond (.tmp 13)
    .skip
    (.exit 0)))
  (.block 1 (.seq (.region [⟨(some 14), .mv (.tmp 0), none⟩,
     ⟨(some 15), .mv (.tmp 6), none⟩,
     ⟨(some 16), .mv (.tmp 0), none⟩,
     ⟨(some 17), .mv (.tmp 7), none⟩,
     ⟨(some 18), .mv (.tmp 0), none⟩,
     ⟨(some 19), .mv (.tmp 7), none⟩,
     ⟨(some 20), .ixV 1 (.tmp 18) (.tmp 19), none⟩,
     ⟨(some 21), .load1 (.tmp 20), none⟩,
     ⟨(some 22), .mv (.tmp 0), none⟩,
     ⟨(some 23), .mv (.tmp 6), none⟩,
     ⟨(some 24), .ixV 1 (.tmp 22) (.tmp 23), none⟩,
     ⟨(some 25), .load1 (.tmp 24), none⟩,
     ⟨(some 26), .ixV 1 (.tmp 14) (.tmp 15), none⟩,
     ⟨none, .store 1 (.tmp 26) (.tmp 21), none⟩,
     ⟨(some 27), .ixV 1 (.tmp 16) (.tmp 17), none⟩,
     ⟨none, .store 1 (.tmp 27) (.tmp 25), none⟩] [])
  (.seq (.region [⟨(some 28), .mv (.tmp 6), none⟩,
     ⟨(some 29), .ar .add (.tmp 28) (.const (.int .i64 1)), none⟩,
     ⟨(some 6), .mv (.tmp 29), none⟩] [])
  (.region [⟨(some 30), .mv (.tmp 7), none⟩,
    ⟨(some 31), .ar .sub (.tmp 30) (.const (.int .i64 1)), none⟩,
    ⟨(some 7), .mv (.tmp 31), none⟩] []))))))))),
 []⟩
set_option maxRecDepth 100000 in
theorem m66 : InProg Try.prog 0 66 M66 := ⟨Try.f66, [[0, 6, 7]], Try.func66, by kernel_rfl⟩
/-- slices.partialInsertionSortOrdered[int] -/
def M67 : MFun := ⟨3,
 (.seq (.region [⟨(some 6), .mv (.const (.bool false)), none⟩] [])
 (.seq (.region [⟨(some 11), .mv (.tmp 1), none⟩,
    ⟨(some 12), .ar .add (.tmp 11) (.const (.int .i64 1)), none⟩,
    ⟨(some 7), .mv (.tmp 12), none⟩] [])
 (.seq (.seq (.region [⟨(some 8), .mv (.const (.int .i64 0)), none⟩] [])
  (.block 0 (.loop [0, 1, 2, 7, 8]
   (.seq (.seq (.region [⟨(some 13), .mv (.tmp 8), none⟩,
       ⟨(some 14), .ar .lss (.tmp 13) (.const (.int .i64 5)), none⟩] [])
    (.cond (.tmp 14)
     .skip
     (.exit 0)))
   (.seq (.block 1 (.seq (.block 2 (.loop [0, 1, 2, 7, 8]
      (.seq (.seq (.region [⟨(some 17), .mv (.tmp 7), none⟩,
          ⟨(some 18), .mv (.tmp 2), none⟩,
          ⟨(some 19), .ar .lss (.tmp 17) (.tmp 18), none⟩,
          ⟨(some 20), .mv (.tmp 19), none⟩,
          ⟨(some 21), .mv (.tmp 0), (some (20, true))⟩,
          ⟨(some 22), .mv (.tmp 7), (some (20, true))⟩,
          ⟨(some 23), .ixV 1 (.tmp 21) (.tmp 22), (some (20, true))⟩,
          ⟨(some 24), .load1 (.tmp 23), (some (20, true))⟩,
          ⟨(some 25), .mv (.tmp 0), (some (20, true))⟩,
          ⟨(some 26), .mv (.tmp 7), (some (20, true))⟩,
          ⟨(some 27), .ar .sub (.tmp 26) (.const (.int .i64 1)), (some (20, true))⟩,
          ⟨(some 28), .ixV 1 (.tmp 25) (.tmp 27), (some (20, true))⟩,
          ⟨(some 29), .load1 (.tmp 28), (some (20, true))⟩,
          ⟨(some 30), .call 68 [(.tmp 24), (.tmp 29)], (some (20, true))⟩,
          ⟨(some 31), .un .not (.tmp 30), (some (20, true))⟩,
          ⟨(some 32), .pick (.tmp 20) (.tmp 31) (.const (.bool false)), none⟩] [])
       (.cond (.tmp 32)
        .skip
        (.exit 2)))
      (.block 3 (.region [⟨(some 33), .mv (.tmp 7), none⟩,
        ⟨(some 34), .ar .add (.tmp 33) (.const (.int .i64 1)), none⟩,
        ⟨(some 7), .mv (.tmp 34), none⟩] [])))))
    (.seq (.seq (.region [⟨(some 35), .mv (.tmp 7), none⟩,
        ⟨(some 36), .mv (.tmp 2), none⟩,
        ⟨(some 37), .ar .eql (.tmp 35) (.tmp 36), none⟩] [])
     (.cond (.tmp 37)
      (.seq (.region [⟨(some 6), .mv (.const (.bool true)), none⟩] [])
      .ret)
      .skip))
    (.seq (.seq (.region [⟨(some 38), .mv (.tmp 2), none⟩,
        ⟨(some 39), .mv (.tmp 1), none⟩,
        ⟨(some 40), .ar .sub (.tmp 38) (.tmp 39), none⟩,
        ⟨(some 41), .ar .lss (.tmp 40) (.const (.int .i64 50)), none⟩] [])
     (.cond (.tmp 41)
      (.seq (.region [⟨(some 6), .mv (.const (.bool false)), none⟩] [])
      .ret)
      .skip))
    (.seq (.region [⟨(some 42), .mv (.tmp 0), none⟩,
       ⟨(some 43), .mv (.tmp 7), none⟩,
       ⟨(some 44), .mv (.tmp 0), none⟩,
       ⟨(some 45), .mv (.tmp 7), none⟩,
       ⟨(some 46), .ar .sub (.tmp 45) (.const (.int .i64 1)), none⟩,
       ⟨(some 47), .mv (.tmp 0), none⟩,
       ⟨(some 48), .mv (.tmp 7), none⟩,
       ⟨(some 49), .ar .sub (.tmp 48) (.const (.int .i64 1)), none⟩,
       ⟨(some 50), .ixV 1 (.tmp 47) (.tmp 49), none⟩,
       ⟨(some 51), .load1 (.tmp 50), none⟩,
       ⟨(some 52), .mv (.tmp 0), none⟩,
       ⟨(some 53), .mv (.tmp 7), none⟩,
       ⟨(some 54), .ixV 1 (.tmp 52) (.tmp 53), none⟩,
       ⟨(some 55), .load1 (.tmp 54), none⟩,
       ⟨(some 56), .ixV 1 (.tmp 42) (.tmp 43), none⟩,
       ⟨none, .store 1 (.tmp 56) (.tmp 51), none⟩,
       ⟨(some 57), .ixV 1 (.tmp 44) (.tmp 46), none⟩,
       ⟨none, .store 1 (.tmp 57) (.tmp 55), none⟩] [])
    (.seq (.seq (.region [⟨(some 58), .mv (.tmp 7), none⟩,
        ⟨(some 59), .mv (.tmp 1), none⟩,
        ⟨(some 60), .ar .sub (.tmp 58) (.tmp 59), none⟩,
        ⟨(some 61), .ar .geq (.tmp 60) (.const (.int .i64 2)), none⟩] [])
     (.cond (.tmp 61)
      (.seq (.region [⟨(some 62), .mv (.tmp 7), none⟩,
         ⟨(some 63), .ar .sub (.tmp 62) (.const (.int .i64 1)), none⟩,
         ⟨(some 9), .mv (.tmp 63), none⟩] [])
      (.block 4 (.loop [0, 1, 2, 7, 8, 9]
       (.seq (.seq (.region [⟨(some 64), .mv (.tmp 9), none⟩,
           ⟨(some 65), .ar .geq (.tmp 64) (.const (.int .i64 1)), none⟩] [])
        (.cond (.tmp 65)
         .skip
         (.exit 4)))
       (.seq (.block 5 (.seq (.seq (.region [⟨(some 68), .mv (.tmp 0), none⟩,
            ⟨(some 69), .mv (.tmp 9), none⟩,
            ⟨(some 70), .ixV 1 (.tmp 68) (.tmp 69), none⟩,
            ⟨(some 71), .load1 (.tmp 70), none⟩,
            ⟨(some 72), .mv (.tmp 0), none⟩,
            ⟨(some 73), .mv (.tmp 9), none⟩,
            ⟨(some 74), .ar .sub (.tmp 73) (.const (.int .i64 1)), none⟩,
            ⟨(some 75), .ixV 1 (.tmp 72) (.tmp 74), none⟩,
            ⟨(some 76), .load1 (.tmp 75), none⟩,
            ⟨(some 77), .call 68 [(.tmp 71), (.tmp 76)], none⟩,
            ⟨(some 78), .un .not (.tmp 77), none⟩] [])
         (.cond (.tmp 78)
          (.exit 4)
          .skip))
        (.region [⟨(some 79), .mv (.tmp 0), none⟩,
          ⟨(some 80), .mv (.tmp 9), none⟩,
          ⟨(some 81), .mv (.tmp 0), none⟩,
          ⟨(some 82), .mv (.tmp 9), none⟩,
          ⟨(some 83), .ar .sub (.tmp 82) (.const (.int .i64 1)), none⟩,
          ⟨(some 84), .mv (.tmp 0), none⟩,
          ⟨(some 85), .mv (.tmp 9), none⟩,
          ⟨(some 86), .ar .sub (.tmp 85) (.const (.int .i64 1)), none⟩,
          ⟨(some 87), .ixV 1 (.tmp 84) (.tmp 86), none⟩,
          ⟨(some 88), .load1 (.tmp 87), none⟩,
          ⟨(some 89), .mv (.tmp 0), none⟩,
          ⟨(some 90), .mv (.tmp 9), none⟩,
          ⟨(some 91), .ixV 1 (.tmp 89) (.tmp 90), none⟩,
          ⟨(some 92), .load1 (.tmp 91), none⟩,
          ⟨(some 93), .ixV 1 (.tmp 79) (.tmp 80), none⟩,
          ⟨none, .store 1 (.tmp 93) (.tmp 88), none⟩,
          ⟨(some 94), .ixV 1 (.tmp 81) (.tmp 83), none⟩,
          ⟨none, .store 1 (.tmp 94) (.tmp 92), none⟩] [])))
       (.region [⟨(some 66), .mv (.tmp 9), none⟩,
         ⟨(some 67), .ar .sub (.tmp 66) (.const (.int .i64 1)), none⟩,
         ⟨(some 9), .mv (.tmp 67), none⟩] []))))))
      .skip))
    (.seq (.region [⟨(some 95), .mv (.tmp 2), none⟩,
       ⟨(some 96), .mv (.tmp 7), none⟩,
       ⟨(some 97), .ar .sub (.tmp 95) (.tmp 96), none⟩,
       ⟨(some 98), .ar .geq (.tmp 97) (.const (.int .i64 2)), none⟩] [])
    (.cond (.tmp 98)
     (.seq (.region [⟨(some 99), .mv (.tmp 7), none⟩,
        ⟨(some 100), .ar .add (.tmp 99) (.const (.int .i64 1)), none⟩,
        ⟨(some 10), .mv (.tmp 100), none⟩] [])
     (.block 6 (.loop [0, 1, 2, 7, 8, 10]
      (.seq (.seq (.region [⟨(some 101), .mv (.tmp 10), none⟩,
          ⟨(some 102), .mv (.tmp 2), none⟩,
          ⟨(some 103), .ar .lss (.tmp 101) (.tmp 102), none⟩] [])
       (.cond (.tmp 103)
        .skip
        (.exit 6)))
      (.seq (.block 7 (.seq (.seq (.region [⟨(some 106), .mv (.tmp 0), none⟩,
           ⟨(some 107), .mv (.tmp 10), none⟩,
           ⟨(some 108), .ixV 1 (.tmp 106) (.tmp 107), none⟩,
           ⟨(some 109), .load1 (.tmp 108), none⟩,
           ⟨(some 110), .mv (.tmp 0), none⟩,
           ⟨(some 111), .mv (.tmp 10), none⟩,
           ⟨(some 112), .ar .sub (.tmp 111) (.const (.int .i64 1)), none⟩,
           ⟨(some 113), .ixV 1 (.tmp 110) (.tmp 112), none⟩,
           ⟨(some 114), .load1 (.tmp 113), none⟩,
           ⟨(some 115), .call 68 [(.tmp 109), (.tmp 114)], none⟩,
           ⟨(some 116), .un .not (.tmp 115), none⟩] [])
        (.cond (.tmp 116)
         (.exit 6)
         .skip))
       (.region [⟨(some 117), .mv (.tmp 0), none⟩,
         ⟨(some 118), .mv (.tmp 10), none⟩,
         ⟨(some 119), .mv (.tmp 0), none⟩,
         ⟨(some 120), .mv (.tmp 10), none⟩,
         ⟨(some 121), .ar .sub (.tmp 120) (.const (.int .i64 1)), none⟩,
         ⟨(some 122), .mv (.tmp 0), none⟩,
         ⟨(some 123), .mv (.tmp 10), none⟩,
         ⟨(some 124), .ar .sub (.tmp 123) (.const (.int .i64 1)), none⟩,
         ⟨(some 125), .ixV 1 (.tmp 122) (.tmp 124), none⟩,
         ⟨(some 126), .load1 (.tmp 125), none⟩,
         ⟨(some 127), .mv (.tmp 0), none⟩,
         ⟨(some 128), .mv (.tmp 10), none⟩,
         ⟨(some 129), .ixV 1 (.tmp 127) (.tmp 128), none⟩,
         ⟨(some 130), .load1 (.tmp 129), none⟩,
         ⟨(some 131), .ixV 1 (.tmp 117) (.tmp 118), none⟩,
         ⟨none, .store 1 (.tmp 131) (.tmp 126), none⟩,
         ⟨(some 132), .ixV 1 (.tmp 119) (.tmp 121), none⟩,
         ⟨none, .store 1 (.tmp 132) (.tmp 130), none⟩] [])))
      (.region [⟨(some 104), .mv (.tmp 10), none⟩,
        ⟨(some 105), .ar .add (.tmp 104) (.const (.int .i64 1)), none⟩,
        ⟨(some 10), .mv (.tmp 105), none⟩] []))))))
     .skip))))))))
   (.region [⟨(some 15), .mv (.tmp 8), none⟩,
     ⟨(some 16), .ar .add (.tmp 15) (.const (.int .i64 1)), none⟩,
     ⟨(some 8), .mv (.tmp 16), none⟩] []))))))
 (.seq (.region [⟨(some 6), .mv (.const (.bool false)), none⟩] [])
 .ret)))),
 [.tmp 6]⟩
set_option maxRecDepth 100000 in
theorem m67 : InProg Try.prog 0 67 M67 := ⟨Try.f67, [[0, 1, 2, 7, 8], [0, 1, 2, 7, 8], [0, 1, 2, 7, 8, 9], [0, 1, 2, 7, 8, 10]], Try.func67, by kernel_rfl⟩
/-- cmp.Less[int] -/
def M68 : MFun := ⟨2,
 (.seq (.region [⟨(some 4), .mv (.const (.bool false)), none⟩] [])
 (.seq (.region [⟨(some 5), .mv (.tmp 0), none⟩,
    ⟨(some 6), .call 91 [(.tmp 5)], none⟩,
    ⟨(some 7), .mv (.tmp 6), none⟩,
    ⟨(some 8), .mv (.tmp 1), (some (7, true))⟩,
    ⟨(some 9), .call 91 [(.tmp 8)], (some (7, true))⟩,
    ⟨(some 10), .un .not (.tmp 9), (some (7, true))⟩,
    ⟨(some 11), .pick (.tmp 7) (.tmp 10) (.const (.bool false)), none⟩,
    ⟨(some 12), .mv (.tmp 11), none⟩,
    ⟨(some 13), .mv (.tmp 0), (some (12, false))⟩,
    ⟨(some 14), .mv (.tmp 1), (some (12, false))⟩,
    ⟨(some 15), .ar .lss (.tmp 13) (.tmp 14), (some (12, false))⟩,
    ⟨(some 16), .pick (.tmp 12) (.const (.bool true)) (.tmp 15), none⟩,
    ⟨(some 4), .mv (.tmp 16), none⟩] [])
 .ret)),
 [.tmp 4]⟩
set_option maxRecDepth 100000 in
theorem m68 : InProg Try.prog 0 68 M68 := ⟨Try.f68, [], Try.func68, by kernel_rfl⟩
/-- slices.partitionEqualOrdered[int] -/
def M69 : MFun := ⟨4,
 (.seq (.region [⟨(some 8), .mv (.const (.int .i64 0)), none⟩] [])
 (.seq (.region [⟨(some 11), .mv (.tmp 0), none⟩,
    ⟨(some 12), .mv (.tmp 1), none⟩,
    ⟨(some 13), .mv (.tmp 0), none⟩,
    ⟨(some 14), .mv (.tmp 3), none⟩,
    ⟨(some 15), .mv (.tmp 0), none⟩,
    ⟨(some 16), .mv (.tmp 3), none⟩,
    ⟨(some 17), .ixV 1 (.tmp 15) (.tmp 16), none⟩,
    ⟨(some 18), .load1 (.tmp 17), none⟩,
    ⟨(some 19), .mv (.tmp 0), none⟩,
    ⟨(some 20), .mv (.tmp 1), none⟩,
    ⟨(some 21), .ixV 1 (.tmp 19) (.tmp 20), none⟩,
    ⟨(some 22), .load1 (.tmp 21), none⟩,
    ⟨(some 23), .ixV 1 (.tmp 11) (.tmp 12), none⟩,
    ⟨none, .store 1 (.tmp 23) (.tmp 18), none⟩,
    ⟨(some 24), .ixV 1 (.tmp 13) (.tmp 14), none⟩,
    ⟨none, .store 1 (.tmp 24) (.tmp 22), none⟩] [])
 (.seq (.region [⟨(some 25), .mv (.tmp 1), none⟩,
    ⟨(some 26), .ar .add (.tmp 25) (.const (.int .i64 1)), none⟩,
    ⟨(some 27), .mv (.tmp 2), none⟩,
    ⟨(some 28), .ar .sub (.tmp 27) (.const (.int .i64 1)), none⟩,
    ⟨(some 9), .mv (.tmp 26), none⟩,
    ⟨(some 10), .mv (.tmp 28), none⟩] [])
 (.seq (.block 0 (.loop [0, 1, 9, 10]
   (.block 1 (.seq (.block 2 (.loop [0, 1, 9, 10]
     (.seq (.seq (.region [⟨(some 29), .mv (.tmp 9), none⟩,
         ⟨(some 30), .mv (.tmp 10), none⟩,
         ⟨(some 31), .ar .leq (.tmp 29) (.tmp 30), none⟩,
         ⟨(some 32), .mv (.tmp 31), none⟩,
         ⟨(some 33), .mv (.tmp 0), (some (32, true))⟩,
         ⟨(some 34), .mv (.tmp 1), (some (32, true))⟩,
         ⟨(some 35), .ixV 1 (.tmp 33) (.tmp 34), (some (32, true))⟩,
         ⟨(some 36), .load1 (.tmp 35), (some (32, true))⟩,
         ⟨(some 37), .mv (.tmp 0), (some (32, true))⟩,
         ⟨(some 38), .mv (.tmp 9), (some (32, true))⟩,
         ⟨(some 39), .ixV 1 (.tmp 37) (.tmp 38), (some (32, true))⟩,
         ⟨(some 40), .load1 (.tmp 39), (some (32, true))⟩,
         ⟨(some 41), .call 68 [(.tmp 36), (.tmp 40)], (some (32, true))⟩,
         ⟨(some 42), .un .not (.tmp 41), (some (32, true))⟩,
         ⟨(some 43), .pick (.tmp 32) (.tmp 42) (.const (.bool false)), none⟩] [])
      (.cond (.tmp 43)
       .skip
       (.exit 2)))
     (.block 3 (.region [⟨(some 44), .mv (.tmp 9), none⟩,
       ⟨(some 45), .ar .add (.tmp 44) (.const (.int .i64 1)), none⟩,
       ⟨(some 9), .mv (.tmp 45), none⟩] [])))))
   (.seq (.block 4 (.loop [0, 1, 9, 10]
     (.seq (.seq (.region [⟨(some 46), .mv (.tmp 9), none⟩,
         ⟨(some 47), .mv (.tmp 10), none⟩,
         ⟨(some 48), .ar .leq (.tmp 46) (.tmp 47), none⟩,
         ⟨(some 49), .mv (.tmp 48), none⟩,
         ⟨(some 50), .mv (.tmp 0), (some (49, true))⟩,
         ⟨(some 51), .mv (.tmp 1), (some (49, true))⟩,
         ⟨(some 52), .ixV 1 (.tmp 50) (.tmp 51), (some (49, true))⟩,
         ⟨(some 53), .load1 (.tmp 52), (some (49, true))⟩,
         ⟨(some 54), .mv (.tmp 0), (some (49, true))⟩,
         ⟨(some 55), .mv (.tmp 10), (some (49, true))⟩,
         ⟨(some 56), .ixV 1 (.tmp 54) (.tmp 55), (some (49, true))⟩,
         ⟨(some 57), .load1 (.tmp 56), (some (49, true))⟩,
         ⟨(some 58), .call 68 [(.tmp 53), (.tmp 57)], (some (49, true))⟩,
         ⟨(some 59), .pick (.tmp 49) (.tmp 58) (.const (.bool false)), none⟩] [])
      (.cond (.tmp 59)
       .skip
       (.exit 4)))
     (.block 5 (.region [⟨(some 60), .mv (.tmp 10), none⟩,
       ⟨(some 61), .ar .sub (.tmp 60) (.const (.int .i64 1)), none⟩,
       ⟨(some 10), .mv (.tmp 61), none⟩] [])))))
   (.seq (.seq (.region [⟨(some 62), .mv (.tmp 9), none⟩,
       ⟨(some 63), .mv (.tmp 10), none⟩,
       ⟨(some 64), .ar .gtr (.tmp 62) (.tmp 63), none⟩] [])
    (.cond (.tmp 64)
     (.exit 0)
     .skip))
   (.seq (.region [⟨(some 65), .mv (.tmp 0), none⟩,
      ⟨(some 66), .mv (.tmp 9), none⟩,
      ⟨(some 67), .mv (.tmp 0), none⟩,
      ⟨(some 68), .mv (.tmp 10), none⟩,
      ⟨(some 69), .mv (.tmp 0), none⟩,
      ⟨(some 70), .mv (.tmp 10), none⟩,
      ⟨(some 71), .ixV 1 (.tmp 69) (.tmp 70), none⟩,
      ⟨(some 72), .load1 (.tmp 71), none⟩,
      ⟨(some 73), .mv (.tmp 0), none⟩,
      ⟨(some 74), .mv (.tmp 9), none⟩,
      ⟨(some 75), .ixV 1 (.tmp 73) (.tmp 74), none⟩,
      ⟨(some 76), .load1 (.tmp 75), none⟩,
      ⟨(some 77), .ixV 1 (.tmp 65) (.tmp 66), none⟩,
      ⟨none, .store 1 (.tmp 77) (.tmp 72), none⟩,
      ⟨(some 78), .ixV 1 (.tmp 67) (.tmp 68), none⟩,
      ⟨none, .store 1 (.tmp 78) (.tmp 76), none⟩] [])
   (.seq (.region [⟨(some 79), .mv (.tmp 9), none⟩,
      ⟨(some 80), .ar .add (.tmp 79) (.const (.int .i64 1)), none⟩,
      ⟨(some 9), .mv (.tmp 80), none⟩] [])
   (.region [⟨(some 81), .mv (.tmp 10), none⟩,
     ⟨(some 82), .ar .sub (.tmp 81) (.const (.int .i64 1)), none⟩,
     ⟨(some 10), .mv (.tmp 82), none⟩] [])))))))))
 (.seq (.region [⟨(some 83), .mv (.tmp 9), none⟩,
    ⟨(some 8), .mv (.tmp 83), none⟩] [])
 .ret))))),
 [.tmp 8]⟩
set_option maxRecDepth 100000 in
theorem m69 : InProg Try.prog 0 69 M69 := ⟨Try.f69, [[0, 1, 9, 10], [0, 1, 9, 10], [0, 1, 9, 10]], Try.func69, by kernel_rfl⟩
/-- slices.partitionOrdered[int] -/
def M70 : MFun := ⟨4,
 (.seq (.region [⟨(some 8), .mv (.const (.int .i64 0)), none⟩,
    ⟨(some 9), .mv (.const (.bool false)), none⟩] [])
 (.seq (.region [⟨(some 12), .mv (.tmp 0), none⟩,
    ⟨(some 13), .mv (.tmp 1), none⟩,
    ⟨(some 14), .mv (.tmp 0), none⟩,
    ⟨(some 15), .mv (.tmp 3), none⟩,
    ⟨(some 16), .mv (.tmp 0), none⟩,
    ⟨(some 17), .mv (.tmp 3), none⟩,
    ⟨(some 18), .ixV 1 (.tmp 16) (.tmp 17), none⟩,
    ⟨(some 19), .load1 (.tmp 18), none⟩,
    ⟨(some 20), .mv (.tmp 0), none⟩,
    ⟨(some 21), .mv (.tmp 1), none⟩,
    ⟨(some 22), .ixV 1 (.tmp 20) (.tmp 21), none⟩,
    ⟨(some 23), .load1 (.tmp 22), none⟩,
    ⟨(some 24), .ixV 1 (.tmp 12) (.tmp 13), none⟩,
    ⟨none, .store 1 (.tmp 24) (.tmp 19), none⟩,
    ⟨(some 25), .ixV 1 (.tmp 14) (.tmp 15), none⟩,
    ⟨none, .store 1 (.tmp 25) (.tmp 23), none⟩] [])
 (.seq (.region [⟨(some 26), .mv (.tmp 1), none⟩,
    ⟨(some 27), .ar .add (.tmp 26) (.const (.int .i64 1)), none⟩,
    ⟨(some 28), .mv (.tmp 2), none⟩,
    ⟨(some 29), .ar .sub (.tmp 28) (.const (.int .i64 1)), none⟩,
    ⟨(some 10), .mv (.tmp 27), none⟩,
    ⟨(some 11), .mv (.tmp 29), none⟩] [])
 (.seq (.block 0 (.loop [0, 1, 10, 11]
   (.seq (.seq (.region [⟨(some 30), .mv (.tmp 10), none⟩,
       ⟨(some 31), .mv (.tmp 11), none⟩,
       ⟨(some 32), .ar .leq (.tmp 30) (.tmp 31), none⟩,
       ⟨(some 33), .mv (.tmp 32), none⟩,
       ⟨(some 34), .mv (.tmp 0), (some (33, true))⟩,
       ⟨(some 35), .mv (.tmp 10), (some (33, true))⟩,
       ⟨(some 36), .ixV 1 (.tmp 34) (.tmp 35), (some (33, true))⟩,
       ⟨(some 37), .load1 (.tmp 36), (some (33, true))⟩,
       ⟨(some 38), .mv (.tmp 0), (some (33, true))⟩,
       ⟨(some 39), .mv (.tmp 1), (some (33, true))⟩,
       ⟨(some 40), .ixV 1 (.tmp 38) (.tmp 39), (some (33, true))⟩,
       ⟨(some 41), .load1 (.tmp 40), (some (33, true))⟩,
       ⟨(some 42), .call 68 [(.tmp 37), (.tmp 41)], (some (33, true))⟩,
       ⟨(some 43), .pick (.tmp 33) (.tmp 42) (.const (.bool false)), none⟩] [])
    (.cond (.tmp 43)
     .skip
     (.exit 0)))
   (.block 1 (.region [⟨(some 44), .mv (.tmp 10), none⟩,
     ⟨(some 45), .ar .add (.tmp 44) (.const (.int .i64 1)), none⟩,
     ⟨(some 10), .mv (.tmp 45), none⟩] [])))))
 (.seq (.block 2 (.loop [0, 1, 10, 11]
   (.seq (.seq (.region [⟨(some 46), .mv (.tmp 10), none⟩,
       ⟨(some 47), .mv (.tmp 11), none⟩,
       ⟨(some 48), .ar .leq (.tmp 46) (.tmp 47), none⟩,
       ⟨(some 49), .mv (.tmp 48), none⟩,
       ⟨(some 50), .mv (.tmp 0), (some (49, true))⟩,
       ⟨(some 51), .mv (.tmp 11), (some (49, true))⟩,
       ⟨(some 52), .ixV 1 (.tmp 50) (.tmp 51), (some (49, true))⟩,
       ⟨(some 53), .load1 (.tmp 52), (some (49, true))⟩,
       ⟨(some 54), .mv (.tmp 0), (some (49, true))⟩,
       ⟨(some 55), .mv (.tmp 1), (some (49, true))⟩,
       ⟨(some 56), .ixV 1 (.tmp 54) (.tmp 55), (some (49, true))⟩,
       ⟨(some 57), .load1 (.tmp 56), (some (49, true))⟩,
       ⟨(some 58), .call 68 [(.tmp 53), (.tmp 57)], (some (49, true))⟩,
       ⟨(some 59), .un .not (.tmp 58), (some (49, true))⟩,
       ⟨(some 60), .pick (.tmp 49) (.tmp 59) (.const (.bool false)), none⟩] [])
    (.cond (.tmp 60)
     .skip
     (.exit 2)))
   (.block 3 (.region [⟨(some 61), .mv (.tmp 11), none⟩,
     ⟨(some 62), .ar .sub (.tmp 61) (.const (.int .i64 1)), none⟩,
     ⟨(some 11), .mv (.tmp 62), none⟩] [])))))
 (.seq (.seq (.region [⟨(some 63), .mv (.tmp 10), none⟩,
     ⟨(some 64), .mv (.tmp 11), none⟩,
     ⟨(some 65), .ar .gtr (.tmp 63) (.tmp 64), none⟩] [])
  (.cond (.tmp 65)
   (.seq (.region [⟨(some 66), .mv (.tmp 0), none⟩,
      ⟨(some 67), .mv (.tmp 11), none⟩,
      ⟨(some 68), .mv (.tmp 0), none⟩,
      ⟨(some 69), .mv (.tmp 1), none⟩,
      ⟨(some 70), .mv (.tmp 0), none⟩,
      ⟨(some 71), .mv (.tmp 1), none⟩,
      ⟨(some 72), .ixV 1 (.tmp 70) (.tmp 71), none⟩,
      ⟨(some 73), .load1 (.tmp 72), none⟩,
      ⟨(some 74), .mv (.tmp 0), none⟩,
      ⟨(some 75), .mv (.tmp 11), none⟩,
      ⟨(some 76), .ixV 1 (.tmp 74) (.tmp 75), none⟩,
      ⟨(some 77), .load1 (.tmp 76), none⟩,
      ⟨(some 78), .ixV 1 (.tmp 66) (.tmp 67), none⟩,
      ⟨none, .store 1 (.tmp 78) (.tmp 73), none⟩,
      ⟨(some 79), .ixV 1 (.tmp 68) (.tmp 69), none⟩,
      ⟨none, .store 1 (.tmp 79) (.tmp 77), none⟩] [])
   (.seq (.region [⟨(some 80), .mv (.tmp 11), none⟩,
      ⟨(some 8), .mv (.tmp 80), none⟩,
      ⟨(some 9), .mv (.const (.bool true)), none⟩] [])
   .ret))
   .skip))
 (.seq (.region [⟨(some 81), .mv (.tmp 0), none⟩,
    ⟨(some 82), .mv (.tmp 10), none⟩,
    ⟨(some 83), .mv (.tmp 0), none⟩,
    ⟨(some 84), .mv (.tmp 11), none⟩,
    ⟨(some 85), .mv (.tmp 0), none⟩,
    ⟨(some 86), .mv (.tmp 11), none⟩,
    ⟨(some 87), .ixV 1 (.tmp 85) (.tmp 86), none⟩,
    ⟨(some 88), .load1 (.tmp 87), none⟩,
    ⟨(some 89), .mv (.tmp 0), none⟩,
    ⟨(some 90), .mv (.tmp 10), none⟩,
    ⟨(some 91), .ixV 1 (.tmp 89) (.tmp 90), none⟩,
    ⟨(some 92), .load1 (.tmp 91), none⟩,
    ⟨(some 93), .ixV 1 (.tmp 81) (.tmp 82), none⟩,
    ⟨none, .store 1 (.tmp 93) (.tmp 88), none⟩,
    ⟨(some 94), .ixV 1 (.tmp 83) (.tmp 84), none⟩,
    ⟨none, .store 1 (.tmp 94) (.tmp 92), none⟩] [])
 (.seq (.region [⟨(some 95), .mv (.tmp 10), none⟩,
    ⟨(some 96), .ar .add (.tmp 95) (.const (.int .i64 1)), none⟩,
    ⟨(some 10), .mv (.tmp 96), none⟩] [])
 (.seq (.region [⟨(some 97), .mv (.tmp 11), none⟩,
    ⟨(some 98), .ar .sub (.tmp 97) (.const (.int .i64 1)), none⟩,
    ⟨(some 11), .mv (.tmp 98), none⟩] [])
 (.seq (.block 4 (.loop [0, 1, 10, 11]
   (.block 5 (.seq (.block 6 (.loop [0, 1, 10, 11]
     (.seq (.seq (.region [⟨(some 99), .mv (.tmp 10), none⟩,
         ⟨(some 100), .mv (.tmp 11), none⟩,
         ⟨(some 101), .ar .leq (.tmp 99) (.tmp 100), none⟩,
         ⟨(some 102), .mv (.tmp 101), none⟩,
         ⟨(some 103), .mv (.tmp 0), (some (102, true))⟩,
         ⟨(some 104), .mv (.tmp 10), (some (102, true))⟩,
         ⟨(some 105), .ixV 1 (.tmp 103) (.tmp 104), (some (102, true))⟩,
         ⟨(some 106), .load1 (.tmp 105), (some (102, true))⟩,
         ⟨(some 107), .mv (.tmp 0), (some (102, true))⟩,
         ⟨(some 108), .mv (.tmp 1), (some (102, true))⟩,
         ⟨(some 109), .ixV 1 (.tmp 107) (.tmp 108), (some (102, true))⟩,
         ⟨(some 110), .load1 (.tmp 109), (some (102, true))⟩,
         ⟨(some 111), .call 68 [(.tmp 106), (.tmp 110)], (some (102, true))⟩,
         ⟨(some 112), .pick (.tmp 102) (.tmp 111) (.const (.bool false)), none⟩] [])
      (.cond (.tmp 112)
       .skip
       (.exit 6)))
     (.block 7 (.region [⟨(some 113), .mv (.tmp 10), none⟩,
       ⟨(some 114), .ar .add (.tmp 113) (.const (.int .i64 1)), none⟩,
       ⟨(some 10), .mv (.tmp 114), none⟩] [])))))
   (.seq (.block 8 (.loop [0, 1, 10, 11]
     (.seq (.seq (.region [⟨(some 115), .mv (.tmp 10), none⟩,
         ⟨(some 116), .mv (.tmp 11), none⟩,
         ⟨(some 117), .ar .leq (.tmp 115) (.tmp 116), none⟩,
         ⟨(some 118), .mv (.tmp 117), none⟩,
         ⟨(some 119), .mv (.tmp 0), (some (118, true))⟩,
         ⟨(some 120), .mv (.tmp 11), (some (118, true))⟩,
         ⟨(some 121), .ixV 1 (.tmp 119) (.tmp 120), (some (118, true))⟩,
         ⟨(some 122), .load1 (.tmp 121), (some (118, true))⟩,
         ⟨(some 123), .mv (.tmp 0), (some (118, true))⟩,
         ⟨(some 124), .mv (.tmp 1), (some (118, true))⟩,
         ⟨(some 125), .ixV 1 (.tmp 123) (.tmp 124), (some (118, true))⟩,
         ⟨(some 126), .load1 (.tmp 125), (some (118, true))⟩,
         ⟨(some 127), .call 68 [(.tmp 122), (.tmp 126)], (some (118, true))⟩,
         ⟨(some 128), .un .not (.tmp 127), (some (118, true))⟩,
         ⟨(some 129), .pick (.tmp 118) (.tmp 128) (.const (.bool false)), none⟩] [])
      (.cond (.tmp 129)
       .skip
       (.exit 8)))
     (.block 9 (.region [⟨(some 130), .mv (.tmp 11), none⟩,
       ⟨(some 131), .ar .sub (.tmp 130) (.const (.int .i64 1)), none⟩,
       ⟨(some 11), .mv (.tmp 131), none⟩] [])))))
   (.seq (.seq (.region [⟨(some 132), .mv (.tmp 10), none⟩,
       ⟨(some 133), .mv (.tmp 11), none⟩,
       ⟨(some 134), .ar .gtr (.tmp 132) (.tmp 133), none⟩] [])
    (.cond (.tmp 134)
     (.exit 4)
     .skip))
   (.seq (.region [⟨(some 135), .mv (.tmp 0), none⟩,
      ⟨(some 136), .mv (.tmp 10), none⟩,
      ⟨(some 137), .mv (.tmp 0), none⟩,
      ⟨(some 138), .mv (.tmp 11), none⟩,
      ⟨(some 139), .mv (.tmp 0), none⟩,
      ⟨(some 140), .mv (.tmp 11), none⟩,
      ⟨(some 141), .ixV 1 (.tmp 139) (.tmp 140), none⟩,
      ⟨(some 142), .load1 (.tmp 141), none⟩,
      ⟨(some 143), .mv (.tmp 0), none⟩,
      ⟨(some 144), .mv (.tmp 10), none⟩,
      ⟨(some 145), .ixV 1 (.tmp 143) (.tmp 144), none⟩,
      ⟨(some 146), .load1 (.tmp 145), none⟩,
      ⟨(some 147), .ixV 1 (.tmp 135) (.tmp 136), none⟩,
      ⟨none, .store 1 (.tmp 147) (.tmp 142), none⟩,
      ⟨(some 148), .ixV 1 (.tmp 137) (.tmp 138), none⟩,
      ⟨none, .store 1 (.tmp 148) (.tmp 146), none⟩] [])
   (.seq (.region [⟨(some 149), .mv (.tmp 10), none⟩,
      ⟨(some 150), .ar .add (.tmp 149) (.const (.int .i64 1)), none⟩,
      ⟨(some 10), .mv (.tmp 150), none⟩] [])
   (.region [⟨(some 151), .mv (.tmp 11), none⟩,
     ⟨(some 152), .ar .sub (.tmp 151) (.const (.int .i64 1)), none⟩,
     ⟨(some 11), .mv (.tmp 152), none⟩] [])))))))))
 (.seq (.region [⟨(some 153), .mv (.tmp 0), none⟩,
    ⟨(some 154), .mv (.tmp 11), none⟩,
    ⟨(some 155), .mv (.tmp 0), none⟩,
    ⟨(some 156), .mv (.tmp 1), none⟩,
    ⟨(some 157), .mv (.tmp 0), none⟩,
    ⟨(some 158), .mv (.tmp 1), none⟩,
    ⟨(some 159), .ixV 1 (.tmp 157) (.tmp 158), none⟩,
    ⟨(some 160), .load1 (.tmp 159), none⟩,
    ⟨(some 161), .mv (.tmp 0), none⟩,
    ⟨(some 162), .mv (.tmp 11), none⟩,
    ⟨(some 163), .ixV 1 (.tmp 161) (.tmp 162), none⟩,
    ⟨(some 164), .load1 (.tmp 163), none⟩,
    ⟨(some 165), .ixV 1 (.tmp 153) (.tmp 154), none⟩,
    ⟨none, .store 1 (.tmp 165) (.tmp 160), none⟩,
    ⟨(some 166), .ixV 1 (.tmp 155) (.tmp 156), none⟩,
    ⟨none, .store 1 (.tmp 166) (.tmp 164), none⟩] [])
 (.seq (.region [⟨(some 167), .mv (.tmp 11), none⟩,
    ⟨(some 8), .mv (.tmp 167), none⟩,
    ⟨(some 9), .mv (.const (.bool false)), none⟩] [])
 .ret)))))))))))),
 [.tmp 8, .tmp 9]⟩
set_option maxRecDepth 100000 in
theorem m70 : InProg Try.prog 0 70 M70 := ⟨Try.f70, [[0, 1, 10, 11], [0, 1, 10, 11], [0, 1, 10, 11], [0, 1, 10, 11], [0, 1, 10, 11]], Try.func70, by kernel_rfl⟩
/-- math/bits.Len32 -/
def M71 : MFun := ⟨1,
 (.seq (.region [⟨(some 2), .mv (.const (.int .i64 0)), none⟩] [])
 (.seq (.seq (.region [⟨(some 3), .mv (.tmp 0), none⟩,
     ⟨(some 4), .ar .geq (.tmp 3) (.const (.int .u32 65536)), none⟩] [])
  (.cond (.tmp 4)
   (.seq (.region [⟨(some 5), .mv (.tmp 0), none⟩,
      ⟨(some 6), .ar .shr (.tmp 5) (.const (.int .u64 16)), none⟩,
      ⟨(some 0), .mv (.tmp 6), none⟩] [])
   (.region [⟨(some 2), .mv (.const (.int .i64 16)), none⟩] []))
   .skip))
 (.seq (.seq (.region [⟨(some 7), .mv (.tmp 0), none⟩,
     ⟨(some 8), .ar .geq (.tmp 7) (.const (.int .u32 256)), none⟩] [])
  (.cond (.tmp 8)
   (.seq (.region [⟨(some 9), .mv (.tmp 0), none⟩,
      ⟨(some 10), .ar .shr (.tmp 9) (.const (.int .u64 8)), none⟩,
      ⟨(some 0), .mv (.tmp 10), none⟩] [])
   (.region [⟨(some 11), .mv (.tmp 2), none⟩,
     ⟨(some 12), .ar .add (.tmp 11) (.const (.int .i64 8)), none⟩,
     ⟨(some 2), .mv (.tmp 12), none⟩] []))
   .skip))
 (.seq (.region [⟨(some 13), .mv (.tmp 2), none⟩,
    ⟨(some 14), .mv (.tmp 0), none⟩,
    ⟨(some 15), .conv .u8 (.tmp 14), none⟩,
    ⟨(some 16), .ixS (.const (.string ⟨#[0, 1, 2, 2, 3, 3, 3, 3, 4, 4, 4, 4, 4, 4, 4, 4, 5, 5, 5, 5, 5, 5, 5, 5, 5, 5, 5, 5, 5, 5, 5, 5, 6, 6, 6, 6, 6, 6, 6, 6, 6, 6, 6, 6, 6, 6, 6, 6, 6, 6, 6, 6, 6, 6, 6, 6, 6, 6, 6, 6, 6, 6, 6, 6, 7, 7, 7, 7, 7, 7, 7, 7, 7, 7, 7, 7, 7, 7, 7, 7, 7, 7, 7, 7, 7, 7, 7, 7, 7, 7, 7, 7, 7, 7, 7, 7, 7, 7, 7, 7, 7, 7, 7, 7, 7, 7, 7, 7, 7, 7, 7, 7, 7, 7, 7, 7, 7, 7, 7, 7, 7, 7, 7, 7, 7, 7, 7, 7, 8, 8, 8, 8, 8, 8, 8, 8, 8, 8, 8, 8, 8, 8, 8, 8, 8, 8, 8, 8, 8, 8, 8, 8, 8, 8, 8, 8, 8, 8, 8, 8, 8, 8, 8, 8, 8, 8, 8, 8, 8, 8, 8, 8, 8, 8, 8, 8, 8, 8, 8, 8, 8, 8, 8, 8, 8, 8, 8, 8, 8, 8, 8, 8, 8, 8, 8, 8, 8, 8, 8, 8, 8, 8, 8, 8, 8, 8, 8, 8, 8, 8, 8, 8, 8, 8, 8, 8, 8, 8, 8, 8, 8, 8, 8, 8, 8, 8, 8, 8, 8, 8, 8, 8, 8, 8, 8, 8, 8, 8, 8, 8, 8, 8, 8, 8, 8, 8, 8, 8, 8, 8, 8, 8, 8, 8, 8, 8]⟩)) (.tmp 15), none⟩,
    ⟨(some 17), .conv .i64 (.tmp 16), none⟩,
    ⟨(some 18), .ar .add (.tmp 13) (.tmp 17), none⟩,
    ⟨(some 2), .mv (.tmp 18), none⟩] [])
 .ret)))),
 [.tmp 2]⟩
set_option maxRecDepth 100000 in
theorem m71 : InProg Try.prog 0 71 M71 := ⟨Try.f71, [], Try.func71, by kernel_rfl⟩
/-- math/bits.Len64 -/
def M72 : MFun := ⟨1,
 (.seq (.region [⟨(some 2), .mv (.const (.int .i64 0)), none⟩] [])
 (.seq (.seq (.region [⟨(some 3), .mv (.tmp 0), none⟩,
     ⟨(some 4), .ar .geq (.tmp 3) (.const (.int .u64 4294967296)), none⟩] [])
  (.cond (.tmp 4)
   (.seq (.region [⟨(some 5), .mv (.tmp 0), none⟩,
      ⟨(some 6), .ar .shr (.tmp 5) (.const (.int .u64 32)), none⟩,
      ⟨(some 0), .mv (.tmp 6), none⟩] [])
   (.region [⟨(some 2), .mv (.const (.int .i64 32)), none⟩] []))
   .skip))
 (.seq (.seq (.region [⟨(some 7), .mv (.tmp 0), none⟩,
     ⟨(some 8), .ar .geq (.tmp 7) (.const (.int .u64 65536)), none⟩] [])
  (.cond (.tmp 8)
   (.seq (.region [⟨(some 9), .mv (.tmp 0), none⟩,
      ⟨(some 10), .ar .shr (.tmp 9) (.const (.int .u64 16)), none⟩,
      ⟨(some 0), .mv (.tmp 10), none⟩] [])
   (.region [⟨(some 11), .mv (.tmp 2), none⟩,
     ⟨(some 12), .ar .add (.tmp 11) (.const (.int .i64 16)), none⟩,
     ⟨(some 2), .mv (.tmp 12), none⟩] []))
   .skip))
 (.seq (.seq (.region [⟨(some 13), .mv (.tmp 0), none⟩,
     ⟨(some 14), .ar .geq (.tmp 13) (.const (.int .u64 256)), none⟩] [])
  (.cond (.tmp 14)
   (.seq (.region [⟨(some 15), .mv (.tmp 0), none⟩,
      ⟨(some 16), .ar .shr (.tmp 15) (.const (.int .u64 8)), none⟩,
      ⟨(some 0), .mv (.tmp 16), none⟩] [])
   (.region [⟨(some 17), .mv (.tmp 2), none⟩,
     ⟨(some 18), .ar .add (.tmp 17) (.const (.int .i64 8)), none⟩,
     ⟨(some 2), .mv (.tmp 18), none⟩] []))
   .skip))
 (.seq (.region [⟨(some 19), .mv (.tmp 2), none⟩,
    ⟨(some 20), .mv (.tmp 0), none⟩,
    ⟨(some 21), .conv .u8 (.tmp 20), none⟩,
    ⟨(some 22), .ixS (.const (.string ⟨#[0, 1, 2, 2, 3, 3, 3, 3, 4, 4, 4, 4, 4, 4, 4, 4, 5, 5, 5, 5, 5, 5, 5, 5, 5, 5, 5, 5, 5, 5, 5, 5, 6, 6, 6, 6, 6, 6, 6, 6, 6, 6, 6, 6, 6, 6, 6, 6, 6, 6, 6, 6, 6, 6, 6, 6, 6, 6, 6, 6, 6, 6, 6, 6, 7, 7, 7, 7, 7, 7, 7, 7, 7, 7, 7, 7, 7, 7, 7, 7, 7, 7, 7, 7, 7, 7, 7, 7, 7, 7, 7, 7, 7, 7, 7, 7, 7, 7, 7, 7, 7, 7, 7, 7, 7, 7, 7, 7, 7, 7, 7, 7, 7, 7, 7, 7, 7, 7, 7, 7, 7, 7, 7, 7, 7, 7, 7, 7, 8, 8, 8, 8, 8, 8, 8, 8, 8, 8, 8, 8, 8, 8, 8, 8, 8, 8, 8, 8, 8, 8, 8, 8, 8, 8, 8, 8, 8, 8, 8, 8, 8, 8, 8, 8, 8, 8, 8, 8, 8, 8, 8, 8, 8, 8, 8, 8, 8, 8, 8, 8, 8, 8, 8, 8, 8, 8, 8, 8, 8, 8, 8, 8, 8, 8, 8, 8, 8, 8, 8, 8, 8, 8, 8, 8, 8, 8, 8, 8, 8, 8, 8, 8, 8, 8, 8, 8, 8, 8, 8, 8, 8, 8, 8, 8, 8, 8, 8, 8, 8, 8, 8, 8, 8, 8, 8, 8, 8, 8, 8, 8, 8, 8, 8, 8, 8, 8, 8, 8, 8, 8, 8, 8, 8, 8, 8, 8]⟩)) (.tmp 21), none⟩,
    ⟨(some 23), .conv .i64 (.tmp 22), none⟩,
    ⟨(some 24), .ar .add (.tmp 19) (.tmp 23), none⟩,
    ⟨(some 2), .mv (.tmp 24), none⟩] [])
 .ret))))),
 [.tmp 2]⟩
set_option maxRecDepth 100000 in
theorem m72 : InProg Try.prog 0 72 M72 := ⟨Try.f72, [], Try.func72, by kernel_rfl⟩
/-- trefoil/ring.Mul -/
def M79 : MFun := ⟨3,
 (.seq (.region [⟨(some 6), .mv (.const (.int .u64 0)), none⟩] [])
 (.seq (.region [⟨(some 7), .mv (.tmp 1), none⟩,
    ⟨(some 8), .mv (.tmp 2), none⟩,
    ⟨(some 9), .ar .mul (.tmp 7) (.tmp 8), none⟩,
    ⟨(some 10), .mv (.tmp 0), none⟩,
    ⟨(some 11), .call 93 [(.tmp 10)], none⟩,
    ⟨(some 12), .ar .and (.tmp 9) (.tmp 11), none⟩,
    ⟨(some 6), .mv (.tmp 12), none⟩] [])
 .ret)),
 [.tmp 6]⟩
set_option maxRecDepth 100000 in
theorem m79 : InProg Try.prog 0 79 M79 := ⟨Try.f79, [], Try.func79, by kernel_rfl⟩
/-- trefoil/ring.Add -/
def M80 : MFun := ⟨3,
 (.seq (.region [⟨(some 6), .mv (.const (.int .u64 0)), none⟩] [])
 (.seq (.region [⟨(some 7), .mv (.tmp 1), none⟩,
    ⟨(some 8), .mv (.tmp 2), none⟩,
    ⟨(some 9), .ar .add (.tmp 7) (.tmp 8), none⟩,
    ⟨(some 10), .mv (.tmp 0), none⟩,
    ⟨(some 11), .call 93 [(.tmp 10)], none⟩,
    ⟨(some 12), .ar .and (.tmp 9) (.tmp 11), none⟩,
    ⟨(some 6), .mv (.tmp 12), none⟩] [])
 .ret)),
 [.tmp 6]⟩
set_option maxRecDepth 100000 in
theorem m80 : InProg Try.prog 0 80 M80 := ⟨Try.f80, [], Try.func80, by kernel_rfl⟩
/-- trefoil/ring.AddAll -/
def M81 : MFun := ⟨3,
 (.seq (.region [⟨(some 3), .box (.tmp 0), none⟩,
    ⟨(some 6), .mv (.const (.slice none 0 0)), none⟩,
    ⟨(some 7), .mv (.const (.int .i64 0)), none⟩] [])
 (.seq (.region [⟨(some 8), .mv (.tmp 1), none⟩,
    ⟨(some 9), .mv (.tmp 2), none⟩,
    ⟨(some 10), .mkF 95 [] [(.tmp 3)], none⟩,
    ⟨(some 11), .call 94 [(.tmp 8), (.tmp 9), (.tmp 10)], none⟩,
    ⟨(some 12), .ext (.tmp 11) 0, none⟩,
    ⟨(some 13), .ext (.tmp 11) 1, none⟩,
    ⟨(some 6), .mv (.tmp 12), none⟩,
    ⟨(some 7), .mv (.tmp 13), none⟩] [])
 .ret)),
 [.tmp 6, .tmp 7]⟩
set_option maxRecDepth 100000 in
theorem m81 : InProg Try.prog 0 81 M81 := ⟨Try.f81, [], Try.func81, by kernel_rfl⟩
/-- trefoil/ring.MatMul -/
def M82 : MFun := ⟨6,
 (.seq (.region [⟨(some 12), .mv (.const (.slice none 0 0)), none⟩,
    ⟨(some 13), .mv (.const (.int .i64 0)), none⟩] [])
 (.seq (.seq (.region [⟨(some 19), .mv (.tmp 1), none⟩,
     ⟨(some 20), .mv (.tmp 2), none⟩,
     ⟨(some 21), .call 96 [(.tmp 19), (.tmp 20)], none⟩,
     ⟨(some 22), .un .not (.tmp 21), none⟩,
     ⟨(some 23), .mv (.tmp 22), none⟩,
     ⟨(some 24), .mv (.tmp 2), (some (23, false))⟩,
     ⟨(some 25), .mv (.tmp 3), (some (23, false))⟩,
     ⟨(some 26), .call 96 [(.tmp 24), (.tmp 25)], (some (23, false))⟩,
     ⟨(some 27), .un .not (.tmp 26), (some (23, false))⟩,
     ⟨(some 28), .pick (.tmp 23) (.const (.bool true)) (.tmp 27), none⟩,
     ⟨(some 29), .mv (.tmp 28), none⟩,
     ⟨(some 30), .mv (.tmp 4), (some (29, false))⟩,
     ⟨(some 31), .lenV (.tmp 30), (some (29, false))⟩,
     ⟨(some 32), .mv (.tmp 1), (some (29, false))⟩,
     ⟨(some 33), .mv (.tmp 2), (some (29, false))⟩,
     ⟨(some 34), .ar .mul (.tmp 32) (.tmp 33), (some (29, false))⟩,
     ⟨(some 35), .ar .neq (.tmp 31) (.tmp 34), (some (29, false))⟩,
     ⟨(some 36), .pick (.tmp 29) (.const (.bool true)) (.tmp 35), none⟩,
     ⟨(some 37), .mv (.tmp 36), none⟩,
     ⟨(some 38), .mv (.tmp 5), (some (37, false))⟩,
     ⟨(some 39), .lenV (.tmp 38), (some (37, false))⟩,
     ⟨(some 40), .mv (.tmp 2), (some (37, false))⟩,
     ⟨(some 41), .mv (.tmp 3), (some (37, false))⟩,
     ⟨(some 42), .ar .mul (.tmp 40) (.tmp 41), (some (37, false))⟩,
     ⟨(some 43), .ar .neq (.tmp 39) (.tmp 42), (some (37, false))⟩,
     ⟨(some 44), .pick (.tmp 37) (.const (.bool true)) (.tmp 43), none⟩,
     ⟨(some 45), .mv (.tmp 44), none⟩,
     ⟨(some 46), .mv (.tmp 0), (some (45, false))⟩,
     ⟨(some 47), .call 93 [(.tmp 46)], (some (45, false))⟩,
     ⟨(some 48), .ar .eql (.tmp 47) (.const (.int .u64 0)), (some (45, false))⟩,
     ⟨(some 49), .pick (.tmp 45) (.const (.bool true)) (.tmp 48), none⟩] [])
  (.cond (.tmp 49)
   (.seq (.region [⟨(some 12), .mv (.const (.slice none 0 0)), none⟩,
      ⟨(some 13), .mv (.const (.int .i64 11)), none⟩] [])
   .ret)
   .skip))
 (.seq (.region [⟨(some 50), .mv (.tmp 1), none⟩,
    ⟨(some 51), .mv (.tmp 3), none⟩,
    ⟨(some 52), .ar .mul (.tmp 50) (.tmp 51), none⟩,
    ⟨(some 53), .mkSl 8 [(.int .u64 0)] (.tmp 52) (.tmp 52), none⟩,
    ⟨(some 14), .mv (.tmp 53), none⟩] [])
 (.seq (.seq (.region [⟨(some 54), .mv (.tmp 1), none⟩,
     ⟨(some 55), .mv (.const (.int .i64 0)), none⟩] [])
  (.block 0 (.loop [0, 2, 3, 4, 5, 14, 54, 55]
   (.seq (.region [⟨(some 56), .ar .lss (.tmp 55) (.tmp 54), none⟩] [])
   (.seq (.cond (.tmp 56)
     .skip
     (.exit 0))
   (.seq (.block 1 (.seq (.region [⟨(some 57), .mv (.tmp 55), none⟩,
       ⟨(some 15), .mv (.tmp 57), none⟩] [])
    (.seq (.region [⟨(some 58), .mv (.tmp 3), none⟩,
       ⟨(some 59), .mv (.const (.int .i64 0)), none⟩] [])
    (.block 2 (.loop [0, 2, 3, 4, 5, 14, 15, 54, 55, 58, 59]
     (.seq (.region [⟨(some 60), .ar .lss (.tmp 59) (.tmp 58), none⟩] [])
     (.seq (.cond (.tmp 60)
       .skip
       (.exit 2))
     (.seq (.block 3 (.seq (.region [⟨(some 61), .mv (.tmp 59), none⟩,
         ⟨(some 16), .mv (.tmp 61), none⟩] [])
      (.seq (.region [⟨(some 17), .mv (.const (.int .u64 0)), none⟩] [])
      (.seq (.seq (.region [⟨(some 62), .mv (.tmp 2), none⟩,
          ⟨(some 63), .mv (.const (.int .i64 0)), none⟩] [])
       (.block 4 (.loop [0, 2, 3, 4, 5, 14, 15, 16, 17, 54, 55, 58, 59, 62, 63]
        (.seq (.region [⟨(some 64), .ar .lss (.tmp 63) (.tmp 62), none⟩] [])
        (.seq (.cond (.tmp 64)
          .skip
          (.exit 4))
        (.seq (.block 5 (.seq (.region [⟨(some 65), .mv (.tmp 63), none⟩,
            ⟨(some 18), .mv (.tmp 65), none⟩] [])
         (.region [⟨(some 66), .mv (.tmp 17), none⟩,
           ⟨(some 67), .mv (.tmp 4), none⟩,
           ⟨(some 68), .mv (.tmp 15), none⟩,
           ⟨(some 69), .mv (.tmp 2), none⟩,
           ⟨(some 70), .ar .mul (.tmp 68) (.tmp 69), none⟩,
           ⟨(some 71), .mv (.tmp 18), none⟩,
           ⟨(some 72), .ar .add (.tmp 70) (.tmp 71), none⟩,
           ⟨(some 73), .ixV 1 (.tmp 67) (.tmp 72), none⟩,
           ⟨(some 74), .load1 (.tmp 73), none⟩,
           ⟨(some 75), .mv (.tmp 5), none⟩,
           ⟨(some 76), .mv (.tmp 18), none⟩,
           ⟨(some 77), .mv (.tmp 3), none⟩,
           ⟨(some 78), .ar .mul (.tmp 76) (.tmp 77), none⟩,
           ⟨(some 79), .mv (.tmp 16), none⟩,
           ⟨(some 80), .ar .add (.tmp 78) (.tmp 79), none⟩,
           ⟨(some 81), .ixV 1 (.tmp 75) (.tmp 80), none⟩,
           ⟨(some 82), .load1 (.tmp 81), none⟩,
           ⟨(some 83), .ar .mul (.tmp 74) (.tmp 82), none⟩,
           ⟨(some 84), .ar .add (.tmp 66) (.tmp 83), none⟩,
           ⟨(some 17), .mv (.tmp 84), none⟩] [])))
        (.region [⟨(some 85), .ar .add (.tmp 63) (.const (.int .i64 1)), none⟩,
          ⟨(some 63), .mv (.tmp 85), none⟩] [])))))))
      (.region [⟨(some 86), .mv (.tmp 14), none⟩,
        ⟨(some 87), .mv (.tmp 15), none⟩,
        ⟨(some 88), .mv (.tmp 3), none⟩,
        ⟨(some 89), .ar .mul (.tmp 87) (.tmp 88), none⟩,
        ⟨(some 90), .mv (.tmp 16), none⟩,
        ⟨(some 91), .ar .add (.tmp 89) (.tmp 90), none⟩,
        ⟨(some 92), .mv (.tmp 0), none⟩,
        ⟨(some 93), .mv (.tmp 17), none⟩,
        ⟨(some 94), .call 97 [(.tmp 92), (.tmp 93)], none⟩,
        ⟨(some 95), .ixV 1 (.tmp 86) (.tmp 91), none⟩,
        ⟨none, .store 1 (.tmp 95) (.tmp 94), none⟩] [])))))
     (.region [⟨(some 96), .ar .add (.tmp 59) (.const (.int .i64 1)), none⟩,
       ⟨(some 59), .mv (.tmp 96), none⟩] [])))))))))
   (.region [⟨(some 97), .ar .add (.tmp 55) (.const (.int .i64 1)), none⟩,
     ⟨(some 55), .mv (.tmp 97), none⟩] [])))))))
 (.seq (.region [⟨(some 98), .mv (.tmp 14), none⟩,
    ⟨(some 12), .mv (.tmp 98), none⟩,
    ⟨(some 13), .mv (.const (.int .i64 0)), none⟩] [])
 .ret))))),
 [.tmp 12, .tmp 13]⟩
set_option maxRecDepth 100000 in
theorem m82 : InProg Try.prog 0 82 M82 := ⟨Try.f82, [[0, 2, 3, 4, 5, 14, 54, 55], [0, 2, 3, 4, 5, 14, 15, 54, 55, 58, 59], [0, 2, 3, 4, 5, 14, 15, 16, 17, 54, 55, 58, 59, 62, 63]], Try.func82, by kernel_rfl⟩
/-- trefoil/prg.Bytes -/
def M83 : MFun := ⟨4,
 (.seq (.region [⟨(some 4), .box (.tmp 0), none⟩,
    ⟨(some 8), .mv (.const (.string ⟨#[]⟩)), none⟩,
    ⟨(some 9), .mv (.const (.int .i64 0)), none⟩] [])
 (.seq (.seq (.region [⟨(some 13), .mv (.tmp 2), none⟩,
     ⟨(some 14), .ar .lss (.tmp 13) (.const (.int .i64 0)), none⟩,
     ⟨(some 15), .mv (.tmp 14), none⟩,
     ⟨(some 16), .mv (.tmp 3), (some (15, false))⟩,
     ⟨(some 17), .ar .lss (.tmp 16) (.const (.int .i64 0)), (some (15, false))⟩,
     ⟨(some 18), .pick (.tmp 15) (.const (.bool true)) (.tmp 17), none⟩,
     ⟨(some 19), .mv (.tmp 18), none⟩,
     ⟨(some 20), .mv (.tmp 3), (some (19, false))⟩,
     ⟨(some 21), .ar .gtr (.tmp 20) (.const (.int .i64 32768)), (some (19, false))⟩,
     ⟨(some 22), .pick (.tmp 19) (.const (.bool true)) (.tmp 21), none⟩,
     ⟨(some 23), .mv (.tmp 22), none⟩,
     ⟨(some 24), .mv (.tmp 2), (some (23, false))⟩,
     ⟨(some 25), .mv (.tmp 3), (some (23, false))⟩,
     ⟨(some 26), .ar .sub (.const (.int .i64 1073741824)) (.tmp 25), (some (23, false))⟩,
     ⟨(some 27), .ar .gtr (.tmp 24) (.tmp 26), (some (23, false))⟩,
     ⟨(some 28), .pick (.tmp 23) (.const (.bool true)) (.tmp 27), none⟩] [])
  (.cond (.tmp 28)
   (.seq (.region [⟨(some 8), .mv (.const (.string ⟨#[]⟩)), none⟩,
      ⟨(some 9), .mv (.const (.int .i64 2)), none⟩] [])
   .ret)
   .skip))
 (.seq (.region [⟨(some 29), .mv (.tmp 2), none⟩,
    ⟨(some 30), .ar .rem (.tmp 29) (.const (.int .i64 64)), none⟩,
    ⟨(some 10), .mv (.tmp 30), none⟩] [])
 (.seq (.region [⟨(some 32), .loadN 32 (.tmp 4), none⟩,
    ⟨(some 33), .mv (.tmp 1), none⟩,
    ⟨(some 34), .call 99 [(.tmp 33), (.const (.int .u64 0))], none⟩,
    ⟨(some 35), .mv (.tmp 2), none⟩,
    ⟨(some 36), .ar .quo (.tmp 35) (.const (.int .i64 64)), none⟩,
    ⟨(some 37), .conv .u32 (.tmp 36), none⟩,
    ⟨(some 38), .mv (.tmp 10), none⟩,
    ⟨(some 39), .mv (.tmp 3), none⟩,
    ⟨(some 40), .ar .add (.tmp 38) (.tmp 39), none⟩,
    ⟨(some 41), .call 98 [(.tmp 32), (.tmp 34), (.tmp 37), (.tmp 40)], none⟩,
    ⟨(some 31), .mv (.tmp 41), none⟩,
    ⟨(some 42), .ext (.tmp 31) 0, none⟩,
    ⟨(some 43), .ext (.tmp 31) 1, none⟩,
    ⟨(some 11), .mv (.tmp 42), none⟩,
    ⟨(some 12), .mv (.tmp 43), none⟩] [(0, 2)])
 (.seq (.seq (.region [⟨(some 44), .mv (.tmp 12), none⟩,
     ⟨(some 45), .ar .neq (.tmp 44) (.const (.int .i64 0)), none⟩] [])
  (.cond (.tmp 45)
   (.seq (.region [⟨(some 46), .mv (.tmp 12), none⟩,
      ⟨(some 8), .mv (.const (.string ⟨#[]⟩)), none⟩,
      ⟨(some 9), .mv (.tmp 46), none⟩] [])
   .ret)
   .skip))
 (.seq (.region [⟨(some 47), .mv (.tmp 11), none⟩,
    ⟨(some 48), .mv (.tmp 10), none⟩,
    ⟨(some 49), .slS (.tmp 47) (some (.tmp 48)) none, none⟩,
    ⟨(some 8), .mv (.tmp 49), none⟩,
    ⟨(some 9), .mv (.const (.int .i64 0)), none⟩] [])
 .ret)))))),
 [.tmp 8, .tmp 9]⟩
set_option maxRecDepth 100000 in
theorem m83 : InProg Try.prog 0 83 M83 := ⟨Try.f83, [], Try.func83, by kernel_rfl⟩
/-- slices.siftDownOrdered[int] -/
def M86 : MFun := ⟨4,
 (.seq (.region [⟨(some 10), .mv (.tmp 1), none⟩,
    ⟨(some 8), .mv (.tmp 10), none⟩] [])
 (.block 0 (.loop [0, 2, 3, 8]
  (.block 1 (.seq (.region [⟨(some 11), .mv (.tmp 8), none⟩,
     ⟨(some 12), .ar .mul (.const (.int .i64 2)) (.tmp 11), none⟩,
     ⟨(some 13), .ar .add (.tmp 12) (.const (.int .i64 1)), none⟩,
     ⟨(some 9), .mv (.tmp 13), none⟩] [])
  (.seq (.seq (.region [⟨(some 14), .mv (.tmp 9), none⟩,
      ⟨(some 15), .mv (.tmp 2), none⟩,
      ⟨(some 16), .ar .geq (.tmp 14) (.tmp 15), none⟩] [])
   (.cond (.tmp 16)
    (.exit 0)
    .skip))
  (.seq (.seq (.region [⟨(some 17), .mv (.tmp 9), none⟩,
      ⟨(some 18), .ar .add (.tmp 17) (.const (.int .i64 1)), none⟩,
      ⟨(some 19), .mv (.tmp 2), none⟩,
      ⟨(some 20), .ar .lss (.tmp 18) (.tmp 19), none⟩,
      ⟨(some 21), .mv (.tmp 20), none⟩,
      ⟨(some 22), .mv (.tmp 0), (some (21, true))⟩,
      ⟨(some 23), .mv (.tmp 3), (some (21, true))⟩,
      ⟨(some 24), .mv (.tmp 9), (some (21, true))⟩,
      ⟨(some 25), .ar .add (.tmp 23) (.tmp 24), (some (21, true))⟩,
      ⟨(some 26), .ixV 1 (.tmp 22) (.tmp 25), (some (21, true))⟩,
      ⟨(some 27), .load1 (.tmp 26), (some (21, true))⟩,
      ⟨(some 28), .mv (.tmp 0), (some (21, true))⟩,
      ⟨(some 29), .mv (.tmp 3), (some (21, true))⟩,
      ⟨(some 30), .mv (.tmp 9), (some (21, true))⟩,
      ⟨(some 31), .ar .add (.tmp 29) (.tmp 30), (some (21, true))⟩,
      ⟨(some 32), .ar .add (.tmp 31) (.const (.int .i64 1)), (some (21, true))⟩,
      ⟨(some 33), .ixV 1 (.tmp 28) (.tmp 32), (some (21, true))⟩,
      ⟨(some 34), .load1 (.tmp 33), (some (21, true))⟩,
      ⟨(some 35), .call 68 [(.tmp 27), (.tmp 34)], (some (21, true))⟩,
      ⟨(some 36), .pick (.tmp 21) (.tmp 35) (.const (.bool false)), none⟩] [])
   (.cond (.tmp 36)
    (.region [⟨(some 37), .mv (.tmp 9), none⟩,
      ⟨(some 38), .ar .add (.tmp 37) (.const (.int .i64 1)), none⟩,
      ⟨(some 9), .mv (.tmp 38), none⟩] [])
    .skip))
  (.seq (.seq (.region [⟨(some 39), .mv (.tmp 0), none⟩,
      ⟨(some 40), .mv (.tmp 3), none⟩,
      ⟨(some 41), .mv (.tmp 8), none⟩,
      ⟨(some 42), .ar .add (.tmp 40) (.tmp 41), none⟩,
      ⟨(some 43), .ixV 1 (.tmp 39) (.tmp 42), none⟩,
      ⟨(some 44), .load1 (.tmp 43), none⟩,
      ⟨(some 45), .mv (.tmp 0), none⟩,
      ⟨(some 46), .mv (.tmp 3), none⟩,
      ⟨(some 47), .mv (.tmp 9), none⟩,
      ⟨(some 48), .ar .add (.tmp 46) (.tmp 47), none⟩,
      ⟨(some 49), .ixV 1 (.tmp 45) (.tmp 48), none⟩,
      ⟨(some 50), .load1 (.tmp 49), none⟩,
      ⟨(some 51), .call 68 [(.tmp 44), (.tmp 50)], none⟩,
      ⟨(some 52), .un .not (.tmp 51), none⟩] [])
   (.cond (.tmp 52)
    .ret
    .skip))
  (.seq (.region [⟨(some 53), .mv (.tmp 0), none⟩,
     ⟨(some 54), .mv (.tmp 3), none⟩,
     ⟨(some 55), .mv (.tmp 8), none⟩,
     ⟨(some 56), .ar .add (.tmp 54) (.tmp 55), none⟩,
     ⟨(some 57), .mv (.tmp 0), none⟩,
     ⟨(some 58), .mv (.tmp 3), none⟩,
     ⟨(some 59), .mv (.tmp 9), none⟩,
     ⟨(some 60), .ar .add (.tmp 58) (.tmp 59), none⟩,
     ⟨(some 61), .mv (.tmp 0), none⟩,
     ⟨(some 62), .mv (.tmp 3), none⟩,
     ⟨(some 63), .mv (.tmp 9), none⟩,
     ⟨(some 64), .ar .add (.tmp 62) (.tmp 63), none⟩,
     ⟨(some 65), .ixV 1 (.tmp 61) (.tmp 64), none⟩,
     ⟨(some 66), .load1 (.tmp 65), none⟩,
     ⟨(some 67), .mv (.tmp 0), none⟩,
     ⟨(some 68), .mv (.tmp 3), none⟩,
     ⟨(some 69), .mv (.tmp 8), none⟩,
     ⟨(some 70), .ar .add (.tmp 68) (.tmp 69), none⟩,
     ⟨(some 71), .ixV 1 (.tmp 67) (.tmp 70), none⟩,
     ⟨(some 72), .load1 (.tmp 71), none⟩,
     ⟨(some 73), .ixV 1 (.tmp 53) (.tmp 56), none⟩,
     ⟨none, .store 1 (.tmp 73) (.tmp 66), none⟩,
     ⟨(some 74), .ixV 1 (.tmp 57) (.tmp 60), none⟩,
     ⟨none, .store 1 (.tmp 74) (.tmp 72), none⟩] [])
  (.region [⟨(some 75), .mv (.tmp 9), none⟩,
    ⟨(some 8), .mv (.tmp 75), none⟩] [])))))))))),
 []⟩
set_option maxRecDepth 100000 in
theorem m86 : InProg Try.prog 0 86 M86 := ⟨Try.f86, [[0, 2, 3, 8]], Try.func86, by kernel_rfl⟩
/-- slices.nextPowerOfTwo -/
def M87 : MFun := ⟨1,
 (.seq (.region [⟨(some 2), .mv (.const (.int .u64 0)), none⟩] [])
 (.seq (.region [⟨(some 3), .mv (.tmp 0), none⟩,
    ⟨(some 4), .conv .u64 (.tmp 3), none⟩,
    ⟨(some 5), .call 42 [(.tmp 4)], none⟩,
    ⟨(some 6), .ar .shl (.const (.int .u64 1)) (.tmp 5), none⟩,
    ⟨(some 2), .mv (.tmp 6), none⟩] [])
 .ret)),
 [.tmp 2]⟩
set_option maxRecDepth 100000 in
theorem m87 : InProg Try.prog 0 87 M87 := ⟨Try.f87, [], Try.func87, by kernel_rfl⟩
/-- (*slices.xorshift).Next -/
def M88 : MFun := ⟨1,
 (.seq (.region [⟨(some 2), .mv (.const (.int .u64 0)), none⟩] [])
 (.seq (.region [⟨(some 3), .mv (.tmp 0), none⟩,
    ⟨(some 4), .nilCheck (.tmp 3), none⟩,
    ⟨(some 5), .load1 (.tmp 4), none⟩,
    ⟨(some 6), .mv (.tmp 0), none⟩,
    ⟨(some 7), .nilCheck (.tmp 6), none⟩,
    ⟨(some 8), .load1 (.tmp 7), none⟩,
    ⟨(some 9), .ar .shl (.tmp 8) (.const (.int .u64 13)), none⟩,
    ⟨(some 10), .ar .xor (.tmp 5) (.tmp 9), none⟩,
    ⟨(some 11), .nilCheck (.tmp 3), none⟩,
    ⟨none, .store 1 (.tmp 11) (.tmp 10), none⟩] [])
 (.seq (.region [⟨(some 12), .mv (.tmp 0), none⟩,
    ⟨(some 13), .nilCheck (.tmp 12), none⟩,
    ⟨(some 14), .load1 (.tmp 13), none⟩,
    ⟨(some 15), .mv (.tmp 0), none⟩,
    ⟨(some 16), .nilCheck (.tmp 15), none⟩,
    ⟨(some 17), .load1 (.tmp 16), none⟩,
    ⟨(some 18), .ar .shr (.tmp 17) (.const (.int .u64 7)), none⟩,
    ⟨(some 19), .ar .xor (.tmp 14) (.tmp 18), none⟩,
    ⟨(some 20), .nilCheck (.tmp 12), none⟩,
    ⟨none, .store 1 (.tmp 20) (.tmp 19), none⟩] [])
 (.seq (.region [⟨(some 21), .mv (.tmp 0), none⟩,
    ⟨(some 22), .nilCheck (.tmp 21), none⟩,
    ⟨(some 23), .load1 (.tmp 22), none⟩,
    ⟨(some 24), .mv (.tmp 0), none⟩,
    ⟨(some 25), .nilCheck (.tmp 24), none⟩,
    ⟨(some 26), .load1 (.tmp 25), none⟩,
    ⟨(some 27), .ar .shl (.tmp 26) (.const (.int .u64 17)), none⟩,
    ⟨(some 28), .ar .xor (.tmp 23) (.tmp 27), none⟩,
    ⟨(some 29), .nilCheck (.tmp 21), none⟩,
    ⟨none, .store 1 (.tmp 29) (.tmp 28), none⟩] [])
 (.seq (.region [⟨(some 30), .mv (.tmp 0), none⟩,
    ⟨(some 31), .nilCheck (.tmp 30), none⟩,
    ⟨(some 32), .load1 (.tmp 31), none⟩,
    ⟨(some 2), .mv (.tmp 32), none⟩] [])
 .ret))))),
 [.tmp 2]⟩
set_option maxRecDepth 100000 in
theorem m88 : InProg Try.prog 0 88 M88 := ⟨Try.f88, [], Try.func88, by kernel_rfl⟩
/-- slices.medianAdjacentOrdered[int] -/
def M89 : MFun := ⟨3,
 (.seq (.region [⟨(some 6), .mv (.const (.int .i64 0)), none⟩] [])
 (.seq (.region [⟨(some 7), .mv (.tmp 0), none⟩,
    ⟨(some 8), .mv (.tmp 1), none⟩,
    ⟨(some 9), .ar .sub (.tmp 8) (.const (.int .i64 1)), none⟩,
    ⟨(some 10), .mv (.tmp 1), none⟩,
    ⟨(some 11), .mv (.tmp 1), none⟩,
    ⟨(some 12), .ar .add (.tmp 11) (.const (.int .i64 1)), none⟩,
    ⟨(some 13), .mv (.tmp 2), none⟩,
    ⟨(some 14), .call 90 [(.tmp 7), (.tmp 9), (.tmp 10), (.tmp 12), (.tmp 13)], none⟩,
    ⟨(some 6), .mv (.tmp 14), none⟩] [])
 .ret)),
 [.tmp 6]⟩
set_option maxRecDepth 100000 in
theorem m89 : InProg Try.prog 0 89 M89 := ⟨Try.f89, [], Try.func89, by kernel_rfl⟩
/-- slices.medianOrdered[int] -/
def M90 : MFun := ⟨5,
 (.seq (.region [⟨(some 10), .mv (.const (.int .i64 0)), none⟩] [])
 (.seq (.region [⟨(some 12), .mv (.tmp 0), none⟩,
    ⟨(some 13), .mv (.tmp 1), none⟩,
    ⟨(some 14), .mv (.tmp 2), none⟩,
    ⟨(some 15), .mv (.tmp 4), none⟩,
    ⟨(some 16), .call 102 [(.tmp 12), (.tmp 13), (.tmp 14), (.tmp 15)], none⟩,
    ⟨(some 11), .mv (.tmp 16), none⟩,
    ⟨(some 17), .ext (.tmp 11) 0, none⟩,
    ⟨(some 18), .ext (.tmp 11) 1, none⟩,
    ⟨(some 1), .mv (.tmp 17), none⟩,
    ⟨(some 2), .mv (.tmp 18), none⟩] [])
 (.seq (.region [⟨(some 20), .mv (.tmp 0), none⟩,
    ⟨(some 21), .mv (.tmp 2), none⟩,
    ⟨(some 22), .mv (.tmp 3), none⟩,
    ⟨(some 23), .mv (.tmp 4), none⟩,
    ⟨(some 24), .call 102 [(.tmp 20), (.tmp 21), (.tmp 22), (.tmp 23)], none⟩,
    ⟨(some 19), .mv (.tmp 24), none⟩,
    ⟨(some 25), .ext (.tmp 19) 0, none⟩,
    ⟨(some 26), .ext (.tmp 19) 1, none⟩,
    ⟨(some 2), .mv (.tmp 25), none⟩,
    ⟨(some 3), .mv (.tmp 26), none⟩] [])
 (.seq (.region [⟨(some 28), .mv (.tmp 0), none⟩,
    ⟨(some 29), .mv (.tmp 1), none⟩,
    ⟨(some 30), .mv (.tmp 2), none⟩,
    ⟨(some 31), .mv (.tmp 4), none⟩,
    ⟨(some 32), .call 102 [(.tmp 28), (.tmp 29), (.tmp 30), (.tmp 31)], none⟩,
    ⟨(some 27), .mv (.tmp 32), none⟩,
    ⟨(some 33), .ext (.tmp 27) 0, none⟩,
    ⟨(some 34), .ext (.tmp 27) 1, none⟩,
    ⟨(some 1), .mv (.tmp 33), none⟩,
    ⟨(some 2), .mv (.tmp 34), none⟩] [])
 (.seq (.region [⟨(some 35), .mv (.tmp 2), none⟩,
    ⟨(some 10), .mv (.tmp 35), none⟩] [])
 .ret))))),
 [.tmp 10]⟩
set_option maxRecDepth 100000 in
theorem m90 : InProg Try.prog 0 90 M90 := ⟨Try.f90, [], Try.func90, by kernel_rfl⟩
/-- cmp.isNaN[int] -/
def M91 : MFun := ⟨1,
 (.seq (.region [⟨(some 2), .mv (.const (.bool false)), none⟩] [])
 (.seq (.region [⟨(some 3), .mv (.tmp 0), none⟩,
    ⟨(some 4), .mv (.tmp 0), none⟩,
    ⟨(some 5), .ar .neq (.tmp 3) (.tmp 4), none⟩,
    ⟨(some 2), .mv (.tmp 5), none⟩] [])
 .ret)),
 [.tmp 2]⟩
set_option maxRecDepth 100000 in
theorem m91 : InProg Try.prog 0 91 M91 := ⟨Try.f91, [], Try.func91, by kernel_rfl⟩
/-- trefoil/ring.mask -/
def M93 : MFun := ⟨1,
 (.seq (.region [⟨(some 2), .mv (.const (.int .u64 0)), none⟩] [])
 (.seq (.region [⟨(some 6), .mv (.tmp 0), none⟩,
    ⟨(some 7), .call 103 [(.tmp 6)], none⟩,
    ⟨(some 5), .mv (.tmp 7), none⟩,
    ⟨(some 8), .ext (.tmp 5) 0, none⟩,
    ⟨(some 9), .ext (.tmp 5) 1, none⟩,
    ⟨(some 3), .mv (.tmp 8), none⟩,
    ⟨(some 4), .mv (.tmp 9), none⟩] [])
 (.seq (.region [⟨(some 10), .mv (.tmp 3), none⟩,
    ⟨(some 2), .mv (.tmp 10), none⟩] [])
 .ret))),
 [.tmp 2]⟩
set_option maxRecDepth 100000 in
theorem m93 : InProg Try.prog 0 93 M93 := ⟨Try.f93, [], Try.func93, by kernel_rfl⟩
/-- trefoil/ring.pairs -/
def M94 : MFun := ⟨3,
 (.seq (.region [⟨(some 6), .mv (.const (.slice none 0 0)), none⟩,
    ⟨(some 7), .mv (.const (.int .i64 0)), none⟩] [])
 (.seq (.seq (.region [⟨(some 10), .mv (.tmp 0), none⟩,
     ⟨(some 11), .lenV (.tmp 10), none⟩,
     ⟨(some 12), .mv (.tmp 1), none⟩,
     ⟨(some 13), .lenV (.tmp 12), none⟩,
     ⟨(some 14), .ar .neq (.tmp 11) (.tmp 13), none⟩] [])
  (.cond (.tmp 14)
   (.seq (.region [⟨(some 6), .mv (.const (.slice none 0 0)), none⟩,
      ⟨(some 7), .mv (.const (.int .i64 11)), none⟩] [])
   .ret)
   .skip))
 (.seq (.region [⟨(some 15), .mv (.tmp 0), none⟩,
    ⟨(some 16), .lenV (.tmp 15), none⟩,
    ⟨(some 17), .mkSl 8 [(.int .u64 0)] (.tmp 16) (.tmp 16), none⟩,
    ⟨(some 8), .mv (.tmp 17), none⟩] [])
 (.seq (.seq (.region [⟨(some 18), .mv (.tmp 8), none⟩,
     ⟨(some 19), .lenV (.tmp 18), none⟩,
     ⟨(some 20), .mv (.const (.int .i64 0)), none⟩] [])
  (.block 0 (.loop [0, 1, 2, 8, 19, 20]
   (.seq (.region [⟨(some 21), .ar .lss (.tmp 20) (.tmp 19), none⟩] [])
   (.seq (.cond (.tmp 21)
     .skip
     (.exit 0))
   (.seq (.block 1 (.seq (.region [⟨(some 22), .mv (.tmp 20), none⟩,
       ⟨(some 9), .mv (.tmp 22), none⟩] [])
    (.region [⟨(some 23), .mv (.tmp 8), none⟩,
      ⟨(some 24), .mv (.tmp 9), none⟩,
      ⟨(some 25), .mv (.tmp 2), none⟩,
      ⟨(some 26), .mv (.tmp 0), none⟩,
      ⟨(some 27), .mv (.tmp 9), none⟩,
      ⟨(some 28), .ixV 1 (.tmp 26) (.tmp 27), none⟩,
      ⟨(some 29), .load1 (.tmp 28), none⟩,
      ⟨(some 30), .mv (.tmp 1), none⟩,
      ⟨(some 31), .mv (.tmp 9), none⟩,
      ⟨(some 32), .ixV 1 (.tmp 30) (.tmp 31), none⟩,
      ⟨(some 33), .load1 (.tmp 32), none⟩,
      ⟨(some 34), .callV (.tmp 25) [(.tmp 29), (.tmp 33)], none⟩,
      ⟨(some 35), .ixV 1 (.tmp 23) (.tmp 24), none⟩,
      ⟨none, .store 1 (.tmp 35) (.tmp 34), none⟩] [])))
   (.region [⟨(some 36), .ar .add (.tmp 20) (.const (.int .i64 1)), none⟩,
     ⟨(some 20), .mv (.tmp 36), none⟩] [])))))))
 (.seq (.region [⟨(some 37), .mv (.tmp 8), none⟩,
    ⟨(some 6), .mv (.tmp 37), none⟩,
    ⟨(some 7), .mv (.const (.int .i64 0)), none⟩] [])
 .ret))))),
 [.tmp 6, .tmp 7]⟩
set_option maxRecDepth 100000 in
theorem m94 : InProg Try.prog 0 94 M94 := ⟨Try.f94, [[0, 1, 2, 8, 19, 20]], Try.func94, by kernel_rfl⟩
/-- trefoil/ring.AddAll$1 -/
def M95 : MFun := ⟨3,
 (.seq (.region [⟨(some 5), .mv (.const (.int .u64 0)), none⟩] [])
 (.seq (.region [⟨(some 6), .load1 (.tmp 2), none⟩,
    ⟨(some 7), .mv (.tmp 0), none⟩,
    ⟨(some 8), .mv (.tmp 1), none⟩,
    ⟨(some 9), .call 80 [(.tmp 6), (.tmp 7), (.tmp 8)], none⟩,
    ⟨(some 5), .mv (.tmp 9), none⟩] [])
 .ret)),
 [.tmp 5]⟩
set_option maxRecDepth 100000 in
theorem m95 : InProg Try.prog 0 95 M95 := ⟨Try.f95, [], Try.func95, by kernel_rfl⟩
/-- trefoil/ring.sized -/
def M96 : MFun := ⟨2,
 (.seq (.region [⟨(some 4), .mv (.const (.bool false)), none⟩] [])
 (.seq (.region [⟨(some 5), .mv (.tmp 0), none⟩,
    ⟨(some 6), .ar .geq (.tmp 5) (.const (.int .i64 1)), none⟩,
    ⟨(some 7), .mv (.tmp 6), none⟩,
    ⟨(some 8), .mv (.tmp 0), (some (7, true))⟩,
    ⟨(some 9), .ar .leq (.tmp 8) (.const (.int .i64 6)), (some (7, true))⟩,
    ⟨(some 10), .pick (.tmp 7) (.tmp 9) (.const (.bool false)), none⟩,
    ⟨(some 11), .mv (.tmp 10), none⟩,
    ⟨(some 12), .mv (.tmp 1), (some (11, true))⟩,
    ⟨(some 13), .ar .geq (.tmp 12) (.const (.int .i64 1)), (some (11, true))⟩,
    ⟨(some 14), .pick (.tmp 11) (.tmp 13) (.const (.bool false)), none⟩,
    ⟨(some 15), .mv (.tmp 14), none⟩,
    ⟨(some 16), .mv (.tmp 1), (some (15, true))⟩,
    ⟨(some 17), .ar .leq (.tmp 16) (.const (.int .i64 6)), (some (15, true))⟩,
    ⟨(some 18), .pick (.tmp 15) (.tmp 17) (.const (.bool false)), none⟩,
    ⟨(some 4), .mv (.tmp 18), none⟩] [])
 .ret)),
 [.tmp 4]⟩
set_option maxRecDepth 100000 in
theorem m96 : InProg Try.prog 0 96 M96 := ⟨Try.f96, [], Try.func96, by kernel_rfl⟩
/-- trefoil/ring.Fit -/
def M97 : MFun := ⟨2,
 (.seq (.region [⟨(some 4), .mv (.const (.int .u64 0)), none⟩] [])
 (.seq (.region [⟨(some 5), .mv (.tmp 1), none⟩,
    ⟨(some 6), .mv (.tmp 0), none⟩,
    ⟨(some 7), .call 93 [(.tmp 6)], none⟩,
    ⟨(some 8), .ar .and (.tmp 5) (.tmp 7), none⟩,
    ⟨(some 4), .mv (.tmp 8), none⟩] [])
 .ret)),
 [.tmp 4]⟩
set_option maxRecDepth 100000 in
theorem m97 : InProg Try.prog 0 97 M97 := ⟨Try.f97, [], Try.func97, by kernel_rfl⟩
/-- trefoil/chacha.Stream -/
def M98 : MFun := ⟨4,
 (.seq (.region [⟨(some 4), .box (.tmp 0), none⟩,
    ⟨(some 8), .mv (.const (.string ⟨#[]⟩)), none⟩,
    ⟨(some 9), .mv (.const (.int .i64 0)), none⟩] [])
 (.seq (.block 0 (.seq (.region [⟨(some 14), .mv (.tmp 1), none⟩,
     ⟨(some 15), .lenS (.tmp 14), none⟩,
     ⟨(some 16), .ar .neq (.tmp 15) (.const (.int .i64 12)), none⟩,
     ⟨(some 13), .mv (.tmp 16), none⟩] [])
  (.cond (.tmp 13)
   (.seq (.region [⟨(some 8), .mv (.const (.string ⟨#[]⟩)), none⟩,
      ⟨(some 9), .mv (.const (.int .i64 11)), none⟩] [])
   .ret)
   (.seq (.region [⟨(some 18), .mv (.tmp 3), none⟩,
      ⟨(some 19), .ar .lss (.tmp 18) (.const (.int .i64 0)), none⟩,
      ⟨(some 20), .mv (.tmp 19), none⟩,
      ⟨(some 21), .mv (.tmp 3), (some (20, false))⟩,
      ⟨(some 22), .ar .gtr (.tmp 21) (.const (.int .i64 65536)), (some (20, false))⟩,
      ⟨(some 23), .pick (.tmp 20) (.const (.bool true)) (.tmp 22), none⟩,
      ⟨(some 17), .mv (.tmp 23), none⟩] [])
   (.cond (.tmp 17)
    (.seq (.region [⟨(some 8), .mv (.const (.string ⟨#[]⟩)), none⟩,
       ⟨(some 9), .mv (.const (.int .i64 2)), none⟩] [])
    .ret)
    (.seq (.region [⟨(some 25), .mv (.tmp 2), none⟩,
       ⟨(some 26), .conv .u64 (.tmp 25), none⟩,
       ⟨(some 27), .mv (.tmp 3), none⟩,
       ⟨(some 28), .ar .add (.tmp 27) (.const (.int .i64 64)), none⟩,
       ⟨(some 29), .ar .sub (.tmp 28) (.const (.int .i64 1)), none⟩,
       ⟨(some 30), .ar .quo (.tmp 29) (.const (.int .i64 64)), none⟩,
       ⟨(some 31), .conv .u64 (.tmp 30), none⟩,
       ⟨(some 32), .ar .add (.tmp 26) (.tmp 31), none⟩,
       ⟨(some 33), .ar .gtr (.tmp 32) (.const (.int .u64 4294967296)), none⟩,
       ⟨(some 24), .mv (.tmp 33), none⟩] [])
    (.cond (.tmp 24)
     (.seq (.region [⟨(some 8), .mv (.const (.string ⟨#[]⟩)), none⟩,
        ⟨(some 9), .mv (.const (.int .i64 24)), none⟩] [])
     .ret)
     .skip)))))))
 (.seq (.region [⟨(some 34), .mv (.tmp 3), none⟩,
    ⟨(some 35), .ar .add (.tmp 34) (.const (.int .i64 64)), none⟩,
    ⟨(some 36), .mkSl 1 [(.int .u8 0)] (.const (.int .i64 0)) (.tmp 35), none⟩,
    ⟨(some 10), .mv (.tmp 36), none⟩] [])
 (.seq (.block 1 (.loop [1, 2, 3, 4, 10]
   (.seq (.seq (.region [⟨(some 37), .mv (.tmp 10), none⟩,
       ⟨(some 38), .lenV (.tmp 37), none⟩,
       ⟨(some 39), .mv (.tmp 3), none⟩,
       ⟨(some 40), .ar .lss (.tmp 38) (.tmp 39), none⟩] [])
    (.cond (.tmp 40)
     .skip
     (.exit 1)))
   (.block 2 (.seq (.region [⟨(some 42), .loadN 32 (.tmp 4), none⟩,
      ⟨(some 43), .mv (.tmp 1), none⟩,
      ⟨(some 44), .mv (.tmp 2), none⟩,
      ⟨(some 45), .call 104 [(.tmp 42), (.tmp 43), (.tmp 44)], none⟩,
      ⟨(some 41), .mv (.tmp 45), none⟩,
      ⟨(some 46), .ext (.tmp 41) 0, none⟩,
      ⟨(some 47), .ext (.tmp 41) 1, none⟩,
      ⟨(some 11), .mv (.tmp 46), none⟩,
      ⟨(some 12), .mv (.tmp 47), none⟩] [])
   (.seq (.region [⟨(some 48), .mv (.tmp 10), none⟩,
      ⟨(some 49), .mv (.tmp 11), none⟩,
      ⟨(some 50), .appS (.tmp 48) (.tmp 49), none⟩,
      ⟨(some 10), .mv (.tmp 50), none⟩] [])
   (.region [⟨(some 51), .mv (.tmp 2), none⟩,
     ⟨(some 52), .ar .add (.tmp 51) (.const (.int .u32 1)), none⟩,
     ⟨(some 2), .mv (.tmp 52), none⟩] [])))))))
 (.seq (.region [⟨(some 53), .mv (.tmp 10), none⟩,
    ⟨(some 54), .mv (.tmp 3), none⟩,
    ⟨(some 55), .slV 1 (.tmp 53) none (some (.tmp 54)) none, none⟩,
    ⟨(some 56), .convBS (.tmp 55), none⟩,
    ⟨(some 8), .mv (.tmp 56), none⟩,
    ⟨(some 9), .mv (.const (.int .i64 0)), none⟩] [])
 .ret))))),
 [.tmp 8, .tmp 9]⟩
set_option maxRecDepth 100000 in
theorem m98 : InProg Try.prog 0 98 M98 := ⟨Try.f98, [[1, 2, 3, 4, 10]], Try.func98, by kernel_rfl⟩
/-- trefoil/chacha.Nonce -/
def M99 : MFun := ⟨2,
 (.seq (.region [⟨(some 4), .mv (.const (.string ⟨#[]⟩)), none⟩] [])
 (.seq (.region [⟨(some 8), .mkSl 1 [(.int .u8 0)] (.const (.int .i64 12)) (.const (.int .i64 12)), none⟩,
    ⟨(some 5), .mv (.tmp 8), none⟩] [])
 (.seq (.seq (.region [⟨(some 9), .mv (.const (.int .i64 0)), none⟩] [])
  (.block 0 (.loop [0, 1, 5, 9]
   (.seq (.region [⟨(some 10), .ar .lss (.tmp 9) (.const (.int .i64 4)), none⟩] [])
   (.seq (.cond (.tmp 10)
     .skip
     (.exit 0))
   (.seq (.block 1 (.seq (.region [⟨(some 11), .mv (.tmp 9), none⟩,
       ⟨(some 6), .mv (.tmp 11), none⟩] [])
    (.region [⟨(some 12), .mv (.tmp 5), none⟩,
      ⟨(some 13), .mv (.tmp 6), none⟩,
      ⟨(some 14), .mv (.tmp 0), none⟩,
      ⟨(some 15), .mv (.tmp 6), none⟩,
      ⟨(some 16), .ar .mul (.const (.int .i64 8)) (.tmp 15), none⟩,
      ⟨(some 17), .conv .u64 (.tmp 16), none⟩,
      ⟨(some 18), .ar .shr (.tmp 14) (.tmp 17), none⟩,
      ⟨(some 19), .conv .u8 (.tmp 18), none⟩,
      ⟨(some 20), .ixV 1 (.tmp 12) (.tmp 13), none⟩,
      ⟨none, .store 1 (.tmp 20) (.tmp 19), none⟩] [])))
   (.region [⟨(some 21), .ar .add (.tmp 9) (.const (.int .i64 1)), none⟩,
     ⟨(some 9), .mv (.tmp 21), none⟩] [])))))))
 (.seq (.seq (.region [⟨(some 22), .mv (.const (.int .i64 0)), none⟩] [])
  (.block 2 (.loop [1, 5, 22]
   (.seq (.region [⟨(some 23), .ar .lss (.tmp 22) (.const (.int .i64 8)), none⟩] [])
   (.seq (.cond (.tmp 23)
     .skip
     (.exit 2))
   (.seq (.block 3 (.seq (.region [⟨(some 24), .mv (.tmp 22), none⟩,
       ⟨(some 7), .mv (.tmp 24), none⟩] [])
    (.region [⟨(some 25), .mv (.tmp 5), none⟩,
      ⟨(some 26), .mv (.tmp 7), none⟩,
      ⟨(some 27), .ar .add (.const (.int .i64 4)) (.tmp 26), none⟩,
      ⟨(some 28), .mv (.tmp 1), none⟩,
      ⟨(some 29), .mv (.tmp 7), none⟩,
      ⟨(some 30), .ar .mul (.const (.int .i64 8)) (.tmp 29), none⟩,
      ⟨(some 31), .conv .u64 (.tmp 30), none⟩,
      ⟨(some 32), .ar .shr (.tmp 28) (.tmp 31), none⟩,
      ⟨(some 33), .conv .u8 (.tmp 32), none⟩,
      ⟨(some 34), .ixV 1 (.tmp 25) (.tmp 27), none⟩,
      ⟨none, .store 1 (.tmp 34) (.tmp 33), none⟩] [])))
   (.region [⟨(some 35), .ar .add (.tmp 22) (.const (.int .i64 1)), none⟩,
     ⟨(some 22), .mv (.tmp 35), none⟩] [])))))))
 (.seq (.region [⟨(some 36), .mv (.tmp 5), none⟩,
    ⟨(some 37), .convBS (.tmp 36), none⟩,
    ⟨(some 4), .mv (.tmp 37), none⟩] [])
 .ret))))),
 [.tmp 4]⟩
set_option maxRecDepth 100000 in
theorem m99 : InProg Try.prog 0 99 M99 := ⟨Try.f99, [[0, 1, 5, 9], [1, 5, 22]], Try.func99, by kernel_rfl⟩
/-- slices.order2Ordered[int] -/
def M102 : MFun := ⟨4,
 (.seq (.region [⟨(some 8), .mv (.const (.int .i64 0)), none⟩,
    ⟨(some 9), .mv (.const (.int .i64 0)), none⟩] [])
 (.seq (.seq (.region [⟨(some 10), .mv (.tmp 0), none⟩,
     ⟨(some 11), .mv (.tmp 2), none⟩,
     ⟨(some 12), .ixV 1 (.tmp 10) (.tmp 11), none⟩,
     ⟨(some 13), .load1 (.tmp 12), none⟩,
     ⟨(some 14), .mv (.tmp 0), none⟩,
     ⟨(some 15), .mv (.tmp 1), none⟩,
     ⟨(some 16), .ixV 1 (.tmp 14) (.tmp 15), none⟩,
     ⟨(some 17), .load1 (.tmp 16), none⟩,
     ⟨(some 18), .call 68 [(.tmp 13), (.tmp 17)], none⟩] [])
  (.cond (.tmp 18)
   (.seq (.region [⟨(some 19), .mv (.tmp 3), none⟩,
      ⟨(some 20), .nilCheck (.tmp 19), none⟩,
      ⟨(some 21), .load1 (.tmp 20), none⟩,
      ⟨(some 22), .ar .add (.tmp 21) (.const (.int .i64 1)), none⟩,
      ⟨(some 23), .nilCheck (.tmp 19), none⟩,
      ⟨none, .store 1 (.tmp 23) (.tmp 22), none⟩] [])
   (.seq (.region [⟨(some 24), .mv (.tmp 2), none⟩,
      ⟨(some 25), .mv (.tmp 1), none⟩,
      ⟨(some 8), .mv (.tmp 24), none⟩,
      ⟨(some 9), .mv (.tmp 25), none⟩] [])
   .ret))
   .skip))
 (.seq (.region [⟨(some 26), .mv (.tmp 1), none⟩,
    ⟨(some 27), .mv (.tmp 2), none⟩,
    ⟨(some 8), .mv (.tmp 26), none⟩,
    ⟨(some 9), .mv (.tmp 27), none⟩] [])
 .ret))),
 [.tmp 8, .tmp 9]⟩
set_option maxRecDepth 100000 in
theorem m102 : InProg Try.prog 0 102 M102 := ⟨Try.f102, [], Try.func102, by kernel_rfl⟩
/-- trefoil/ring.Mask -/
def M103 : MFun := ⟨1,
 (.seq (.region [⟨(some 2), .mv (.const (.int .u64 0)), none⟩,
    ⟨(some 3), .mv (.const (.int .i64 0)), none⟩] [])
 (.seq (.seq (.region [⟨(some 4), .mv (.tmp 0), none⟩,
     ⟨(some 5), .ar .lss (.tmp 4) (.const (.int .i64 1)), none⟩,
     ⟨(some 6), .mv (.tmp 5), none⟩,
     ⟨(some 7), .mv (.tmp 0), (some (6, false))⟩,
     ⟨(some 8), .ar .gtr (.tmp 7) (.const (.int .i64 64)), (some (6, false))⟩,
     ⟨(some 9), .pick (.tmp 6) (.const (.bool true)) (.tmp 8), none⟩] [])
  (.cond (.tmp 9)
   (.seq (.region [⟨(some 2), .mv (.const (.int .u64 0)), none⟩,
      ⟨(some 3), .mv (.const (.int .i64 11)), none⟩] [])
   .ret)
   .skip))
 (.seq (.region [⟨(some 10), .mv (.tmp 0), none⟩,
    ⟨(some 11), .ar .sub (.const (.int .i64 64)) (.tmp 10), none⟩,
    ⟨(some 12), .conv .u64 (.tmp 11), none⟩,
    ⟨(some 13), .ar .shr (.const (.int .u64 18446744073709551615)) (.tmp 12), none⟩,
    ⟨(some 2), .mv (.tmp 13), none⟩,
    ⟨(some 3), .mv (.const (.int .i64 0)), none⟩] [])
 .ret))),
 [.tmp 2, .tmp 3]⟩
set_option maxRecDepth 100000 in
theorem m103 : InProg Try.prog 0 103 M103 := ⟨Try.f103, [], Try.func103, by kernel_rfl⟩
/-- trefoil/chacha.Block -/
def M104 : MFun := ⟨3,
 (.seq (.region [⟨(some 3), .box (.tmp 0), none⟩,
    ⟨(some 6), .mv (.const (.string ⟨#[]⟩)), none⟩,
    ⟨(some 7), .mv (.const (.int .i64 0)), none⟩] [])
 (.seq (.seq (.region [⟨(some 13), .mv (.tmp 1), none⟩,
     ⟨(some 14), .lenS (.tmp 13), none⟩,
     ⟨(some 15), .ar .neq (.tmp 14) (.const (.int .i64 12)), none⟩] [])
  (.cond (.tmp 15)
   (.seq (.region [⟨(some 6), .mv (.const (.string ⟨#[]⟩)), none⟩,
      ⟨(some 7), .mv (.const (.int .i64 11)), none⟩] [])
   .ret)
   .skip))
 (.seq (.region [⟨(some 16), .loadN 32 (.tmp 3), none⟩,
    ⟨(some 17), .mv (.tmp 1), none⟩,
    ⟨(some 18), .mv (.tmp 2), none⟩,
    ⟨(some 19), .call 106 [(.tmp 16), (.tmp 17), (.tmp 18)], none⟩,
    ⟨(some 8), .new [(.int .u32 0), (.int .u32 0), (.int .u32 0), (.int .u32 0), (.int .u32 0), (.int .u32 0), (.int .u32 0), (.int .u32 0), (.int .u32 0), (.int .u32 0), (.int .u32 0), (.int .u32 0), (.int .u32 0), (.int .u32 0), (.int .u32 0), (.int .u32 0)], none⟩,
    ⟨none, .store 16 (.tmp 8) (.tmp 19), none⟩] [])
 (.seq (.region [⟨(some 20), .loadN 16 (.tmp 8), none⟩,
    ⟨(some 9), .new [(.int .u32 0), (.int .u32 0), (.int .u32 0), (.int .u32 0), (.int .u32 0), (.int .u32 0), (.int .u32 0), (.int .u32 0), (.int .u32 0), (.int .u32 0), (.int .u32 0), (.int .u32 0), (.int .u32 0), (.int .u32 0), (.int .u32 0), (.int .u32 0)], none⟩,
    ⟨none, .store 16 (.tmp 9) (.tmp 20), none⟩] [])
 (.seq (.seq (.region [⟨(some 21), .mv (.const (.int .i64 0)), none⟩] [])
  (.block 0 (.loop [8, 9, 21]
   (.seq (.region [⟨(some 22), .ar .lss (.tmp 21) (.const (.int .i64 10)), none⟩] [])
   (.seq (.cond (.tmp 22)
     .skip
     (.exit 0))
   (.seq (.block 1 (.seq (.region [⟨(some 23), .call 107 [(.tmp 9), (.const (.int .i64 0)), (.const (.int .i64 4)), (.const (.int .i64 8)), (.const (.int .i64 12))], none⟩] [])
    (.seq (.region [⟨(some 24), .call 107 [(.tmp 9), (.const (.int .i64 1)), (.const (.int .i64 5)), (.const (.int .i64 9)), (.const (.int .i64 13))], none⟩] [])
    (.seq (.region [⟨(some 25), .call 107 [(.tmp 9), (.const (.int .i64 2)), (.const (.int .i64 6)), (.const (.int .i64 10)), (.const (.int .i64 14))], none⟩] [])
    (.seq (.region [⟨(some 26), .call 107 [(.tmp 9), (.const (.int .i64 3)), (.const (.int .i64 7)), (.const (.int .i64 11)), (.const (.int .i64 15))], none⟩] [])
    (.seq (.region [⟨(some 27), .call 107 [(.tmp 9), (.const (.int .i64 0)), (.const (.int .i64 5)), (.const (.int .i64 10)), (.const (.int .i64 15))], none⟩] [])
    (.seq (.region [⟨(some 28), .call 107 [(.tmp 9), (.const (.int .i64 1)), (.const (.int .i64 6)), (.const (.int .i64 11)), (.const (.int .i64 12))], none⟩] [])
    (.seq (.region [⟨(some 29), .call 107 [(.tmp 9), (.const (.int .i64 2)), (.const (.int .i64 7)), (.const (.int .i64 8)), (.const (.int .i64 13))], none⟩] [])
    (.region [⟨(some 30), .call 107 [(.tmp 9), (.const (.int .i64 3)), (.const (.int .i64 4)), (.const (.int .i64 9)), (.const (.int .i64 14))], none⟩] [])))))))))
   (.region [⟨(some 31), .ar .add (.tmp 21) (.const (.int .i64 1)), none⟩,
     ⟨(some 21), .mv (.tmp 31), none⟩] [])))))))
 (.seq (.region [⟨(some 32), .mkSl 1 [(.int .u8 0)] (.const (.int .i64 0)) (.const (.int .i64 64)), none⟩,
    ⟨(some 10), .mv (.tmp 32), none⟩] [])
 (.seq (.seq (.region [⟨(some 33), .loadN 16 (.tmp 9), none⟩,
     ⟨(some 34), .mv (.const (.int .i64 0)), none⟩] [])
  (.block 2 (.loop [8, 10, 33, 34]
   (.seq (.region [⟨(some 35), .ar .lss (.tmp 34) (.const (.int .i64 16)), none⟩] [])
   (.seq (.cond (.tmp 35)
     .skip
     (.exit 2))
   (.seq (.block 3 (.seq (.region [⟨(some 36), .mv (.tmp 34), none⟩,
       ⟨(some 37), .ixG 1 16 false (.tmp 33) (.tmp 34), none⟩,
       ⟨(some 11), .mv (.tmp 36), none⟩,
       ⟨(some 12), .mv (.tmp 37), none⟩] [])
    (.seq (.region [⟨(some 38), .mv (.tmp 12), none⟩,
       ⟨(some 39), .mv (.tmp 11), none⟩,
       ⟨(some 40), .ixA 1 16 (.tmp 8) (.tmp 39), none⟩,
       ⟨(some 41), .load1 (.tmp 40), none⟩,
       ⟨(some 42), .ar .add (.tmp 38) (.tmp 41), none⟩,
       ⟨(some 12), .mv (.tmp 42), none⟩] [])
    (.region [⟨(some 43), .mv (.tmp 10), none⟩,
      ⟨(some 44), .mv (.tmp 12), none⟩,
      ⟨(some 45), .conv .u8 (.tmp 44), none⟩,
      ⟨(some 46), .mv (.tmp 12), none⟩,
      ⟨(some 47), .ar .shr (.tmp 46) (.const (.int .u64 8)), none⟩,
      ⟨(some 48), .conv .u8 (.tmp 47), none⟩,
      ⟨(some 49), .mv (.tmp 12), none⟩,
      ⟨(some 50), .ar .shr (.tmp 49) (.const (.int .u64 16)), none⟩,
      ⟨(some 51), .conv .u8 (.tmp 50), none⟩,
      ⟨(some 52), .mv (.tmp 12), none⟩,
      ⟨(some 53), .ar .shr (.tmp 52) (.const (.int .u64 24)), none⟩,
      ⟨(some 54), .conv .u8 (.tmp 53), none⟩,
      ⟨(some 55), .buildSlice [(.int .u8 0), (.int .u8 0), (.int .u8 0), (.int .u8 0)] 4 [(0, 1, (.tmp 45)), (1, 1, (.tmp 48)), (2, 1, (.tmp 51)), (3, 1, (.tmp 54))], none⟩,
      ⟨(some 56), .app 1 1 (.tmp 43) (.tmp 55), none⟩,
      ⟨(some 10), .mv (.tmp 56), none⟩] []))))
   (.region [⟨(some 57), .ar .add (.tmp 34) (.const (.int .i64 1)), none⟩,
     ⟨(some 34), .mv (.tmp 57), none⟩] [])))))))
 (.seq (.region [⟨(some 58), .mv (.tmp 10), none⟩,
    ⟨(some 59), .convBS (.tmp 58), none⟩,
    ⟨(some 6), .mv (.tmp 59), none⟩,
    ⟨(some 7), .mv (.const (.int .i64 0)), none⟩] [])
 .ret)))))))),
 [.tmp 6, .tmp 7]⟩
set_option maxRecDepth 100000 in
theorem m104 : InProg Try.prog 0 104 M104 := ⟨Try.f104, [[8, 9, 21], [8, 10, 33, 34]], Try.func104, by kernel_rfl⟩
/-- trefoil/chacha.start -/
def M106 : MFun := ⟨3,
 (.seq (.region [⟨(some 3), .box (.tmp 0), none⟩,
    ⟨(some 6), .new [(.int .u32 0), (.int .u32 0), (.int .u32 0), (.int .u32 0), (.int .u32 0), (.int .u32 0), (.int .u32 0), (.int .u32 0), (.int .u32 0), (.int .u32 0), (.int .u32 0), (.int .u32 0), (.int .u32 0), (.int .u32 0), (.int .u32 0), (.int .u32 0)], none⟩] [])
 (.seq (.region [⟨(some 10), .build [(.int .u32 0), (.int .u32 0), (.int .u32 0), (.int .u32 0), (.int .u32 0), (.int .u32 0), (.int .u32 0), (.int .u32 0), (.int .u32 0), (.int .u32 0), (.int .u32 0), (.int .u32 0), (.int .u32 0), (.int .u32 0), (.int .u32 0), (.int .u32 0)] [(0, 1, (.const (.int .u32 1634760805))), (1, 1, (.const (.int .u32 857760878))), (2, 1, (.const (.int .u32 2036477234))), (3, 1, (.const (.int .u32 1797285236)))], none⟩,
    ⟨(some 7), .new [(.int .u32 0), (.int .u32 0), (.int .u32 0), (.int .u32 0), (.int .u32 0), (.int .u32 0), (.int .u32 0), (.int .u32 0), (.int .u32 0), (.int .u32 0), (.int .u32 0), (.int .u32 0), (.int .u32 0), (.int .u32 0), (.int .u32 0), (.int .u32 0)], none⟩,
    ⟨none, .store 16 (.tmp 7) (.tmp 10), none⟩] [])
 (.seq (.seq (.region [⟨(some 11), .mv (.const (.int .i64 0)), none⟩] [])
  (.block 0 (.loop [1, 2, 3, 6, 7, 11]
   (.seq (.region [⟨(some 12), .ar .lss (.tmp 11) (.const (.int .i64 8)), none⟩] [])
   (.seq (.cond (.tmp 12)
     .skip
     (.exit 0))
   (.seq (.block 1 (.seq (.region [⟨(some 13), .mv (.tmp 11), none⟩,
       ⟨(some 8), .mv (.tmp 13), none⟩] [])
    (.region [⟨(some 14), .mv (.tmp 8), none⟩,
      ⟨(some 15), .ar .add (.const (.int .i64 4)) (.tmp 14), none⟩,
      ⟨(some 16), .mv (.tmp 8), none⟩,
      ⟨(some 17), .ar .mul (.const (.int .i64 4)) (.tmp 16), none⟩,
      ⟨(some 18), .mv (.tmp 8), none⟩,
      ⟨(some 19), .ar .mul (.const (.int .i64 4)) (.tmp 18), none⟩,
      ⟨(some 20), .ar .add (.tmp 19) (.const (.int .i64 4)), none⟩,
      ⟨(some 21), .slA 1 32 (.tmp 3) (some (.tmp 17)) (some (.tmp 20)), none⟩,
      ⟨(some 22), .convBS (.tmp 21), none⟩,
      ⟨(some 23), .call 108 [(.tmp 22)], none⟩,
      ⟨(some 24), .ixA 1 16 (.tmp 7) (.tmp 15), none⟩,
      ⟨none, .store 1 (.tmp 24) (.tmp 23), none⟩] [])))
   (.region [⟨(some 25), .ar .add (.tmp 11) (.const (.int .i64 1)), none⟩,
     ⟨(some 11), .mv (.tmp 25), none⟩] [])))))))
 (.seq (.region [⟨(some 26), .mv (.tmp 2), none⟩,
    ⟨(some 27), .ixA 1 16 (.tmp 7) (.const (.int .i64 12)), none⟩,
    ⟨none, .store 1 (.tmp 27) (.tmp 26), none⟩] [])
 (.seq (.seq (.region [⟨(some 28), .mv (.const (.int .i64 0)), none⟩] [])
  (.block 2 (.loop [1, 6, 7, 28]
   (.seq (.region [⟨(some 29), .ar .lss (.tmp 28) (.const (.int .i64 3)), none⟩] [])
   (.seq (.cond (.tmp 29)
     .skip
     (.exit 2))
   (.seq (.block 3 (.seq (.region [⟨(some 30), .mv (.tmp 28), none⟩,
       ⟨(some 9), .mv (.tmp 30), none⟩] [])
    (.region [⟨(some 31), .mv (.tmp 9), none⟩,
      ⟨(some 32), .ar .add (.const (.int .i64 13)) (.tmp 31), none⟩,
      ⟨(some 33), .mv (.tmp 1), none⟩,
      ⟨(some 34), .mv (.tmp 9), none⟩,
      ⟨(some 35), .ar .mul (.const (.int .i64 4)) (.tmp 34), none⟩,
      ⟨(some 36), .mv (.tmp 9), none⟩,
      ⟨(some 37), .ar .mul (.const (.int .i64 4)) (.tmp 36), none⟩,
      ⟨(some 38), .ar .add (.tmp 37) (.const (.int .i64 4)), none⟩,
      ⟨(some 39), .slS (.tmp 33) (some (.tmp 35)) (some (.tmp 38)), none⟩,
      ⟨(some 40), .call 108 [(.tmp 39)], none⟩,
      ⟨(some 41), .ixA 1 16 (.tmp 7) (.tmp 32), none⟩,
      ⟨none, .store 1 (.tmp 41) (.tmp 40), none⟩] [])))
   (.region [⟨(some 42), .ar .add (.tmp 28) (.const (.int .i64 1)), none⟩,
     ⟨(some 28), .mv (.tmp 42), none⟩] [])))))))
 (.seq (.region [⟨(some 43), .loadN 16 (.tmp 7), none⟩,
    ⟨none, .store 16 (.tmp 6) (.tmp 43), none⟩] [])
 .ret)))))),
 [.cellN 6 16]⟩
set_option maxRecDepth 100000 in
theorem m106 : InProg Try.prog 0 106 M106 := ⟨Try.f106, [[1, 2, 3, 6, 7, 11], [1, 6, 7, 28]], Try.func106, by kernel_rfl⟩
/-- (*trefoil/chacha.grid).turn -/
def M107 : MFun := ⟨5,
 (.region [⟨(some 11), .mv (.tmp 0), none⟩,
   ⟨(some 12), .mv (.tmp 1), none⟩,
   ⟨(some 13), .mv (.tmp 0), none⟩,
   ⟨(some 14), .mv (.tmp 2), none⟩,
   ⟨(some 15), .mv (.tmp 0), none⟩,
   ⟨(some 16), .mv (.tmp 3), none⟩,
   ⟨(some 17), .mv (.tmp 0), none⟩,
   ⟨(some 18), .mv (.tmp 4), none⟩,
   ⟨(some 19), .mv (.tmp 0), none⟩,
   ⟨(some 20), .mv (.tmp 1), none⟩,
   ⟨(some 21), .nilCheck (.tmp 19), none⟩,
   ⟨(some 22), .ixA 1 16 (.tmp 21) (.tmp 20), none⟩,
   ⟨(some 23), .load1 (.tmp 22), none⟩,
   ⟨(some 24), .mv (.tmp 0), none⟩,
   ⟨(some 25), .mv (.tmp 2), none⟩,
   ⟨(some 26), .nilCheck (.tmp 24), none⟩,
   ⟨(some 27), .ixA 1 16 (.tmp 26) (.tmp 25), none⟩,
   ⟨(some 28), .load1 (.tmp 27), none⟩,
   ⟨(some 29), .mv (.tmp 0), none⟩,
   ⟨(some 30), .mv (.tmp 3), none⟩,
   ⟨(some 31), .nilCheck (.tmp 29), none⟩,
   ⟨(some 32), .ixA 1 16 (.tmp 31) (.tmp 30), none⟩,
   ⟨(some 33), .load1 (.tmp 32), none⟩,
   ⟨(some 34), .mv (.tmp 0), none⟩,
   ⟨(some 35), .mv (.tmp 4), none⟩,
   ⟨(some 36), .nilCheck (.tmp 34), none⟩,
   ⟨(some 37), .ixA 1 16 (.tmp 36) (.tmp 35), none⟩,
   ⟨(some 38), .load1 (.tmp 37), none⟩,
   ⟨(some 39), .call 109 [(.tmp 23), (.tmp 28), (.tmp 33), (.tmp 38)], none⟩,
   ⟨(some 10), .mv (.tmp 39), none⟩,
   ⟨(some 40), .ext (.tmp 10) 0, none⟩,
   ⟨(some 41), .ext (.tmp 10) 1, none⟩,
   ⟨(some 42), .ext (.tmp 10) 2, none⟩,
   ⟨(some 43), .ext (.tmp 10) 3, none⟩,
   ⟨(some 44), .nilCheck (.tmp 11), none⟩,
   ⟨(some 45), .ixA 1 16 (.tmp 44) (.tmp 12), none⟩,
   ⟨none, .store 1 (.tmp 45) (.tmp 40), none⟩,
   ⟨(some 46), .nilCheck (.tmp 13), none⟩,
   ⟨(some 47), .ixA 1 16 (.tmp 46) (.tmp 14), none⟩,
   ⟨none, .store 1 (.tmp 47) (.tmp 41), none⟩,
   ⟨(some 48), .nilCheck (.tmp 15), none⟩,
   ⟨(some 49), .ixA 1 16 (.tmp 48) (.tmp 16), none⟩,
   ⟨none, .store 1 (.tmp 49) (.tmp 42), none⟩,
   ⟨(some 50), .nilCheck (.tmp 17), none⟩,
   ⟨(some 51), .ixA 1 16 (.tmp 50) (.tmp 18), none⟩,
   ⟨none, .store 1 (.tmp 51) (.tmp 43), none⟩] []),
 []⟩
set_option maxRecDepth 100000 in
theorem m107 : InProg Try.prog 0 107 M107 := ⟨Try.f107, [], Try.func107, by kernel_rfl⟩
/-- trefoil/chacha.word -/
def M108 : MFun := ⟨1,
 (.seq (.region [⟨(some 2), .mv (.const (.int .u32 0)), none⟩] [])
 (.seq (.region [⟨(some 3), .mv (.tmp 0), none⟩,
    ⟨(some 4), .ixS (.tmp 3) (.const (.int .i64 0)), none⟩,
    ⟨(some 5), .conv .u32 (.tmp 4), none⟩,
    ⟨(some 6), .mv (.tmp 0), none⟩,
    ⟨(some 7), .ixS (.tmp 6) (.const (.int .i64 1)), none⟩,
    ⟨(some 8), .conv .u32 (.tmp 7), none⟩,
    ⟨(some 9), .ar .shl (.tmp 8) (.const (.int .u64 8)), none⟩,
    ⟨(some 10), .ar .or (.tmp 5) (.tmp 9), none⟩,
    ⟨(some 11), .mv (.tmp 0), none⟩,
    ⟨(some 12), .ixS (.tmp 11) (.const (.int .i64 2)), none⟩,
    ⟨(some 13), .conv .u32 (.tmp 12), none⟩,
    ⟨(some 14), .ar .shl (.tmp 13) (.const (.int .u64 16)), none⟩,
    ⟨(some 15), .ar .or (.tmp 10) (.tmp 14), none⟩,
    ⟨(some 16), .mv (.tmp 0), none⟩,
    ⟨(some 17), .ixS (.tmp 16) (.const (.int .i64 3)), none⟩,
    ⟨(some 18), .conv .u32 (.tmp 17), none⟩,
    ⟨(some 19), .ar .shl (.tmp 18) (.const (.int .u64 24)), none⟩,
    ⟨(some 20), .ar .or (.tmp 15) (.tmp 19), none⟩,
    ⟨(some 2), .mv (.tmp 20), none⟩] [])
 .ret)),
 [.tmp 2]⟩
set_option maxRecDepth 100000 in
theorem m108 : InProg Try.prog 0 108 M108 := ⟨Try.f108, [], Try.func108, by kernel_rfl⟩
/-- trefoil/chacha.Quarter -/
def M109 : MFun := ⟨4,
 (.seq (.region [⟨(some 8), .mv (.const (.int .u32 0)), none⟩,
    ⟨(some 9), .mv (.const (.int .u32 0)), none⟩,
    ⟨(some 10), .mv (.const (.int .u32 0)), none⟩,
    ⟨(some 11), .mv (.const (.int .u32 0)), none⟩] [])
 (.seq (.region [⟨(some 12), .mv (.tmp 0), none⟩,
    ⟨(some 13), .mv (.tmp 1), none⟩,
    ⟨(some 14), .ar .add (.tmp 12) (.tmp 13), none⟩,
    ⟨(some 0), .mv (.tmp 14), none⟩] [])
 (.seq (.region [⟨(some 15), .mv (.tmp 3), none⟩,
    ⟨(some 16), .mv (.tmp 0), none⟩,
    ⟨(some 17), .ar .xor (.tmp 15) (.tmp 16), none⟩,
    ⟨(some 18), .call 110 [(.tmp 17), (.const (.int .i64 16))], none⟩,
    ⟨(some 3), .mv (.tmp 18), none⟩] [])
 (.seq (.region [⟨(some 19), .mv (.tmp 2), none⟩,
    ⟨(some 20), .mv (.tmp 3), none⟩,
    ⟨(some 21), .ar .add (.tmp 19) (.tmp 20), none⟩,
    ⟨(some 2), .mv (.tmp 21), none⟩] [])
 (.seq (.region [⟨(some 22), .mv (.tmp 1), none⟩,
    ⟨(some 23), .mv (.tmp 2), none⟩,
    ⟨(some 24), .ar .xor (.tmp 22) (.tmp 23), none⟩,
    ⟨(some 25), .call 110 [(.tmp 24), (.const (.int .i64 12))], none⟩,
    ⟨(some 1), .mv (.tmp 25), none⟩] [])
 (.seq (.region [⟨(some 26), .mv (.tmp 0), none⟩,
    ⟨(some 27), .mv (.tmp 1), none⟩,
    ⟨(some 28), .ar .add (.tmp 26) (.tmp 27), none⟩,
    ⟨(some 0), .mv (.tmp 28), none⟩] [])
 (.seq (.region [⟨(some 29), .mv (.tmp 3), none⟩,
    ⟨(some 30), .mv (.tmp 0), none⟩,
    ⟨(some 31), .ar .xor (.tmp 29) (.tmp 30), none⟩,
    ⟨(some 32), .call 110 [(.tmp 31), (.const (.int .i64 8))], none⟩,
    ⟨(some 3), .mv (.tmp 32), none⟩] [])
 (.seq (.region [⟨(some 33), .mv (.tmp 2), none⟩,
    ⟨(some 34), .mv (.tmp 3), none⟩,
    ⟨(some 35), .ar .add (.tmp 33) (.tmp 34), none⟩,
    ⟨(some 2), .mv (.tmp 35), none⟩] [])
 (.seq (.region [⟨(some 36), .mv (.tmp 1), none⟩,
    ⟨(some 37), .mv (.tmp 2), none⟩,
    ⟨(some 38), .ar .xor (.tmp 36) (.tmp 37), none⟩,
    ⟨(some 39), .call 110 [(.tmp 38), (.const (.int .i64 7))], none⟩,
    ⟨(some 1), .mv (.tmp 39), none⟩] [])
 (.seq (.region [⟨(some 40), .mv (.tmp 0), none⟩,
    ⟨(some 41), .mv (.tmp 1), none⟩,
    ⟨(some 42), .mv (.tmp 2), none⟩,
    ⟨(some 43), .mv (.tmp 3), none⟩,
    ⟨(some 8), .mv (.tmp 40), none⟩,
    ⟨(some 9), .mv (.tmp 41), none⟩,
    ⟨(some 10), .mv (.tmp 42), none⟩,
    ⟨(some 11), .mv (.tmp 43), none⟩] [])
 .ret)))))))))),
 [.tmp 8, .tmp 9, .tmp 10, .tmp 11]⟩
set_option maxRecDepth 100000 in
theorem m109 : InProg Try.prog 0 109 M109 := ⟨Try.f109, [], Try.func109, by kernel_rfl⟩
/-- math/bits.RotateLeft32 -/
def M110 : MFun := ⟨2,
 (.seq (.region [⟨(some 4), .mv (.const (.int .u32 0)), none⟩] [])
 (.seq (.region [⟨(some 6), .mv (.tmp 1), none⟩,
    ⟨(some 7), .conv .u64 (.tmp 6), none⟩,
    ⟨(some 8), .ar .and (.tmp 7) (.const (.int .u64 31)), none⟩,
    ⟨(some 5), .mv (.tmp 8), none⟩] [])
 (.seq (.region [⟨(some 9), .mv (.tmp 0), none⟩,
    ⟨(some 10), .mv (.tmp 5), none⟩,
    ⟨(some 11), .ar .shl (.tmp 9) (.tmp 10), none⟩,
    ⟨(some 12), .mv (.tmp 0), none⟩,
    ⟨(some 13), .mv (.tmp 5), none⟩,
    ⟨(some 14), .ar .sub (.const (.int .u64 32)) (.tmp 13), none⟩,
    ⟨(some 15), .ar .shr (.tmp 12) (.tmp 14), none⟩,
    ⟨(some 16), .ar .or (.tmp 11) (.tmp 15), none⟩,
    ⟨(some 4), .mv (.tmp 16), none⟩] [])
 .ret))),
 [.tmp 4]⟩
set_option maxRecDepth 100000 in
theorem m110 : InProg Try.prog 0 110 M110 := ⟨Try.f110, [], Try.func110, by kernel_rfl⟩
def tab : List (Nat × MFun) := [(6, M6), (7, M7), (9, M9), (13, M13), (15, M15), (16, M16), (17, M17), (19, M19), (20, M20), (21, M21), (22, M22), (23, M23), (24, M24), (26, M26), (27, M27), (28, M28), (29, M29), (30, M30), (31, M31), (35, M35), (36, M36), (37, M37), (38, M38), (41, M41), (42, M42), (43, M43), (44, M44), (45, M45), (46, M46), (47, M47), (56, M56), (57, M57), (58, M58), (59, M59), (60, M60), (62, M62), (63, M63), (64, M64), (65, M65), (66, M66), (67, M67), (68, M68), (69, M69), (70, M70), (71, M71), (72, M72), (79, M79), (80, M80), (81, M81), (82, M82), (83, M83), (86, M86), (87, M87), (88, M88), (89, M89), (90, M90), (91, M91), (93, M93), (94, M94), (95, M95), (96, M96), (97, M97), (98, M98), (99, M99), (102, M102), (103, M103), (104, M104), (106, M106), (107, M107), (108, M108), (109, M109), (110, M110)]
theorem tabIn : AllIn Try.prog 0 tab := ⟨m6, m7, m9, m13, m15, m16, m17, m19, m20, m21, m22, m23, m24, m26, m27, m28, m29, m30, m31, m35, m36, m37, m38, m41, m42, m43, m44, m45, m46, m47, m56, m57, m58, m59, m60, m62, m63, m64, m65, m66, m67, m68, m69, m70, m71, m72, m79, m80, m81, m82, m83, m86, m87, m88, m89, m90, m91, m93, m94, m95, m96, m97, m98, m99, m102, m103, m104, m106, m107, m108, m109, m110, trivial⟩
theorem mixed : Try.prog.follows .mixedOrders = true := by kernel_rfl
end Go.Proofs.Ytboioafflppnfaa
