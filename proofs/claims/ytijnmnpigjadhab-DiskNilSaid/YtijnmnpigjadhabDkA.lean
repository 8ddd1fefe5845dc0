import Derived.Test.YtijnmnpigjadhabRexLd
namespace Go.Dk
open Go Go.Rex
set_option maxRecDepth 100000
set_option linter.unusedVariables false

/-- newsreel/newsreellaw11.DiskDoes -/
def a3 : AFn := ⟨(.seq (.reg [⟨some 4, .mv (.c (.lit (.bool false))), none, 0, 0, false⟩])
  (.seq (.seq (.reg [⟨some 13, .mv (.t 1), none, 0, 0, false⟩,
      ⟨some 14, .call (.c (.fn 5 0 [])) [(.t 13)], none, 0, 0, false⟩,
      ⟨some 15, .un .not (.t 14), none, 0, 0, false⟩])
   (.cond (.t 15) (.seq (.reg [⟨some 16, .call (.c (.fn 6 0 [])) [], none, 0, 0, false⟩,
        ⟨some 4, .mv (.t 16), none, 0, 0, false⟩])
     .ret)
   .skip))
  (.seq (.reg [⟨some 17, .mv (.t 0), none, 0, 0, false⟩,
     ⟨some 18, .call (.c (.fn 7 0 [])) [(.t 17)], none, 0, 0, true⟩,
     ⟨some 5, .mv (.t 18), none, 0, 0, false⟩])
  (.seq (.seq (.reg [⟨some 19, .mv (.t 5), none, 0, 0, false⟩,
      ⟨some 20, .eq false .ptr (.t 19) (.c (.lit (.pointer none))), none, 0, 0, false⟩,
      ⟨some 21, .mv (.t 20), none, 0, 0, false⟩,
      ⟨some 22, .mv (.t 0), some (21, false), 0, 0, false⟩,
      ⟨some 23, .call (.c (.fn 8 0 [])) [(.t 22)], some (21, false), 0, 0, false⟩,
      ⟨some 24, .un .not (.t 23), some (21, false), 0, 0, false⟩,
      ⟨some 25, .pick (.t 21) (.c (.lit (.bool true))) (.t 24), none, 0, 0, false⟩])
   (.cond (.t 25) (.seq (.reg [⟨some 26, .mv (.t 5), none, 0, 0, false⟩,
        ⟨some 27, .eq false .ptr (.t 26) (.c (.lit (.pointer none))), none, 0, 0, false⟩,
        ⟨some 28, .mv (.t 27), none, 0, 0, false⟩,
        ⟨some 29, .mv (.t 0), some (28, true), 0, 0, false⟩,
        ⟨some 30, .call (.c (.fn 8 0 [])) [(.t 29)], some (28, true), 0, 0, false⟩,
        ⟨some 31, .un .not (.t 30), some (28, true), 0, 0, false⟩,
        ⟨some 32, .pick (.t 28) (.t 31) (.c (.lit (.bool false))), none, 0, 0, false⟩,
        ⟨some 33, .mv (.t 32), none, 0, 0, false⟩,
        ⟨some 34, .call (.c (.fn 6 0 [])) [], some (33, true), 0, 0, false⟩,
        ⟨some 35, .pick (.t 33) (.t 34) (.c (.lit (.bool false))), none, 0, 0, false⟩,
        ⟨some 4, .mv (.t 35), none, 0, 0, false⟩])
     .ret)
   .skip))
  (.seq (.reg [⟨some 36, .mv (.t 0), none, 0, 0, false⟩,
     ⟨some 37, .build [1, 3, 1, 1, 1, 1, 1] [(.lit (.int .i64 0)), (.agg [1, 1, 1] [nilD, nilD, nilD]), nilD, (.lit (.int .i64 0)), (.lit (.int .i64 0)), (.lit (.int .i64 0)), (.lit (.bool false))] [(0, (.t 36))], none, 0, 0, false⟩,
     ⟨some 38, .box true (.t 37), none, 0, 0, true⟩,
     ⟨some 6, .mv (.t 38), none, 0, 0, false⟩])
  (.seq (.seq (.reg [⟨some 7, .mv (.c (.lit (.int .i64 0))), none, 0, 0, false⟩])
   (.block 0 (.loop 226 (.seq (.seq (.reg [⟨some 39, .mv (.t 7), none, 0, 0, false⟩,
         ⟨some 40, .mv (.t 1), none, 0, 0, false⟩,
         ⟨some 41, .len false (.t 40), none, 0, 0, false⟩,
         ⟨some 42, .bin .lss (.t 39) (.t 41), none, 0, 0, false⟩])
      (.cond (.t 42) .skip
      (.exit 0)))
     (.seq (.block 1 (.seq (.seq (.draw []
          [⟨some 45, .mv (.t 5), none, 0, 0, false⟩,
           ⟨some 46, .mv (.t 1), none, 0, 0, false⟩,
           ⟨some 47, .mv (.t 7), none, 0, 0, false⟩,
           ⟨some 48, .ia 6 (.t 46) (.t 47), none, 0, 0, false⟩,
           ⟨some 49, .ld true 6 (.t 48), none, 0, 0, false⟩,
           ⟨some 50, .call (.c (.fn 9 0 [])) [(.t 45), (.t 49)], none, 0, 1, true⟩,
           ⟨some 51, .mv (.t 6), none, 0, 1, false⟩,
           ⟨some 52, .mv (.t 1), none, 0, 1, false⟩,
           ⟨some 53, .mv (.t 7), none, 0, 1, false⟩,
           ⟨some 54, .ia 6 (.t 52) (.t 53), none, 0, 1, false⟩,
           ⟨some 55, .ld true 6 (.t 54), none, 0, 1, false⟩,
           ⟨some 56, .call (.c (.fn 10 0 [])) [(.t 51), (.t 55)], none, 1, 2, true⟩,
           ⟨some 57, .bin .neq (.t 50) (.t 56), none, 2, 2, false⟩,
           ⟨some 58, .mv (.t 57), none, 2, 2, false⟩,
           ⟨some 59, .mv (.t 5), some (58, false), 2, 2, false⟩,
           ⟨some 60, .call (.c (.fn 11 0 [])) [(.t 59)], some (58, false), 2, 2, false⟩,
           ⟨some 61, .mv (.t 6), some (58, false), 2, 2, false⟩,
           ⟨some 62, .nck (.t 61), some (58, false), 2, 2, false⟩,
           ⟨some 63, .fa [1, 3, 1, 1, 1, 1, 1] 6 (.t 62), some (58, false), 2, 2, false⟩,
           ⟨some 64, .ld false 1 (.t 63), some (58, false), 2, 2, false⟩,
           ⟨some 65, .eq true .bool (.t 60) (.t 64), some (58, false), 2, 2, false⟩,
           ⟨some 66, .pick (.t 58) (.c (.lit (.bool true))) (.t 65), none, 2, 2, false⟩,
           ⟨some 67, .mv (.t 66), none, 2, 2, false⟩,
           ⟨some 68, .mv (.t 5), some (67, false), 2, 2, false⟩,
           ⟨some 69, .call (.c (.fn 12 0 [])) [(.t 68)], some (67, false), 2, 2, false⟩,
           ⟨some 70, .mv (.t 6), some (67, false), 2, 2, false⟩,
           ⟨some 71, .nck (.t 70), some (67, false), 2, 2, false⟩,
           ⟨some 72, .fa [1, 3, 1, 1, 1, 1, 1] 3 (.t 71), some (67, false), 2, 2, false⟩,
           ⟨some 73, .ld false 1 (.t 72), some (67, false), 2, 2, false⟩,
           ⟨some 74, .bin .neq (.t 69) (.t 73), some (67, false), 2, 2, false⟩,
           ⟨some 75, .pick (.t 67) (.c (.lit (.bool true))) (.t 74), none, 2, 2, false⟩,
           ⟨some 76, .mv (.t 75), none, 2, 2, false⟩,
           ⟨some 77, .mv (.t 5), some (76, false), 2, 2, false⟩,
           ⟨some 78, .call (.c (.fn 14 0 [])) [(.t 77)], some (76, false), 2, 3, true⟩,
           ⟨some 79, .mv (.t 6), some (76, false), 2, 3, false⟩,
           ⟨some 80, .call (.c (.fn 15 0 [])) [(.t 79)], some (76, false), 3, 4, true⟩,
           ⟨some 81, .call (.c (.fn 13 0 [])) [(.t 78), (.t 80)], some (76, false), 4, 4, false⟩,
           ⟨some 82, .un .not (.t 81), some (76, false), 4, 4, false⟩,
           ⟨some 83, .pick (.t 76) (.c (.lit (.bool true))) (.t 82), none, 4, 4, false⟩])
        (.cond (.t 83) (.seq (.reg [⟨some 4, .mv (.c (.lit (.bool false))), none, 0, 0, false⟩])
          .ret)
        .skip))
       (.seq (.reg [⟨some 8, .mv (.c (.lit (.int .i64 0))), none, 0, 0, false⟩])
       (.jn 482 (.seq (.reg [⟨some 84, .mv (.t 6), none, 0, 0, false⟩,
           ⟨some 85, .nck (.t 84), none, 0, 0, false⟩,
           ⟨some 86, .fa [1, 3, 1, 1, 1, 1, 1] 6 (.t 85), none, 0, 0, false⟩,
           ⟨some 87, .ld false 1 (.t 86), none, 0, 0, false⟩,
           ⟨some 88, .un .not (.t 87), none, 0, 0, false⟩])
        (.cond (.t 88) (.reg [⟨some 89, .mv (.t 6), none, 0, 0, false⟩,
            ⟨some 90, .call (.c (.fn 16 0 [])) [(.t 89)], none, 0, 0, false⟩,
            ⟨some 8, .mv (.t 90), none, 0, 0, false⟩])
        .skip))
       (.seq (.reg [⟨some 92, .mv (.t 5), none, 0, 0, false⟩,
          ⟨some 93, .mv (.t 1), none, 0, 0, false⟩,
          ⟨some 94, .mv (.t 7), none, 0, 0, false⟩,
          ⟨some 95, .ia 6 (.t 93) (.t 94), none, 0, 0, false⟩,
          ⟨some 96, .fa [1, 1, 1, 1, 1, 1] 1 (.t 95), none, 0, 0, false⟩,
          ⟨some 97, .ld false 1 (.t 96), none, 0, 0, false⟩,
          ⟨some 98, .call (.c (.fn 17 0 [])) [(.t 92), (.t 97)], none, 0, 0, true⟩,
          ⟨some 91, .mv (.t 98), none, 0, 0, false⟩,
          ⟨some 99, .ext (.t 91) 0, none, 0, 0, false⟩,
          ⟨some 100, .ext (.t 91) 1, none, 0, 0, false⟩,
          ⟨some 9, .mv (.t 99), none, 0, 0, false⟩,
          ⟨some 10, .mv (.t 100), none, 0, 0, false⟩])
       (.seq (.reg [⟨some 102, .mv (.t 6), none, 0, 0, false⟩,
          ⟨some 103, .mv (.t 1), none, 0, 0, false⟩,
          ⟨some 104, .mv (.t 7), none, 0, 0, false⟩,
          ⟨some 105, .ia 6 (.t 103) (.t 104), none, 0, 0, false⟩,
          ⟨some 106, .fa [1, 1, 1, 1, 1, 1] 1 (.t 105), none, 0, 0, false⟩,
          ⟨some 107, .ld false 1 (.t 106), none, 0, 0, false⟩,
          ⟨some 108, .call (.c (.fn 18 0 [])) [(.t 102), (.t 107)], none, 0, 0, true⟩,
          ⟨some 101, .mv (.t 108), none, 0, 0, false⟩,
          ⟨some 109, .ext (.t 101) 0, none, 0, 0, false⟩,
          ⟨some 110, .ext (.t 101) 1, none, 0, 0, false⟩,
          ⟨some 11, .mv (.t 109), none, 0, 0, false⟩,
          ⟨some 12, .mv (.t 110), none, 0, 0, false⟩])
       (.seq (.reg [⟨some 111, .mv (.t 9), none, 0, 0, false⟩,
          ⟨some 112, .mv (.t 11), none, 0, 0, false⟩,
          ⟨some 113, .call (.c (.fn 19 0 [])) [(.t 111), (.t 112)], none, 0, 0, false⟩,
          ⟨some 114, .un .not (.t 113), none, 0, 0, false⟩,
          ⟨some 115, .mv (.t 114), none, 0, 0, false⟩,
          ⟨some 116, .mv (.t 10), some (115, false), 0, 0, false⟩,
          ⟨some 117, .mv (.t 12), some (115, false), 0, 0, false⟩,
          ⟨some 118, .bin .neq (.t 116) (.t 117), some (115, false), 0, 0, false⟩,
          ⟨some 119, .pick (.t 115) (.c (.lit (.bool true))) (.t 118), none, 0, 0, false⟩,
          ⟨some 120, .mv (.t 119), none, 0, 0, false⟩,
          ⟨some 121, .mv (.t 5), some (120, false), 0, 0, false⟩,
          ⟨some 122, .call (.c (.fn 20 0 [])) [(.t 121)], some (120, false), 0, 0, true⟩,
          ⟨some 123, .mv (.t 8), some (120, false), 0, 0, false⟩,
          ⟨some 124, .bin .neq (.t 122) (.t 123), some (120, false), 0, 0, false⟩,
          ⟨some 125, .pick (.t 120) (.c (.lit (.bool true))) (.t 124), none, 0, 0, false⟩])
       (.cond (.t 125) (.seq (.reg [⟨some 4, .mv (.c (.lit (.bool false))), none, 0, 0, false⟩])
         .ret)
       .skip))))))))
     (.reg [⟨some 43, .mv (.t 7), none, 0, 0, false⟩,
       ⟨some 44, .bin .add (.t 43) (.c (.lit (.int .i64 1))), none, 0, 0, false⟩,
       ⟨some 7, .mv (.t 44), none, 0, 0, false⟩]))))))
  (.seq (.reg [⟨some 126, .call (.c (.fn 6 0 [])) [], none, 0, 0, false⟩,
     ⟨some 4, .mv (.t 126), none, 0, 0, false⟩])
  .ret))))))),
  127, [.t 4], (.pure true false)⟩
/-- newsreel/newsreellaw11.DiskNil -/
def a4 : AFn := ⟨(.seq (.reg [⟨some 1, .box false (.t 0), none, 0, 0, false⟩,
     ⟨some 2, .mv (.c (.lit (.bool false))), none, 0, 0, false⟩])
  (.seq (.reg [⟨some 3, .mv (.c (.lit (.pointer none))), none, 0, 0, false⟩])
  (.seq (.seq (.reg [⟨some 4, .mv (.c (.lit (.int .i64 0))), none, 0, 0, false⟩])
   (.block 0 (.loop 26 (.seq (.seq (.reg [⟨some 8, .mv (.t 4), none, 0, 0, false⟩,
         ⟨some 9, .bin .lss (.t 8) (.c (.lit (.int .i64 2))), none, 0, 0, false⟩])
      (.cond (.t 9) .skip
      (.exit 0)))
     (.seq (.block 1 (.seq (.reg [⟨some 12, .mv (.t 3), none, 0, 0, false⟩,
          ⟨some 13, .ld true 6 (.t 1), none, 0, 0, false⟩,
          ⟨some 14, .call (.c (.fn 9 0 [])) [(.t 12), (.t 13)], none, 0, 0, true⟩,
          ⟨some 5, .mv (.t 14), none, 0, 0, false⟩])
       (.seq (.reg [⟨some 16, .mv (.t 3), none, 0, 0, false⟩,
          ⟨some 17, .fa [1, 1, 1, 1, 1, 1] 1 (.t 1), none, 0, 0, false⟩,
          ⟨some 18, .ld false 1 (.t 17), none, 0, 0, false⟩,
          ⟨some 19, .call (.c (.fn 17 0 [])) [(.t 16), (.t 18)], none, 0, 0, true⟩,
          ⟨some 15, .mv (.t 19), none, 0, 0, false⟩,
          ⟨some 20, .ext (.t 15) 0, none, 0, 0, false⟩,
          ⟨some 21, .ext (.t 15) 1, none, 0, 0, false⟩,
          ⟨some 6, .mv (.t 20), none, 0, 0, false⟩,
          ⟨some 7, .mv (.t 21), none, 0, 0, false⟩])
       (.seq (.seq (.reg [⟨some 22, .fa [1, 1, 1, 1, 1, 1] 0 (.t 1), none, 0, 0, false⟩,
           ⟨some 23, .ld false 1 (.t 22), none, 0, 0, false⟩,
           ⟨some 24, .bin .geq (.t 23) (.c (.lit (.int .i64 0))), none, 0, 0, false⟩,
           ⟨some 25, .mv (.t 24), none, 0, 0, false⟩,
           ⟨some 26, .fa [1, 1, 1, 1, 1, 1] 0 (.t 1), some (25, true), 0, 0, false⟩,
           ⟨some 27, .ld false 1 (.t 26), some (25, true), 0, 0, false⟩,
           ⟨some 28, .bin .lss (.t 27) (.c (.lit (.int .i64 6))), some (25, true), 0, 0, false⟩,
           ⟨some 29, .pick (.t 25) (.t 28) (.c (.lit (.bool false))), none, 0, 0, false⟩,
           ⟨some 30, .mv (.t 29), none, 0, 0, false⟩,
           ⟨some 31, .mv (.t 5), some (30, true), 0, 0, false⟩,
           ⟨some 32, .bin .neq (.t 31) (.c (.lit (.int .i64 10))), some (30, true), 0, 0, false⟩,
           ⟨some 33, .pick (.t 30) (.t 32) (.c (.lit (.bool false))), none, 0, 0, false⟩,
           ⟨some 34, .mv (.t 33), none, 0, 0, false⟩,
           ⟨some 35, .mv (.t 7), some (34, false), 0, 0, false⟩,
           ⟨some 36, .bin .neq (.t 35) (.c (.lit (.int .i64 10))), some (34, false), 0, 0, false⟩,
           ⟨some 37, .pick (.t 34) (.c (.lit (.bool true))) (.t 36), none, 0, 0, false⟩,
           ⟨some 38, .mv (.t 37), none, 0, 0, false⟩,
           ⟨some 39, .mv (.t 3), some (38, false), 0, 0, false⟩,
           ⟨some 40, .call (.c (.fn 14 0 [])) [(.t 39)], some (38, false), 0, 0, true⟩,
           ⟨some 41, .len false (.t 40), some (38, false), 0, 0, false⟩,
           ⟨some 42, .bin .neq (.t 41) (.c (.lit (.int .i64 0))), some (38, false), 0, 0, false⟩,
           ⟨some 43, .pick (.t 38) (.c (.lit (.bool true))) (.t 42), none, 0, 0, false⟩,
           ⟨some 44, .mv (.t 43), none, 0, 0, false⟩,
           ⟨some 45, .mv (.t 3), some (44, false), 0, 0, false⟩,
           ⟨some 46, .call (.c (.fn 20 0 [])) [(.t 45)], some (44, false), 0, 0, true⟩,
           ⟨some 47, .bin .neq (.t 46) (.c (.lit (.int .i64 0))), some (44, false), 0, 0, false⟩,
           ⟨some 48, .pick (.t 44) (.c (.lit (.bool true))) (.t 47), none, 0, 0, false⟩,
           ⟨some 49, .mv (.t 48), none, 0, 0, false⟩,
           ⟨some 50, .mv (.t 3), some (49, false), 0, 0, false⟩,
           ⟨some 51, .call (.c (.fn 12 0 [])) [(.t 50)], some (49, false), 0, 0, false⟩,
           ⟨some 52, .bin .neq (.t 51) (.c (.lit (.int .i64 0))), some (49, false), 0, 0, false⟩,
           ⟨some 53, .pick (.t 49) (.c (.lit (.bool true))) (.t 52), none, 0, 0, false⟩,
           ⟨some 54, .mv (.t 53), none, 0, 0, false⟩,
           ⟨some 55, .mv (.t 3), some (54, false), 0, 0, false⟩,
           ⟨some 56, .call (.c (.fn 11 0 [])) [(.t 55)], some (54, false), 0, 0, false⟩,
           ⟨some 57, .pick (.t 54) (.c (.lit (.bool true))) (.t 56), none, 0, 0, false⟩])
        (.cond (.t 57) (.seq (.reg [⟨some 2, .mv (.c (.lit (.bool false))), none, 0, 0, false⟩])
          .ret)
        .skip))
       (.reg [⟨some 58, .build [1, 1, 3, 1, 1, 1, 1, 1] [(.lit (.bool false)), (.lit (.int .i64 0)), (.agg [1, 1, 1] [nilD, nilD, nilD]), nilD, (.lit (.int .i64 0)), (.lit (.int .i64 0)), (.lit (.int .i64 0)), (.lit (.bool false))] [], none, 0, 0, false⟩,
         ⟨some 59, .box true (.t 58), none, 0, 0, true⟩,
         ⟨some 3, .mv (.t 59), none, 0, 0, false⟩])))))
     (.reg [⟨some 10, .mv (.t 4), none, 0, 0, false⟩,
       ⟨some 11, .bin .add (.t 10) (.c (.lit (.int .i64 1))), none, 0, 0, false⟩,
       ⟨some 4, .mv (.t 11), none, 0, 0, false⟩]))))))
  (.seq (.reg [⟨some 60, .call (.c (.fn 6 0 [])) [], none, 0, 0, false⟩,
     ⟨some 2, .mv (.t 60), none, 0, 0, false⟩])
  .ret)))),
  61, [.t 2], (.pure true false)⟩
/-- newsreel/newsreelref11.Light -/
def a5 : AFn := ⟨(.seq (.reg [⟨some 2, .mv (.c (.lit (.bool false))), none, 0, 0, false⟩])
  (.seq (.seq (.reg [⟨some 5, .mv (.t 0), none, 0, 0, false⟩,
      ⟨some 6, .len false (.t 5), none, 0, 0, false⟩,
      ⟨some 7, .bin .gtr (.t 6) (.c (.lit (.int .i64 40))), none, 0, 0, false⟩])
   (.cond (.t 7) (.seq (.reg [⟨some 2, .mv (.c (.lit (.bool false))), none, 0, 0, false⟩])
     .ret)
   .skip))
  (.seq (.seq (.reg [⟨some 3, .mv (.c (.lit (.int .i64 0))), none, 0, 0, false⟩])
   (.block 0 (.loop 9 (.seq (.seq (.reg [⟨some 8, .mv (.t 3), none, 0, 0, false⟩,
         ⟨some 9, .mv (.t 0), none, 0, 0, false⟩,
         ⟨some 10, .len false (.t 9), none, 0, 0, false⟩,
         ⟨some 11, .bin .lss (.t 8) (.t 10), none, 0, 0, false⟩])
      (.cond (.t 11) .skip
      (.exit 0)))
     (.seq (.block 1 (.seq (.reg [⟨some 14, .mv (.t 0), none, 0, 0, false⟩,
          ⟨some 15, .mv (.t 3), none, 0, 0, false⟩,
          ⟨some 16, .ia 6 (.t 14) (.t 15), none, 0, 0, false⟩,
          ⟨some 17, .ld true 6 (.t 16), none, 0, 0, false⟩,
          ⟨some 4, .box true (.c (.agg [1, 1, 1, 1, 1, 1] [(.lit (.int .i64 0)), (.lit (.string ⟨#[]⟩)), (.lit (.string ⟨#[]⟩)), (.lit (.int .i64 0)), nilD, nilD])), none, 0, 0, true⟩,
          ⟨none, .st 6 (.t 4) (.t 17), none, 0, 0, true⟩])
       (.seq (.reg [⟨some 18, .fa [1, 1, 1, 1, 1, 1] 1 (.t 4), none, 0, 0, false⟩,
          ⟨some 19, .ld false 1 (.t 18), none, 0, 0, false⟩,
          ⟨some 20, .len true (.t 19), none, 0, 0, false⟩,
          ⟨some 21, .bin .gtr (.t 20) (.c (.lit (.int .i64 60))), none, 0, 0, false⟩,
          ⟨some 22, .mv (.t 21), none, 0, 0, false⟩,
          ⟨some 23, .fa [1, 1, 1, 1, 1, 1] 2 (.t 4), some (22, false), 0, 0, false⟩,
          ⟨some 24, .ld false 1 (.t 23), some (22, false), 0, 0, false⟩,
          ⟨some 25, .len true (.t 24), some (22, false), 0, 0, false⟩,
          ⟨some 26, .bin .gtr (.t 25) (.c (.lit (.int .i64 60))), some (22, false), 0, 0, false⟩,
          ⟨some 27, .pick (.t 22) (.c (.lit (.bool true))) (.t 26), none, 0, 0, false⟩,
          ⟨some 28, .mv (.t 27), none, 0, 0, false⟩,
          ⟨some 29, .fa [1, 1, 1, 1, 1, 1] 4 (.t 4), some (28, false), 0, 0, false⟩,
          ⟨some 30, .ld false 1 (.t 29), some (28, false), 0, 0, false⟩,
          ⟨some 31, .len false (.t 30), some (28, false), 0, 0, false⟩,
          ⟨some 32, .bin .gtr (.t 31) (.c (.lit (.int .i64 200))), some (28, false), 0, 0, false⟩,
          ⟨some 33, .pick (.t 28) (.c (.lit (.bool true))) (.t 32), none, 0, 0, false⟩,
          ⟨some 34, .mv (.t 33), none, 0, 0, false⟩,
          ⟨some 35, .fa [1, 1, 1, 1, 1, 1] 0 (.t 4), some (34, false), 0, 0, false⟩,
          ⟨some 36, .ld false 1 (.t 35), some (34, false), 0, 0, false⟩,
          ⟨some 37, .bin .eql (.t 36) (.c (.lit (.int .i64 1))), some (34, false), 0, 0, false⟩,
          ⟨some 38, .mv (.t 37), some (34, false), 0, 0, false⟩,
          ⟨some 39, .fa [1, 1, 1, 1, 1, 1] 3 (.t 4), some (38, true), 0, 0, false⟩,
          ⟨some 40, .ld false 1 (.t 39), some (38, true), 0, 0, false⟩,
          ⟨some 41, .bin .gtr (.t 40) (.c (.lit (.int .i64 2000))), some (38, true), 0, 0, false⟩,
          ⟨some 42, .pick (.t 38) (.t 41) (.c (.lit (.bool false))), some (34, false), 0, 0, false⟩,
          ⟨some 43, .mv (.t 42), some (34, false), 0, 0, false⟩,
          ⟨some 44, .fa [1, 1, 1, 1, 1, 1] 3 (.t 4), some (43, true), 0, 0, false⟩,
          ⟨some 45, .ld false 1 (.t 44), some (43, true), 0, 0, false⟩,
          ⟨some 46, .bin .leq (.t 45) (.c (.lit (.int .i64 65536))), some (43, true), 0, 0, false⟩,
          ⟨some 47, .pick (.t 43) (.t 46) (.c (.lit (.bool false))), some (34, false), 0, 0, false⟩,
          ⟨some 48, .pick (.t 34) (.c (.lit (.bool true))) (.t 47), none, 0, 0, false⟩,
          ⟨some 49, .mv (.t 48), none, 0, 0, false⟩,
          ⟨some 50, .fa [1, 1, 1, 1, 1, 1] 5 (.t 4), some (49, false), 0, 0, false⟩,
          ⟨some 51, .ld false 1 (.t 50), some (49, false), 0, 0, false⟩,
          ⟨some 52, .len false (.t 51), some (49, false), 0, 0, false⟩,
          ⟨some 53, .bin .gtr (.t 52) (.c (.lit (.int .i64 200))), some (49, false), 0, 0, false⟩,
          ⟨some 54, .pick (.t 49) (.c (.lit (.bool true))) (.t 53), none, 0, 0, false⟩])
       (.cond (.t 54) (.seq (.reg [⟨some 2, .mv (.c (.lit (.bool false))), none, 0, 0, false⟩])
         .ret)
       .skip))))
     (.reg [⟨some 12, .mv (.t 3), none, 0, 0, false⟩,
       ⟨some 13, .bin .add (.t 12) (.c (.lit (.int .i64 1))), none, 0, 0, false⟩,
       ⟨some 3, .mv (.t 13), none, 0, 0, false⟩]))))))
  (.seq (.reg [⟨some 2, .mv (.c (.lit (.bool true))), none, 0, 0, false⟩])
  .ret)))),
  55, [.t 2], (.pure true false)⟩
/-- newsreel/newsreellaw11.awake -/
def a6 : AFn := ⟨(.seq (.reg [⟨some 0, .mv (.c (.lit (.bool false))), none, 0, 0, false⟩])
  (.seq (.reg [⟨some 12, .call (.c (.fn 7 0 [])) [(.c (.lit (.int .i64 100)))], none, 0, 0, true⟩,
     ⟨some 1, .mv (.t 12), none, 0, 0, false⟩])
  (.seq (.seq (.reg [⟨some 13, .mv (.t 1), none, 0, 0, false⟩,
      ⟨some 14, .eq false .ptr (.t 13) (.c (.lit (.pointer none))), none, 0, 0, false⟩])
   (.cond (.t 14) (.seq (.reg [⟨some 0, .mv (.c (.lit (.bool false))), none, 0, 0, false⟩])
     .ret)
   .skip))
  (.seq (.reg [⟨some 15, .mv (.t 1), none, 0, 0, false⟩,
     ⟨some 16, .call (.c (.fn 21 0 [])) [(.t 15), (.c (.lit (.string ⟨#[97]⟩)))], none, 0, 0, true⟩,
     ⟨some 17, .mv (.t 1), none, 0, 0, false⟩,
     ⟨some 18, .bsl false 1 [(.lit (.int .u8 0)), (.lit (.int .u8 0))] [(0, (.c (.lit (.int .u8 1)))), (1, (.c (.lit (.int .u8 2))))], none, 0, 0, false⟩,
     ⟨some 19, .call (.c (.fn 22 0 [])) [(.t 17), (.c (.lit (.string ⟨#[97]⟩))), (.c (.lit (.int .i64 0))), (.t 18)], none, 0, 0, true⟩,
     ⟨some 20, .mv (.t 1), none, 0, 0, false⟩,
     ⟨some 21, .call (.c (.fn 23 0 [])) [(.t 20), (.c (.lit (.string ⟨#[97]⟩)))], none, 0, 0, true⟩,
     ⟨some 2, .mv (.t 16), none, 0, 0, false⟩,
     ⟨some 3, .mv (.t 19), none, 0, 0, false⟩,
     ⟨some 4, .mv (.t 21), none, 0, 0, false⟩])
  (.seq (.reg [⟨some 22, .mv (.t 1), none, 0, 0, false⟩,
     ⟨some 23, .call (.c (.fn 24 0 [])) [(.t 22)], none, 0, 0, true⟩,
     ⟨some 5, .mv (.t 23), none, 0, 0, false⟩])
  (.seq (.reg [⟨some 24, .mv (.t 1), none, 0, 0, false⟩,
     ⟨some 25, .bsl false 1 [(.lit (.int .u8 0))] [(0, (.c (.lit (.int .u8 9))))], none, 0, 0, false⟩,
     ⟨some 26, .call (.c (.fn 22 0 [])) [(.t 24), (.c (.lit (.string ⟨#[97]⟩))), (.c (.lit (.int .i64 1))), (.t 25)], none, 0, 0, true⟩,
     ⟨some 6, .mv (.t 26), none, 0, 0, false⟩])
  (.seq (.reg [⟨some 27, .mv (.t 1), none, 0, 0, false⟩,
     ⟨some 28, .call (.c (.fn 25 0 [])) [(.t 27), (.c (.lit (.int .i64 1)))], none, 0, 0, true⟩])
  (.seq (.reg [⟨some 29, .mv (.t 1), none, 0, 0, false⟩,
     ⟨some 30, .bsl false 1 [(.lit (.int .u8 0))] [(0, (.c (.lit (.int .u8 7))))], none, 0, 0, false⟩,
     ⟨some 31, .call (.c (.fn 22 0 [])) [(.t 29), (.c (.lit (.string ⟨#[97]⟩))), (.c (.lit (.int .i64 0))), (.t 30)], none, 0, 0, true⟩,
     ⟨some 7, .mv (.t 31), none, 0, 0, false⟩])
  (.seq (.reg [⟨some 32, .mv (.t 1), none, 0, 0, false⟩,
     ⟨some 33, .call (.c (.fn 11 0 [])) [(.t 32)], none, 0, 0, false⟩,
     ⟨some 8, .mv (.t 33), none, 0, 0, false⟩])
  (.seq (.reg [⟨some 34, .mv (.t 1), none, 0, 0, false⟩,
     ⟨some 35, .call (.c (.fn 26 0 [])) [(.t 34), (.c nilD), (.c (.lit (.int .i64 0)))], none, 0, 0, true⟩])
  (.seq (.reg [⟨some 37, .mv (.t 1), none, 0, 0, false⟩,
     ⟨some 38, .call (.c (.fn 17 0 [])) [(.t 37), (.c (.lit (.string ⟨#[97]⟩)))], none, 0, 0, true⟩,
     ⟨some 36, .mv (.t 38), none, 0, 0, false⟩,
     ⟨some 39, .ext (.t 36) 0, none, 0, 0, false⟩,
     ⟨some 40, .ext (.t 36) 1, none, 0, 0, false⟩,
     ⟨some 9, .mv (.t 39), none, 0, 0, false⟩,
     ⟨some 10, .mv (.t 40), none, 0, 0, false⟩])
  (.seq (.reg [⟨some 41, .mv (.t 1), none, 0, 0, false⟩,
     ⟨some 42, .bsl false 1 [(.lit (.int .u8 0)), (.lit (.int .u8 0))] [(0, (.c (.lit (.int .u8 1)))), (1, (.c (.lit (.int .u8 2))))], none, 0, 0, false⟩,
     ⟨some 43, .call (.c (.fn 22 0 [])) [(.t 41), (.c (.lit (.string ⟨#[97]⟩))), (.c (.lit (.int .i64 99))), (.t 42)], none, 0, 0, true⟩,
     ⟨some 11, .mv (.t 43), none, 0, 0, false⟩])
  (.seq (.reg [⟨some 44, .mv (.t 2), none, 0, 0, false⟩,
     ⟨some 45, .bin .eql (.t 44) (.c (.lit (.int .i64 0))), none, 0, 0, false⟩,
     ⟨some 46, .mv (.t 45), none, 0, 0, false⟩,
     ⟨some 47, .mv (.t 3), some (46, true), 0, 0, false⟩,
     ⟨some 48, .bin .eql (.t 47) (.c (.lit (.int .i64 0))), some (46, true), 0, 0, false⟩,
     ⟨some 49, .pick (.t 46) (.t 48) (.c (.lit (.bool false))), none, 0, 0, false⟩,
     ⟨some 50, .mv (.t 49), none, 0, 0, false⟩,
     ⟨some 51, .mv (.t 4), some (50, true), 0, 0, false⟩,
     ⟨some 52, .bin .eql (.t 51) (.c (.lit (.int .i64 0))), some (50, true), 0, 0, false⟩,
     ⟨some 53, .pick (.t 50) (.t 52) (.c (.lit (.bool false))), none, 0, 0, false⟩,
     ⟨some 54, .mv (.t 53), none, 0, 0, false⟩,
     ⟨some 55, .mv (.t 5), some (54, true), 0, 0, false⟩,
     ⟨some 56, .bin .eql (.t 55) (.c (.lit (.int .i64 0))), some (54, true), 0, 0, false⟩,
     ⟨some 57, .pick (.t 54) (.t 56) (.c (.lit (.bool false))), none, 0, 0, false⟩,
     ⟨some 58, .mv (.t 57), none, 0, 0, false⟩,
     ⟨some 59, .mv (.t 6), some (58, true), 0, 0, false⟩,
     ⟨some 60, .bin .eql (.t 59) (.c (.lit (.int .i64 0))), some (58, true), 0, 0, false⟩,
     ⟨some 61, .pick (.t 58) (.t 60) (.c (.lit (.bool false))), none, 0, 0, false⟩,
     ⟨some 62, .mv (.t 61), none, 0, 0, false⟩,
     ⟨some 63, .mv (.t 7), some (62, true), 0, 0, false⟩,
     ⟨some 64, .bin .eql (.t 63) (.c (.lit (.int .i64 9))), some (62, true), 0, 0, false⟩,
     ⟨some 65, .pick (.t 62) (.t 64) (.c (.lit (.bool false))), none, 0, 0, false⟩,
     ⟨some 66, .mv (.t 65), none, 0, 0, false⟩,
     ⟨some 67, .mv (.t 8), some (66, true), 0, 0, false⟩,
     ⟨some 68, .pick (.t 66) (.t 67) (.c (.lit (.bool false))), none, 0, 0, false⟩,
     ⟨some 69, .mv (.t 68), none, 0, 0, false⟩,
     ⟨some 70, .mv (.t 1), some (69, true), 0, 0, false⟩,
     ⟨some 71, .call (.c (.fn 11 0 [])) [(.t 70)], some (69, true), 0, 0, false⟩,
     ⟨some 72, .un .not (.t 71), some (69, true), 0, 0, false⟩,
     ⟨some 73, .pick (.t 69) (.t 72) (.c (.lit (.bool false))), none, 0, 0, false⟩,
     ⟨some 74, .mv (.t 73), none, 0, 0, false⟩,
     ⟨some 75, .mv (.t 10), some (74, true), 0, 0, false⟩,
     ⟨some 76, .bin .eql (.t 75) (.c (.lit (.int .i64 0))), some (74, true), 0, 0, false⟩,
     ⟨some 77, .pick (.t 74) (.t 76) (.c (.lit (.bool false))), none, 0, 0, false⟩,
     ⟨some 78, .mv (.t 77), none, 0, 0, false⟩,
     ⟨some 79, .mv (.t 9), some (78, true), 0, 0, false⟩,
     ⟨some 80, .bsl false 1 [(.lit (.int .u8 0)), (.lit (.int .u8 0))] [(0, (.c (.lit (.int .u8 1)))), (1, (.c (.lit (.int .u8 2))))], some (78, true), 0, 0, false⟩,
     ⟨some 81, .call (.c (.fn 19 0 [])) [(.t 79), (.t 80)], some (78, true), 0, 0, false⟩,
     ⟨some 82, .pick (.t 78) (.t 81) (.c (.lit (.bool false))), none, 0, 0, false⟩,
     ⟨some 83, .mv (.t 82), none, 0, 0, false⟩,
     ⟨some 84, .mv (.t 11), some (83, true), 0, 0, false⟩,
     ⟨some 85, .bin .eql (.t 84) (.c (.lit (.int .i64 7))), some (83, true), 0, 0, false⟩,
     ⟨some 86, .pick (.t 83) (.t 85) (.c (.lit (.bool false))), none, 0, 0, false⟩,
     ⟨some 87, .mv (.t 86), none, 0, 0, false⟩,
     ⟨some 88, .mv (.t 1), some (87, true), 0, 0, false⟩,
     ⟨some 89, .call (.c (.fn 20 0 [])) [(.t 88)], some (87, true), 0, 0, true⟩,
     ⟨some 90, .bin .eql (.t 89) (.c (.lit (.int .i64 2))), some (87, true), 0, 0, false⟩,
     ⟨some 91, .pick (.t 87) (.t 90) (.c (.lit (.bool false))), none, 0, 0, false⟩,
     ⟨some 92, .mv (.t 91), none, 0, 0, false⟩,
     ⟨some 93, .mv (.t 1), some (92, true), 0, 0, false⟩,
     ⟨some 94, .call (.c (.fn 12 0 [])) [(.t 93)], some (92, true), 0, 0, false⟩,
     ⟨some 95, .bin .eql (.t 94) (.c (.lit (.int .i64 6))), some (92, true), 0, 0, false⟩,
     ⟨some 96, .pick (.t 92) (.t 95) (.c (.lit (.bool false))), none, 0, 0, false⟩,
     ⟨some 97, .mv (.t 96), none, 0, 0, false⟩,
     ⟨some 98, .mv (.t 1), some (97, true), 0, 0, false⟩,
     ⟨some 99, .call (.c (.fn 14 0 [])) [(.t 98)], some (97, true), 0, 0, true⟩,
     ⟨some 100, .len false (.t 99), some (97, true), 0, 0, false⟩,
     ⟨some 101, .bin .eql (.t 100) (.c (.lit (.int .i64 1))), some (97, true), 0, 0, false⟩,
     ⟨some 102, .pick (.t 97) (.t 101) (.c (.lit (.bool false))), none, 0, 0, false⟩,
     ⟨some 0, .mv (.t 102), none, 0, 0, false⟩])
  .ret))))))))))))),
  103, [.t 0], (.pure true false)⟩
/-- newsreel/disk.New -/
def a7 : AFn := ⟨(.seq (.reg [⟨some 2, .mv (.c (.lit (.pointer none))), none, 0, 0, false⟩])
  (.seq (.seq (.reg [⟨some 3, .mv (.t 0), none, 0, 0, false⟩,
      ⟨some 4, .call (.c (.fn 27 0 [])) [(.t 3)], none, 0, 0, false⟩,
      ⟨some 5, .un .not (.t 4), none, 0, 0, false⟩])
   (.cond (.t 5) (.seq (.reg [⟨some 2, .mv (.c (.lit (.pointer none))), none, 0, 0, false⟩])
     .ret)
   .skip))
  (.seq (.reg [⟨some 6, .mv (.t 0), none, 0, 0, false⟩,
     ⟨some 7, .build [1, 1, 3, 1, 1, 1, 1, 1] [(.lit (.bool false)), (.lit (.int .i64 0)), (.agg [1, 1, 1] [nilD, nilD, nilD]), nilD, (.lit (.int .i64 0)), (.lit (.int .i64 0)), (.lit (.int .i64 0)), (.lit (.bool false))] [(0, (.c (.lit (.bool true)))), (1, (.t 6))], none, 0, 0, false⟩,
     ⟨some 8, .box true (.t 7), none, 0, 0, true⟩,
     ⟨some 2, .mv (.t 8), none, 0, 0, false⟩])
  .ret))),
  9, [.t 2], .eff⟩
/-- newsreel/newsreelref01.Size -/
def a8 : AFn := ⟨(.seq (.reg [⟨some 2, .mv (.c (.lit (.bool false))), none, 0, 0, false⟩])
  (.seq (.reg [⟨some 3, .mv (.t 0), none, 0, 0, false⟩,
     ⟨some 4, .bin .geq (.t 3) (.c (.lit (.int .i64 0))), none, 0, 0, false⟩,
     ⟨some 5, .mv (.t 4), none, 0, 0, false⟩,
     ⟨some 6, .mv (.t 0), some (5, true), 0, 0, false⟩,
     ⟨some 7, .bin .leq (.t 6) (.c (.lit (.int .i64 1099511627776))), some (5, true), 0, 0, false⟩,
     ⟨some 8, .pick (.t 5) (.t 7) (.c (.lit (.bool false))), none, 0, 0, false⟩,
     ⟨some 2, .mv (.t 8), none, 0, 0, false⟩])
  .ret)),
  9, [.t 2], (.pure true false)⟩
/-- newsreel/newsreellaw11.Do -/
def a9 : AFn := ⟨(.seq (.reg [⟨some 3, .box false (.t 1), none, 0, 0, false⟩,
     ⟨some 4, .mv (.c (.lit (.int .i64 0))), none, 0, 0, false⟩])
  (.seq (.seq (.reg [⟨some 5, .fa [1, 1, 1, 1, 1, 1] 0 (.t 3), none, 0, 0, false⟩,
      ⟨some 6, .ld false 1 (.t 5), none, 0, 0, false⟩])
   (.block 0 (.seq (.reg [⟨some 8, .bin .eql (.t 6) (.c (.lit (.int .i64 0))), none, 0, 0, false⟩,
       ⟨some 7, .mv (.t 8), none, 0, 0, false⟩])
    (.cond (.t 7) (.seq (.reg [⟨some 9, .mv (.t 0), none, 0, 0, false⟩,
         ⟨some 10, .fa [1, 1, 1, 1, 1, 1] 1 (.t 3), none, 0, 0, false⟩,
         ⟨some 11, .ld false 1 (.t 10), none, 0, 0, false⟩,
         ⟨some 12, .call (.c (.fn 21 0 [])) [(.t 9), (.t 11)], none, 0, 0, true⟩,
         ⟨some 4, .mv (.t 12), none, 0, 0, false⟩])
      .ret)
    (.seq (.reg [⟨some 14, .bin .eql (.t 6) (.c (.lit (.int .i64 1))), none, 0, 0, false⟩,
         ⟨some 13, .mv (.t 14), none, 0, 0, false⟩])
      (.cond (.t 13) (.seq (.reg [⟨some 15, .mv (.t 0), none, 0, 0, false⟩,
           ⟨some 16, .fa [1, 1, 1, 1, 1, 1] 1 (.t 3), none, 0, 0, false⟩,
           ⟨some 17, .ld false 1 (.t 16), none, 0, 0, false⟩,
           ⟨some 18, .fa [1, 1, 1, 1, 1, 1] 3 (.t 3), none, 0, 0, false⟩,
           ⟨some 19, .ld false 1 (.t 18), none, 0, 0, false⟩,
           ⟨some 20, .fa [1, 1, 1, 1, 1, 1] 4 (.t 3), none, 0, 0, false⟩,
           ⟨some 21, .ld false 1 (.t 20), none, 0, 0, false⟩,
           ⟨some 22, .call (.c (.fn 22 0 [])) [(.t 15), (.t 17), (.t 19), (.t 21)], none, 0, 0, true⟩,
           ⟨some 4, .mv (.t 22), none, 0, 0, false⟩])
        .ret)
      (.seq (.reg [⟨some 24, .bin .eql (.t 6) (.c (.lit (.int .i64 2))), none, 0, 0, false⟩,
           ⟨some 23, .mv (.t 24), none, 0, 0, false⟩])
        (.cond (.t 23) (.seq (.reg [⟨some 25, .mv (.t 0), none, 0, 0, false⟩,
             ⟨some 26, .fa [1, 1, 1, 1, 1, 1] 1 (.t 3), none, 0, 0, false⟩,
             ⟨some 27, .ld false 1 (.t 26), none, 0, 0, false⟩,
             ⟨some 28, .call (.c (.fn 23 0 [])) [(.t 25), (.t 27)], none, 0, 0, true⟩,
             ⟨some 4, .mv (.t 28), none, 0, 0, false⟩])
          .ret)
        (.seq (.reg [⟨some 30, .bin .eql (.t 6) (.c (.lit (.int .i64 3))), none, 0, 0, false⟩,
             ⟨some 29, .mv (.t 30), none, 0, 0, false⟩])
          (.cond (.t 29) (.seq (.reg [⟨some 31, .mv (.t 0), none, 0, 0, false⟩,
               ⟨some 32, .call (.c (.fn 24 0 [])) [(.t 31)], none, 0, 0, true⟩,
               ⟨some 4, .mv (.t 32), none, 0, 0, false⟩])
            .ret)
          (.seq (.reg [⟨some 34, .bin .eql (.t 6) (.c (.lit (.int .i64 4))), none, 0, 0, false⟩,
               ⟨some 33, .mv (.t 34), none, 0, 0, false⟩])
            (.cond (.t 33) (.seq (.reg [⟨some 35, .mv (.t 0), none, 0, 0, false⟩,
                 ⟨some 36, .fa [1, 1, 1, 1, 1, 1] 1 (.t 3), none, 0, 0, false⟩,
                 ⟨some 37, .ld false 1 (.t 36), none, 0, 0, false⟩,
                 ⟨some 38, .fa [1, 1, 1, 1, 1, 1] 2 (.t 3), none, 0, 0, false⟩,
                 ⟨some 39, .ld false 1 (.t 38), none, 0, 0, false⟩,
                 ⟨some 40, .call (.c (.fn 28 0 [])) [(.t 35), (.t 37), (.t 39)], none, 0, 0, true⟩,
                 ⟨some 4, .mv (.t 40), none, 0, 0, false⟩])
              .ret)
            (.seq (.reg [⟨some 42, .bin .eql (.t 6) (.c (.lit (.int .i64 5))), none, 0, 0, false⟩,
                 ⟨some 41, .mv (.t 42), none, 0, 0, false⟩])
              (.cond (.t 41) (.seq (.reg [⟨some 43, .mv (.t 0), none, 0, 0, false⟩,
                   ⟨some 44, .fa [1, 1, 1, 1, 1, 1] 1 (.t 3), none, 0, 0, false⟩,
                   ⟨some 45, .ld false 1 (.t 44), none, 0, 0, false⟩,
                   ⟨some 46, .call (.c (.fn 29 0 [])) [(.t 43), (.t 45)], none, 0, 0, true⟩,
                   ⟨some 4, .mv (.t 46), none, 0, 0, false⟩])
                .ret)
              (.seq (.reg [⟨some 48, .bin .eql (.t 6) (.c (.lit (.int .i64 6))), none, 0, 0, false⟩,
                   ⟨some 47, .mv (.t 48), none, 0, 0, false⟩])
                (.cond (.t 47) (.reg [⟨some 49, .mv (.t 0), none, 0, 0, false⟩,
                    ⟨some 50, .fa [1, 1, 1, 1, 1, 1] 3 (.t 3), none, 0, 0, false⟩,
                    ⟨some 51, .ld false 1 (.t 50), none, 0, 0, false⟩,
                    ⟨some 52, .call (.c (.fn 30 0 [])) [(.t 49), (.t 51)], none, 0, 0, true⟩])
                (.seq (.reg [⟨some 54, .bin .eql (.t 6) (.c (.lit (.int .i64 7))), none, 0, 0, false⟩,
                     ⟨some 53, .mv (.t 54), none, 0, 0, false⟩])
                  (.cond (.t 53) (.reg [⟨some 55, .mv (.t 0), none, 0, 0, false⟩,
                      ⟨some 56, .fa [1, 1, 1, 1, 1, 1] 3 (.t 3), none, 0, 0, false⟩,
                      ⟨some 57, .ld false 1 (.t 56), none, 0, 0, false⟩,
                      ⟨some 58, .call (.c (.fn 25 0 [])) [(.t 55), (.t 57)], none, 0, 0, true⟩])
                  (.seq (.reg [⟨some 60, .bin .eql (.t 6) (.c (.lit (.int .i64 8))), none, 0, 0, false⟩,
                       ⟨some 59, .mv (.t 60), none, 0, 0, false⟩])
                    (.cond (.t 59) (.reg [⟨some 61, .mv (.t 0), none, 0, 0, false⟩,
                        ⟨some 62, .fa [1, 1, 1, 1, 1, 1] 5 (.t 3), none, 0, 0, false⟩,
                        ⟨some 63, .ld false 1 (.t 62), none, 0, 0, false⟩,
                        ⟨some 64, .fa [1, 1, 1, 1, 1, 1] 3 (.t 3), none, 0, 0, false⟩,
                        ⟨some 65, .ld false 1 (.t 64), none, 0, 0, false⟩,
                        ⟨some 66, .call (.c (.fn 26 0 [])) [(.t 61), (.t 63), (.t 65)], none, 0, 0, true⟩])
                    .skip))))))))))))))))))))
  (.seq (.reg [⟨some 4, .mv (.c (.lit (.int .i64 0))), none, 0, 0, false⟩])
  .ret))),
  67, [.t 4], .eff⟩
/-- newsreel/newsreelref11.Do -/
def a10 : AFn := ⟨(.seq (.reg [⟨some 3, .box false (.t 1), none, 0, 0, false⟩,
     ⟨some 4, .mv (.c (.lit (.int .i64 0))), none, 0, 0, false⟩])
  (.seq (.seq (.reg [⟨some 5, .fa [1, 1, 1, 1, 1, 1] 0 (.t 3), none, 0, 0, false⟩,
      ⟨some 6, .ld false 1 (.t 5), none, 0, 0, false⟩])
   (.block 0 (.seq (.reg [⟨some 8, .bin .eql (.t 6) (.c (.lit (.int .i64 0))), none, 0, 0, false⟩,
       ⟨some 7, .mv (.t 8), none, 0, 0, false⟩])
    (.cond (.t 7) (.seq (.reg [⟨some 9, .mv (.t 0), none, 0, 0, false⟩,
         ⟨some 10, .fa [1, 1, 1, 1, 1, 1] 1 (.t 3), none, 0, 0, false⟩,
         ⟨some 11, .ld false 1 (.t 10), none, 0, 0, false⟩,
         ⟨some 12, .build [1, 1, 1, 1] [(.lit (.int .i64 0)), (.lit (.string ⟨#[]⟩)), (.lit (.string ⟨#[]⟩)), (.lit (.int .i64 0))] [(0, (.c (.lit (.int .i64 1)))), (1, (.t 11))], none, 0, 0, false⟩,
         ⟨some 13, .call (.c (.fn 31 0 [])) [(.t 9), (.t 12)], none, 0, 0, true⟩,
         ⟨some 4, .mv (.t 13), none, 0, 0, false⟩])
      .ret)
    (.seq (.reg [⟨some 15, .bin .eql (.t 6) (.c (.lit (.int .i64 1))), none, 0, 0, false⟩,
         ⟨some 14, .mv (.t 15), none, 0, 0, false⟩])
      (.cond (.t 14) (.seq (.reg [⟨some 16, .mv (.t 0), none, 0, 0, false⟩,
           ⟨some 17, .fa [1, 1, 1, 1, 1, 1] 1 (.t 3), none, 0, 0, false⟩,
           ⟨some 18, .ld false 1 (.t 17), none, 0, 0, false⟩,
           ⟨some 19, .fa [1, 1, 1, 1, 1, 1] 3 (.t 3), none, 0, 0, false⟩,
           ⟨some 20, .ld false 1 (.t 19), none, 0, 0, false⟩,
           ⟨some 21, .fa [1, 1, 1, 1, 1, 1] 4 (.t 3), none, 0, 0, false⟩,
           ⟨some 22, .ld false 1 (.t 21), none, 0, 0, false⟩,
           ⟨some 23, .call (.c (.fn 32 0 [])) [(.t 16), (.t 18), (.t 20), (.t 22)], none, 0, 0, true⟩,
           ⟨some 4, .mv (.t 23), none, 0, 0, false⟩])
        .ret)
      (.seq (.reg [⟨some 25, .bin .eql (.t 6) (.c (.lit (.int .i64 2))), none, 0, 0, false⟩,
           ⟨some 24, .mv (.t 25), none, 0, 0, false⟩])
        (.cond (.t 24) (.seq (.reg [⟨some 26, .mv (.t 0), none, 0, 0, false⟩,
             ⟨some 27, .fa [1, 1, 1, 1, 1, 1] 1 (.t 3), none, 0, 0, false⟩,
             ⟨some 28, .ld false 1 (.t 27), none, 0, 0, false⟩,
             ⟨some 29, .call (.c (.fn 33 0 [])) [(.t 26), (.t 28)], none, 0, 0, true⟩,
             ⟨some 4, .mv (.t 29), none, 0, 0, false⟩])
          .ret)
        (.seq (.reg [⟨some 31, .bin .eql (.t 6) (.c (.lit (.int .i64 3))), none, 0, 0, false⟩,
             ⟨some 30, .mv (.t 31), none, 0, 0, false⟩])
          (.cond (.t 30) (.seq (.reg [⟨some 32, .mv (.t 0), none, 0, 0, false⟩,
               ⟨some 33, .call (.c (.fn 34 0 [])) [(.t 32)], none, 0, 0, true⟩,
               ⟨some 4, .mv (.t 33), none, 0, 0, false⟩])
            .ret)
          (.seq (.reg [⟨some 35, .bin .eql (.t 6) (.c (.lit (.int .i64 4))), none, 0, 0, false⟩,
               ⟨some 34, .mv (.t 35), none, 0, 0, false⟩])
            (.cond (.t 34) (.seq (.reg [⟨some 36, .mv (.t 0), none, 0, 0, false⟩,
                 ⟨some 37, .fa [1, 1, 1, 1, 1, 1] 1 (.t 3), none, 0, 0, false⟩,
                 ⟨some 38, .ld false 1 (.t 37), none, 0, 0, false⟩,
                 ⟨some 39, .fa [1, 1, 1, 1, 1, 1] 2 (.t 3), none, 0, 0, false⟩,
                 ⟨some 40, .ld false 1 (.t 39), none, 0, 0, false⟩,
                 ⟨some 41, .build [1, 1, 1, 1] [(.lit (.int .i64 0)), (.lit (.string ⟨#[]⟩)), (.lit (.string ⟨#[]⟩)), (.lit (.int .i64 0))] [(0, (.c (.lit (.int .i64 2)))), (1, (.t 38)), (2, (.t 40))], none, 0, 0, false⟩,
                 ⟨some 42, .call (.c (.fn 31 0 [])) [(.t 36), (.t 41)], none, 0, 0, true⟩,
                 ⟨some 4, .mv (.t 42), none, 0, 0, false⟩])
              .ret)
            (.seq (.reg [⟨some 44, .bin .eql (.t 6) (.c (.lit (.int .i64 5))), none, 0, 0, false⟩,
                 ⟨some 43, .mv (.t 44), none, 0, 0, false⟩])
              (.cond (.t 43) (.seq (.reg [⟨some 45, .mv (.t 0), none, 0, 0, false⟩,
                   ⟨some 46, .fa [1, 1, 1, 1, 1, 1] 1 (.t 3), none, 0, 0, false⟩,
                   ⟨some 47, .ld false 1 (.t 46), none, 0, 0, false⟩,
                   ⟨some 48, .build [1, 1, 1, 1] [(.lit (.int .i64 0)), (.lit (.string ⟨#[]⟩)), (.lit (.string ⟨#[]⟩)), (.lit (.int .i64 0))] [(0, (.c (.lit (.int .i64 3)))), (1, (.t 47))], none, 0, 0, false⟩,
                   ⟨some 49, .call (.c (.fn 31 0 [])) [(.t 45), (.t 48)], none, 0, 0, true⟩,
                   ⟨some 4, .mv (.t 49), none, 0, 0, false⟩])
                .ret)
              (.seq (.reg [⟨some 51, .bin .eql (.t 6) (.c (.lit (.int .i64 6))), none, 0, 0, false⟩,
                   ⟨some 50, .mv (.t 51), none, 0, 0, false⟩])
                (.cond (.t 50) (.reg [⟨some 52, .mv (.t 0), none, 0, 0, false⟩,
                    ⟨some 53, .fa [1, 1, 1, 1, 1, 1] 3 (.t 3), none, 0, 0, false⟩,
                    ⟨some 54, .ld false 1 (.t 53), none, 0, 0, false⟩,
                    ⟨some 55, .mm true [(.t 54), (.c (.lit (.int .i64 0)))], none, 0, 0, false⟩,
                    ⟨some 56, .nck (.t 52), none, 0, 0, false⟩,
                    ⟨some 57, .fa [1, 3, 1, 1, 1, 1, 1] 4 (.t 56), none, 0, 0, false⟩,
                    ⟨none, .st 1 (.t 57) (.t 55), none, 0, 0, true⟩])
                (.seq (.reg [⟨some 59, .bin .eql (.t 6) (.c (.lit (.int .i64 7))), none, 0, 0, false⟩,
                     ⟨some 58, .mv (.t 59), none, 0, 0, false⟩])
                  (.cond (.t 58) (.reg [⟨some 60, .mv (.t 0), none, 0, 0, false⟩,
                      ⟨some 61, .fa [1, 1, 1, 1, 1, 1] 3 (.t 3), none, 0, 0, false⟩,
                      ⟨some 62, .ld false 1 (.t 61), none, 0, 0, false⟩,
                      ⟨some 63, .mm true [(.t 62), (.c (.lit (.int .i64 0)))], none, 0, 0, false⟩,
                      ⟨some 64, .nck (.t 60), none, 0, 0, false⟩,
                      ⟨some 65, .fa [1, 3, 1, 1, 1, 1, 1] 5 (.t 64), none, 0, 0, false⟩,
                      ⟨none, .st 1 (.t 65) (.t 63), none, 0, 0, true⟩])
                  (.seq (.reg [⟨some 67, .bin .eql (.t 6) (.c (.lit (.int .i64 8))), none, 0, 0, false⟩,
                       ⟨some 66, .mv (.t 67), none, 0, 0, false⟩])
                    (.cond (.t 66) (.reg [⟨some 68, .mv (.t 0), none, 0, 0, false⟩,
                        ⟨some 69, .fa [1, 1, 1, 1, 1, 1] 5 (.t 3), none, 0, 0, false⟩,
                        ⟨some 70, .ld false 1 (.t 69), none, 0, 0, false⟩,
                        ⟨some 71, .fa [1, 1, 1, 1, 1, 1] 3 (.t 3), none, 0, 0, false⟩,
                        ⟨some 72, .ld false 1 (.t 71), none, 0, 0, false⟩,
                        ⟨some 73, .call (.c (.fn 35 0 [])) [(.t 68), (.t 70), (.t 72)], none, 0, 0, true⟩])
                    .skip))))))))))))))))))))
  (.seq (.reg [⟨some 4, .mv (.c (.lit (.int .i64 0))), none, 0, 0, false⟩])
  .ret))),
  74, [.t 4], .eff⟩
/-- (*newsreel/disk.Disk).Down -/
def a11 : AFn := ⟨(.seq (.reg [⟨some 2, .mv (.c (.lit (.bool false))), none, 0, 0, false⟩])
  (.seq (.reg [⟨some 3, .mv (.t 0), none, 0, 0, false⟩,
     ⟨some 4, .call (.c (.fn 36 0 [])) [(.t 3)], none, 0, 0, false⟩,
     ⟨some 5, .mv (.t 4), none, 0, 0, false⟩,
     ⟨some 6, .mv (.t 0), some (5, true), 0, 0, false⟩,
     ⟨some 7, .nck (.t 6), some (5, true), 0, 0, false⟩,
     ⟨some 8, .fa [1, 1, 3, 1, 1, 1, 1, 1] 7 (.t 7), some (5, true), 0, 0, false⟩,
     ⟨some 9, .ld false 1 (.t 8), some (5, true), 0, 0, false⟩,
     ⟨some 10, .pick (.t 5) (.t 9) (.c (.lit (.bool false))), none, 0, 0, false⟩,
     ⟨some 2, .mv (.t 10), none, 0, 0, false⟩])
  .ret)),
  11, [.t 2], (.pure true false)⟩
/-- (*newsreel/disk.Disk).Ops -/
def a12 : AFn := ⟨(.seq (.reg [⟨some 2, .mv (.c (.lit (.int .i64 0))), none, 0, 0, false⟩])
  (.seq (.seq (.reg [⟨some 3, .mv (.t 0), none, 0, 0, false⟩,
      ⟨some 4, .call (.c (.fn 36 0 [])) [(.t 3)], none, 0, 0, false⟩,
      ⟨some 5, .un .not (.t 4), none, 0, 0, false⟩])
   (.cond (.t 5) (.seq (.reg [⟨some 2, .mv (.c (.lit (.int .i64 0))), none, 0, 0, false⟩])
     .ret)
   .skip))
  (.seq (.reg [⟨some 6, .mv (.t 0), none, 0, 0, false⟩,
     ⟨some 7, .nck (.t 6), none, 0, 0, false⟩,
     ⟨some 8, .fa [1, 1, 3, 1, 1, 1, 1, 1] 4 (.t 7), none, 0, 0, false⟩,
     ⟨some 9, .ld false 1 (.t 8), none, 0, 0, false⟩,
     ⟨some 2, .mv (.t 9), none, 0, 0, false⟩])
  .ret))),
  10, [.t 2], (.pure true false)⟩
/-- newsreel/newsreelref01.Texts -/
def a13 : AFn := ⟨(.seq (.reg [⟨some 4, .mv (.c (.lit (.bool false))), none, 0, 0, false⟩])
  (.seq (.seq (.reg [⟨some 6, .mv (.t 0), none, 0, 0, false⟩,
      ⟨some 7, .len false (.t 6), none, 0, 0, false⟩,
      ⟨some 8, .mv (.t 1), none, 0, 0, false⟩,
      ⟨some 9, .len false (.t 8), none, 0, 0, false⟩,
      ⟨some 10, .bin .neq (.t 7) (.t 9), none, 0, 0, false⟩])
   (.cond (.t 10) (.seq (.reg [⟨some 4, .mv (.c (.lit (.bool false))), none, 0, 0, false⟩])
     .ret)
   .skip))
  (.seq (.seq (.reg [⟨some 5, .mv (.c (.lit (.int .i64 0))), none, 0, 0, false⟩])
   (.block 0 (.loop 35 (.seq (.seq (.reg [⟨some 11, .mv (.t 5), none, 0, 0, false⟩,
         ⟨some 12, .mv (.t 0), none, 0, 0, false⟩,
         ⟨some 13, .len false (.t 12), none, 0, 0, false⟩,
         ⟨some 14, .bin .lss (.t 11) (.t 13), none, 0, 0, false⟩])
      (.cond (.t 14) .skip
      (.exit 0)))
     (.seq (.block 1 (.seq (.draw []
         [⟨some 17, .mv (.t 0), none, 0, 0, false⟩,
          ⟨some 18, .mv (.t 5), none, 0, 0, false⟩,
          ⟨some 19, .ia 1 (.t 17) (.t 18), none, 0, 0, false⟩,
          ⟨some 20, .ld false 1 (.t 19), none, 0, 0, false⟩,
          ⟨some 21, .mv (.t 1), none, 0, 0, false⟩,
          ⟨some 22, .mv (.t 5), none, 0, 0, false⟩,
          ⟨some 23, .ia 1 (.t 21) (.t 22), none, 0, 0, false⟩,
          ⟨some 24, .ld false 1 (.t 23), none, 0, 0, false⟩,
          ⟨some 25, .bin .neq (.t 20) (.t 24), none, 0, 0, false⟩])
       (.cond (.t 25) (.seq (.reg [⟨some 4, .mv (.c (.lit (.bool false))), none, 0, 0, false⟩])
         .ret)
       .skip)))
     (.reg [⟨some 15, .mv (.t 5), none, 0, 0, false⟩,
       ⟨some 16, .bin .add (.t 15) (.c (.lit (.int .i64 1))), none, 0, 0, false⟩,
       ⟨some 5, .mv (.t 16), none, 0, 0, false⟩]))))))
  (.seq (.reg [⟨some 4, .mv (.c (.lit (.bool true))), none, 0, 0, false⟩])
  .ret)))),
  26, [.t 4], (.pure true false)⟩
/-- (*newsreel/disk.Disk).List -/
def a14 : AFn := ⟨(.seq (.reg [⟨some 2, .mv (.c nilD), none, 0, 0, false⟩])
  (.seq (.seq (.reg [⟨some 6, .mv (.t 0), none, 0, 0, false⟩,
      ⟨some 7, .call (.c (.fn 37 0 [])) [(.t 6), (.c (.lit (.bool false)))], none, 0, 0, true⟩,
      ⟨some 8, .bin .neq (.t 7) (.c (.lit (.int .i64 0))), none, 0, 0, false⟩])
   (.cond (.t 8) (.seq (.reg [⟨some 2, .mv (.c nilD), none, 0, 0, false⟩])
     .ret)
   .skip))
  (.seq (.reg [⟨some 3, .mv (.c nilD), none, 0, 0, false⟩])
  (.seq (.seq (.reg [⟨some 9, .mv (.t 0), none, 0, 0, false⟩,
      ⟨some 10, .nck (.t 9), none, 0, 0, false⟩,
      ⟨some 11, .fa [1, 1, 3, 1, 1, 1, 1, 1] 2 (.t 10), none, 0, 0, false⟩,
      ⟨some 12, .fa [1, 1, 1] 0 (.t 11), none, 0, 0, false⟩,
      ⟨some 13, .ld false 1 (.t 12), none, 0, 0, false⟩,
      ⟨some 14, .len false (.t 13), none, 0, 0, false⟩,
      ⟨some 15, .mv (.c (.lit (.int .i64 0))), none, 0, 0, false⟩])
   (.block 0 (.loop 57352 (.seq (.reg [⟨some 16, .bin .lss (.t 15) (.t 14), none, 0, 0, false⟩])
     (.seq (.cond (.t 16) .skip
      (.exit 0))
     (.seq (.block 1 (.seq (.reg [⟨some 17, .ia 2 (.t 13) (.t 15), none, 0, 0, false⟩,
          ⟨some 18, .ld true 2 (.t 17), none, 0, 0, false⟩,
          ⟨some 5, .box true (.c (.agg [1, 1] [(.lit (.string ⟨#[]⟩)), (.lit (.int .i64 0))])), none, 0, 0, true⟩,
          ⟨none, .st 2 (.t 5) (.t 18), none, 0, 0, true⟩])
       (.reg [⟨some 19, .mv (.t 3), none, 0, 0, false⟩,
         ⟨some 20, .fa [1, 1] 0 (.t 5), none, 0, 0, false⟩,
         ⟨some 21, .ld false 1 (.t 20), none, 0, 0, false⟩,
         ⟨some 22, .bsl false 1 [(.lit (.string ⟨#[]⟩))] [(0, (.t 21))], none, 0, 0, false⟩,
         ⟨some 23, .app 1 8796093022208 (.t 19) (.t 22), none, 0, 0, true⟩,
         ⟨some 3, .mv (.t 23), none, 0, 0, false⟩])))
     (.reg [⟨some 24, .bin .add (.t 15) (.c (.lit (.int .i64 1))), none, 0, 0, false⟩,
       ⟨some 15, .mv (.t 24), none, 0, 0, false⟩])))))))
  (.seq (.reg [⟨some 25, .mv (.t 3), none, 0, 0, false⟩,
     ⟨some 2, .mv (.t 25), none, 0, 0, false⟩])
  .ret))))),
  26, [.t 2], .eff⟩
/-- (*newsreel/newsreelref11.Disk).List -/
def a15 : AFn := ⟨(.seq (.reg [⟨some 2, .mv (.c nilD), none, 0, 0, false⟩])
  (.seq (.reg [⟨some 5, .bsl true 1 [] [], none, 0, 0, true⟩,
     ⟨some 3, .mv (.t 5), none, 0, 0, false⟩])
  (.seq (.seq (.reg [⟨some 4, .mv (.c (.lit (.int .i64 0))), none, 0, 0, false⟩])
   (.block 0 (.loop 25 (.seq (.seq (.reg [⟨some 6, .mv (.t 4), none, 0, 0, false⟩,
         ⟨some 7, .mv (.t 0), none, 0, 0, false⟩,
         ⟨some 8, .nck (.t 7), none, 0, 0, false⟩,
         ⟨some 9, .fa [1, 3, 1, 1, 1, 1, 1] 1 (.t 8), none, 0, 0, false⟩,
         ⟨some 10, .fa [1, 1, 1] 0 (.t 9), none, 0, 0, false⟩,
         ⟨some 11, .ld false 1 (.t 10), none, 0, 0, false⟩,
         ⟨some 12, .len false (.t 11), none, 0, 0, false⟩,
         ⟨some 13, .bin .lss (.t 6) (.t 12), none, 0, 0, false⟩,
         ⟨some 14, .mv (.t 13), none, 0, 0, false⟩,
         ⟨some 15, .mv (.t 0), some (14, true), 0, 0, false⟩,
         ⟨some 16, .nck (.t 15), some (14, true), 0, 0, false⟩,
         ⟨some 17, .fa [1, 3, 1, 1, 1, 1, 1] 6 (.t 16), some (14, true), 0, 0, false⟩,
         ⟨some 18, .ld false 1 (.t 17), some (14, true), 0, 0, false⟩,
         ⟨some 19, .un .not (.t 18), some (14, true), 0, 0, false⟩,
         ⟨some 20, .pick (.t 14) (.t 19) (.c (.lit (.bool false))), none, 0, 0, false⟩])
      (.cond (.t 20) .skip
      (.exit 0)))
     (.seq (.block 1 (.reg [⟨some 23, .mv (.t 3), none, 0, 0, false⟩,
         ⟨some 24, .mv (.t 0), none, 0, 0, false⟩,
         ⟨some 25, .nck (.t 24), none, 0, 0, false⟩,
         ⟨some 26, .fa [1, 3, 1, 1, 1, 1, 1] 1 (.t 25), none, 0, 0, false⟩,
         ⟨some 27, .fa [1, 1, 1] 0 (.t 26), none, 0, 0, false⟩,
         ⟨some 28, .ld false 1 (.t 27), none, 0, 0, false⟩,
         ⟨some 29, .mv (.t 4), none, 0, 0, false⟩,
         ⟨some 30, .ia 2 (.t 28) (.t 29), none, 0, 0, false⟩,
         ⟨some 31, .fa [1, 1] 0 (.t 30), none, 0, 0, false⟩,
         ⟨some 32, .ld false 1 (.t 31), none, 0, 0, false⟩,
         ⟨some 33, .bsl false 1 [(.lit (.string ⟨#[]⟩))] [(0, (.t 32))], none, 0, 0, false⟩,
         ⟨some 34, .app 1 8796093022208 (.t 23) (.t 33), none, 0, 0, true⟩,
         ⟨some 3, .mv (.t 34), none, 0, 0, false⟩]))
     (.reg [⟨some 21, .mv (.t 4), none, 0, 0, false⟩,
       ⟨some 22, .bin .add (.t 21) (.c (.lit (.int .i64 1))), none, 0, 0, false⟩,
       ⟨some 4, .mv (.t 22), none, 0, 0, false⟩]))))))
  (.seq (.reg [⟨some 35, .mv (.t 3), none, 0, 0, false⟩,
     ⟨some 2, .mv (.t 35), none, 0, 0, false⟩])
  .ret)))),
  36, [.t 2], .eff⟩
/-- (*newsreel/newsreelref11.Disk).Used -/
def a16 : AFn := ⟨(.seq (.reg [⟨some 2, .mv (.c (.lit (.int .i64 0))), none, 0, 0, false⟩])
  (.seq (.reg [⟨some 3, .mv (.c (.lit (.int .i64 0))), none, 0, 0, false⟩])
  (.seq (.seq (.reg [⟨some 4, .mv (.c (.lit (.int .i64 0))), none, 0, 0, false⟩])
   (.block 0 (.loop 25 (.seq (.seq (.reg [⟨some 5, .mv (.t 4), none, 0, 0, false⟩,
         ⟨some 6, .mv (.t 0), none, 0, 0, false⟩,
         ⟨some 7, .nck (.t 6), none, 0, 0, false⟩,
         ⟨some 8, .fa [1, 3, 1, 1, 1, 1, 1] 1 (.t 7), none, 0, 0, false⟩,
         ⟨some 9, .fa [1, 1, 1] 0 (.t 8), none, 0, 0, false⟩,
         ⟨some 10, .ld false 1 (.t 9), none, 0, 0, false⟩,
         ⟨some 11, .len false (.t 10), none, 0, 0, false⟩,
         ⟨some 12, .bin .lss (.t 5) (.t 11), none, 0, 0, false⟩])
      (.cond (.t 12) .skip
      (.exit 0)))
     (.seq (.block 1 (.draw []
        [⟨some 15, .mv (.t 3), none, 0, 0, false⟩,
         ⟨some 16, .mv (.t 0), none, 0, 0, false⟩,
         ⟨some 17, .nck (.t 16), none, 0, 0, false⟩,
         ⟨some 18, .fa [1, 3, 1, 1, 1, 1, 1] 2 (.t 17), none, 0, 0, false⟩,
         ⟨some 19, .ld false 1 (.t 18), none, 0, 0, false⟩,
         ⟨some 20, .mv (.t 0), none, 0, 0, false⟩,
         ⟨some 21, .nck (.t 20), none, 0, 0, false⟩,
         ⟨some 22, .fa [1, 3, 1, 1, 1, 1, 1] 1 (.t 21), none, 0, 0, false⟩,
         ⟨some 23, .fa [1, 1, 1] 0 (.t 22), none, 0, 0, false⟩,
         ⟨some 24, .ld false 1 (.t 23), none, 0, 0, false⟩,
         ⟨some 25, .mv (.t 4), none, 0, 0, false⟩,
         ⟨some 26, .ia 2 (.t 24) (.t 25), none, 0, 0, false⟩,
         ⟨some 27, .fa [1, 1] 1 (.t 26), none, 0, 0, false⟩,
         ⟨some 28, .ld false 1 (.t 27), none, 0, 0, false⟩,
         ⟨some 29, .bin .sub (.t 28) (.c (.lit (.int .i64 1))), none, 0, 0, false⟩,
         ⟨some 30, .ia 3 (.t 19) (.t 29), none, 0, 0, false⟩,
         ⟨some 31, .fa [1, 1, 1] 0 (.t 30), none, 0, 0, false⟩,
         ⟨some 32, .ld false 1 (.t 31), none, 0, 0, false⟩,
         ⟨some 33, .len false (.t 32), none, 0, 0, false⟩,
         ⟨some 34, .bin .add (.t 15) (.t 33), none, 0, 0, false⟩,
         ⟨some 3, .mv (.t 34), none, 0, 0, false⟩]))
     (.reg [⟨some 13, .mv (.t 4), none, 0, 0, false⟩,
       ⟨some 14, .bin .add (.t 13) (.c (.lit (.int .i64 1))), none, 0, 0, false⟩,
       ⟨some 4, .mv (.t 14), none, 0, 0, false⟩]))))))
  (.seq (.reg [⟨some 35, .mv (.t 3), none, 0, 0, false⟩,
     ⟨some 2, .mv (.t 35), none, 0, 0, false⟩])
  .ret)))),
  36, [.t 2], (.pure true false)⟩
/-- (*newsreel/disk.Disk).Read -/
def a17 : AFn := ⟨(.seq (.reg [⟨some 4, .mv (.c nilD), none, 0, 0, false⟩,
     ⟨some 5, .mv (.c (.lit (.int .i64 0))), none, 0, 0, false⟩])
  (.seq (.seq (.reg [⟨some 9, .mv (.t 0), none, 0, 0, false⟩,
      ⟨some 10, .call (.c (.fn 37 0 [])) [(.t 9), (.c (.lit (.bool false)))], none, 0, 0, true⟩,
      ⟨some 6, .mv (.t 10), none, 0, 0, false⟩])
   (.seq (.reg [⟨some 11, .mv (.t 6), none, 0, 0, false⟩,
      ⟨some 12, .bin .neq (.t 11) (.c (.lit (.int .i64 0))), none, 0, 0, false⟩])
   (.cond (.t 12) (.seq (.reg [⟨some 13, .mv (.t 6), none, 0, 0, false⟩,
        ⟨some 4, .mv (.c nilD), none, 0, 0, false⟩,
        ⟨some 5, .mv (.t 13), none, 0, 0, false⟩])
     .ret)
   .skip)))
  (.seq (.reg [⟨some 15, .mv (.t 0), none, 0, 0, false⟩,
     ⟨some 16, .mv (.t 1), none, 0, 0, false⟩,
     ⟨some 17, .call (.c (.fn 38 0 [])) [(.t 15), (.t 16)], none, 0, 0, false⟩,
     ⟨some 14, .mv (.t 17), none, 0, 0, false⟩,
     ⟨some 18, .ext (.t 14) 0, none, 0, 0, false⟩,
     ⟨some 19, .ext (.t 14) 1, none, 0, 0, false⟩,
     ⟨some 7, .mv (.t 18), none, 0, 0, false⟩,
     ⟨some 8, .mv (.t 19), none, 0, 0, false⟩])
  (.seq (.seq (.reg [⟨some 20, .mv (.t 8), none, 0, 0, false⟩,
      ⟨some 21, .bin .neq (.t 20) (.c (.lit (.int .i64 0))), none, 0, 0, false⟩])
   (.cond (.t 21) (.seq (.reg [⟨some 22, .mv (.t 8), none, 0, 0, false⟩,
        ⟨some 4, .mv (.c nilD), none, 0, 0, false⟩,
        ⟨some 5, .mv (.t 22), none, 0, 0, false⟩])
     .ret)
   .skip))
  (.seq (.reg [⟨some 23, .mv (.t 0), none, 0, 0, false⟩,
     ⟨some 24, .nck (.t 23), none, 0, 0, false⟩,
     ⟨some 25, .fa [1, 1, 3, 1, 1, 1, 1, 1] 3 (.t 24), none, 0, 0, false⟩,
     ⟨some 26, .ld false 1 (.t 25), none, 0, 0, false⟩,
     ⟨some 27, .mv (.t 7), none, 0, 0, false⟩,
     ⟨some 28, .ia 3 (.t 26) (.t 27), none, 0, 0, false⟩,
     ⟨some 29, .fa [1, 1, 1] 0 (.t 28), none, 0, 0, false⟩,
     ⟨some 30, .ld false 1 (.t 29), none, 0, 0, false⟩,
     ⟨some 31, .call (.c (.fn 39 0 [])) [(.t 30)], none, 0, 0, true⟩,
     ⟨some 4, .mv (.t 31), none, 0, 0, false⟩,
     ⟨some 5, .mv (.c (.lit (.int .i64 0))), none, 0, 0, false⟩])
  .ret))))),
  32, [.t 4, .t 5], .eff⟩
/-- (*newsreel/newsreelref11.Disk).Read -/
def a18 : AFn := ⟨(.seq (.reg [⟨some 4, .mv (.c nilD), none, 0, 0, false⟩,
     ⟨some 5, .mv (.c (.lit (.int .i64 0))), none, 0, 0, false⟩])
  (.seq (.seq (.reg [⟨some 7, .mv (.t 0), none, 0, 0, false⟩,
      ⟨some 8, .nck (.t 7), none, 0, 0, false⟩,
      ⟨some 9, .fa [1, 3, 1, 1, 1, 1, 1] 6 (.t 8), none, 0, 0, false⟩,
      ⟨some 10, .ld false 1 (.t 9), none, 0, 0, false⟩])
   (.cond (.t 10) (.seq (.reg [⟨some 4, .mv (.c nilD), none, 0, 0, false⟩,
        ⟨some 5, .mv (.c (.lit (.int .i64 9))), none, 0, 0, false⟩])
     .ret)
   .skip))
  (.seq (.reg [⟨some 11, .mv (.t 0), none, 0, 0, false⟩,
     ⟨some 12, .nck (.t 11), none, 0, 0, false⟩,
     ⟨some 13, .fa [1, 3, 1, 1, 1, 1, 1] 1 (.t 12), none, 0, 0, false⟩,
     ⟨some 14, .fa [1, 1, 1] 0 (.t 13), none, 0, 0, false⟩,
     ⟨some 15, .ld false 1 (.t 14), none, 0, 0, false⟩,
     ⟨some 16, .mv (.t 1), none, 0, 0, false⟩,
     ⟨some 17, .call (.c (.fn 40 0 [])) [(.t 15), (.t 16)], none, 0, 0, false⟩,
     ⟨some 6, .mv (.t 17), none, 0, 0, false⟩])
  (.seq (.seq (.reg [⟨some 18, .mv (.t 6), none, 0, 0, false⟩,
      ⟨some 19, .bin .lss (.t 18) (.c (.lit (.int .i64 0))), none, 0, 0, false⟩])
   (.cond (.t 19) (.seq (.reg [⟨some 4, .mv (.c nilD), none, 0, 0, false⟩,
        ⟨some 5, .mv (.c (.lit (.int .i64 5))), none, 0, 0, false⟩])
     .ret)
   .skip))
  (.seq (.draw []
    [⟨some 20, .mv (.t 0), none, 0, 0, false⟩,
     ⟨some 21, .nck (.t 20), none, 0, 0, false⟩,
     ⟨some 22, .fa [1, 3, 1, 1, 1, 1, 1] 2 (.t 21), none, 0, 0, false⟩,
     ⟨some 23, .ld false 1 (.t 22), none, 0, 0, false⟩,
     ⟨some 24, .mv (.t 0), none, 0, 0, false⟩,
     ⟨some 25, .nck (.t 24), none, 0, 0, false⟩,
     ⟨some 26, .fa [1, 3, 1, 1, 1, 1, 1] 1 (.t 25), none, 0, 0, false⟩,
     ⟨some 27, .fa [1, 1, 1] 0 (.t 26), none, 0, 0, false⟩,
     ⟨some 28, .ld false 1 (.t 27), none, 0, 0, false⟩,
     ⟨some 29, .mv (.t 6), none, 0, 0, false⟩,
     ⟨some 30, .ia 2 (.t 28) (.t 29), none, 0, 0, false⟩,
     ⟨some 31, .fa [1, 1] 1 (.t 30), none, 0, 0, false⟩,
     ⟨some 32, .ld false 1 (.t 31), none, 0, 0, false⟩,
     ⟨some 33, .bin .sub (.t 32) (.c (.lit (.int .i64 1))), none, 0, 0, false⟩,
     ⟨some 34, .ia 3 (.t 23) (.t 33), none, 0, 0, false⟩,
     ⟨some 35, .fa [1, 1, 1] 0 (.t 34), none, 0, 0, false⟩,
     ⟨some 36, .ld false 1 (.t 35), none, 0, 0, false⟩,
     ⟨some 4, .mv (.t 36), none, 0, 0, false⟩,
     ⟨some 5, .mv (.c (.lit (.int .i64 0))), none, 0, 0, false⟩])
  .ret))))),
  37, [.t 4, .t 5], .eff⟩
/-- newsreel/newsreelref01.Bytes -/
def a19 : AFn := ⟨(.seq (.reg [⟨some 4, .mv (.c (.lit (.bool false))), none, 0, 0, false⟩])
  (.seq (.reg [⟨some 5, .mv (.t 0), none, 0, 0, false⟩,
     ⟨some 6, .b2s (.t 5), none, 0, 0, false⟩,
     ⟨some 7, .mv (.t 1), none, 0, 0, false⟩,
     ⟨some 8, .b2s (.t 7), none, 0, 0, false⟩,
     ⟨some 9, .bin .eql (.t 6) (.t 8), none, 0, 0, false⟩,
     ⟨some 4, .mv (.t 9), none, 0, 0, false⟩])
  .ret)),
  10, [.t 4], (.pure true false)⟩
/-- (*newsreel/disk.Disk).Used -/
def a20 : AFn := ⟨(.seq (.reg [⟨some 2, .mv (.c (.lit (.int .i64 0))), none, 0, 0, false⟩])
  (.seq (.seq (.reg [⟨some 6, .mv (.t 0), none, 0, 0, false⟩,
      ⟨some 7, .call (.c (.fn 37 0 [])) [(.t 6), (.c (.lit (.bool false)))], none, 0, 0, true⟩,
      ⟨some 8, .bin .neq (.t 7) (.c (.lit (.int .i64 0))), none, 0, 0, false⟩])
   (.cond (.t 8) (.seq (.reg [⟨some 2, .mv (.c (.lit (.int .i64 0))), none, 0, 0, false⟩])
     .ret)
   .skip))
  (.seq (.reg [⟨some 3, .mv (.c (.lit (.int .i64 0))), none, 0, 0, false⟩])
  (.seq (.seq (.reg [⟨some 9, .mv (.t 0), none, 0, 0, false⟩,
      ⟨some 10, .nck (.t 9), none, 0, 0, false⟩,
      ⟨some 11, .fa [1, 1, 3, 1, 1, 1, 1, 1] 2 (.t 10), none, 0, 0, false⟩,
      ⟨some 12, .fa [1, 1, 1] 0 (.t 11), none, 0, 0, false⟩,
      ⟨some 13, .ld false 1 (.t 12), none, 0, 0, false⟩,
      ⟨some 14, .len false (.t 13), none, 0, 0, false⟩,
      ⟨some 15, .mv (.c (.lit (.int .i64 0))), none, 0, 0, false⟩])
   (.block 0 (.loop 57353 (.seq (.reg [⟨some 16, .bin .lss (.t 15) (.t 14), none, 0, 0, false⟩])
     (.seq (.cond (.t 16) .skip
      (.exit 0))
     (.seq (.block 1 (.seq (.reg [⟨some 17, .ia 2 (.t 13) (.t 15), none, 0, 0, false⟩,
          ⟨some 18, .ld true 2 (.t 17), none, 0, 0, false⟩,
          ⟨some 5, .box true (.c (.agg [1, 1] [(.lit (.string ⟨#[]⟩)), (.lit (.int .i64 0))])), none, 0, 0, true⟩,
          ⟨none, .st 2 (.t 5) (.t 18), none, 0, 0, true⟩])
       (.draw []
        [⟨some 19, .mv (.t 3), none, 0, 0, false⟩,
         ⟨some 20, .mv (.t 0), none, 0, 0, false⟩,
         ⟨some 21, .nck (.t 20), none, 0, 0, false⟩,
         ⟨some 22, .fa [1, 1, 3, 1, 1, 1, 1, 1] 3 (.t 21), none, 0, 0, false⟩,
         ⟨some 23, .ld false 1 (.t 22), none, 0, 0, false⟩,
         ⟨some 24, .fa [1, 1] 1 (.t 5), none, 0, 0, false⟩,
         ⟨some 25, .ld false 1 (.t 24), none, 0, 0, false⟩,
         ⟨some 26, .bin .sub (.t 25) (.c (.lit (.int .i64 1))), none, 0, 0, false⟩,
         ⟨some 27, .ia 3 (.t 23) (.t 26), none, 0, 0, false⟩,
         ⟨some 28, .fa [1, 1, 1] 0 (.t 27), none, 0, 0, false⟩,
         ⟨some 29, .ld false 1 (.t 28), none, 0, 0, false⟩,
         ⟨some 30, .len false (.t 29), none, 0, 0, false⟩,
         ⟨some 31, .bin .add (.t 19) (.t 30), none, 0, 0, false⟩,
         ⟨some 3, .mv (.t 31), none, 0, 0, false⟩])))
     (.reg [⟨some 32, .bin .add (.t 15) (.c (.lit (.int .i64 1))), none, 0, 0, false⟩,
       ⟨some 15, .mv (.t 32), none, 0, 0, false⟩])))))))
  (.seq (.reg [⟨some 33, .mv (.t 3), none, 0, 0, false⟩,
     ⟨some 2, .mv (.t 33), none, 0, 0, false⟩])
  .ret))))),
  34, [.t 2], .eff⟩
/-- (*newsreel/disk.Disk).Create -/
def a21 : AFn := ⟨(.seq (.reg [⟨some 4, .mv (.c (.lit (.int .i64 0))), none, 0, 0, false⟩])
  (.seq (.reg [⟨some 5, .mv (.c (.lit (.int .i64 1))), none, 0, 0, false⟩])
  (.jn 35 (.seq (.reg [⟨some 7, .mv (.t 0), none, 0, 0, false⟩,
      ⟨some 8, .call (.c (.fn 36 0 [])) [(.t 7)], none, 0, 0, false⟩])
   (.cond (.t 8) (.reg [⟨some 9, .mv (.t 0), none, 0, 0, false⟩,
       ⟨some 10, .nck (.t 9), none, 0, 0, false⟩,
       ⟨some 11, .fa [1, 1, 3, 1, 1, 1, 1, 1] 3 (.t 10), none, 0, 0, false⟩,
       ⟨some 12, .ld false 1 (.t 11), none, 0, 0, false⟩,
       ⟨some 13, .len false (.t 12), none, 0, 0, false⟩,
       ⟨some 14, .bin .add (.t 13) (.c (.lit (.int .i64 1))), none, 0, 0, false⟩,
       ⟨some 5, .mv (.t 14), none, 0, 0, false⟩])
   .skip))
  (.seq (.reg [⟨some 15, .mv (.t 0), none, 0, 0, false⟩,
     ⟨some 16, .mv (.t 1), none, 0, 0, false⟩,
     ⟨some 17, .mv (.t 5), none, 0, 0, false⟩,
     ⟨some 18, .build [1, 1, 1, 1] [(.lit (.int .i64 0)), (.lit (.string ⟨#[]⟩)), (.lit (.string ⟨#[]⟩)), (.lit (.int .i64 0))] [(0, (.c (.lit (.int .i64 1)))), (1, (.t 16)), (3, (.t 17))], none, 0, 0, false⟩,
     ⟨some 19, .call (.c (.fn 41 0 [])) [(.t 15), (.t 18)], none, 0, 0, true⟩,
     ⟨some 6, .mv (.t 19), none, 0, 0, false⟩])
  (.seq (.seq (.reg [⟨some 20, .mv (.t 6), none, 0, 0, false⟩,
      ⟨some 21, .bin .eql (.t 20) (.c (.lit (.int .i64 0))), none, 0, 0, false⟩])
   (.cond (.t 21) (.reg [⟨some 22, .mv (.t 0), none, 0, 0, false⟩,
       ⟨some 23, .mv (.t 0), none, 0, 0, false⟩,
       ⟨some 24, .nck (.t 23), none, 0, 0, false⟩,
       ⟨some 25, .fa [1, 1, 3, 1, 1, 1, 1, 1] 3 (.t 24), none, 0, 0, false⟩,
       ⟨some 26, .ld false 1 (.t 25), none, 0, 0, false⟩,
       ⟨some 27, .build [1, 1, 1] [nilD, nilD, nilD] [], none, 0, 0, false⟩,
       ⟨some 28, .bsl false 3 [(.agg [1, 1, 1] [nilD, nilD, nilD])] [(0, (.t 27))], none, 0, 0, false⟩,
       ⟨some 29, .app 3 1954687338268 (.t 26) (.t 28), none, 0, 0, true⟩,
       ⟨some 30, .nck (.t 22), none, 0, 0, false⟩,
       ⟨some 31, .fa [1, 1, 3, 1, 1, 1, 1, 1] 3 (.t 30), none, 0, 0, false⟩,
       ⟨none, .st 1 (.t 31) (.t 29), none, 0, 0, true⟩])
   .skip))
  (.seq (.reg [⟨some 32, .mv (.t 6), none, 0, 0, false⟩,
     ⟨some 4, .mv (.t 32), none, 0, 0, false⟩])
  .ret)))))),
  33, [.t 4], .eff⟩
/-- (*newsreel/disk.Disk).Write -/
def a22 : AFn := ⟨(.seq (.reg [⟨some 8, .mv (.c (.lit (.int .i64 0))), none, 0, 0, false⟩])
  (.seq (.seq (.reg [⟨some 16, .mv (.t 0), none, 0, 0, false⟩,
      ⟨some 17, .call (.c (.fn 37 0 [])) [(.t 16), (.c (.lit (.bool true)))], none, 0, 0, true⟩,
      ⟨some 9, .mv (.t 17), none, 0, 0, false⟩])
   (.seq (.reg [⟨some 18, .mv (.t 9), none, 0, 0, false⟩,
      ⟨some 19, .bin .neq (.t 18) (.c (.lit (.int .i64 0))), none, 0, 0, false⟩])
   (.cond (.t 19) (.seq (.reg [⟨some 20, .mv (.t 9), none, 0, 0, false⟩,
        ⟨some 8, .mv (.t 20), none, 0, 0, false⟩])
     .ret)
   .skip)))
  (.seq (.reg [⟨some 22, .mv (.t 0), none, 0, 0, false⟩,
     ⟨some 23, .mv (.t 1), none, 0, 0, false⟩,
     ⟨some 24, .call (.c (.fn 38 0 [])) [(.t 22), (.t 23)], none, 0, 0, false⟩,
     ⟨some 21, .mv (.t 24), none, 0, 0, false⟩,
     ⟨some 25, .ext (.t 21) 0, none, 0, 0, false⟩,
     ⟨some 26, .ext (.t 21) 1, none, 0, 0, false⟩,
     ⟨some 10, .mv (.t 25), none, 0, 0, false⟩,
     ⟨some 11, .mv (.t 26), none, 0, 0, false⟩])
  (.seq (.seq (.reg [⟨some 27, .mv (.t 11), none, 0, 0, false⟩,
      ⟨some 28, .bin .neq (.t 27) (.c (.lit (.int .i64 0))), none, 0, 0, false⟩])
   (.cond (.t 28) (.seq (.reg [⟨some 29, .mv (.t 11), none, 0, 0, false⟩,
        ⟨some 8, .mv (.t 29), none, 0, 0, false⟩])
     .ret)
   .skip))
  (.seq (.reg [⟨some 31, .mv (.t 2), none, 0, 0, false⟩,
     ⟨some 32, .mv (.t 3), none, 0, 0, false⟩,
     ⟨some 33, .call (.c (.fn 42 0 [])) [(.t 31), (.t 32)], none, 0, 0, true⟩,
     ⟨some 30, .mv (.t 33), none, 0, 0, false⟩,
     ⟨some 34, .ext (.t 30) 0, none, 0, 0, false⟩,
     ⟨some 35, .ext (.t 30) 1, none, 0, 0, false⟩,
     ⟨some 12, .mv (.t 34), none, 0, 0, false⟩,
     ⟨some 11, .mv (.t 35), none, 0, 0, false⟩])
  (.seq (.seq (.reg [⟨some 36, .mv (.t 11), none, 0, 0, false⟩,
      ⟨some 37, .bin .neq (.t 36) (.c (.lit (.int .i64 0))), none, 0, 0, false⟩])
   (.cond (.t 37) (.seq (.reg [⟨some 38, .mv (.t 11), none, 0, 0, false⟩,
        ⟨some 8, .mv (.t 38), none, 0, 0, false⟩])
     .ret)
   .skip))
  (.seq (.seq (.reg [⟨some 39, .mv (.t 0), none, 0, 0, false⟩,
      ⟨some 40, .nck (.t 39), none, 0, 0, false⟩,
      ⟨some 41, .fa [1, 1, 3, 1, 1, 1, 1, 1] 3 (.t 40), none, 0, 0, false⟩,
      ⟨some 42, .ld false 1 (.t 41), none, 0, 0, false⟩,
      ⟨some 43, .mv (.t 10), none, 0, 0, false⟩,
      ⟨some 44, .ia 3 (.t 42) (.t 43), none, 0, 0, false⟩,
      ⟨some 45, .fa [1, 1, 1] 0 (.t 44), none, 0, 0, false⟩,
      ⟨some 46, .ld false 1 (.t 45), none, 0, 0, false⟩,
      ⟨some 47, .mv (.t 12), none, 0, 0, false⟩,
      ⟨some 48, .call (.c (.fn 43 0 [])) [(.t 46), (.t 47)], none, 0, 0, false⟩,
      ⟨some 13, .mv (.t 48), none, 0, 0, false⟩])
   (.seq (.draw []
     [⟨some 49, .mv (.t 13), none, 0, 1, false⟩,
      ⟨some 50, .mv (.t 0), none, 0, 1, false⟩,
      ⟨some 51, .nck (.t 50), none, 0, 1, false⟩,
      ⟨some 52, .fa [1, 1, 3, 1, 1, 1, 1, 1] 1 (.t 51), none, 0, 1, false⟩,
      ⟨some 53, .ld false 1 (.t 52), none, 0, 1, false⟩,
      ⟨some 54, .mv (.t 0), none, 0, 0, false⟩,
      ⟨some 55, .call (.c (.fn 20 0 [])) [(.t 54)], none, 0, 1, true⟩,
      ⟨some 56, .bin .sub (.t 53) (.t 55), none, 1, 1, false⟩,
      ⟨some 57, .bin .gtr (.t 49) (.t 56), none, 1, 1, false⟩])
   (.cond (.t 57) (.seq (.reg [⟨some 8, .mv (.c (.lit (.int .i64 7))), none, 0, 0, false⟩])
     .ret)
   .skip)))
  (.seq (.seq (.reg [⟨some 58, .mv (.t 0), none, 0, 0, false⟩,
      ⟨some 59, .call (.c (.fn 44 0 [])) [(.t 58)], none, 0, 0, true⟩,
      ⟨some 14, .mv (.t 59), none, 0, 0, false⟩])
   (.seq (.reg [⟨some 60, .mv (.t 14), none, 0, 0, false⟩,
      ⟨some 61, .bin .neq (.t 60) (.c (.lit (.int .i64 0))), none, 0, 0, false⟩])
   (.cond (.t 61) (.seq (.reg [⟨some 62, .mv (.t 14), none, 0, 0, false⟩,
        ⟨some 8, .mv (.t 62), none, 0, 0, false⟩])
     .ret)
   .skip)))
  (.seq (.reg [⟨some 63, .mv (.t 0), none, 0, 0, false⟩,
     ⟨some 64, .nck (.t 63), none, 0, 0, false⟩,
     ⟨some 65, .fa [1, 1, 3, 1, 1, 1, 1, 1] 3 (.t 64), none, 0, 0, false⟩,
     ⟨some 66, .ld false 1 (.t 65), none, 0, 0, false⟩,
     ⟨some 67, .mv (.t 10), none, 0, 0, false⟩,
     ⟨some 68, .ia 3 (.t 66) (.t 67), none, 0, 0, false⟩,
     ⟨some 69, .ld true 3 (.t 68), none, 0, 0, false⟩,
     ⟨some 15, .box true (.c (.agg [1, 1, 1] [nilD, nilD, nilD])), none, 0, 0, true⟩,
     ⟨none, .st 3 (.t 15) (.t 69), none, 0, 0, true⟩])
  (.seq (.draw []
    [⟨some 70, .mv (.t 0), none, 0, 2, false⟩,
     ⟨some 71, .nck (.t 70), none, 0, 2, false⟩,
     ⟨some 72, .fa [1, 1, 3, 1, 1, 1, 1, 1] 3 (.t 71), none, 0, 2, false⟩,
     ⟨some 73, .ld false 1 (.t 72), none, 0, 2, false⟩,
     ⟨some 74, .mv (.t 10), none, 0, 2, false⟩,
     ⟨some 75, .fa [1, 1, 1] 0 (.t 15), none, 0, 0, false⟩,
     ⟨some 76, .ld false 1 (.t 75), none, 0, 0, false⟩,
     ⟨some 77, .mv (.t 12), none, 0, 0, false⟩,
     ⟨some 78, .call (.c (.fn 45 0 [])) [(.t 76), (.t 77)], none, 0, 1, true⟩,
     ⟨some 79, .fa [1, 1, 1] 1 (.t 15), none, 0, 2, false⟩,
     ⟨some 80, .ld false 1 (.t 79), none, 0, 2, false⟩,
     ⟨some 81, .fa [1, 1, 1] 2 (.t 15), none, 0, 1, false⟩,
     ⟨some 82, .ld false 1 (.t 81), none, 0, 1, false⟩,
     ⟨some 83, .fa [1, 1, 1] 2 (.t 15), none, 0, 1, false⟩,
     ⟨some 84, .ld false 1 (.t 83), none, 0, 1, false⟩,
     ⟨some 85, .len false (.t 84), none, 0, 1, false⟩,
     ⟨some 86, .fa [1, 1, 1] 2 (.t 15), none, 0, 1, false⟩,
     ⟨some 87, .ld false 1 (.t 86), none, 0, 1, false⟩,
     ⟨some 88, .len false (.t 87), none, 0, 1, false⟩,
     ⟨some 89, .slc 2 (.t 82) none (some (.t 85)) (some (.t 88)), none, 0, 1, false⟩,
     ⟨some 90, .mv (.t 12), none, 0, 1, false⟩,
     ⟨some 91, .app 2 4398046511104 (.t 89) (.t 90), none, 1, 2, true⟩,
     ⟨some 92, .build [1, 1, 1] [nilD, nilD, nilD] [(0, (.t 78)), (1, (.t 80)), (2, (.t 91))], none, 2, 2, false⟩,
     ⟨some 93, .ia 3 (.t 73) (.t 74), none, 2, 2, false⟩,
     ⟨none, .st 3 (.t 93) (.t 92), none, 2, 3, true⟩])
  (.seq (.reg [⟨some 8, .mv (.c (.lit (.int .i64 0))), none, 0, 0, false⟩])
  .ret))))))))))),
  94, [.t 8], .eff⟩
/-- (*newsreel/disk.Disk).Sync -/
def a23 : AFn := ⟨(.seq (.reg [⟨some 4, .mv (.c (.lit (.int .i64 0))), none, 0, 0, false⟩])
  (.seq (.seq (.reg [⟨some 9, .mv (.t 0), none, 0, 0, false⟩,
      ⟨some 10, .call (.c (.fn 37 0 [])) [(.t 9), (.c (.lit (.bool true)))], none, 0, 0, true⟩,
      ⟨some 5, .mv (.t 10), none, 0, 0, false⟩])
   (.seq (.reg [⟨some 11, .mv (.t 5), none, 0, 0, false⟩,
      ⟨some 12, .bin .neq (.t 11) (.c (.lit (.int .i64 0))), none, 0, 0, false⟩])
   (.cond (.t 12) (.seq (.reg [⟨some 13, .mv (.t 5), none, 0, 0, false⟩,
        ⟨some 4, .mv (.t 13), none, 0, 0, false⟩])
     .ret)
   .skip)))
  (.seq (.reg [⟨some 15, .mv (.t 0), none, 0, 0, false⟩,
     ⟨some 16, .mv (.t 1), none, 0, 0, false⟩,
     ⟨some 17, .call (.c (.fn 38 0 [])) [(.t 15), (.t 16)], none, 0, 0, false⟩,
     ⟨some 14, .mv (.t 17), none, 0, 0, false⟩,
     ⟨some 18, .ext (.t 14) 0, none, 0, 0, false⟩,
     ⟨some 19, .ext (.t 14) 1, none, 0, 0, false⟩,
     ⟨some 6, .mv (.t 18), none, 0, 0, false⟩,
     ⟨some 7, .mv (.t 19), none, 0, 0, false⟩])
  (.seq (.seq (.reg [⟨some 20, .mv (.t 7), none, 0, 0, false⟩,
      ⟨some 21, .bin .neq (.t 20) (.c (.lit (.int .i64 0))), none, 0, 0, false⟩])
   (.cond (.t 21) (.seq (.reg [⟨some 22, .mv (.t 7), none, 0, 0, false⟩,
        ⟨some 4, .mv (.t 22), none, 0, 0, false⟩])
     .ret)
   .skip))
  (.seq (.seq (.reg [⟨some 23, .mv (.t 0), none, 0, 0, false⟩,
      ⟨some 24, .call (.c (.fn 44 0 [])) [(.t 23)], none, 0, 0, true⟩,
      ⟨some 8, .mv (.t 24), none, 0, 0, false⟩])
   (.seq (.reg [⟨some 25, .mv (.t 8), none, 0, 0, false⟩,
      ⟨some 26, .bin .neq (.t 25) (.c (.lit (.int .i64 0))), none, 0, 0, false⟩])
   (.cond (.t 26) (.seq (.reg [⟨some 27, .mv (.t 8), none, 0, 0, false⟩,
        ⟨some 4, .mv (.t 27), none, 0, 0, false⟩])
     .ret)
   .skip)))
  (.seq (.draw []
    [⟨some 28, .mv (.t 0), none, 0, 1, false⟩,
     ⟨some 29, .nck (.t 28), none, 0, 1, false⟩,
     ⟨some 30, .fa [1, 1, 3, 1, 1, 1, 1, 1] 3 (.t 29), none, 0, 1, false⟩,
     ⟨some 31, .ld false 1 (.t 30), none, 0, 1, false⟩,
     ⟨some 32, .mv (.t 6), none, 0, 1, false⟩,
     ⟨some 33, .mv (.t 0), none, 0, 0, false⟩,
     ⟨some 34, .nck (.t 33), none, 0, 0, false⟩,
     ⟨some 35, .fa [1, 1, 3, 1, 1, 1, 1, 1] 3 (.t 34), none, 0, 0, false⟩,
     ⟨some 36, .ld false 1 (.t 35), none, 0, 0, false⟩,
     ⟨some 37, .mv (.t 6), none, 0, 0, false⟩,
     ⟨some 38, .ia 3 (.t 36) (.t 37), none, 0, 0, false⟩,
     ⟨some 39, .ld true 3 (.t 38), none, 0, 0, false⟩,
     ⟨some 40, .call (.c (.fn 46 0 [])) [(.t 39)], none, 0, 1, true⟩,
     ⟨some 41, .ia 3 (.t 31) (.t 32), none, 1, 1, false⟩,
     ⟨none, .st 3 (.t 41) (.t 40), none, 1, 2, true⟩])
  (.seq (.reg [⟨some 4, .mv (.c (.lit (.int .i64 0))), none, 0, 0, false⟩])
  .ret))))))),
  42, [.t 4], .eff⟩
/-- (*newsreel/disk.Disk).SyncDir -/
def a24 : AFn := ⟨(.seq (.reg [⟨some 2, .mv (.c (.lit (.int .i64 0))), none, 0, 0, false⟩])
  (.seq (.seq (.reg [⟨some 5, .mv (.t 0), none, 0, 0, false⟩,
      ⟨some 6, .call (.c (.fn 37 0 [])) [(.t 5), (.c (.lit (.bool true)))], none, 0, 0, true⟩,
      ⟨some 3, .mv (.t 6), none, 0, 0, false⟩])
   (.seq (.reg [⟨some 7, .mv (.t 3), none, 0, 0, false⟩,
      ⟨some 8, .bin .neq (.t 7) (.c (.lit (.int .i64 0))), none, 0, 0, false⟩])
   (.cond (.t 8) (.seq (.reg [⟨some 9, .mv (.t 3), none, 0, 0, false⟩,
        ⟨some 2, .mv (.t 9), none, 0, 0, false⟩])
     .ret)
   .skip)))
  (.seq (.seq (.reg [⟨some 10, .mv (.t 0), none, 0, 0, false⟩,
      ⟨some 11, .call (.c (.fn 44 0 [])) [(.t 10)], none, 0, 0, true⟩,
      ⟨some 4, .mv (.t 11), none, 0, 0, false⟩])
   (.seq (.reg [⟨some 12, .mv (.t 4), none, 0, 0, false⟩,
      ⟨some 13, .bin .neq (.t 12) (.c (.lit (.int .i64 0))), none, 0, 0, false⟩])
   (.cond (.t 13) (.seq (.reg [⟨some 14, .mv (.t 4), none, 0, 0, false⟩,
        ⟨some 2, .mv (.t 14), none, 0, 0, false⟩])
     .ret)
   .skip)))
  (.seq (.reg [⟨some 15, .mv (.t 0), none, 0, 0, false⟩,
     ⟨some 16, .mv (.t 0), none, 0, 0, false⟩,
     ⟨some 17, .nck (.t 16), none, 0, 0, false⟩,
     ⟨some 18, .fa [1, 1, 3, 1, 1, 1, 1, 1] 2 (.t 17), none, 0, 0, false⟩,
     ⟨some 19, .ld true 3 (.t 18), none, 0, 0, false⟩,
     ⟨some 20, .call (.c (.fn 47 0 [])) [(.t 19)], none, 0, 0, true⟩,
     ⟨some 21, .nck (.t 15), none, 0, 0, false⟩,
     ⟨some 22, .fa [1, 1, 3, 1, 1, 1, 1, 1] 2 (.t 21), none, 0, 0, false⟩,
     ⟨none, .st 3 (.t 22) (.t 20), none, 0, 0, true⟩])
  (.seq (.reg [⟨some 2, .mv (.c (.lit (.int .i64 0))), none, 0, 0, false⟩])
  .ret))))),
  23, [.t 2], .eff⟩
/-- (*newsreel/disk.Disk).Stop -/
def a25 : AFn := ⟨(.seq (.reg [⟨some 4, .mv (.t 0), none, 0, 0, false⟩,
     ⟨some 5, .call (.c (.fn 36 0 [])) [(.t 4)], none, 0, 0, false⟩])
  (.cond (.t 5) (.reg [⟨some 6, .mv (.t 0), none, 0, 0, false⟩,
      ⟨some 7, .mv (.t 1), none, 0, 0, false⟩,
      ⟨some 8, .mm true [(.t 7), (.c (.lit (.int .i64 0)))], none, 0, 0, false⟩,
      ⟨some 9, .nck (.t 6), none, 0, 0, false⟩,
      ⟨some 10, .fa [1, 1, 3, 1, 1, 1, 1, 1] 6 (.t 9), none, 0, 0, false⟩,
      ⟨none, .st 1 (.t 10) (.t 8), none, 0, 0, true⟩])
  .skip)),
  11, [], .eff⟩
/-- (*newsreel/disk.Disk).Reboot -/
def a26 : AFn := ⟨(.seq (.seq (.reg [⟨some 12, .mv (.t 0), none, 0, 0, false⟩,
      ⟨some 13, .call (.c (.fn 36 0 [])) [(.t 12)], none, 0, 0, false⟩,
      ⟨some 14, .un .not (.t 13), none, 0, 0, false⟩])
   (.cond (.t 14) .ret
   .skip))
  (.seq (.reg [⟨some 15, .mv (.t 0), none, 0, 0, false⟩,
     ⟨some 16, .mv (.t 0), none, 0, 0, false⟩,
     ⟨some 17, .nck (.t 16), none, 0, 0, false⟩,
     ⟨some 18, .fa [1, 1, 3, 1, 1, 1, 1, 1] 2 (.t 17), none, 0, 0, false⟩,
     ⟨some 19, .ld true 3 (.t 18), none, 0, 0, false⟩,
     ⟨some 20, .mv (.t 2), none, 0, 0, false⟩,
     ⟨some 21, .call (.c (.fn 48 0 [])) [(.t 19), (.t 20)], none, 0, 0, true⟩,
     ⟨some 22, .nck (.t 15), none, 0, 0, false⟩,
     ⟨some 23, .fa [1, 1, 3, 1, 1, 1, 1, 1] 2 (.t 22), none, 0, 0, false⟩,
     ⟨none, .st 3 (.t 23) (.t 21), none, 0, 0, true⟩])
  (.seq (.reg [⟨some 24, .mv (.t 0), none, 0, 0, false⟩,
     ⟨some 25, .nck (.t 24), none, 0, 0, false⟩,
     ⟨some 26, .fa [1, 1, 3, 1, 1, 1, 1, 1] 3 (.t 25), none, 0, 0, false⟩,
     ⟨some 27, .ld false 1 (.t 26), none, 0, 0, false⟩,
     ⟨some 28, .len false (.t 27), none, 0, 0, false⟩,
     ⟨some 29, .msl true 1 140737488355328 (.lit (.bool false)) (.t 28) (.t 28), none, 0, 0, true⟩,
     ⟨some 6, .mv (.t 29), none, 0, 0, false⟩])
  (.seq (.seq (.reg [⟨some 30, .mv (.t 0), none, 0, 0, false⟩,
      ⟨some 31, .nck (.t 30), none, 0, 0, false⟩,
      ⟨some 32, .fa [1, 1, 3, 1, 1, 1, 1, 1] 2 (.t 31), none, 0, 0, false⟩,
      ⟨some 33, .fa [1, 1, 1] 0 (.t 32), none, 0, 0, false⟩,
      ⟨some 34, .ld false 1 (.t 33), none, 0, 0, false⟩,
      ⟨some 35, .len false (.t 34), none, 0, 0, false⟩,
      ⟨some 36, .mv (.c (.lit (.int .i64 0))), none, 0, 0, false⟩])
   (.block 0 (.loop 120259084355 (.seq (.reg [⟨some 37, .bin .lss (.t 36) (.t 35), none, 0, 0, false⟩])
     (.seq (.cond (.t 37) .skip
      (.exit 0))
     (.seq (.block 1 (.seq (.reg [⟨some 38, .ia 2 (.t 34) (.t 36), none, 0, 0, false⟩,
          ⟨some 39, .ld true 2 (.t 38), none, 0, 0, false⟩,
          ⟨some 8, .box true (.c (.agg [1, 1] [(.lit (.string ⟨#[]⟩)), (.lit (.int .i64 0))])), none, 0, 0, true⟩,
          ⟨none, .st 2 (.t 8) (.t 39), none, 0, 0, true⟩])
       (.reg [⟨some 40, .mv (.t 6), none, 0, 0, false⟩,
         ⟨some 41, .fa [1, 1] 1 (.t 8), none, 0, 0, false⟩,
         ⟨some 42, .ld false 1 (.t 41), none, 0, 0, false⟩,
         ⟨some 43, .bin .sub (.t 42) (.c (.lit (.int .i64 1))), none, 0, 0, false⟩,
         ⟨some 44, .ia 1 (.t 40) (.t 43), none, 0, 0, false⟩,
         ⟨none, .st 1 (.t 44) (.c (.lit (.bool true))), none, 0, 0, true⟩])))
     (.reg [⟨some 45, .bin .add (.t 36) (.c (.lit (.int .i64 1))), none, 0, 0, false⟩,
       ⟨some 36, .mv (.t 45), none, 0, 0, false⟩])))))))
  (.seq (.seq (.reg [⟨some 46, .mv (.t 0), none, 0, 0, false⟩,
      ⟨some 47, .nck (.t 46), none, 0, 0, false⟩,
      ⟨some 48, .fa [1, 1, 3, 1, 1, 1, 1, 1] 3 (.t 47), none, 0, 0, false⟩,
      ⟨some 49, .ld false 1 (.t 48), none, 0, 0, false⟩,
      ⟨some 50, .len false (.t 49), none, 0, 0, false⟩,
      ⟨some 51, .mv (.c (.lit (.int .i64 0))), none, 0, 0, false⟩])
   (.block 2 (.loop 3377699720527939 (.seq (.reg [⟨some 52, .bin .lss (.t 51) (.t 50), none, 0, 0, false⟩])
     (.seq (.cond (.t 52) .skip
      (.exit 2))
     (.seq (.block 3 (.seq (.reg [⟨some 53, .mv (.t 51), none, 0, 0, false⟩,
          ⟨some 9, .mv (.t 53), none, 0, 0, false⟩])
       (.seq (.seq (.reg [⟨some 54, .mv (.t 6), none, 0, 0, false⟩,
           ⟨some 55, .mv (.t 9), none, 0, 0, false⟩,
           ⟨some 56, .ia 1 (.t 54) (.t 55), none, 0, 0, false⟩,
           ⟨some 57, .ld false 1 (.t 56), none, 0, 0, false⟩,
           ⟨some 58, .un .not (.t 57), none, 0, 0, false⟩])
        (.cond (.t 58) (.seq (.reg [⟨some 59, .mv (.t 0), none, 0, 0, false⟩,
             ⟨some 60, .nck (.t 59), none, 0, 0, false⟩,
             ⟨some 61, .fa [1, 1, 3, 1, 1, 1, 1, 1] 3 (.t 60), none, 0, 0, false⟩,
             ⟨some 62, .ld false 1 (.t 61), none, 0, 0, false⟩,
             ⟨some 63, .mv (.t 9), none, 0, 0, false⟩,
             ⟨some 64, .build [1, 1, 1] [nilD, nilD, nilD] [], none, 0, 0, false⟩,
             ⟨some 65, .ia 3 (.t 62) (.t 63), none, 0, 0, false⟩,
             ⟨none, .st 3 (.t 65) (.t 64), none, 0, 0, true⟩])
          (.exit 3))
        .skip))
       (.seq (.reg [⟨some 67, .mv (.t 0), none, 0, 0, false⟩,
          ⟨some 68, .nck (.t 67), none, 0, 0, false⟩,
          ⟨some 69, .fa [1, 1, 3, 1, 1, 1, 1, 1] 3 (.t 68), none, 0, 0, false⟩,
          ⟨some 70, .ld false 1 (.t 69), none, 0, 0, false⟩,
          ⟨some 71, .mv (.t 9), none, 0, 0, false⟩,
          ⟨some 72, .ia 3 (.t 70) (.t 71), none, 0, 0, false⟩,
          ⟨some 73, .ld true 3 (.t 72), none, 0, 0, false⟩,
          ⟨some 74, .mv (.t 1), none, 0, 0, false⟩,
          ⟨some 75, .call (.c (.fn 49 0 [])) [(.t 73), (.t 74)], none, 0, 0, true⟩,
          ⟨some 66, .mv (.t 75), none, 0, 0, false⟩,
          ⟨some 76, .ext (.t 66) 0, none, 0, 0, false⟩,
          ⟨some 77, .ext (.t 66) 1, none, 0, 0, false⟩,
          ⟨some 10, .box true (.c (.agg [1, 1, 1] [nilD, nilD, nilD])), none, 0, 0, true⟩,
          ⟨none, .st 3 (.t 10) (.t 76), none, 0, 0, true⟩,
          ⟨some 11, .mv (.t 77), none, 0, 0, false⟩])
       (.seq (.reg [⟨some 78, .mv (.t 1), none, 0, 0, false⟩,
          ⟨some 79, .mv (.t 11), none, 0, 0, false⟩,
          ⟨some 80, .mv (.t 1), none, 0, 0, false⟩,
          ⟨some 81, .len false (.t 80), none, 0, 0, false⟩,
          ⟨some 82, .mm false [(.t 79), (.t 81)], none, 0, 0, false⟩,
          ⟨some 83, .slc 1 (.t 78) (some (.t 82)) none none, none, 0, 0, false⟩,
          ⟨some 1, .mv (.t 83), none, 0, 0, false⟩])
       (.draw []
        [⟨some 84, .mv (.t 0), none, 0, 0, false⟩,
         ⟨some 85, .nck (.t 84), none, 0, 0, false⟩,
         ⟨some 86, .fa [1, 1, 3, 1, 1, 1, 1, 1] 3 (.t 85), none, 0, 0, false⟩,
         ⟨some 87, .ld false 1 (.t 86), none, 0, 0, false⟩,
         ⟨some 88, .mv (.t 9), none, 0, 0, false⟩,
         ⟨some 89, .ld true 3 (.t 10), none, 0, 0, false⟩,
         ⟨some 90, .ia 3 (.t 87) (.t 88), none, 0, 0, false⟩,
         ⟨none, .st 3 (.t 90) (.t 89), none, 0, 1, true⟩]))))))
     (.reg [⟨some 91, .bin .add (.t 51) (.c (.lit (.int .i64 1))), none, 0, 0, false⟩,
       ⟨some 51, .mv (.t 91), none, 0, 0, false⟩])))))))
  (.reg [⟨some 92, .mv (.t 0), none, 0, 0, false⟩,
    ⟨some 93, .mv (.t 0), none, 0, 0, false⟩,
    ⟨some 94, .mv (.t 0), none, 0, 0, false⟩,
    ⟨some 95, .nck (.t 92), none, 0, 0, false⟩,
    ⟨some 96, .fa [1, 1, 3, 1, 1, 1, 1, 1] 7 (.t 95), none, 0, 0, false⟩,
    ⟨none, .st 1 (.t 96) (.c (.lit (.bool false))), none, 0, 0, true⟩,
    ⟨some 97, .nck (.t 93), none, 0, 0, false⟩,
    ⟨some 98, .fa [1, 1, 3, 1, 1, 1, 1, 1] 5 (.t 97), none, 0, 0, false⟩,
    ⟨none, .st 1 (.t 98) (.c (.lit (.int .i64 0))), none, 0, 0, true⟩,
    ⟨some 99, .nck (.t 94), none, 0, 0, false⟩,
    ⟨some 100, .fa [1, 1, 3, 1, 1, 1, 1, 1] 6 (.t 99), none, 0, 0, false⟩,
    ⟨none, .st 1 (.t 100) (.c (.lit (.int .i64 0))), none, 0, 0, true⟩])))))),
  101, [], .eff⟩
/-- newsreel/num.Is -/
def a27 : AFn := ⟨(.seq (.reg [⟨some 2, .mv (.c (.lit (.bool false))), none, 0, 0, false⟩])
  (.seq (.reg [⟨some 3, .mv (.t 0), none, 0, 0, false⟩,
     ⟨some 4, .bin .geq (.t 3) (.c (.lit (.int .i64 0))), none, 0, 0, false⟩,
     ⟨some 5, .mv (.t 4), none, 0, 0, false⟩,
     ⟨some 6, .mv (.t 0), some (5, true), 0, 0, false⟩,
     ⟨some 7, .bin .leq (.t 6) (.c (.lit (.int .i64 1099511627776))), some (5, true), 0, 0, false⟩,
     ⟨some 8, .pick (.t 5) (.t 7) (.c (.lit (.bool false))), none, 0, 0, false⟩,
     ⟨some 2, .mv (.t 8), none, 0, 0, false⟩])
  .ret)),
  9, [.t 2], (.pure true false)⟩
/-- (*newsreel/disk.Disk).Move -/
def a28 : AFn := ⟨(.seq (.reg [⟨some 6, .mv (.c (.lit (.int .i64 0))), none, 0, 0, false⟩])
  (.seq (.reg [⟨some 7, .mv (.t 0), none, 0, 0, false⟩,
     ⟨some 8, .mv (.t 1), none, 0, 0, false⟩,
     ⟨some 9, .mv (.t 2), none, 0, 0, false⟩,
     ⟨some 10, .build [1, 1, 1, 1] [(.lit (.int .i64 0)), (.lit (.string ⟨#[]⟩)), (.lit (.string ⟨#[]⟩)), (.lit (.int .i64 0))] [(0, (.c (.lit (.int .i64 2)))), (1, (.t 8)), (2, (.t 9))], none, 0, 0, false⟩,
     ⟨some 11, .call (.c (.fn 41 0 [])) [(.t 7), (.t 10)], none, 0, 0, true⟩,
     ⟨some 6, .mv (.t 11), none, 0, 0, false⟩])
  .ret)),
  12, [.t 6], .eff⟩
/-- (*newsreel/disk.Disk).Remove -/
def a29 : AFn := ⟨(.seq (.reg [⟨some 4, .mv (.c (.lit (.int .i64 0))), none, 0, 0, false⟩])
  (.seq (.reg [⟨some 5, .mv (.t 0), none, 0, 0, false⟩,
     ⟨some 6, .mv (.t 1), none, 0, 0, false⟩,
     ⟨some 7, .build [1, 1, 1, 1] [(.lit (.int .i64 0)), (.lit (.string ⟨#[]⟩)), (.lit (.string ⟨#[]⟩)), (.lit (.int .i64 0))] [(0, (.c (.lit (.int .i64 3)))), (1, (.t 6))], none, 0, 0, false⟩,
     ⟨some 8, .call (.c (.fn 41 0 [])) [(.t 5), (.t 7)], none, 0, 0, true⟩,
     ⟨some 4, .mv (.t 8), none, 0, 0, false⟩])
  .ret)),
  9, [.t 4], .eff⟩
/-- (*newsreel/disk.Disk).Trip -/
def a30 : AFn := ⟨(.seq (.reg [⟨some 4, .mv (.t 0), none, 0, 0, false⟩,
     ⟨some 5, .call (.c (.fn 36 0 [])) [(.t 4)], none, 0, 0, false⟩])
  (.cond (.t 5) (.reg [⟨some 6, .mv (.t 0), none, 0, 0, false⟩,
      ⟨some 7, .mv (.t 1), none, 0, 0, false⟩,
      ⟨some 8, .mm true [(.t 7), (.c (.lit (.int .i64 0)))], none, 0, 0, false⟩,
      ⟨some 9, .nck (.t 6), none, 0, 0, false⟩,
      ⟨some 10, .fa [1, 1, 3, 1, 1, 1, 1, 1] 5 (.t 9), none, 0, 0, false⟩,
      ⟨none, .st 1 (.t 10) (.t 8), none, 0, 0, true⟩])
  .skip)),
  11, [], .eff⟩
/-- (*newsreel/newsreelref11.Disk).Do -/
def a31 : AFn := ⟨(.seq (.reg [⟨some 3, .box true (.t 1), none, 0, 0, true⟩,
     ⟨some 4, .mv (.c (.lit (.int .i64 0))), none, 0, 0, false⟩])
  (.seq (.seq (.reg [⟨some 8, .mv (.t 0), none, 0, 0, false⟩,
      ⟨some 9, .nck (.t 8), none, 0, 0, false⟩,
      ⟨some 10, .fa [1, 3, 1, 1, 1, 1, 1] 6 (.t 9), none, 0, 0, false⟩,
      ⟨some 11, .ld false 1 (.t 10), none, 0, 0, false⟩])
   (.cond (.t 11) (.seq (.reg [⟨some 12, .mv (.t 0), none, 0, 0, false⟩,
        ⟨some 13, .mv (.t 0), none, 0, 0, false⟩,
        ⟨some 14, .nck (.t 13), none, 0, 0, false⟩,
        ⟨some 15, .fa [1, 3, 1, 1, 1, 1, 1] 3 (.t 14), none, 0, 0, false⟩,
        ⟨some 16, .ld false 1 (.t 15), none, 0, 0, false⟩,
        ⟨some 17, .bin .add (.t 16) (.c (.lit (.int .i64 1))), none, 0, 0, false⟩,
        ⟨some 18, .nck (.t 12), none, 0, 0, false⟩,
        ⟨some 19, .fa [1, 3, 1, 1, 1, 1, 1] 3 (.t 18), none, 0, 0, false⟩,
        ⟨none, .st 1 (.t 19) (.t 17), none, 0, 0, true⟩])
     (.seq (.reg [⟨some 4, .mv (.c (.lit (.int .i64 9))), none, 0, 0, false⟩])
     .ret))
   .skip))
  (.jn 9 (.seq (.reg [⟨some 20, .fa [1, 1, 1, 1] 0 (.t 3), none, 0, 0, false⟩,
      ⟨some 21, .ld false 1 (.t 20), none, 0, 0, false⟩,
      ⟨some 22, .bin .eql (.t 21) (.c (.lit (.int .i64 1))), none, 0, 0, false⟩])
   (.cond (.t 22) (.reg [⟨some 23, .mv (.t 0), none, 0, 0, false⟩,
       ⟨some 24, .nck (.t 23), none, 0, 0, false⟩,
       ⟨some 25, .fa [1, 3, 1, 1, 1, 1, 1] 2 (.t 24), none, 0, 0, false⟩,
       ⟨some 26, .ld false 1 (.t 25), none, 0, 0, false⟩,
       ⟨some 27, .len false (.t 26), none, 0, 0, false⟩,
       ⟨some 28, .bin .add (.t 27) (.c (.lit (.int .i64 1))), none, 0, 0, false⟩,
       ⟨some 29, .fa [1, 1, 1, 1] 3 (.t 3), none, 0, 0, false⟩,
       ⟨none, .st 1 (.t 29) (.t 28), none, 0, 0, true⟩])
   .skip))
  (.seq (.draw [⟨some 5, .box true (.c (.agg [1, 1, 1] [nilD, nilD, nilD])), none, 0, 0, true⟩]
    [⟨some 31, .mv (.t 0), none, 0, 0, false⟩,
     ⟨some 32, .nck (.t 31), none, 0, 0, false⟩,
     ⟨some 33, .fa [1, 3, 1, 1, 1, 1, 1] 1 (.t 32), none, 0, 0, false⟩,
     ⟨some 34, .ld true 3 (.t 33), none, 0, 0, false⟩,
     ⟨some 35, .ld true 4 (.t 3), none, 0, 0, false⟩,
     ⟨some 36, .call (.c (.fn 50 0 [])) [(.t 34), (.t 35)], none, 0, 1, true⟩,
     ⟨some 30, .mv (.t 36), none, 1, 1, false⟩,
     ⟨some 37, .ext (.t 30) 0, none, 1, 1, false⟩,
     ⟨some 38, .ext (.t 30) 1, none, 1, 2, false⟩,
     ⟨none, .st 3 (.t 5) (.t 37), none, 1, 2, true⟩,
     ⟨some 6, .mv (.t 38), none, 2, 2, false⟩])
  (.seq (.seq (.reg [⟨some 39, .mv (.t 6), none, 0, 0, false⟩,
      ⟨some 40, .bin .neq (.t 39) (.c (.lit (.int .i64 0))), none, 0, 0, false⟩])
   (.cond (.t 40) (.seq (.reg [⟨some 41, .mv (.t 6), none, 0, 0, false⟩,
        ⟨some 4, .mv (.t 41), none, 0, 0, false⟩])
     .ret)
   .skip))
  (.seq (.reg [⟨some 42, .mv (.t 0), none, 0, 0, false⟩,
     ⟨some 43, .call (.c (.fn 51 0 [])) [(.t 42)], none, 0, 0, true⟩,
     ⟨some 7, .mv (.t 43), none, 0, 0, false⟩])
  (.seq (.seq (.reg [⟨some 44, .mv (.t 7), none, 0, 0, false⟩,
      ⟨some 45, .bin .neq (.t 44) (.c (.lit (.int .i64 0))), none, 0, 0, false⟩])
   (.cond (.t 45) (.seq (.reg [⟨some 46, .mv (.t 7), none, 0, 0, false⟩,
        ⟨some 4, .mv (.t 46), none, 0, 0, false⟩])
     .ret)
   .skip))
  (.seq (.reg [⟨some 47, .mv (.t 0), none, 0, 0, false⟩,
     ⟨some 48, .ld true 3 (.t 5), none, 0, 0, false⟩,
     ⟨some 49, .nck (.t 47), none, 0, 0, false⟩,
     ⟨some 50, .fa [1, 3, 1, 1, 1, 1, 1] 1 (.t 49), none, 0, 0, false⟩,
     ⟨none, .st 3 (.t 50) (.t 48), none, 0, 0, true⟩])
  (.seq (.seq (.reg [⟨some 51, .fa [1, 1, 1, 1] 0 (.t 3), none, 0, 0, false⟩,
      ⟨some 52, .ld false 1 (.t 51), none, 0, 0, false⟩,
      ⟨some 53, .bin .eql (.t 52) (.c (.lit (.int .i64 1))), none, 0, 0, false⟩])
   (.cond (.t 53) (.reg [⟨some 54, .mv (.t 0), none, 0, 0, false⟩,
       ⟨some 55, .bsl true 3 [] [], none, 0, 0, true⟩,
       ⟨some 56, .mv (.t 0), none, 0, 0, false⟩,
       ⟨some 57, .nck (.t 56), none, 0, 0, false⟩,
       ⟨some 58, .fa [1, 3, 1, 1, 1, 1, 1] 2 (.t 57), none, 0, 0, false⟩,
       ⟨some 59, .ld false 1 (.t 58), none, 0, 0, false⟩,
       ⟨some 60, .app 3 1954687338268 (.t 55) (.t 59), none, 0, 0, true⟩,
       ⟨some 61, .build [1, 1, 1] [nilD, nilD, nilD] [], none, 0, 0, false⟩,
       ⟨some 62, .bsl false 3 [(.agg [1, 1, 1] [nilD, nilD, nilD])] [(0, (.t 61))], none, 0, 0, false⟩,
       ⟨some 63, .app 3 1954687338268 (.t 60) (.t 62), none, 0, 0, true⟩,
       ⟨some 64, .nck (.t 54), none, 0, 0, false⟩,
       ⟨some 65, .fa [1, 3, 1, 1, 1, 1, 1] 2 (.t 64), none, 0, 0, false⟩,
       ⟨none, .st 1 (.t 65) (.t 63), none, 0, 0, true⟩])
   .skip))
  (.seq (.reg [⟨some 4, .mv (.c (.lit (.int .i64 0))), none, 0, 0, false⟩])
  .ret)))))))))),
  66, [.t 4], .eff⟩
/-- (*newsreel/newsreelref11.Disk).Write -/
def a32 : AFn := ⟨(.seq (.reg [⟨some 8, .mv (.c (.lit (.int .i64 0))), none, 0, 0, false⟩])
  (.seq (.seq (.reg [⟨some 16, .mv (.t 0), none, 0, 0, false⟩,
      ⟨some 17, .nck (.t 16), none, 0, 0, false⟩,
      ⟨some 18, .fa [1, 3, 1, 1, 1, 1, 1] 6 (.t 17), none, 0, 0, false⟩,
      ⟨some 19, .ld false 1 (.t 18), none, 0, 0, false⟩])
   (.cond (.t 19) (.seq (.reg [⟨some 20, .mv (.t 0), none, 0, 0, false⟩,
        ⟨some 21, .mv (.t 0), none, 0, 0, false⟩,
        ⟨some 22, .nck (.t 21), none, 0, 0, false⟩,
        ⟨some 23, .fa [1, 3, 1, 1, 1, 1, 1] 3 (.t 22), none, 0, 0, false⟩,
        ⟨some 24, .ld false 1 (.t 23), none, 0, 0, false⟩,
        ⟨some 25, .bin .add (.t 24) (.c (.lit (.int .i64 1))), none, 0, 0, false⟩,
        ⟨some 26, .nck (.t 20), none, 0, 0, false⟩,
        ⟨some 27, .fa [1, 3, 1, 1, 1, 1, 1] 3 (.t 26), none, 0, 0, false⟩,
        ⟨none, .st 1 (.t 27) (.t 25), none, 0, 0, true⟩])
     (.seq (.reg [⟨some 8, .mv (.c (.lit (.int .i64 9))), none, 0, 0, false⟩])
     .ret))
   .skip))
  (.seq (.reg [⟨some 28, .mv (.t 0), none, 0, 0, false⟩,
     ⟨some 29, .nck (.t 28), none, 0, 0, false⟩,
     ⟨some 30, .fa [1, 3, 1, 1, 1, 1, 1] 1 (.t 29), none, 0, 0, false⟩,
     ⟨some 31, .fa [1, 1, 1] 0 (.t 30), none, 0, 0, false⟩,
     ⟨some 32, .ld false 1 (.t 31), none, 0, 0, false⟩,
     ⟨some 33, .mv (.t 1), none, 0, 0, false⟩,
     ⟨some 34, .call (.c (.fn 40 0 [])) [(.t 32), (.t 33)], none, 0, 0, false⟩,
     ⟨some 9, .mv (.t 34), none, 0, 0, false⟩])
  (.seq (.seq (.reg [⟨some 35, .mv (.t 9), none, 0, 0, false⟩,
      ⟨some 36, .bin .lss (.t 35) (.c (.lit (.int .i64 0))), none, 0, 0, false⟩])
   (.cond (.t 36) (.seq (.reg [⟨some 8, .mv (.c (.lit (.int .i64 5))), none, 0, 0, false⟩])
     .ret)
   .skip))
  (.seq (.reg [⟨some 38, .mv (.t 2), none, 0, 0, false⟩,
     ⟨some 39, .mv (.t 3), none, 0, 0, false⟩,
     ⟨some 40, .call (.c (.fn 52 0 [])) [(.t 38), (.t 39)], none, 0, 0, true⟩,
     ⟨some 37, .mv (.t 40), none, 0, 0, false⟩,
     ⟨some 41, .ext (.t 37) 0, none, 0, 0, false⟩,
     ⟨some 42, .ext (.t 37) 1, none, 0, 0, false⟩,
     ⟨some 10, .mv (.t 41), none, 0, 0, false⟩,
     ⟨some 11, .mv (.t 42), none, 0, 0, false⟩])
  (.seq (.seq (.reg [⟨some 43, .mv (.t 11), none, 0, 0, false⟩,
      ⟨some 44, .bin .neq (.t 43) (.c (.lit (.int .i64 0))), none, 0, 0, false⟩])
   (.cond (.t 44) (.seq (.reg [⟨some 45, .mv (.t 11), none, 0, 0, false⟩,
        ⟨some 8, .mv (.t 45), none, 0, 0, false⟩])
     .ret)
   .skip))
  (.seq (.reg [⟨some 46, .mv (.t 0), none, 0, 0, false⟩,
     ⟨some 47, .nck (.t 46), none, 0, 0, false⟩,
     ⟨some 48, .fa [1, 3, 1, 1, 1, 1, 1] 1 (.t 47), none, 0, 0, false⟩,
     ⟨some 49, .fa [1, 1, 1] 0 (.t 48), none, 0, 0, false⟩,
     ⟨some 50, .ld false 1 (.t 49), none, 0, 0, false⟩,
     ⟨some 51, .mv (.t 9), none, 0, 0, false⟩,
     ⟨some 52, .ia 2 (.t 50) (.t 51), none, 0, 0, false⟩,
     ⟨some 53, .fa [1, 1] 1 (.t 52), none, 0, 0, false⟩,
     ⟨some 54, .ld false 1 (.t 53), none, 0, 0, false⟩,
     ⟨some 55, .bin .sub (.t 54) (.c (.lit (.int .i64 1))), none, 0, 0, false⟩,
     ⟨some 12, .mv (.t 55), none, 0, 0, false⟩])
  (.seq (.reg [⟨some 57, .mv (.t 0), none, 0, 0, false⟩,
     ⟨some 58, .nck (.t 57), none, 0, 0, false⟩,
     ⟨some 59, .fa [1, 3, 1, 1, 1, 1, 1] 2 (.t 58), none, 0, 0, false⟩,
     ⟨some 60, .ld false 1 (.t 59), none, 0, 0, false⟩,
     ⟨some 61, .mv (.t 12), none, 0, 0, false⟩,
     ⟨some 62, .ia 3 (.t 60) (.t 61), none, 0, 0, false⟩,
     ⟨some 63, .ld true 3 (.t 62), none, 0, 0, false⟩,
     ⟨some 64, .mv (.t 2), none, 0, 0, false⟩,
     ⟨some 65, .mv (.t 3), none, 0, 0, false⟩,
     ⟨some 66, .call (.c (.fn 53 0 [])) [(.t 63), (.t 64), (.t 65)], none, 0, 0, true⟩,
     ⟨some 56, .mv (.t 66), none, 0, 0, false⟩,
     ⟨some 67, .ext (.t 56) 0, none, 0, 0, false⟩,
     ⟨some 68, .ext (.t 56) 1, none, 0, 0, false⟩,
     ⟨some 13, .box true (.c (.agg [1, 1, 1] [nilD, nilD, nilD])), none, 0, 0, true⟩,
     ⟨none, .st 3 (.t 13) (.t 67), none, 0, 0, true⟩,
     ⟨some 14, .mv (.t 68), none, 0, 0, false⟩])
  (.seq (.seq (.draw []
     [⟨some 69, .mv (.t 0), none, 0, 0, false⟩,
      ⟨some 70, .call (.c (.fn 16 0 [])) [(.t 69)], none, 0, 0, false⟩,
      ⟨some 71, .mv (.t 0), none, 0, 0, false⟩,
      ⟨some 72, .nck (.t 71), none, 0, 0, false⟩,
      ⟨some 73, .fa [1, 3, 1, 1, 1, 1, 1] 2 (.t 72), none, 0, 0, false⟩,
      ⟨some 74, .ld false 1 (.t 73), none, 0, 0, false⟩,
      ⟨some 75, .mv (.t 12), none, 0, 0, false⟩,
      ⟨some 76, .ia 3 (.t 74) (.t 75), none, 0, 0, false⟩,
      ⟨some 77, .fa [1, 1, 1] 0 (.t 76), none, 0, 0, false⟩,
      ⟨some 78, .ld false 1 (.t 77), none, 0, 0, false⟩,
      ⟨some 79, .len false (.t 78), none, 0, 0, false⟩,
      ⟨some 80, .bin .sub (.t 70) (.t 79), none, 0, 0, false⟩,
      ⟨some 81, .fa [1, 1, 1] 0 (.t 13), none, 0, 0, false⟩,
      ⟨some 82, .ld false 1 (.t 81), none, 0, 0, false⟩,
      ⟨some 83, .len false (.t 82), none, 0, 0, false⟩,
      ⟨some 84, .bin .add (.t 80) (.t 83), none, 0, 0, false⟩,
      ⟨some 85, .mv (.t 0), none, 0, 0, false⟩,
      ⟨some 86, .nck (.t 85), none, 0, 0, false⟩,
      ⟨some 87, .fa [1, 3, 1, 1, 1, 1, 1] 0 (.t 86), none, 0, 0, false⟩,
      ⟨some 88, .ld false 1 (.t 87), none, 0, 0, false⟩,
      ⟨some 89, .bin .gtr (.t 84) (.t 88), none, 0, 0, false⟩])
   (.cond (.t 89) (.seq (.reg [⟨some 8, .mv (.c (.lit (.int .i64 7))), none, 0, 0, false⟩])
     .ret)
   .skip))
  (.seq (.reg [⟨some 90, .mv (.t 0), none, 0, 0, false⟩,
     ⟨some 91, .call (.c (.fn 51 0 [])) [(.t 90)], none, 0, 0, true⟩,
     ⟨some 15, .mv (.t 91), none, 0, 0, false⟩])
  (.seq (.seq (.reg [⟨some 92, .mv (.t 15), none, 0, 0, false⟩,
      ⟨some 93, .bin .neq (.t 92) (.c (.lit (.int .i64 0))), none, 0, 0, false⟩])
   (.cond (.t 93) (.seq (.reg [⟨some 94, .mv (.t 15), none, 0, 0, false⟩,
        ⟨some 8, .mv (.t 94), none, 0, 0, false⟩])
     .ret)
   .skip))
  (.seq (.reg [⟨some 95, .mv (.t 0), none, 0, 0, false⟩,
     ⟨some 96, .bsl true 3 [] [], none, 0, 0, true⟩,
     ⟨some 97, .mv (.t 0), none, 0, 0, false⟩,
     ⟨some 98, .nck (.t 97), none, 0, 0, false⟩,
     ⟨some 99, .fa [1, 3, 1, 1, 1, 1, 1] 2 (.t 98), none, 0, 0, false⟩,
     ⟨some 100, .ld false 1 (.t 99), none, 0, 0, false⟩,
     ⟨some 101, .app 3 1954687338268 (.t 96) (.t 100), none, 0, 0, true⟩,
     ⟨some 102, .nck (.t 95), none, 0, 0, false⟩,
     ⟨some 103, .fa [1, 3, 1, 1, 1, 1, 1] 2 (.t 102), none, 0, 0, false⟩,
     ⟨none, .st 1 (.t 103) (.t 101), none, 0, 0, true⟩])
  (.seq (.draw []
    [⟨some 104, .mv (.t 0), none, 0, 0, false⟩,
     ⟨some 105, .nck (.t 104), none, 0, 0, false⟩,
     ⟨some 106, .fa [1, 3, 1, 1, 1, 1, 1] 2 (.t 105), none, 0, 0, false⟩,
     ⟨some 107, .ld false 1 (.t 106), none, 0, 0, false⟩,
     ⟨some 108, .mv (.t 12), none, 0, 0, false⟩,
     ⟨some 109, .ld true 3 (.t 13), none, 0, 0, false⟩,
     ⟨some 110, .ia 3 (.t 107) (.t 108), none, 0, 0, false⟩,
     ⟨none, .st 3 (.t 110) (.t 109), none, 0, 1, true⟩])
  (.seq (.reg [⟨some 8, .mv (.c (.lit (.int .i64 0))), none, 0, 0, false⟩])
  .ret)))))))))))))),
  111, [.t 8], .eff⟩
/-- (*newsreel/newsreelref11.Disk).Sync -/
def a33 : AFn := ⟨(.seq (.reg [⟨some 4, .mv (.c (.lit (.int .i64 0))), none, 0, 0, false⟩])
  (.seq (.seq (.reg [⟨some 8, .mv (.t 0), none, 0, 0, false⟩,
      ⟨some 9, .nck (.t 8), none, 0, 0, false⟩,
      ⟨some 10, .fa [1, 3, 1, 1, 1, 1, 1] 6 (.t 9), none, 0, 0, false⟩,
      ⟨some 11, .ld false 1 (.t 10), none, 0, 0, false⟩])
   (.cond (.t 11) (.seq (.reg [⟨some 12, .mv (.t 0), none, 0, 0, false⟩,
        ⟨some 13, .mv (.t 0), none, 0, 0, false⟩,
        ⟨some 14, .nck (.t 13), none, 0, 0, false⟩,
        ⟨some 15, .fa [1, 3, 1, 1, 1, 1, 1] 3 (.t 14), none, 0, 0, false⟩,
        ⟨some 16, .ld false 1 (.t 15), none, 0, 0, false⟩,
        ⟨some 17, .bin .add (.t 16) (.c (.lit (.int .i64 1))), none, 0, 0, false⟩,
        ⟨some 18, .nck (.t 12), none, 0, 0, false⟩,
        ⟨some 19, .fa [1, 3, 1, 1, 1, 1, 1] 3 (.t 18), none, 0, 0, false⟩,
        ⟨none, .st 1 (.t 19) (.t 17), none, 0, 0, true⟩])
     (.seq (.reg [⟨some 4, .mv (.c (.lit (.int .i64 9))), none, 0, 0, false⟩])
     .ret))
   .skip))
  (.seq (.reg [⟨some 20, .mv (.t 0), none, 0, 0, false⟩,
     ⟨some 21, .nck (.t 20), none, 0, 0, false⟩,
     ⟨some 22, .fa [1, 3, 1, 1, 1, 1, 1] 1 (.t 21), none, 0, 0, false⟩,
     ⟨some 23, .fa [1, 1, 1] 0 (.t 22), none, 0, 0, false⟩,
     ⟨some 24, .ld false 1 (.t 23), none, 0, 0, false⟩,
     ⟨some 25, .mv (.t 1), none, 0, 0, false⟩,
     ⟨some 26, .call (.c (.fn 40 0 [])) [(.t 24), (.t 25)], none, 0, 0, false⟩,
     ⟨some 5, .mv (.t 26), none, 0, 0, false⟩])
  (.seq (.seq (.reg [⟨some 27, .mv (.t 5), none, 0, 0, false⟩,
      ⟨some 28, .bin .lss (.t 27) (.c (.lit (.int .i64 0))), none, 0, 0, false⟩])
   (.cond (.t 28) (.seq (.reg [⟨some 4, .mv (.c (.lit (.int .i64 5))), none, 0, 0, false⟩])
     .ret)
   .skip))
  (.seq (.reg [⟨some 29, .mv (.t 0), none, 0, 0, false⟩,
     ⟨some 30, .call (.c (.fn 51 0 [])) [(.t 29)], none, 0, 0, true⟩,
     ⟨some 6, .mv (.t 30), none, 0, 0, false⟩])
  (.seq (.seq (.reg [⟨some 31, .mv (.t 6), none, 0, 0, false⟩,
      ⟨some 32, .bin .neq (.t 31) (.c (.lit (.int .i64 0))), none, 0, 0, false⟩])
   (.cond (.t 32) (.seq (.reg [⟨some 33, .mv (.t 6), none, 0, 0, false⟩,
        ⟨some 4, .mv (.t 33), none, 0, 0, false⟩])
     .ret)
   .skip))
  (.seq (.reg [⟨some 34, .mv (.t 0), none, 0, 0, false⟩,
     ⟨some 35, .nck (.t 34), none, 0, 0, false⟩,
     ⟨some 36, .fa [1, 3, 1, 1, 1, 1, 1] 1 (.t 35), none, 0, 0, false⟩,
     ⟨some 37, .fa [1, 1, 1] 0 (.t 36), none, 0, 0, false⟩,
     ⟨some 38, .ld false 1 (.t 37), none, 0, 0, false⟩,
     ⟨some 39, .mv (.t 5), none, 0, 0, false⟩,
     ⟨some 40, .ia 2 (.t 38) (.t 39), none, 0, 0, false⟩,
     ⟨some 41, .fa [1, 1] 1 (.t 40), none, 0, 0, false⟩,
     ⟨some 42, .ld false 1 (.t 41), none, 0, 0, false⟩,
     ⟨some 43, .bin .sub (.t 42) (.c (.lit (.int .i64 1))), none, 0, 0, false⟩,
     ⟨some 7, .mv (.t 43), none, 0, 0, false⟩])
  (.seq (.reg [⟨some 44, .mv (.t 0), none, 0, 0, false⟩,
     ⟨some 45, .bsl true 3 [] [], none, 0, 0, true⟩,
     ⟨some 46, .mv (.t 0), none, 0, 0, false⟩,
     ⟨some 47, .nck (.t 46), none, 0, 0, false⟩,
     ⟨some 48, .fa [1, 3, 1, 1, 1, 1, 1] 2 (.t 47), none, 0, 0, false⟩,
     ⟨some 49, .ld false 1 (.t 48), none, 0, 0, false⟩,
     ⟨some 50, .app 3 1954687338268 (.t 45) (.t 49), none, 0, 0, true⟩,
     ⟨some 51, .nck (.t 44), none, 0, 0, false⟩,
     ⟨some 52, .fa [1, 3, 1, 1, 1, 1, 1] 2 (.t 51), none, 0, 0, false⟩,
     ⟨none, .st 1 (.t 52) (.t 50), none, 0, 0, true⟩])
  (.seq (.draw []
    [⟨some 53, .mv (.t 0), none, 0, 1, false⟩,
     ⟨some 54, .nck (.t 53), none, 0, 1, false⟩,
     ⟨some 55, .fa [1, 3, 1, 1, 1, 1, 1] 2 (.t 54), none, 0, 1, false⟩,
     ⟨some 56, .ld false 1 (.t 55), none, 0, 1, false⟩,
     ⟨some 57, .mv (.t 7), none, 0, 1, false⟩,
     ⟨some 58, .mv (.t 0), none, 0, 0, false⟩,
     ⟨some 59, .nck (.t 58), none, 0, 0, false⟩,
     ⟨some 60, .fa [1, 3, 1, 1, 1, 1, 1] 2 (.t 59), none, 0, 0, false⟩,
     ⟨some 61, .ld false 1 (.t 60), none, 0, 0, false⟩,
     ⟨some 62, .mv (.t 7), none, 0, 0, false⟩,
     ⟨some 63, .ia 3 (.t 61) (.t 62), none, 0, 0, false⟩,
     ⟨some 64, .ld true 3 (.t 63), none, 0, 0, false⟩,
     ⟨some 65, .call (.c (.fn 54 0 [])) [(.t 64)], none, 0, 1, true⟩,
     ⟨some 66, .ia 3 (.t 56) (.t 57), none, 1, 1, false⟩,
     ⟨none, .st 3 (.t 66) (.t 65), none, 1, 2, true⟩])
  (.seq (.reg [⟨some 4, .mv (.c (.lit (.int .i64 0))), none, 0, 0, false⟩])
  .ret)))))))))),
  67, [.t 4], .eff⟩
/-- (*newsreel/newsreelref11.Disk).SyncDir -/
def a34 : AFn := ⟨(.seq (.reg [⟨some 2, .mv (.c (.lit (.int .i64 0))), none, 0, 0, false⟩])
  (.seq (.seq (.reg [⟨some 4, .mv (.t 0), none, 0, 0, false⟩,
      ⟨some 5, .nck (.t 4), none, 0, 0, false⟩,
      ⟨some 6, .fa [1, 3, 1, 1, 1, 1, 1] 6 (.t 5), none, 0, 0, false⟩,
      ⟨some 7, .ld false 1 (.t 6), none, 0, 0, false⟩])
   (.cond (.t 7) (.seq (.reg [⟨some 8, .mv (.t 0), none, 0, 0, false⟩,
        ⟨some 9, .mv (.t 0), none, 0, 0, false⟩,
        ⟨some 10, .nck (.t 9), none, 0, 0, false⟩,
        ⟨some 11, .fa [1, 3, 1, 1, 1, 1, 1] 3 (.t 10), none, 0, 0, false⟩,
        ⟨some 12, .ld false 1 (.t 11), none, 0, 0, false⟩,
        ⟨some 13, .bin .add (.t 12) (.c (.lit (.int .i64 1))), none, 0, 0, false⟩,
        ⟨some 14, .nck (.t 8), none, 0, 0, false⟩,
        ⟨some 15, .fa [1, 3, 1, 1, 1, 1, 1] 3 (.t 14), none, 0, 0, false⟩,
        ⟨none, .st 1 (.t 15) (.t 13), none, 0, 0, true⟩])
     (.seq (.reg [⟨some 2, .mv (.c (.lit (.int .i64 9))), none, 0, 0, false⟩])
     .ret))
   .skip))
  (.seq (.reg [⟨some 16, .mv (.t 0), none, 0, 0, false⟩,
     ⟨some 17, .call (.c (.fn 51 0 [])) [(.t 16)], none, 0, 0, true⟩,
     ⟨some 3, .mv (.t 17), none, 0, 0, false⟩])
  (.seq (.seq (.reg [⟨some 18, .mv (.t 3), none, 0, 0, false⟩,
      ⟨some 19, .bin .eql (.t 18) (.c (.lit (.int .i64 0))), none, 0, 0, false⟩])
   (.cond (.t 19) (.reg [⟨some 20, .mv (.t 0), none, 0, 0, false⟩,
       ⟨some 21, .mv (.t 0), none, 0, 0, false⟩,
       ⟨some 22, .nck (.t 21), none, 0, 0, false⟩,
       ⟨some 23, .fa [1, 3, 1, 1, 1, 1, 1] 1 (.t 22), none, 0, 0, false⟩,
       ⟨some 24, .ld true 3 (.t 23), none, 0, 0, false⟩,
       ⟨some 25, .call (.c (.fn 55 0 [])) [(.t 24)], none, 0, 0, true⟩,
       ⟨some 26, .nck (.t 20), none, 0, 0, false⟩,
       ⟨some 27, .fa [1, 3, 1, 1, 1, 1, 1] 1 (.t 26), none, 0, 0, false⟩,
       ⟨none, .st 3 (.t 27) (.t 25), none, 0, 0, true⟩])
   .skip))
  (.seq (.reg [⟨some 28, .mv (.t 3), none, 0, 0, false⟩,
     ⟨some 2, .mv (.t 28), none, 0, 0, false⟩])
  .ret))))),
  29, [.t 2], .eff⟩
/-- (*newsreel/newsreelref11.Disk).Reboot -/
def a35 : AFn := ⟨(.seq (.reg [⟨some 13, .mv (.t 0), none, 0, 0, false⟩,
     ⟨some 14, .mv (.t 0), none, 0, 0, false⟩,
     ⟨some 15, .nck (.t 14), none, 0, 0, false⟩,
     ⟨some 16, .fa [1, 3, 1, 1, 1, 1, 1] 1 (.t 15), none, 0, 0, false⟩,
     ⟨some 17, .ld true 3 (.t 16), none, 0, 0, false⟩,
     ⟨some 18, .mv (.t 2), none, 0, 0, false⟩,
     ⟨some 19, .call (.c (.fn 56 0 [])) [(.t 17), (.t 18)], none, 0, 0, true⟩,
     ⟨some 20, .nck (.t 13), none, 0, 0, false⟩,
     ⟨some 21, .fa [1, 3, 1, 1, 1, 1, 1] 1 (.t 20), none, 0, 0, false⟩,
     ⟨none, .st 3 (.t 21) (.t 19), none, 0, 0, true⟩])
  (.seq (.reg [⟨some 22, .bsl true 3 [] [], none, 0, 0, true⟩,
     ⟨some 6, .mv (.t 22), none, 0, 0, false⟩])
  (.seq (.reg [⟨some 7, .mv (.c (.lit (.int .i64 0))), none, 0, 0, false⟩])
  (.seq (.seq (.reg [⟨some 8, .mv (.c (.lit (.int .i64 0))), none, 0, 0, false⟩])
   (.block 0 (.loop 451 (.seq (.seq (.reg [⟨some 23, .mv (.t 8), none, 0, 0, false⟩,
         ⟨some 24, .mv (.t 0), none, 0, 0, false⟩,
         ⟨some 25, .nck (.t 24), none, 0, 0, false⟩,
         ⟨some 26, .fa [1, 3, 1, 1, 1, 1, 1] 2 (.t 25), none, 0, 0, false⟩,
         ⟨some 27, .ld false 1 (.t 26), none, 0, 0, false⟩,
         ⟨some 28, .len false (.t 27), none, 0, 0, false⟩,
         ⟨some 29, .bin .lss (.t 23) (.t 28), none, 0, 0, false⟩])
      (.cond (.t 29) .skip
      (.exit 0)))
     (.seq (.block 1 (.seq (.reg [⟨some 9, .mv (.c (.lit (.bool false))), none, 0, 0, false⟩])
       (.seq (.seq (.reg [⟨some 10, .mv (.c (.lit (.int .i64 0))), none, 0, 0, false⟩])
        (.block 2 (.loop 1987 (.seq (.seq (.reg [⟨some 32, .mv (.t 10), none, 0, 0, false⟩,
              ⟨some 33, .mv (.t 0), none, 0, 0, false⟩,
              ⟨some 34, .nck (.t 33), none, 0, 0, false⟩,
              ⟨some 35, .fa [1, 3, 1, 1, 1, 1, 1] 1 (.t 34), none, 0, 0, false⟩,
              ⟨some 36, .fa [1, 1, 1] 0 (.t 35), none, 0, 0, false⟩,
              ⟨some 37, .ld false 1 (.t 36), none, 0, 0, false⟩,
              ⟨some 38, .len false (.t 37), none, 0, 0, false⟩,
              ⟨some 39, .bin .lss (.t 32) (.t 38), none, 0, 0, false⟩])
           (.cond (.t 39) .skip
           (.exit 2)))
          (.seq (.block 3 (.reg [⟨some 42, .mv (.t 9), none, 0, 0, false⟩,
              ⟨some 43, .mv (.t 42), none, 0, 0, false⟩,
              ⟨some 44, .mv (.t 0), some (43, false), 0, 0, false⟩,
              ⟨some 45, .nck (.t 44), some (43, false), 0, 0, false⟩,
              ⟨some 46, .fa [1, 3, 1, 1, 1, 1, 1] 1 (.t 45), some (43, false), 0, 0, false⟩,
              ⟨some 47, .fa [1, 1, 1] 0 (.t 46), some (43, false), 0, 0, false⟩,
              ⟨some 48, .ld false 1 (.t 47), some (43, false), 0, 0, false⟩,
              ⟨some 49, .mv (.t 10), some (43, false), 0, 0, false⟩,
              ⟨some 50, .ia 2 (.t 48) (.t 49), some (43, false), 0, 0, false⟩,
              ⟨some 51, .fa [1, 1] 1 (.t 50), some (43, false), 0, 0, false⟩,
              ⟨some 52, .ld false 1 (.t 51), some (43, false), 0, 0, false⟩,
              ⟨some 53, .mv (.t 8), some (43, false), 0, 0, false⟩,
              ⟨some 54, .bin .add (.t 53) (.c (.lit (.int .i64 1))), some (43, false), 0, 0, false⟩,
              ⟨some 55, .bin .eql (.t 52) (.t 54), some (43, false), 0, 0, false⟩,
              ⟨some 56, .pick (.t 43) (.c (.lit (.bool true))) (.t 55), none, 0, 0, false⟩,
              ⟨some 9, .mv (.t 56), none, 0, 0, false⟩]))
          (.reg [⟨some 40, .mv (.t 10), none, 0, 0, false⟩,
            ⟨some 41, .bin .add (.t 40) (.c (.lit (.int .i64 1))), none, 0, 0, false⟩,
            ⟨some 10, .mv (.t 41), none, 0, 0, false⟩]))))))
       (.seq (.reg [⟨some 57, .build [1, 1, 1] [nilD, nilD, nilD] [], none, 0, 0, false⟩,
          ⟨some 11, .box true (.c (.agg [1, 1, 1] [nilD, nilD, nilD])), none, 0, 0, true⟩,
          ⟨none, .st 3 (.t 11) (.t 57), none, 0, 0, true⟩])
       (.seq (.seq (.reg [⟨some 58, .mv (.t 9), none, 0, 0, false⟩])
        (.cond (.t 58) (.seq (.reg [⟨some 12, .mv (.c (.lit (.int .i64 0))), none, 0, 0, false⟩])
          (.seq (.draw []
            [⟨some 60, .mv (.t 0), none, 0, 0, false⟩,
             ⟨some 61, .nck (.t 60), none, 0, 0, false⟩,
             ⟨some 62, .fa [1, 3, 1, 1, 1, 1, 1] 2 (.t 61), none, 0, 0, false⟩,
             ⟨some 63, .ld false 1 (.t 62), none, 0, 0, false⟩,
             ⟨some 64, .mv (.t 8), none, 0, 0, false⟩,
             ⟨some 65, .ia 3 (.t 63) (.t 64), none, 0, 0, false⟩,
             ⟨some 66, .ld true 3 (.t 65), none, 0, 0, false⟩,
             ⟨some 67, .mv (.t 1), none, 0, 0, false⟩,
             ⟨some 68, .mv (.t 7), none, 0, 0, false⟩,
             ⟨some 69, .slc 1 (.t 67) (some (.t 68)) none none, none, 0, 0, false⟩,
             ⟨some 70, .call (.c (.fn 57 0 [])) [(.t 66), (.t 69)], none, 0, 1, true⟩,
             ⟨some 59, .mv (.t 70), none, 1, 1, false⟩,
             ⟨some 71, .ext (.t 59) 0, none, 1, 1, false⟩,
             ⟨some 72, .ext (.t 59) 1, none, 1, 2, false⟩,
             ⟨none, .st 3 (.t 11) (.t 71), none, 1, 2, true⟩,
             ⟨some 12, .mv (.t 72), none, 2, 2, false⟩])
          (.reg [⟨some 73, .mv (.t 7), none, 0, 0, false⟩,
            ⟨some 74, .mv (.t 12), none, 0, 0, false⟩,
            ⟨some 75, .bin .add (.t 73) (.t 74), none, 0, 0, false⟩,
            ⟨some 76, .mv (.t 1), none, 0, 0, false⟩,
            ⟨some 77, .len false (.t 76), none, 0, 0, false⟩,
            ⟨some 78, .mm false [(.t 75), (.t 77)], none, 0, 0, false⟩,
            ⟨some 7, .mv (.t 78), none, 0, 0, false⟩])))
        .skip))
       (.reg [⟨some 79, .mv (.t 6), none, 0, 0, false⟩,
         ⟨some 80, .ld true 3 (.t 11), none, 0, 0, false⟩,
         ⟨some 81, .bsl false 3 [(.agg [1, 1, 1] [nilD, nilD, nilD])] [(0, (.t 80))], none, 0, 0, false⟩,
         ⟨some 82, .app 3 1954687338268 (.t 79) (.t 81), none, 0, 0, true⟩,
         ⟨some 6, .mv (.t 82), none, 0, 0, false⟩]))))))
     (.reg [⟨some 30, .mv (.t 8), none, 0, 0, false⟩,
       ⟨some 31, .bin .add (.t 30) (.c (.lit (.int .i64 1))), none, 0, 0, false⟩,
       ⟨some 8, .mv (.t 31), none, 0, 0, false⟩]))))))
  (.seq (.reg [⟨some 83, .mv (.t 0), none, 0, 0, false⟩,
     ⟨some 84, .mv (.t 6), none, 0, 0, false⟩,
     ⟨some 85, .nck (.t 83), none, 0, 0, false⟩,
     ⟨some 86, .fa [1, 3, 1, 1, 1, 1, 1] 2 (.t 85), none, 0, 0, false⟩,
     ⟨none, .st 1 (.t 86) (.t 84), none, 0, 0, true⟩])
  (.seq (.reg [⟨some 87, .mv (.t 0), none, 0, 0, false⟩,
     ⟨some 88, .nck (.t 87), none, 0, 0, false⟩,
     ⟨some 89, .fa [1, 3, 1, 1, 1, 1, 1] 6 (.t 88), none, 0, 0, false⟩,
     ⟨none, .st 1 (.t 89) (.c (.lit (.bool false))), none, 0, 0, true⟩])
  (.seq (.reg [⟨some 90, .mv (.t 0), none, 0, 0, false⟩,
     ⟨some 91, .nck (.t 90), none, 0, 0, false⟩,
     ⟨some 92, .fa [1, 3, 1, 1, 1, 1, 1] 4 (.t 91), none, 0, 0, false⟩,
     ⟨none, .st 1 (.t 92) (.c (.lit (.int .i64 0))), none, 0, 0, true⟩])
  (.reg [⟨some 93, .mv (.t 0), none, 0, 0, false⟩,
    ⟨some 94, .nck (.t 93), none, 0, 0, false⟩,
    ⟨some 95, .fa [1, 3, 1, 1, 1, 1, 1] 5 (.t 94), none, 0, 0, false⟩,
    ⟨none, .st 1 (.t 95) (.c (.lit (.int .i64 0))), none, 0, 0, true⟩])))))))),
  96, [], .eff⟩
/-- (*newsreel/disk.Disk).good -/
def a36 : AFn := ⟨(.seq (.reg [⟨some 2, .mv (.c (.lit (.bool false))), none, 0, 0, false⟩])
  (.seq (.reg [⟨some 3, .mv (.t 0), none, 0, 0, false⟩,
     ⟨some 4, .eq true .ptr (.t 3) (.c (.lit (.pointer none))), none, 0, 0, false⟩,
     ⟨some 5, .mv (.t 4), none, 0, 0, false⟩,
     ⟨some 6, .mv (.t 0), some (5, true), 0, 0, false⟩,
     ⟨some 7, .nck (.t 6), some (5, true), 0, 0, false⟩,
     ⟨some 8, .fa [1, 1, 3, 1, 1, 1, 1, 1] 0 (.t 7), some (5, true), 0, 0, false⟩,
     ⟨some 9, .ld false 1 (.t 8), some (5, true), 0, 0, false⟩,
     ⟨some 10, .pick (.t 5) (.t 9) (.c (.lit (.bool false))), none, 0, 0, false⟩,
     ⟨some 2, .mv (.t 10), none, 0, 0, false⟩])
  .ret)),
  11, [.t 2], (.pure true false)⟩
/-- (*newsreel/disk.Disk).open -/
def a37 : AFn := ⟨(.seq (.reg [⟨some 4, .mv (.c (.lit (.int .i64 0))), none, 0, 0, false⟩])
  (.seq (.seq (.reg [⟨some 5, .mv (.t 0), none, 0, 0, false⟩,
      ⟨some 6, .call (.c (.fn 36 0 [])) [(.t 5)], none, 0, 0, false⟩,
      ⟨some 7, .un .not (.t 6), none, 0, 0, false⟩])
   (.cond (.t 7) (.seq (.reg [⟨some 4, .mv (.c (.lit (.int .i64 10))), none, 0, 0, false⟩])
     .ret)
   .skip))
  (.seq (.seq (.reg [⟨some 8, .mv (.t 0), none, 0, 0, false⟩,
      ⟨some 9, .nck (.t 8), none, 0, 0, false⟩,
      ⟨some 10, .fa [1, 1, 3, 1, 1, 1, 1, 1] 7 (.t 9), none, 0, 0, false⟩,
      ⟨some 11, .ld false 1 (.t 10), none, 0, 0, false⟩])
   (.cond (.t 11) (.seq (.seq (.reg [⟨some 12, .mv (.t 1), none, 0, 0, false⟩])
      (.cond (.t 12) (.reg [⟨some 13, .mv (.t 0), none, 0, 0, false⟩,
          ⟨some 14, .nck (.t 13), none, 0, 0, false⟩,
          ⟨some 15, .fa [1, 1, 3, 1, 1, 1, 1, 1] 4 (.t 14), none, 0, 0, false⟩,
          ⟨some 16, .ld false 1 (.t 15), none, 0, 0, false⟩,
          ⟨some 17, .bin .add (.t 16) (.c (.lit (.int .i64 1))), none, 0, 0, false⟩,
          ⟨some 18, .nck (.t 13), none, 0, 0, false⟩,
          ⟨some 19, .fa [1, 1, 3, 1, 1, 1, 1, 1] 4 (.t 18), none, 0, 0, false⟩,
          ⟨none, .st 1 (.t 19) (.t 17), none, 0, 0, true⟩])
      .skip))
     (.seq (.reg [⟨some 4, .mv (.c (.lit (.int .i64 9))), none, 0, 0, false⟩])
     .ret))
   .skip))
  (.seq (.reg [⟨some 4, .mv (.c (.lit (.int .i64 0))), none, 0, 0, false⟩])
  .ret)))),
  20, [.t 4], .eff⟩
/-- (*newsreel/disk.Disk).at -/
def a38 : AFn := ⟨(.seq (.reg [⟨some 4, .mv (.c (.lit (.int .i64 0))), none, 0, 0, false⟩,
     ⟨some 5, .mv (.c (.lit (.int .i64 0))), none, 0, 0, false⟩])
  (.seq (.reg [⟨some 9, .mv (.t 0), none, 0, 0, false⟩,
     ⟨some 10, .nck (.t 9), none, 0, 0, false⟩,
     ⟨some 11, .fa [1, 1, 3, 1, 1, 1, 1, 1] 2 (.t 10), none, 0, 0, false⟩,
     ⟨some 12, .ld true 3 (.t 11), none, 0, 0, false⟩,
     ⟨some 13, .mv (.t 1), none, 0, 0, false⟩,
     ⟨some 14, .call (.c (.fn 58 0 [])) [(.t 12), (.t 13)], none, 0, 0, false⟩,
     ⟨some 8, .mv (.t 14), none, 0, 0, false⟩,
     ⟨some 15, .ext (.t 8) 0, none, 0, 0, false⟩,
     ⟨some 16, .ext (.t 8) 1, none, 0, 0, false⟩,
     ⟨some 6, .mv (.t 15), none, 0, 0, false⟩,
     ⟨some 7, .mv (.t 16), none, 0, 0, false⟩])
  (.seq (.seq (.reg [⟨some 17, .mv (.t 7), none, 0, 0, false⟩,
      ⟨some 18, .un .not (.t 17), none, 0, 0, false⟩])
   (.cond (.t 18) (.seq (.reg [⟨some 4, .mv (.c (.lit (.int .i64 0))), none, 0, 0, false⟩,
        ⟨some 5, .mv (.c (.lit (.int .i64 5))), none, 0, 0, false⟩])
     .ret)
   .skip))
  (.seq (.reg [⟨some 19, .mv (.t 6), none, 0, 0, false⟩,
     ⟨some 20, .bin .sub (.t 19) (.c (.lit (.int .i64 1))), none, 0, 0, false⟩,
     ⟨some 4, .mv (.t 20), none, 0, 0, false⟩,
     ⟨some 5, .mv (.c (.lit (.int .i64 0))), none, 0, 0, false⟩])
  .ret)))),
  21, [.t 4, .t 5], (.pure true false)⟩
/-- bytes.Clone -/
def a39 : AFn := ⟨(.seq (.reg [⟨some 2, .mv (.c nilD), none, 0, 0, false⟩])
  (.seq (.seq (.reg [⟨some 3, .mv (.t 0), none, 0, 0, false⟩,
      ⟨some 4, .eq false .nilS (.t 3) (.c nilD), none, 0, 0, false⟩])
   (.cond (.t 4) (.seq (.reg [⟨some 2, .mv (.c nilD), none, 0, 0, false⟩])
     .ret)
   .skip))
  (.seq (.reg [⟨some 5, .bsl true 1 [] [], none, 0, 0, true⟩,
     ⟨some 6, .mv (.t 0), none, 0, 0, false⟩,
     ⟨some 7, .app 1 140737488355328 (.t 5) (.t 6), none, 0, 0, true⟩,
     ⟨some 2, .mv (.t 7), none, 0, 0, false⟩])
  .ret))),
  8, [.t 2], (.pure false true)⟩
/-- newsreel/newsreelref10.At -/
def a40 : AFn := ⟨(.seq (.reg [⟨some 4, .mv (.c (.lit (.int .i64 0))), none, 0, 0, false⟩])
  (.seq (.seq (.reg [⟨some 5, .mv (.c (.lit (.int .i64 0))), none, 0, 0, false⟩])
   (.block 0 (.loop 35 (.seq (.seq (.reg [⟨some 6, .mv (.t 5), none, 0, 0, false⟩,
         ⟨some 7, .mv (.t 0), none, 0, 0, false⟩,
         ⟨some 8, .len false (.t 7), none, 0, 0, false⟩,
         ⟨some 9, .bin .lss (.t 6) (.t 8), none, 0, 0, false⟩])
      (.cond (.t 9) .skip
      (.exit 0)))
     (.seq (.block 1 (.seq (.reg [⟨some 12, .mv (.t 0), none, 0, 0, false⟩,
          ⟨some 13, .mv (.t 5), none, 0, 0, false⟩,
          ⟨some 14, .ia 2 (.t 12) (.t 13), none, 0, 0, false⟩,
          ⟨some 15, .fa [1, 1] 0 (.t 14), none, 0, 0, false⟩,
          ⟨some 16, .ld false 1 (.t 15), none, 0, 0, false⟩,
          ⟨some 17, .mv (.t 1), none, 0, 0, false⟩,
          ⟨some 18, .bin .eql (.t 16) (.t 17), none, 0, 0, false⟩])
       (.cond (.t 18) (.seq (.reg [⟨some 19, .mv (.t 5), none, 0, 0, false⟩,
            ⟨some 4, .mv (.t 19), none, 0, 0, false⟩])
         .ret)
       .skip)))
     (.reg [⟨some 10, .mv (.t 5), none, 0, 0, false⟩,
       ⟨some 11, .bin .add (.t 10) (.c (.lit (.int .i64 1))), none, 0, 0, false⟩,
       ⟨some 5, .mv (.t 11), none, 0, 0, false⟩]))))))
  (.seq (.reg [⟨some 4, .mv (.c (.lit (.int .i64 (-1)))), none, 0, 0, false⟩])
  .ret))),
  20, [.t 4], (.pure true false)⟩
/-- (*newsreel/disk.Disk).change -/
def a41 : AFn := ⟨(.seq (.reg [⟨some 3, .box false (.t 1), none, 0, 0, false⟩,
     ⟨some 4, .mv (.c (.lit (.int .i64 0))), none, 0, 0, false⟩])
  (.seq (.seq (.reg [⟨some 9, .mv (.t 0), none, 0, 0, false⟩,
      ⟨some 10, .call (.c (.fn 37 0 [])) [(.t 9), (.c (.lit (.bool true)))], none, 0, 0, true⟩,
      ⟨some 5, .mv (.t 10), none, 0, 0, false⟩])
   (.seq (.reg [⟨some 11, .mv (.t 5), none, 0, 0, false⟩,
      ⟨some 12, .bin .neq (.t 11) (.c (.lit (.int .i64 0))), none, 0, 0, false⟩])
   (.cond (.t 12) (.seq (.reg [⟨some 13, .mv (.t 5), none, 0, 0, false⟩,
        ⟨some 4, .mv (.t 13), none, 0, 0, false⟩])
     .ret)
   .skip)))
  (.seq (.draw [⟨some 6, .box true (.c (.agg [1, 1, 1] [nilD, nilD, nilD])), none, 0, 0, true⟩]
    [⟨some 15, .mv (.t 0), none, 0, 0, false⟩,
     ⟨some 16, .nck (.t 15), none, 0, 0, false⟩,
     ⟨some 17, .fa [1, 1, 3, 1, 1, 1, 1, 1] 2 (.t 16), none, 0, 0, false⟩,
     ⟨some 18, .ld true 3 (.t 17), none, 0, 0, false⟩,
     ⟨some 19, .ld true 4 (.t 3), none, 0, 0, false⟩,
     ⟨some 20, .call (.c (.fn 59 0 [])) [(.t 18), (.t 19)], none, 0, 1, true⟩,
     ⟨some 14, .mv (.t 20), none, 1, 1, false⟩,
     ⟨some 21, .ext (.t 14) 0, none, 1, 1, false⟩,
     ⟨some 22, .ext (.t 14) 1, none, 1, 2, false⟩,
     ⟨none, .st 3 (.t 6) (.t 21), none, 1, 2, true⟩,
     ⟨some 7, .mv (.t 22), none, 2, 2, false⟩])
  (.seq (.seq (.reg [⟨some 23, .mv (.t 7), none, 0, 0, false⟩,
      ⟨some 24, .bin .neq (.t 23) (.c (.lit (.int .i64 0))), none, 0, 0, false⟩])
   (.cond (.t 24) (.seq (.reg [⟨some 25, .mv (.t 7), none, 0, 0, false⟩,
        ⟨some 4, .mv (.t 25), none, 0, 0, false⟩])
     .ret)
   .skip))
  (.seq (.seq (.reg [⟨some 26, .mv (.t 0), none, 0, 0, false⟩,
      ⟨some 27, .call (.c (.fn 44 0 [])) [(.t 26)], none, 0, 0, true⟩,
      ⟨some 8, .mv (.t 27), none, 0, 0, false⟩])
   (.seq (.reg [⟨some 28, .mv (.t 8), none, 0, 0, false⟩,
      ⟨some 29, .bin .neq (.t 28) (.c (.lit (.int .i64 0))), none, 0, 0, false⟩])
   (.cond (.t 29) (.seq (.reg [⟨some 30, .mv (.t 8), none, 0, 0, false⟩,
        ⟨some 4, .mv (.t 30), none, 0, 0, false⟩])
     .ret)
   .skip)))
  (.seq (.reg [⟨some 31, .mv (.t 0), none, 0, 0, false⟩,
     ⟨some 32, .ld true 3 (.t 6), none, 0, 0, false⟩,
     ⟨some 33, .nck (.t 31), none, 0, 0, false⟩,
     ⟨some 34, .fa [1, 1, 3, 1, 1, 1, 1, 1] 2 (.t 33), none, 0, 0, false⟩,
     ⟨none, .st 3 (.t 34) (.t 32), none, 0, 0, true⟩])
  (.seq (.reg [⟨some 4, .mv (.c (.lit (.int .i64 0))), none, 0, 0, false⟩])
  .ret))))))),
  35, [.t 4], .eff⟩
/-- newsreel/block.Pieces -/
def a42 : AFn := ⟨(.seq (.reg [⟨some 4, .mv (.c nilD), none, 0, 0, false⟩,
     ⟨some 5, .mv (.c (.lit (.int .i64 0))), none, 0, 0, false⟩])
  (.seq (.seq (.reg [⟨some 8, .mv (.t 0), none, 0, 0, false⟩,
      ⟨some 9, .bin .lss (.t 8) (.c (.lit (.int .i64 0))), none, 0, 0, false⟩])
   (.cond (.t 9) (.seq (.reg [⟨some 4, .mv (.c nilD), none, 0, 0, false⟩,
        ⟨some 5, .mv (.c (.lit (.int .i64 1))), none, 0, 0, false⟩])
     .ret)
   .skip))
  (.seq (.seq (.reg [⟨some 10, .mv (.t 0), none, 0, 0, false⟩,
      ⟨some 11, .bin .gtr (.t 10) (.c (.lit (.int .i64 65536))), none, 0, 0, false⟩,
      ⟨some 12, .mv (.t 11), none, 0, 0, false⟩,
      ⟨some 13, .mv (.t 1), some (12, false), 0, 0, false⟩,
      ⟨some 14, .len false (.t 13), some (12, false), 0, 0, false⟩,
      ⟨some 15, .mv (.t 0), some (12, false), 0, 0, false⟩,
      ⟨some 16, .bin .sub (.c (.lit (.int .i64 65536))) (.t 15), some (12, false), 0, 0, false⟩,
      ⟨some 17, .bin .gtr (.t 14) (.t 16), some (12, false), 0, 0, false⟩,
      ⟨some 18, .pick (.t 12) (.c (.lit (.bool true))) (.t 17), none, 0, 0, false⟩])
   (.cond (.t 18) (.seq (.reg [⟨some 4, .mv (.c nilD), none, 0, 0, false⟩,
        ⟨some 5, .mv (.c (.lit (.int .i64 4))), none, 0, 0, false⟩])
     .ret)
   .skip))
  (.seq (.reg [⟨some 6, .mv (.c nilD), none, 0, 0, false⟩])
  (.seq (.block 0 (.loop 67 (.seq (.seq (.reg [⟨some 19, .mv (.t 1), none, 0, 0, false⟩,
         ⟨some 20, .len false (.t 19), none, 0, 0, false⟩,
         ⟨some 21, .bin .gtr (.t 20) (.c (.lit (.int .i64 0))), none, 0, 0, false⟩])
      (.cond (.t 21) .skip
      (.exit 0)))
     (.block 1 (.seq (.reg [⟨some 22, .mv (.t 0), none, 0, 0, false⟩,
         ⟨some 23, .bin .rem (.t 22) (.c (.lit (.int .i64 16))), none, 0, 0, false⟩,
         ⟨some 24, .bin .sub (.c (.lit (.int .i64 16))) (.t 23), none, 0, 0, false⟩,
         ⟨some 25, .mv (.t 1), none, 0, 0, false⟩,
         ⟨some 26, .len false (.t 25), none, 0, 0, false⟩,
         ⟨some 27, .mm false [(.t 24), (.t 26)], none, 0, 0, false⟩,
         ⟨some 7, .mv (.t 27), none, 0, 0, false⟩])
      (.seq (.reg [⟨some 28, .mv (.t 6), none, 0, 0, false⟩,
         ⟨some 29, .mv (.t 0), none, 0, 0, false⟩,
         ⟨some 30, .mv (.t 1), none, 0, 0, false⟩,
         ⟨some 31, .mv (.t 7), none, 0, 0, false⟩,
         ⟨some 32, .slc 1 (.t 30) none (some (.t 31)) none, none, 0, 0, false⟩,
         ⟨some 33, .call (.c (.fn 39 0 [])) [(.t 32)], none, 0, 0, true⟩,
         ⟨some 34, .build [1, 1] [(.lit (.int .i64 0)), nilD] [(0, (.t 29)), (1, (.t 33))], none, 0, 0, false⟩,
         ⟨some 35, .bsl false 2 [(.agg [1, 1] [(.lit (.int .i64 0)), nilD])] [(0, (.t 34))], none, 0, 0, false⟩,
         ⟨some 36, .app 2 4398046511104 (.t 28) (.t 35), none, 0, 0, true⟩,
         ⟨some 6, .mv (.t 36), none, 0, 0, false⟩])
      (.seq (.reg [⟨some 37, .mv (.t 0), none, 0, 0, false⟩,
         ⟨some 38, .mv (.t 7), none, 0, 0, false⟩,
         ⟨some 39, .bin .add (.t 37) (.t 38), none, 0, 0, false⟩,
         ⟨some 0, .mv (.t 39), none, 0, 0, false⟩])
      (.reg [⟨some 40, .mv (.t 1), none, 0, 0, false⟩,
        ⟨some 41, .mv (.t 7), none, 0, 0, false⟩,
        ⟨some 42, .slc 1 (.t 40) (some (.t 41)) none none, none, 0, 0, false⟩,
        ⟨some 1, .mv (.t 42), none, 0, 0, false⟩]))))))))
  (.seq (.reg [⟨some 43, .mv (.t 6), none, 0, 0, false⟩,
     ⟨some 4, .mv (.t 43), none, 0, 0, false⟩,
     ⟨some 5, .mv (.c (.lit (.int .i64 0))), none, 0, 0, false⟩])
  .ret)))))),
  44, [.t 4, .t 5], (.pure false false)⟩
/-- newsreel/disk.grown -/
def a43 : AFn := ⟨(.seq (.reg [⟨some 4, .mv (.c (.lit (.int .i64 0))), none, 0, 0, false⟩])
  (.seq (.seq (.reg [⟨some 6, .mv (.t 1), none, 0, 0, false⟩,
      ⟨some 7, .len false (.t 6), none, 0, 0, false⟩,
      ⟨some 8, .bin .eql (.t 7) (.c (.lit (.int .i64 0))), none, 0, 0, false⟩])
   (.cond (.t 8) (.seq (.reg [⟨some 4, .mv (.c (.lit (.int .i64 0))), none, 0, 0, false⟩])
     .ret)
   .skip))
  (.seq (.reg [⟨some 9, .mv (.t 1), none, 0, 0, false⟩,
     ⟨some 10, .mv (.t 1), none, 0, 0, false⟩,
     ⟨some 11, .len false (.t 10), none, 0, 0, false⟩,
     ⟨some 12, .bin .sub (.t 11) (.c (.lit (.int .i64 1))), none, 0, 0, false⟩,
     ⟨some 13, .ia 2 (.t 9) (.t 12), none, 0, 0, false⟩,
     ⟨some 14, .ld true 2 (.t 13), none, 0, 0, false⟩,
     ⟨some 5, .box true (.c (.agg [1, 1] [(.lit (.int .i64 0)), nilD])), none, 0, 0, true⟩,
     ⟨none, .st 2 (.t 5) (.t 14), none, 0, 0, true⟩])
  (.seq (.reg [⟨some 15, .fa [1, 1] 0 (.t 5), none, 0, 0, false⟩,
     ⟨some 16, .ld false 1 (.t 15), none, 0, 0, false⟩,
     ⟨some 17, .fa [1, 1] 1 (.t 5), none, 0, 0, false⟩,
     ⟨some 18, .ld false 1 (.t 17), none, 0, 0, false⟩,
     ⟨some 19, .len false (.t 18), none, 0, 0, false⟩,
     ⟨some 20, .bin .add (.t 16) (.t 19), none, 0, 0, false⟩,
     ⟨some 21, .mv (.t 0), none, 0, 0, false⟩,
     ⟨some 22, .len false (.t 21), none, 0, 0, false⟩,
     ⟨some 23, .bin .sub (.t 20) (.t 22), none, 0, 0, false⟩,
     ⟨some 24, .mm true [(.c (.lit (.int .i64 0))), (.t 23)], none, 0, 0, false⟩,
     ⟨some 4, .mv (.t 24), none, 0, 0, false⟩])
  .ret)))),
  25, [.t 4], (.pure true false)⟩
/-- (*newsreel/disk.Disk).gate -/
def a44 : AFn := ⟨(.seq (.reg [⟨some 2, .mv (.c (.lit (.int .i64 0))), none, 0, 0, false⟩])
  (.seq (.reg [⟨some 3, .mv (.t 0), none, 0, 0, false⟩,
     ⟨some 4, .nck (.t 3), none, 0, 0, false⟩,
     ⟨some 5, .fa [1, 1, 3, 1, 1, 1, 1, 1] 4 (.t 4), none, 0, 0, false⟩,
     ⟨some 6, .ld false 1 (.t 5), none, 0, 0, false⟩,
     ⟨some 7, .bin .add (.t 6) (.c (.lit (.int .i64 1))), none, 0, 0, false⟩,
     ⟨some 8, .nck (.t 3), none, 0, 0, false⟩,
     ⟨some 9, .fa [1, 1, 3, 1, 1, 1, 1, 1] 4 (.t 8), none, 0, 0, false⟩,
     ⟨none, .st 1 (.t 9) (.t 7), none, 0, 0, true⟩])
  (.seq (.draw []
    [⟨some 10, .mv (.t 0), none, 0, 0, false⟩,
     ⟨some 11, .mv (.t 0), none, 0, 1, false⟩,
     ⟨some 12, .mv (.t 0), none, 0, 0, false⟩,
     ⟨some 13, .nck (.t 12), none, 0, 0, false⟩,
     ⟨some 14, .fa [1, 1, 3, 1, 1, 1, 1, 1] 5 (.t 13), none, 0, 0, false⟩,
     ⟨some 15, .ld false 1 (.t 14), none, 0, 0, false⟩,
     ⟨some 16, .bin .sub (.t 15) (.c (.lit (.int .i64 1))), none, 0, 0, false⟩,
     ⟨some 17, .mv (.t 0), none, 0, 0, false⟩,
     ⟨some 18, .nck (.t 17), none, 0, 0, false⟩,
     ⟨some 19, .fa [1, 1, 3, 1, 1, 1, 1, 1] 6 (.t 18), none, 0, 0, false⟩,
     ⟨some 20, .ld false 1 (.t 19), none, 0, 0, false⟩,
     ⟨some 21, .bin .sub (.t 20) (.c (.lit (.int .i64 1))), none, 0, 1, false⟩,
     ⟨some 22, .nck (.t 10), none, 0, 0, false⟩,
     ⟨some 23, .fa [1, 1, 3, 1, 1, 1, 1, 1] 5 (.t 22), none, 0, 0, false⟩,
     ⟨none, .st 1 (.t 23) (.t 16), none, 0, 1, true⟩,
     ⟨some 24, .nck (.t 11), none, 1, 1, false⟩,
     ⟨some 25, .fa [1, 1, 3, 1, 1, 1, 1, 1] 6 (.t 24), none, 1, 1, false⟩,
     ⟨none, .st 1 (.t 25) (.t 21), none, 1, 2, true⟩])
  (.seq (.block 0 (.seq (.reg [⟨some 27, .mv (.t 0), none, 0, 0, false⟩,
       ⟨some 28, .nck (.t 27), none, 0, 0, false⟩,
       ⟨some 29, .fa [1, 1, 3, 1, 1, 1, 1, 1] 6 (.t 28), none, 0, 0, false⟩,
       ⟨some 30, .ld false 1 (.t 29), none, 0, 0, false⟩,
       ⟨some 31, .bin .eql (.t 30) (.c (.lit (.int .i64 0))), none, 0, 0, false⟩,
       ⟨some 26, .mv (.t 31), none, 0, 0, false⟩])
    (.cond (.t 26) (.seq (.reg [⟨some 32, .mv (.t 0), none, 0, 0, false⟩,
         ⟨some 33, .nck (.t 32), none, 0, 0, false⟩,
         ⟨some 34, .fa [1, 1, 3, 1, 1, 1, 1, 1] 7 (.t 33), none, 0, 0, false⟩,
         ⟨none, .st 1 (.t 34) (.c (.lit (.bool true))), none, 0, 0, true⟩])
      (.seq (.reg [⟨some 2, .mv (.c (.lit (.int .i64 9))), none, 0, 0, false⟩])
      .ret))
    (.seq (.reg [⟨some 36, .mv (.t 0), none, 0, 0, false⟩,
         ⟨some 37, .nck (.t 36), none, 0, 0, false⟩,
         ⟨some 38, .fa [1, 1, 3, 1, 1, 1, 1, 1] 5 (.t 37), none, 0, 0, false⟩,
         ⟨some 39, .ld false 1 (.t 38), none, 0, 0, false⟩,
         ⟨some 40, .bin .eql (.t 39) (.c (.lit (.int .i64 0))), none, 0, 0, false⟩,
         ⟨some 35, .mv (.t 40), none, 0, 0, false⟩])
      (.cond (.t 35) (.seq (.reg [⟨some 2, .mv (.c (.lit (.int .i64 8))), none, 0, 0, false⟩])
        .ret)
      .skip)))))
  (.seq (.draw []
    [⟨some 41, .mv (.t 0), none, 0, 0, false⟩,
     ⟨some 42, .mv (.t 0), none, 0, 1, false⟩,
     ⟨some 43, .mv (.t 0), none, 0, 0, false⟩,
     ⟨some 44, .nck (.t 43), none, 0, 0, false⟩,
     ⟨some 45, .fa [1, 1, 3, 1, 1, 1, 1, 1] 5 (.t 44), none, 0, 0, false⟩,
     ⟨some 46, .ld false 1 (.t 45), none, 0, 0, false⟩,
     ⟨some 47, .mm true [(.t 46), (.c (.lit (.int .i64 0)))], none, 0, 0, false⟩,
     ⟨some 48, .mv (.t 0), none, 0, 0, false⟩,
     ⟨some 49, .nck (.t 48), none, 0, 0, false⟩,
     ⟨some 50, .fa [1, 1, 3, 1, 1, 1, 1, 1] 6 (.t 49), none, 0, 0, false⟩,
     ⟨some 51, .ld false 1 (.t 50), none, 0, 0, false⟩,
     ⟨some 52, .mm true [(.t 51), (.c (.lit (.int .i64 0)))], none, 0, 1, false⟩,
     ⟨some 53, .nck (.t 41), none, 0, 0, false⟩,
     ⟨some 54, .fa [1, 1, 3, 1, 1, 1, 1, 1] 5 (.t 53), none, 0, 0, false⟩,
     ⟨none, .st 1 (.t 54) (.t 47), none, 0, 1, true⟩,
     ⟨some 55, .nck (.t 42), none, 1, 1, false⟩,
     ⟨some 56, .fa [1, 1, 3, 1, 1, 1, 1, 1] 6 (.t 55), none, 1, 1, false⟩,
     ⟨none, .st 1 (.t 56) (.t 52), none, 1, 2, true⟩])
  (.seq (.reg [⟨some 2, .mv (.c (.lit (.int .i64 0))), none, 0, 0, false⟩])
  .ret)))))),
  57, [.t 2], .eff⟩
/-- newsreel/block.Lay -/
def a45 : AFn := ⟨(.seq (.reg [⟨some 4, .mv (.c nilD), none, 0, 0, false⟩])
  (.seq (.reg [⟨some 9, .mv (.t 0), none, 0, 0, false⟩,
     ⟨some 10, .call (.c (.fn 39 0 [])) [(.t 9)], none, 0, 0, true⟩,
     ⟨some 5, .mv (.t 10), none, 0, 0, false⟩])
  (.seq (.seq (.reg [⟨some 11, .mv (.t 1), none, 0, 0, false⟩,
      ⟨some 12, .len false (.t 11), none, 0, 0, false⟩,
      ⟨some 13, .mv (.c (.lit (.int .i64 0))), none, 0, 0, false⟩])
   (.block 0 (.loop 14368 (.seq (.reg [⟨some 14, .bin .lss (.t 13) (.t 12), none, 0, 0, false⟩])
     (.seq (.cond (.t 14) .skip
      (.exit 0))
     (.seq (.block 1 (.seq (.reg [⟨some 15, .ia 2 (.t 11) (.t 13), none, 0, 0, false⟩,
          ⟨some 16, .ld true 2 (.t 15), none, 0, 0, false⟩,
          ⟨some 7, .box true (.c (.agg [1, 1] [(.lit (.int .i64 0)), nilD])), none, 0, 0, true⟩,
          ⟨none, .st 2 (.t 7) (.t 16), none, 0, 0, true⟩])
       (.seq (.seq (.reg [⟨some 17, .ld true 2 (.t 7), none, 0, 0, false⟩,
           ⟨some 18, .call (.c (.fn 60 0 [])) [(.t 17)], none, 0, 0, false⟩,
           ⟨some 19, .un .not (.t 18), none, 0, 0, false⟩])
        (.cond (.t 19) (.exit 1)
        .skip))
       (.seq (.seq (.reg [⟨some 20, .fa [1, 1] 0 (.t 7), none, 0, 0, false⟩,
           ⟨some 21, .ld false 1 (.t 20), none, 0, 0, false⟩,
           ⟨some 22, .fa [1, 1] 1 (.t 7), none, 0, 0, false⟩,
           ⟨some 23, .ld false 1 (.t 22), none, 0, 0, false⟩,
           ⟨some 24, .len false (.t 23), none, 0, 0, false⟩,
           ⟨some 25, .bin .add (.t 21) (.t 24), none, 0, 0, false⟩,
           ⟨some 8, .mv (.t 25), none, 0, 0, false⟩])
        (.seq (.reg [⟨some 26, .mv (.t 8), none, 0, 0, false⟩,
           ⟨some 27, .mv (.t 5), none, 0, 0, false⟩,
           ⟨some 28, .len false (.t 27), none, 0, 0, false⟩,
           ⟨some 29, .bin .gtr (.t 26) (.t 28), none, 0, 0, false⟩])
        (.cond (.t 29) (.reg [⟨some 30, .mv (.t 5), none, 0, 0, false⟩,
            ⟨some 31, .mv (.t 8), none, 0, 0, false⟩,
            ⟨some 32, .mv (.t 5), none, 0, 0, false⟩,
            ⟨some 33, .len false (.t 32), none, 0, 0, false⟩,
            ⟨some 34, .bin .sub (.t 31) (.t 33), none, 0, 0, false⟩,
            ⟨some 35, .appZ 1 140737488355328 (.lit (.int .u8 0)) (.t 30) (.t 34), none, 0, 0, true⟩,
            ⟨some 5, .mv (.t 35), none, 0, 0, false⟩])
        .skip)))
       (.draw []
        [⟨some 36, .mv (.t 5), none, 0, 0, false⟩,
         ⟨some 37, .fa [1, 1] 0 (.t 7), none, 0, 0, false⟩,
         ⟨some 38, .ld false 1 (.t 37), none, 0, 0, false⟩,
         ⟨some 39, .slc 1 (.t 36) (some (.t 38)) none none, none, 0, 0, false⟩,
         ⟨some 40, .fa [1, 1] 1 (.t 7), none, 0, 0, false⟩,
         ⟨some 41, .ld false 1 (.t 40), none, 0, 0, false⟩,
         ⟨some 42, .cpy 1 (.t 39) (.t 41), none, 0, 1, true⟩])))))
     (.reg [⟨some 43, .bin .add (.t 13) (.c (.lit (.int .i64 1))), none, 0, 0, false⟩,
       ⟨some 13, .mv (.t 43), none, 0, 0, false⟩])))))))
  (.seq (.reg [⟨some 44, .mv (.t 5), none, 0, 0, false⟩,
     ⟨some 4, .mv (.t 44), none, 0, 0, false⟩])
  .ret)))),
  45, [.t 4], (.pure false false)⟩
/-- newsreel/file.Sync -/
def a46 : AFn := ⟨(.seq (.reg [⟨some 1, .box false (.t 0), none, 0, 0, false⟩,
     ⟨some 2, .box true (.c (.agg [1, 1, 1] [nilD, nilD, nilD])), none, 0, 0, true⟩])
  (.seq (.seq (.reg [⟨some 3, .ld true 3 (.t 1), none, 0, 0, false⟩,
      ⟨some 4, .call (.c (.fn 61 0 [])) [(.t 3)], none, 0, 0, false⟩,
      ⟨some 5, .un .not (.t 4), none, 0, 0, false⟩])
   (.cond (.t 5) (.seq (.reg [⟨some 6, .build [1, 1, 1] [nilD, nilD, nilD] [], none, 0, 0, false⟩,
        ⟨none, .st 3 (.t 2) (.t 6), none, 0, 0, true⟩])
     .ret)
   .skip))
  (.seq (.reg [⟨some 7, .fa [1, 1, 1] 0 (.t 1), none, 0, 0, false⟩,
     ⟨some 8, .ld false 1 (.t 7), none, 0, 0, false⟩,
     ⟨some 9, .call (.c (.fn 62 0 [])) [(.t 8)], none, 0, 0, true⟩,
     ⟨none, .st 3 (.t 2) (.t 9), none, 0, 0, true⟩])
  .ret))),
  10, [.cell 2 true 3], (.pure false false)⟩
/-- newsreel/dir.Sync -/
def a47 : AFn := ⟨(.seq (.reg [⟨some 1, .box false (.t 0), none, 0, 0, false⟩,
     ⟨some 2, .box true (.c (.agg [1, 1, 1] [nilD, nilD, nilD])), none, 0, 0, true⟩])
  (.seq (.seq (.reg [⟨some 3, .ld true 3 (.t 1), none, 0, 0, false⟩,
      ⟨some 4, .call (.c (.fn 63 0 [])) [(.t 3)], none, 0, 0, false⟩,
      ⟨some 5, .un .not (.t 4), none, 0, 0, false⟩])
   (.cond (.t 5) (.seq (.reg [⟨some 6, .build [1, 1, 1] [nilD, nilD, nilD] [], none, 0, 0, false⟩,
        ⟨none, .st 3 (.t 2) (.t 6), none, 0, 0, true⟩])
     .ret)
   .skip))
  (.seq (.draw []
    [⟨some 7, .fa [1, 1, 1] 0 (.t 1), none, 0, 0, false⟩,
     ⟨some 8, .ld false 1 (.t 7), none, 0, 0, false⟩,
     ⟨some 9, .call (.c (.fn 64 0 [])) [(.t 8)], none, 0, 1, true⟩,
     ⟨some 10, .fa [1, 1, 1] 0 (.t 1), none, 0, 1, false⟩,
     ⟨some 11, .ld false 1 (.t 10), none, 0, 1, false⟩,
     ⟨some 12, .call (.c (.fn 64 0 [])) [(.t 11)], none, 1, 2, true⟩,
     ⟨some 13, .build [1, 1, 1] [nilD, nilD, nilD] [(0, (.t 9)), (1, (.t 12))], none, 2, 2, false⟩,
     ⟨none, .st 3 (.t 2) (.t 13), none, 2, 3, true⟩])
  .ret))),
  14, [.cell 2 true 3], (.pure false false)⟩
/-- newsreel/dir.Crash -/
def a48 : AFn := ⟨(.seq (.reg [⟨some 2, .box false (.t 0), none, 0, 0, false⟩,
     ⟨some 4, .box true (.c (.agg [1, 1, 1] [nilD, nilD, nilD])), none, 0, 0, true⟩])
  (.seq (.seq (.reg [⟨some 7, .ld true 3 (.t 2), none, 0, 0, false⟩,
      ⟨some 8, .call (.c (.fn 63 0 [])) [(.t 7)], none, 0, 0, false⟩,
      ⟨some 9, .un .not (.t 8), none, 0, 0, false⟩])
   (.cond (.t 9) (.seq (.reg [⟨some 10, .build [1, 1, 1] [nilD, nilD, nilD] [], none, 0, 0, false⟩,
        ⟨none, .st 3 (.t 4) (.t 10), none, 0, 0, true⟩])
     .ret)
   .skip))
  (.seq (.draw []
    [⟨some 12, .fa [1, 1, 1] 1 (.t 2), none, 0, 0, false⟩,
     ⟨some 13, .ld false 1 (.t 12), none, 0, 0, false⟩,
     ⟨some 14, .fa [1, 1, 1] 2 (.t 2), none, 0, 0, false⟩,
     ⟨some 15, .ld false 1 (.t 14), none, 0, 0, false⟩,
     ⟨some 16, .mv (.t 1), none, 0, 0, false⟩,
     ⟨some 17, .fa [1, 1, 1] 2 (.t 2), none, 0, 0, false⟩,
     ⟨some 18, .ld false 1 (.t 17), none, 0, 0, false⟩,
     ⟨some 19, .len false (.t 18), none, 0, 0, false⟩,
     ⟨some 20, .mm false [(.t 16), (.t 19)], none, 0, 0, false⟩,
     ⟨some 21, .mm true [(.c (.lit (.int .i64 0))), (.t 20)], none, 0, 0, false⟩,
     ⟨some 22, .slc 4 (.t 15) none (some (.t 21)) none, none, 0, 0, false⟩,
     ⟨some 23, .call (.c (.fn 65 0 [])) [(.t 13), (.t 22)], none, 0, 1, true⟩,
     ⟨some 11, .mv (.t 23), none, 1, 1, false⟩,
     ⟨some 24, .ext (.t 11) 0, none, 1, 1, false⟩,
     ⟨some 25, .ext (.t 11) 1, none, 1, 1, false⟩,
     ⟨some 5, .mv (.t 24), none, 1, 1, false⟩,
     ⟨some 6, .mv (.t 25), none, 1, 1, false⟩])
  (.seq (.reg [⟨some 26, .mv (.t 5), none, 0, 0, false⟩,
     ⟨some 27, .call (.c (.fn 64 0 [])) [(.t 26)], none, 0, 0, true⟩,
     ⟨some 28, .mv (.t 5), none, 0, 0, false⟩,
     ⟨some 29, .call (.c (.fn 64 0 [])) [(.t 28)], none, 0, 0, true⟩,
     ⟨some 30, .build [1, 1, 1] [nilD, nilD, nilD] [(0, (.t 27)), (1, (.t 29))], none, 0, 0, false⟩,
     ⟨none, .st 3 (.t 4) (.t 30), none, 0, 0, true⟩])
  .ret)))),
  31, [.cell 4 true 3], (.pure false false)⟩
/-- newsreel/file.Crash -/
def a49 : AFn := ⟨(.seq (.reg [⟨some 2, .box false (.t 0), none, 0, 0, false⟩,
     ⟨some 4, .box true (.c (.agg [1, 1, 1] [nilD, nilD, nilD])), none, 0, 0, true⟩,
     ⟨some 5, .mv (.c (.lit (.int .i64 0))), none, 0, 0, false⟩])
  (.seq (.seq (.reg [⟨some 9, .ld true 3 (.t 2), none, 0, 0, false⟩,
      ⟨some 10, .call (.c (.fn 61 0 [])) [(.t 9)], none, 0, 0, false⟩,
      ⟨some 11, .un .not (.t 10), none, 0, 0, false⟩])
   (.cond (.t 11) (.seq (.reg [⟨some 12, .build [1, 1, 1] [nilD, nilD, nilD] [], none, 0, 0, false⟩,
        ⟨none, .st 3 (.t 4) (.t 12), none, 0, 0, true⟩,
        ⟨some 5, .mv (.c (.lit (.int .i64 0))), none, 0, 0, false⟩])
     .ret)
   .skip))
  (.seq (.reg [⟨some 13, .fa [1, 1, 1] 1 (.t 2), none, 0, 0, false⟩,
     ⟨some 14, .ld false 1 (.t 13), none, 0, 0, false⟩,
     ⟨some 6, .mv (.t 14), none, 0, 0, false⟩])
  (.seq (.seq (.reg [⟨some 15, .fa [1, 1, 1] 2 (.t 2), none, 0, 0, false⟩,
      ⟨some 16, .ld false 1 (.t 15), none, 0, 0, false⟩,
      ⟨some 17, .len false (.t 16), none, 0, 0, false⟩,
      ⟨some 18, .mv (.c (.lit (.int .i64 0))), none, 0, 0, false⟩])
   (.block 0 (.loop 458838 (.seq (.reg [⟨some 19, .bin .lss (.t 18) (.t 17), none, 0, 0, false⟩])
     (.seq (.cond (.t 19) .skip
      (.exit 0))
     (.seq (.block 1 (.seq (.reg [⟨some 20, .mv (.t 18), none, 0, 0, false⟩,
          ⟨some 21, .ia 2 (.t 16) (.t 18), none, 0, 0, false⟩,
          ⟨some 22, .ld true 2 (.t 21), none, 0, 0, false⟩,
          ⟨some 8, .box true (.c (.agg [1, 1] [(.lit (.int .i64 0)), nilD])), none, 0, 0, true⟩,
          ⟨some 7, .mv (.t 20), none, 0, 0, false⟩,
          ⟨none, .st 2 (.t 8) (.t 22), none, 0, 0, true⟩])
       (.seq (.reg [⟨some 23, .mv (.t 7), none, 0, 0, false⟩,
          ⟨some 24, .mv (.t 1), none, 0, 0, false⟩,
          ⟨some 25, .len false (.t 24), none, 0, 0, false⟩,
          ⟨some 26, .bin .lss (.t 23) (.t 25), none, 0, 0, false⟩,
          ⟨some 27, .mv (.t 26), none, 0, 0, false⟩,
          ⟨some 28, .mv (.t 1), some (27, true), 0, 0, false⟩,
          ⟨some 29, .mv (.t 7), some (27, true), 0, 0, false⟩,
          ⟨some 30, .ia 1 (.t 28) (.t 29), some (27, true), 0, 0, false⟩,
          ⟨some 31, .ld false 1 (.t 30), some (27, true), 0, 0, false⟩,
          ⟨some 32, .pick (.t 27) (.t 31) (.c (.lit (.bool false))), none, 0, 0, false⟩])
       (.cond (.t 32) (.reg [⟨some 33, .mv (.t 6), none, 0, 0, false⟩,
           ⟨some 34, .ld true 2 (.t 8), none, 0, 0, false⟩,
           ⟨some 35, .bsl false 2 [(.agg [1, 1] [(.lit (.int .i64 0)), nilD])] [(0, (.t 34))], none, 0, 0, false⟩,
           ⟨some 36, .call (.c (.fn 45 0 [])) [(.t 33), (.t 35)], none, 0, 0, true⟩,
           ⟨some 6, .mv (.t 36), none, 0, 0, false⟩])
       .skip))))
     (.reg [⟨some 37, .bin .add (.t 18) (.c (.lit (.int .i64 1))), none, 0, 0, false⟩,
       ⟨some 18, .mv (.t 37), none, 0, 0, false⟩])))))))
  (.seq (.draw []
    [⟨some 38, .mv (.t 6), none, 0, 0, false⟩,
     ⟨some 39, .call (.c (.fn 62 0 [])) [(.t 38)], none, 0, 1, true⟩,
     ⟨some 40, .fa [1, 1, 1] 2 (.t 2), none, 0, 2, false⟩,
     ⟨some 41, .ld false 1 (.t 40), none, 0, 2, false⟩,
     ⟨some 42, .len false (.t 41), none, 0, 2, false⟩,
     ⟨none, .st 3 (.t 4) (.t 39), none, 1, 2, true⟩,
     ⟨some 5, .mv (.t 42), none, 2, 2, false⟩])
  .ret))))),
  43, [.cell 4 true 3, .t 5], (.pure false false)⟩
/-- newsreel/newsreelref10.Do -/
def a50 : AFn := ⟨(.seq (.reg [⟨some 2, .box false (.t 0), none, 0, 0, false⟩,
     ⟨some 3, .box false (.t 1), none, 0, 0, false⟩,
     ⟨some 4, .box true (.c (.agg [1, 1, 1] [nilD, nilD, nilD])), none, 0, 0, true⟩,
     ⟨some 5, .mv (.c (.lit (.int .i64 0))), none, 0, 0, false⟩])
  (.seq (.seq (.reg [⟨some 8, .ld true 3 (.t 2), none, 0, 0, false⟩,
      ⟨some 9, .call (.c (.fn 66 0 [])) [(.t 8)], none, 0, 0, false⟩,
      ⟨some 10, .un .not (.t 9), none, 0, 0, false⟩])
   (.cond (.t 10) (.seq (.reg [⟨some 11, .build [1, 1, 1] [nilD, nilD, nilD] [], none, 0, 0, false⟩,
        ⟨none, .st 3 (.t 4) (.t 11), none, 0, 0, true⟩,
        ⟨some 5, .mv (.c (.lit (.int .i64 10))), none, 0, 0, false⟩])
     .ret)
   .skip))
  (.seq (.reg [⟨some 13, .fa [1, 1, 1] 0 (.t 2), none, 0, 0, false⟩,
     ⟨some 14, .ld false 1 (.t 13), none, 0, 0, false⟩,
     ⟨some 15, .ld true 4 (.t 3), none, 0, 0, false⟩,
     ⟨some 16, .call (.c (.fn 67 0 [])) [(.t 14), (.t 15)], none, 0, 0, true⟩,
     ⟨some 12, .mv (.t 16), none, 0, 0, false⟩,
     ⟨some 17, .ext (.t 12) 0, none, 0, 0, false⟩,
     ⟨some 18, .ext (.t 12) 1, none, 0, 0, false⟩,
     ⟨some 6, .mv (.t 17), none, 0, 0, false⟩,
     ⟨some 7, .mv (.t 18), none, 0, 0, false⟩])
  (.seq (.seq (.reg [⟨some 19, .mv (.t 7), none, 0, 0, false⟩,
      ⟨some 20, .bin .neq (.t 19) (.c (.lit (.int .i64 0))), none, 0, 0, false⟩])
   (.cond (.t 20) (.seq (.reg [⟨some 21, .build [1, 1, 1] [nilD, nilD, nilD] [], none, 0, 0, false⟩,
        ⟨some 22, .mv (.t 7), none, 0, 0, false⟩,
        ⟨none, .st 3 (.t 4) (.t 21), none, 0, 0, true⟩,
        ⟨some 5, .mv (.t 22), none, 0, 0, false⟩])
     .ret)
   .skip))
  (.seq (.draw []
    [⟨some 23, .mv (.t 6), none, 0, 3, false⟩,
     ⟨some 24, .fa [1, 1, 1] 1 (.t 2), none, 0, 3, false⟩,
     ⟨some 25, .ld false 1 (.t 24), none, 0, 3, false⟩,
     ⟨some 26, .bsl true 4 [] [], none, 0, 1, true⟩,
     ⟨some 27, .fa [1, 1, 1] 2 (.t 2), none, 0, 1, false⟩,
     ⟨some 28, .ld false 1 (.t 27), none, 0, 1, false⟩,
     ⟨some 29, .app 4 2932031007402 (.t 26) (.t 28), none, 1, 2, true⟩,
     ⟨some 30, .ld true 4 (.t 3), none, 0, 2, false⟩,
     ⟨some 31, .bsl false 4 [(.agg [1, 1, 1, 1] [(.lit (.int .i64 0)), (.lit (.string ⟨#[]⟩)), (.lit (.string ⟨#[]⟩)), (.lit (.int .i64 0))])] [(0, (.t 30))], none, 0, 2, false⟩,
     ⟨some 32, .app 4 2932031007402 (.t 29) (.t 31), none, 2, 3, true⟩,
     ⟨some 33, .build [1, 1, 1] [nilD, nilD, nilD] [(0, (.t 23)), (1, (.t 25)), (2, (.t 32))], none, 3, 3, false⟩,
     ⟨none, .st 3 (.t 4) (.t 33), none, 3, 4, true⟩,
     ⟨some 5, .mv (.c (.lit (.int .i64 0))), none, 4, 4, false⟩])
  .ret))))),
  34, [.cell 4 true 3, .t 5], (.pure false false)⟩
/-- (*newsreel/newsreelref11.Disk).count -/
def a51 : AFn := ⟨(.seq (.reg [⟨some 2, .mv (.c (.lit (.int .i64 0))), none, 0, 0, false⟩])
  (.seq (.reg [⟨some 5, .mv (.t 0), none, 0, 0, false⟩,
     ⟨some 6, .mv (.t 0), none, 0, 0, false⟩,
     ⟨some 7, .nck (.t 6), none, 0, 0, false⟩,
     ⟨some 8, .fa [1, 3, 1, 1, 1, 1, 1] 3 (.t 7), none, 0, 0, false⟩,
     ⟨some 9, .ld false 1 (.t 8), none, 0, 0, false⟩,
     ⟨some 10, .bin .add (.t 9) (.c (.lit (.int .i64 1))), none, 0, 0, false⟩,
     ⟨some 11, .nck (.t 5), none, 0, 0, false⟩,
     ⟨some 12, .fa [1, 3, 1, 1, 1, 1, 1] 3 (.t 11), none, 0, 0, false⟩,
     ⟨none, .st 1 (.t 12) (.t 10), none, 0, 0, true⟩])
  (.seq (.draw []
    [⟨some 13, .mv (.t 0), none, 0, 0, false⟩,
     ⟨some 14, .nck (.t 13), none, 0, 0, false⟩,
     ⟨some 15, .fa [1, 3, 1, 1, 1, 1, 1] 5 (.t 14), none, 0, 0, false⟩,
     ⟨some 16, .ld false 1 (.t 15), none, 0, 0, false⟩,
     ⟨some 17, .bin .eql (.t 16) (.c (.lit (.int .i64 1))), none, 0, 0, false⟩,
     ⟨some 18, .mv (.t 0), none, 0, 0, false⟩,
     ⟨some 19, .nck (.t 18), none, 0, 0, false⟩,
     ⟨some 20, .fa [1, 3, 1, 1, 1, 1, 1] 4 (.t 19), none, 0, 0, false⟩,
     ⟨some 21, .ld false 1 (.t 20), none, 0, 0, false⟩,
     ⟨some 22, .bin .eql (.t 21) (.c (.lit (.int .i64 1))), none, 0, 0, false⟩,
     ⟨some 3, .mv (.t 17), none, 0, 0, false⟩,
     ⟨some 4, .mv (.t 22), none, 0, 0, false⟩])
  (.jn 25 (.seq (.reg [⟨some 23, .mv (.t 0), none, 0, 0, false⟩,
      ⟨some 24, .nck (.t 23), none, 0, 0, false⟩,
      ⟨some 25, .fa [1, 3, 1, 1, 1, 1, 1] 5 (.t 24), none, 0, 0, false⟩,
      ⟨some 26, .ld false 1 (.t 25), none, 0, 0, false⟩,
      ⟨some 27, .bin .gtr (.t 26) (.c (.lit (.int .i64 0))), none, 0, 0, false⟩])
   (.cond (.t 27) (.reg [⟨some 28, .mv (.t 0), none, 0, 0, false⟩,
       ⟨some 29, .mv (.t 0), none, 0, 0, false⟩,
       ⟨some 30, .nck (.t 29), none, 0, 0, false⟩,
       ⟨some 31, .fa [1, 3, 1, 1, 1, 1, 1] 5 (.t 30), none, 0, 0, false⟩,
       ⟨some 32, .ld false 1 (.t 31), none, 0, 0, false⟩,
       ⟨some 33, .bin .sub (.t 32) (.c (.lit (.int .i64 1))), none, 0, 0, false⟩,
       ⟨some 34, .nck (.t 28), none, 0, 0, false⟩,
       ⟨some 35, .fa [1, 3, 1, 1, 1, 1, 1] 5 (.t 34), none, 0, 0, false⟩,
       ⟨none, .st 1 (.t 35) (.t 33), none, 0, 0, true⟩])
   .skip))
  (.seq (.seq (.reg [⟨some 36, .mv (.t 0), none, 0, 0, false⟩,
      ⟨some 37, .nck (.t 36), none, 0, 0, false⟩,
      ⟨some 38, .fa [1, 3, 1, 1, 1, 1, 1] 4 (.t 37), none, 0, 0, false⟩,
      ⟨some 39, .ld false 1 (.t 38), none, 0, 0, false⟩,
      ⟨some 40, .bin .gtr (.t 39) (.c (.lit (.int .i64 0))), none, 0, 0, false⟩])
   (.cond (.t 40) (.reg [⟨some 41, .mv (.t 0), none, 0, 0, false⟩,
       ⟨some 42, .mv (.t 0), none, 0, 0, false⟩,
       ⟨some 43, .nck (.t 42), none, 0, 0, false⟩,
       ⟨some 44, .fa [1, 3, 1, 1, 1, 1, 1] 4 (.t 43), none, 0, 0, false⟩,
       ⟨some 45, .ld false 1 (.t 44), none, 0, 0, false⟩,
       ⟨some 46, .bin .sub (.t 45) (.c (.lit (.int .i64 1))), none, 0, 0, false⟩,
       ⟨some 47, .nck (.t 41), none, 0, 0, false⟩,
       ⟨some 48, .fa [1, 3, 1, 1, 1, 1, 1] 4 (.t 47), none, 0, 0, false⟩,
       ⟨none, .st 1 (.t 48) (.t 46), none, 0, 0, true⟩])
   .skip))
  (.seq (.seq (.reg [⟨some 49, .mv (.t 3), none, 0, 0, false⟩])
   (.cond (.t 49) (.seq (.reg [⟨some 50, .mv (.t 0), none, 0, 0, false⟩,
        ⟨some 51, .nck (.t 50), none, 0, 0, false⟩,
        ⟨some 52, .fa [1, 3, 1, 1, 1, 1, 1] 6 (.t 51), none, 0, 0, false⟩,
        ⟨none, .st 1 (.t 52) (.c (.lit (.bool true))), none, 0, 0, true⟩])
     (.seq (.reg [⟨some 2, .mv (.c (.lit (.int .i64 9))), none, 0, 0, false⟩])
     .ret))
   .skip))
  (.seq (.seq (.reg [⟨some 53, .mv (.t 4), none, 0, 0, false⟩])
   (.cond (.t 53) (.seq (.reg [⟨some 2, .mv (.c (.lit (.int .i64 8))), none, 0, 0, false⟩])
     .ret)
   .skip))
  (.seq (.reg [⟨some 2, .mv (.c (.lit (.int .i64 0))), none, 0, 0, false⟩])
  .ret)))))))),
  54, [.t 2], .eff⟩
/-- newsreel/newsreelref08.Pieces -/
def a52 : AFn := ⟨(.seq (.reg [⟨some 4, .mv (.c nilD), none, 0, 0, false⟩,
     ⟨some 5, .mv (.c (.lit (.int .i64 0))), none, 0, 0, false⟩])
  (.seq (.seq (.reg [⟨some 9, .mv (.t 0), none, 0, 0, false⟩,
      ⟨some 10, .bin .lss (.t 9) (.c (.lit (.int .i64 0))), none, 0, 0, false⟩])
   (.cond (.t 10) (.seq (.reg [⟨some 4, .mv (.c nilD), none, 0, 0, false⟩,
        ⟨some 5, .mv (.c (.lit (.int .i64 1))), none, 0, 0, false⟩])
     .ret)
   .skip))
  (.seq (.seq (.reg [⟨some 11, .mv (.t 0), none, 0, 0, false⟩,
      ⟨some 12, .bin .gtr (.t 11) (.c (.lit (.int .i64 65536))), none, 0, 0, false⟩,
      ⟨some 13, .mv (.t 12), none, 0, 0, false⟩,
      ⟨some 14, .mv (.t 1), some (13, false), 0, 0, false⟩,
      ⟨some 15, .len false (.t 14), some (13, false), 0, 0, false⟩,
      ⟨some 16, .mv (.t 0), some (13, false), 0, 0, false⟩,
      ⟨some 17, .bin .sub (.c (.lit (.int .i64 65536))) (.t 16), some (13, false), 0, 0, false⟩,
      ⟨some 18, .bin .gtr (.t 15) (.t 17), some (13, false), 0, 0, false⟩,
      ⟨some 19, .pick (.t 13) (.c (.lit (.bool true))) (.t 18), none, 0, 0, false⟩])
   (.cond (.t 19) (.seq (.reg [⟨some 4, .mv (.c nilD), none, 0, 0, false⟩,
        ⟨some 5, .mv (.c (.lit (.int .i64 4))), none, 0, 0, false⟩])
     .ret)
   .skip))
  (.seq (.reg [⟨some 20, .bsl true 2 [] [], none, 0, 0, true⟩,
     ⟨some 6, .mv (.t 20), none, 0, 0, false⟩])
  (.seq (.seq (.reg [⟨some 7, .mv (.c (.lit (.int .i64 0))), none, 0, 0, false⟩])
   (.block 0 (.loop 195 (.seq (.seq (.reg [⟨some 21, .mv (.t 7), none, 0, 0, false⟩,
         ⟨some 22, .mv (.t 1), none, 0, 0, false⟩,
         ⟨some 23, .len false (.t 22), none, 0, 0, false⟩,
         ⟨some 24, .bin .lss (.t 21) (.t 23), none, 0, 0, false⟩])
      (.cond (.t 24) .skip
      (.exit 0)))
     (.seq (.block 1 (.jn 195 (.seq (.reg [⟨some 27, .mv (.t 7), none, 0, 0, false⟩,
           ⟨some 28, .bin .eql (.t 27) (.c (.lit (.int .i64 0))), none, 0, 0, false⟩,
           ⟨some 29, .mv (.t 28), none, 0, 0, false⟩,
           ⟨some 30, .mv (.t 0), some (29, false), 0, 0, false⟩,
           ⟨some 31, .mv (.t 7), some (29, false), 0, 0, false⟩,
           ⟨some 32, .bin .add (.t 30) (.t 31), some (29, false), 0, 0, false⟩,
           ⟨some 33, .bin .rem (.t 32) (.c (.lit (.int .i64 16))), some (29, false), 0, 0, false⟩,
           ⟨some 34, .bin .eql (.t 33) (.c (.lit (.int .i64 0))), some (29, false), 0, 0, false⟩,
           ⟨some 35, .pick (.t 29) (.c (.lit (.bool true))) (.t 34), none, 0, 0, false⟩])
        (.cond (.t 35) (.reg [⟨some 36, .mv (.t 6), none, 0, 0, false⟩,
            ⟨some 37, .mv (.t 0), none, 0, 0, false⟩,
            ⟨some 38, .mv (.t 7), none, 0, 0, false⟩,
            ⟨some 39, .bin .add (.t 37) (.t 38), none, 0, 0, false⟩,
            ⟨some 40, .build [1, 1] [(.lit (.int .i64 0)), nilD] [(0, (.t 39))], none, 0, 0, false⟩,
            ⟨some 41, .bsl false 2 [(.agg [1, 1] [(.lit (.int .i64 0)), nilD])] [(0, (.t 40))], none, 0, 0, false⟩,
            ⟨some 42, .app 2 4398046511104 (.t 36) (.t 41), none, 0, 0, true⟩,
            ⟨some 6, .mv (.t 42), none, 0, 0, false⟩])
        .skip))
       (.seq (.reg [⟨some 43, .mv (.t 6), none, 0, 0, false⟩,
          ⟨some 44, .len false (.t 43), none, 0, 0, false⟩,
          ⟨some 45, .bin .sub (.t 44) (.c (.lit (.int .i64 1))), none, 0, 0, false⟩,
          ⟨some 8, .mv (.t 45), none, 0, 0, false⟩])
       (.draw []
        [⟨some 46, .mv (.t 6), none, 0, 1, false⟩,
         ⟨some 47, .mv (.t 8), none, 0, 1, false⟩,
         ⟨some 48, .mv (.t 6), none, 0, 0, false⟩,
         ⟨some 49, .mv (.t 8), none, 0, 0, false⟩,
         ⟨some 50, .ia 2 (.t 48) (.t 49), none, 0, 0, false⟩,
         ⟨some 51, .fa [1, 1] 1 (.t 50), none, 0, 0, false⟩,
         ⟨some 52, .ld false 1 (.t 51), none, 0, 0, false⟩,
         ⟨some 53, .mv (.t 1), none, 0, 0, false⟩,
         ⟨some 54, .mv (.t 7), none, 0, 0, false⟩,
         ⟨some 55, .ia 1 (.t 53) (.t 54), none, 0, 0, false⟩,
         ⟨some 56, .ld false 1 (.t 55), none, 0, 0, false⟩,
         ⟨some 57, .bsl false 1 [(.lit (.int .u8 0))] [(0, (.t 56))], none, 0, 0, false⟩,
         ⟨some 58, .app 1 140737488355328 (.t 52) (.t 57), none, 0, 1, true⟩,
         ⟨some 59, .ia 2 (.t 46) (.t 47), none, 1, 1, false⟩,
         ⟨some 60, .fa [1, 1] 1 (.t 59), none, 1, 1, false⟩,
         ⟨none, .st 1 (.t 60) (.t 58), none, 1, 2, true⟩]))))
     (.reg [⟨some 25, .mv (.t 7), none, 0, 0, false⟩,
       ⟨some 26, .bin .add (.t 25) (.c (.lit (.int .i64 1))), none, 0, 0, false⟩,
       ⟨some 7, .mv (.t 26), none, 0, 0, false⟩]))))))
  (.seq (.reg [⟨some 61, .mv (.t 6), none, 0, 0, false⟩,
     ⟨some 4, .mv (.t 61), none, 0, 0, false⟩,
     ⟨some 5, .mv (.c (.lit (.int .i64 0))), none, 0, 0, false⟩])
  .ret)))))),
  62, [.t 4, .t 5], (.pure false false)⟩
/-- newsreel/newsreelref09.Write -/
def a53 : AFn := ⟨(.seq (.reg [⟨some 3, .box false (.t 0), none, 0, 0, false⟩,
     ⟨some 6, .box true (.c (.agg [1, 1, 1] [nilD, nilD, nilD])), none, 0, 0, true⟩,
     ⟨some 7, .mv (.c (.lit (.int .i64 0))), none, 0, 0, false⟩])
  (.seq (.seq (.reg [⟨some 11, .ld true 3 (.t 3), none, 0, 0, false⟩,
      ⟨some 12, .call (.c (.fn 68 0 [])) [(.t 11)], none, 0, 0, false⟩,
      ⟨some 13, .un .not (.t 12), none, 0, 0, false⟩])
   (.cond (.t 13) (.seq (.reg [⟨some 14, .build [1, 1, 1] [nilD, nilD, nilD] [], none, 0, 0, false⟩,
        ⟨none, .st 3 (.t 6) (.t 14), none, 0, 0, true⟩,
        ⟨some 7, .mv (.c (.lit (.int .i64 10))), none, 0, 0, false⟩])
     .ret)
   .skip))
  (.seq (.reg [⟨some 16, .mv (.t 1), none, 0, 0, false⟩,
     ⟨some 17, .mv (.t 2), none, 0, 0, false⟩,
     ⟨some 18, .call (.c (.fn 52 0 [])) [(.t 16), (.t 17)], none, 0, 0, true⟩,
     ⟨some 15, .mv (.t 18), none, 0, 0, false⟩,
     ⟨some 19, .ext (.t 15) 0, none, 0, 0, false⟩,
     ⟨some 20, .ext (.t 15) 1, none, 0, 0, false⟩,
     ⟨some 8, .mv (.t 19), none, 0, 0, false⟩,
     ⟨some 9, .mv (.t 20), none, 0, 0, false⟩])
  (.seq (.seq (.reg [⟨some 21, .mv (.t 9), none, 0, 0, false⟩,
      ⟨some 22, .bin .neq (.t 21) (.c (.lit (.int .i64 0))), none, 0, 0, false⟩])
   (.cond (.t 22) (.seq (.reg [⟨some 23, .build [1, 1, 1] [nilD, nilD, nilD] [], none, 0, 0, false⟩,
        ⟨some 24, .mv (.t 9), none, 0, 0, false⟩,
        ⟨none, .st 3 (.t 6) (.t 23), none, 0, 0, true⟩,
        ⟨some 7, .mv (.t 24), none, 0, 0, false⟩])
     .ret)
   .skip))
  (.seq (.reg [⟨some 25, .bsl true 2 [] [], none, 0, 0, true⟩,
     ⟨some 26, .fa [1, 1, 1] 2 (.t 3), none, 0, 0, false⟩,
     ⟨some 27, .ld false 1 (.t 26), none, 0, 0, false⟩,
     ⟨some 28, .app 2 4398046511104 (.t 25) (.t 27), none, 0, 0, true⟩,
     ⟨some 29, .mv (.t 8), none, 0, 0, false⟩,
     ⟨some 30, .app 2 4398046511104 (.t 28) (.t 29), none, 0, 0, true⟩,
     ⟨some 10, .mv (.t 30), none, 0, 0, false⟩])
  (.seq (.draw []
    [⟨some 31, .fa [1, 1, 1] 1 (.t 3), none, 0, 0, false⟩,
     ⟨some 32, .ld false 1 (.t 31), none, 0, 0, false⟩,
     ⟨some 33, .mv (.t 10), none, 0, 0, false⟩,
     ⟨some 34, .call (.c (.fn 69 0 [])) [(.t 32), (.t 33)], none, 0, 1, true⟩,
     ⟨some 35, .fa [1, 1, 1] 1 (.t 3), none, 0, 1, false⟩,
     ⟨some 36, .ld false 1 (.t 35), none, 0, 1, false⟩,
     ⟨some 37, .mv (.t 10), none, 0, 1, false⟩,
     ⟨some 38, .build [1, 1, 1] [nilD, nilD, nilD] [(0, (.t 34)), (1, (.t 36)), (2, (.t 37))], none, 1, 1, false⟩,
     ⟨none, .st 3 (.t 6) (.t 38), none, 1, 2, true⟩,
     ⟨some 7, .mv (.c (.lit (.int .i64 0))), none, 2, 2, false⟩])
  .ret)))))),
  39, [.cell 6 true 3, .t 7], (.pure false false)⟩
/-- newsreel/newsreelref09.Sync -/
def a54 : AFn := ⟨(.seq (.reg [⟨some 1, .box false (.t 0), none, 0, 0, false⟩,
     ⟨some 2, .box true (.c (.agg [1, 1, 1] [nilD, nilD, nilD])), none, 0, 0, true⟩])
  (.seq (.seq (.reg [⟨some 3, .ld true 3 (.t 1), none, 0, 0, false⟩,
      ⟨some 4, .call (.c (.fn 68 0 [])) [(.t 3)], none, 0, 0, false⟩,
      ⟨some 5, .un .not (.t 4), none, 0, 0, false⟩])
   (.cond (.t 5) (.seq (.reg [⟨some 6, .build [1, 1, 1] [nilD, nilD, nilD] [], none, 0, 0, false⟩,
        ⟨none, .st 3 (.t 2) (.t 6), none, 0, 0, true⟩])
     .ret)
   .skip))
  (.seq (.reg [⟨some 7, .fa [1, 1, 1] 0 (.t 1), none, 0, 0, false⟩,
     ⟨some 8, .ld false 1 (.t 7), none, 0, 0, false⟩,
     ⟨some 9, .fa [1, 1, 1] 0 (.t 1), none, 0, 0, false⟩,
     ⟨some 10, .ld false 1 (.t 9), none, 0, 0, false⟩,
     ⟨some 11, .build [1, 1, 1] [nilD, nilD, nilD] [(0, (.t 8)), (1, (.t 10))], none, 0, 0, false⟩,
     ⟨none, .st 3 (.t 2) (.t 11), none, 0, 0, true⟩])
  .ret))),
  12, [.cell 2 true 3], (.pure false false)⟩
/-- newsreel/newsreelref10.Sync -/
def a55 : AFn := ⟨(.seq (.reg [⟨some 1, .box false (.t 0), none, 0, 0, false⟩,
     ⟨some 2, .box true (.c (.agg [1, 1, 1] [nilD, nilD, nilD])), none, 0, 0, true⟩])
  (.seq (.seq (.reg [⟨some 3, .ld true 3 (.t 1), none, 0, 0, false⟩,
      ⟨some 4, .call (.c (.fn 66 0 [])) [(.t 3)], none, 0, 0, false⟩,
      ⟨some 5, .un .not (.t 4), none, 0, 0, false⟩])
   (.cond (.t 5) (.seq (.reg [⟨some 6, .build [1, 1, 1] [nilD, nilD, nilD] [], none, 0, 0, false⟩,
        ⟨none, .st 3 (.t 2) (.t 6), none, 0, 0, true⟩])
     .ret)
   .skip))
  (.seq (.reg [⟨some 7, .fa [1, 1, 1] 0 (.t 1), none, 0, 0, false⟩,
     ⟨some 8, .ld false 1 (.t 7), none, 0, 0, false⟩,
     ⟨some 9, .fa [1, 1, 1] 0 (.t 1), none, 0, 0, false⟩,
     ⟨some 10, .ld false 1 (.t 9), none, 0, 0, false⟩,
     ⟨some 11, .build [1, 1, 1] [nilD, nilD, nilD] [(0, (.t 8)), (1, (.t 10))], none, 0, 0, false⟩,
     ⟨none, .st 3 (.t 2) (.t 11), none, 0, 0, true⟩])
  .ret))),
  12, [.cell 2 true 3], (.pure false false)⟩
/-- newsreel/newsreelref10.Crash -/
def a56 : AFn := ⟨(.seq (.reg [⟨some 2, .box false (.t 0), none, 0, 0, false⟩,
     ⟨some 4, .box true (.c (.agg [1, 1, 1] [nilD, nilD, nilD])), none, 0, 0, true⟩])
  (.seq (.seq (.reg [⟨some 7, .ld true 3 (.t 2), none, 0, 0, false⟩,
      ⟨some 8, .call (.c (.fn 66 0 [])) [(.t 7)], none, 0, 0, false⟩,
      ⟨some 9, .un .not (.t 8), none, 0, 0, false⟩])
   (.cond (.t 9) (.seq (.reg [⟨some 10, .build [1, 1, 1] [nilD, nilD, nilD] [], none, 0, 0, false⟩,
        ⟨none, .st 3 (.t 4) (.t 10), none, 0, 0, true⟩])
     .ret)
   .skip))
  (.jn 22 (.seq (.reg [⟨some 11, .mv (.t 1), none, 0, 0, false⟩,
      ⟨some 12, .bin .lss (.t 11) (.c (.lit (.int .i64 0))), none, 0, 0, false⟩])
   (.cond (.t 12) (.reg [⟨some 1, .mv (.c (.lit (.int .i64 0))), none, 0, 0, false⟩])
   .skip))
  (.jn 22 (.seq (.reg [⟨some 13, .mv (.t 1), none, 0, 0, false⟩,
      ⟨some 14, .fa [1, 1, 1] 2 (.t 2), none, 0, 0, false⟩,
      ⟨some 15, .ld false 1 (.t 14), none, 0, 0, false⟩,
      ⟨some 16, .len false (.t 15), none, 0, 0, false⟩,
      ⟨some 17, .bin .gtr (.t 13) (.t 16), none, 0, 0, false⟩])
   (.cond (.t 17) (.reg [⟨some 18, .fa [1, 1, 1] 2 (.t 2), none, 0, 0, false⟩,
       ⟨some 19, .ld false 1 (.t 18), none, 0, 0, false⟩,
       ⟨some 20, .len false (.t 19), none, 0, 0, false⟩,
       ⟨some 1, .mv (.t 20), none, 0, 0, false⟩])
   .skip))
  (.seq (.draw []
    [⟨some 22, .fa [1, 1, 1] 1 (.t 2), none, 0, 0, false⟩,
     ⟨some 23, .ld false 1 (.t 22), none, 0, 0, false⟩,
     ⟨some 24, .fa [1, 1, 1] 2 (.t 2), none, 0, 0, false⟩,
     ⟨some 25, .ld false 1 (.t 24), none, 0, 0, false⟩,
     ⟨some 26, .mv (.t 1), none, 0, 0, false⟩,
     ⟨some 27, .slc 4 (.t 25) none (some (.t 26)) none, none, 0, 0, false⟩,
     ⟨some 28, .call (.c (.fn 70 0 [])) [(.t 23), (.t 27)], none, 0, 1, true⟩,
     ⟨some 21, .mv (.t 28), none, 1, 1, false⟩,
     ⟨some 29, .ext (.t 21) 0, none, 1, 1, false⟩,
     ⟨some 30, .ext (.t 21) 1, none, 1, 1, false⟩,
     ⟨some 5, .mv (.t 29), none, 1, 1, false⟩,
     ⟨some 6, .mv (.t 30), none, 1, 1, false⟩])
  (.seq (.reg [⟨some 31, .mv (.t 5), none, 0, 0, false⟩,
     ⟨some 32, .mv (.t 5), none, 0, 0, false⟩,
     ⟨some 33, .build [1, 1, 1] [nilD, nilD, nilD] [(0, (.t 31)), (1, (.t 32))], none, 0, 0, false⟩,
     ⟨none, .st 3 (.t 4) (.t 33), none, 0, 0, true⟩])
  .ret)))))),
  34, [.cell 4 true 3], (.pure false false)⟩
/-- newsreel/newsreelref09.Crash -/
def a57 : AFn := ⟨(.seq (.reg [⟨some 2, .box false (.t 0), none, 0, 0, false⟩,
     ⟨some 4, .box true (.c (.agg [1, 1, 1] [nilD, nilD, nilD])), none, 0, 0, true⟩,
     ⟨some 5, .mv (.c (.lit (.int .i64 0))), none, 0, 0, false⟩])
  (.seq (.seq (.reg [⟨some 9, .ld true 3 (.t 2), none, 0, 0, false⟩,
      ⟨some 10, .call (.c (.fn 68 0 [])) [(.t 9)], none, 0, 0, false⟩,
      ⟨some 11, .un .not (.t 10), none, 0, 0, false⟩])
   (.cond (.t 11) (.seq (.reg [⟨some 12, .build [1, 1, 1] [nilD, nilD, nilD] [], none, 0, 0, false⟩,
        ⟨none, .st 3 (.t 4) (.t 12), none, 0, 0, true⟩,
        ⟨some 5, .mv (.c (.lit (.int .i64 0))), none, 0, 0, false⟩])
     .ret)
   .skip))
  (.seq (.reg [⟨some 13, .bsl true 2 [] [], none, 0, 0, true⟩,
     ⟨some 6, .mv (.t 13), none, 0, 0, false⟩])
  (.seq (.seq (.reg [⟨some 7, .mv (.c (.lit (.int .i64 0))), none, 0, 0, false⟩])
   (.block 0 (.loop 214 (.seq (.seq (.reg [⟨some 14, .mv (.t 7), none, 0, 0, false⟩,
         ⟨some 15, .fa [1, 1, 1] 2 (.t 2), none, 0, 0, false⟩,
         ⟨some 16, .ld false 1 (.t 15), none, 0, 0, false⟩,
         ⟨some 17, .len false (.t 16), none, 0, 0, false⟩,
         ⟨some 18, .bin .lss (.t 14) (.t 17), none, 0, 0, false⟩])
      (.cond (.t 18) .skip
      (.exit 0)))
     (.seq (.block 1 (.seq (.reg [⟨some 21, .mv (.t 7), none, 0, 0, false⟩,
          ⟨some 22, .mv (.t 1), none, 0, 0, false⟩,
          ⟨some 23, .len false (.t 22), none, 0, 0, false⟩,
          ⟨some 24, .bin .lss (.t 21) (.t 23), none, 0, 0, false⟩,
          ⟨some 25, .mv (.t 24), none, 0, 0, false⟩,
          ⟨some 26, .mv (.t 1), some (25, true), 0, 0, false⟩,
          ⟨some 27, .mv (.t 7), some (25, true), 0, 0, false⟩,
          ⟨some 28, .ia 1 (.t 26) (.t 27), some (25, true), 0, 0, false⟩,
          ⟨some 29, .ld false 1 (.t 28), some (25, true), 0, 0, false⟩,
          ⟨some 30, .pick (.t 25) (.t 29) (.c (.lit (.bool false))), none, 0, 0, false⟩])
       (.cond (.t 30) (.reg [⟨some 31, .mv (.t 6), none, 0, 0, false⟩,
           ⟨some 32, .fa [1, 1, 1] 2 (.t 2), none, 0, 0, false⟩,
           ⟨some 33, .ld false 1 (.t 32), none, 0, 0, false⟩,
           ⟨some 34, .mv (.t 7), none, 0, 0, false⟩,
           ⟨some 35, .ia 2 (.t 33) (.t 34), none, 0, 0, false⟩,
           ⟨some 36, .ld true 2 (.t 35), none, 0, 0, false⟩,
           ⟨some 37, .bsl false 2 [(.agg [1, 1] [(.lit (.int .i64 0)), nilD])] [(0, (.t 36))], none, 0, 0, false⟩,
           ⟨some 38, .app 2 4398046511104 (.t 31) (.t 37), none, 0, 0, true⟩,
           ⟨some 6, .mv (.t 38), none, 0, 0, false⟩])
       .skip)))
     (.reg [⟨some 19, .mv (.t 7), none, 0, 0, false⟩,
       ⟨some 20, .bin .add (.t 19) (.c (.lit (.int .i64 1))), none, 0, 0, false⟩,
       ⟨some 7, .mv (.t 20), none, 0, 0, false⟩]))))))
  (.seq (.reg [⟨some 39, .fa [1, 1, 1] 1 (.t 2), none, 0, 0, false⟩,
     ⟨some 40, .ld false 1 (.t 39), none, 0, 0, false⟩,
     ⟨some 41, .mv (.t 6), none, 0, 0, false⟩,
     ⟨some 42, .call (.c (.fn 69 0 [])) [(.t 40), (.t 41)], none, 0, 0, true⟩,
     ⟨some 8, .mv (.t 42), none, 0, 0, false⟩])
  (.seq (.draw []
    [⟨some 43, .mv (.t 8), none, 0, 0, false⟩,
     ⟨some 44, .mv (.t 8), none, 0, 0, false⟩,
     ⟨some 45, .build [1, 1, 1] [nilD, nilD, nilD] [(0, (.t 43)), (1, (.t 44))], none, 0, 0, false⟩,
     ⟨some 46, .fa [1, 1, 1] 2 (.t 2), none, 0, 1, false⟩,
     ⟨some 47, .ld false 1 (.t 46), none, 0, 1, false⟩,
     ⟨some 48, .len false (.t 47), none, 0, 1, false⟩,
     ⟨none, .st 3 (.t 4) (.t 45), none, 0, 1, true⟩,
     ⟨some 5, .mv (.t 48), none, 1, 1, false⟩])
  .ret)))))),
  49, [.cell 4 true 3, .t 5], (.pure false false)⟩
/-- newsreel/dir.Find -/
def a58 : AFn := ⟨(.seq (.reg [⟨some 2, .box false (.t 0), none, 0, 0, false⟩,
     ⟨some 3, .box false (.t 1), none, 0, 0, false⟩,
     ⟨some 4, .mv (.c (.lit (.int .i64 0))), none, 0, 0, false⟩,
     ⟨some 5, .mv (.c (.lit (.bool false))), none, 0, 0, false⟩])
  (.seq (.reg [⟨some 7, .fa [1, 1, 1] 0 (.t 2), none, 0, 0, false⟩,
     ⟨some 8, .ld false 1 (.t 7), none, 0, 0, false⟩,
     ⟨some 9, .mkf 72 0 [(.t 3)], none, 0, 0, false⟩,
     ⟨some 10, .call (.c (.fn 71 0 [])) [(.t 8), (.t 9)], none, 0, 0, false⟩,
     ⟨some 6, .mv (.t 10), none, 0, 0, false⟩])
  (.seq (.seq (.reg [⟨some 11, .mv (.t 6), none, 0, 0, false⟩,
      ⟨some 12, .bin .lss (.t 11) (.c (.lit (.int .i64 0))), none, 0, 0, false⟩])
   (.cond (.t 12) (.seq (.reg [⟨some 4, .mv (.c (.lit (.int .i64 0))), none, 0, 0, false⟩,
        ⟨some 5, .mv (.c (.lit (.bool false))), none, 0, 0, false⟩])
     .ret)
   .skip))
  (.seq (.reg [⟨some 13, .fa [1, 1, 1] 0 (.t 2), none, 0, 0, false⟩,
     ⟨some 14, .ld false 1 (.t 13), none, 0, 0, false⟩,
     ⟨some 15, .mv (.t 6), none, 0, 0, false⟩,
     ⟨some 16, .ia 2 (.t 14) (.t 15), none, 0, 0, false⟩,
     ⟨some 17, .fa [1, 1] 1 (.t 16), none, 0, 0, false⟩,
     ⟨some 18, .ld false 1 (.t 17), none, 0, 0, false⟩,
     ⟨some 4, .mv (.t 18), none, 0, 0, false⟩,
     ⟨some 5, .mv (.c (.lit (.bool true))), none, 0, 0, false⟩])
  .ret)))),
  19, [.t 4, .t 5], (.pure true false)⟩
/-- newsreel/dir.Do -/
def a59 : AFn := ⟨(.seq (.reg [⟨some 2, .box false (.t 0), none, 0, 0, false⟩,
     ⟨some 3, .box false (.t 1), none, 0, 0, false⟩,
     ⟨some 4, .box true (.c (.agg [1, 1, 1] [nilD, nilD, nilD])), none, 0, 0, true⟩,
     ⟨some 5, .mv (.c (.lit (.int .i64 0))), none, 0, 0, false⟩])
  (.seq (.seq (.reg [⟨some 8, .ld true 3 (.t 2), none, 0, 0, false⟩,
      ⟨some 9, .call (.c (.fn 63 0 [])) [(.t 8)], none, 0, 0, false⟩,
      ⟨some 10, .un .not (.t 9), none, 0, 0, false⟩])
   (.cond (.t 10) (.seq (.reg [⟨some 11, .build [1, 1, 1] [nilD, nilD, nilD] [], none, 0, 0, false⟩,
        ⟨none, .st 3 (.t 4) (.t 11), none, 0, 0, true⟩,
        ⟨some 5, .mv (.c (.lit (.int .i64 10))), none, 0, 0, false⟩])
     .ret)
   .skip))
  (.seq (.reg [⟨some 13, .fa [1, 1, 1] 0 (.t 2), none, 0, 0, false⟩,
     ⟨some 14, .ld false 1 (.t 13), none, 0, 0, false⟩,
     ⟨some 15, .ld true 4 (.t 3), none, 0, 0, false⟩,
     ⟨some 16, .call (.c (.fn 73 0 [])) [(.t 14), (.t 15)], none, 0, 0, true⟩,
     ⟨some 12, .mv (.t 16), none, 0, 0, false⟩,
     ⟨some 17, .ext (.t 12) 0, none, 0, 0, false⟩,
     ⟨some 18, .ext (.t 12) 1, none, 0, 0, false⟩,
     ⟨some 6, .mv (.t 17), none, 0, 0, false⟩,
     ⟨some 7, .mv (.t 18), none, 0, 0, false⟩])
  (.seq (.seq (.reg [⟨some 19, .mv (.t 7), none, 0, 0, false⟩,
      ⟨some 20, .bin .neq (.t 19) (.c (.lit (.int .i64 0))), none, 0, 0, false⟩])
   (.cond (.t 20) (.seq (.reg [⟨some 21, .build [1, 1, 1] [nilD, nilD, nilD] [], none, 0, 0, false⟩,
        ⟨some 22, .mv (.t 7), none, 0, 0, false⟩,
        ⟨none, .st 3 (.t 4) (.t 21), none, 0, 0, true⟩,
        ⟨some 5, .mv (.t 22), none, 0, 0, false⟩])
     .ret)
   .skip))
  (.seq (.draw []
    [⟨some 23, .mv (.t 6), none, 0, 3, false⟩,
     ⟨some 24, .fa [1, 1, 1] 1 (.t 2), none, 0, 0, false⟩,
     ⟨some 25, .ld false 1 (.t 24), none, 0, 0, false⟩,
     ⟨some 26, .call (.c (.fn 64 0 [])) [(.t 25)], none, 0, 1, true⟩,
     ⟨some 27, .fa [1, 1, 1] 2 (.t 2), none, 0, 1, false⟩,
     ⟨some 28, .ld false 1 (.t 27), none, 0, 1, false⟩,
     ⟨some 29, .call (.c (.fn 74 0 [])) [(.t 28)], none, 1, 2, true⟩,
     ⟨some 30, .ld true 4 (.t 3), none, 0, 2, false⟩,
     ⟨some 31, .bsl false 4 [(.agg [1, 1, 1, 1] [(.lit (.int .i64 0)), (.lit (.string ⟨#[]⟩)), (.lit (.string ⟨#[]⟩)), (.lit (.int .i64 0))])] [(0, (.t 30))], none, 0, 2, false⟩,
     ⟨some 32, .app 4 2932031007402 (.t 29) (.t 31), none, 2, 3, true⟩,
     ⟨some 33, .build [1, 1, 1] [nilD, nilD, nilD] [(0, (.t 23)), (1, (.t 26)), (2, (.t 32))], none, 3, 3, false⟩,
     ⟨none, .st 3 (.t 4) (.t 33), none, 3, 4, true⟩,
     ⟨some 5, .mv (.c (.lit (.int .i64 0))), none, 4, 4, false⟩])
  .ret))))),
  34, [.cell 4 true 3, .t 5], (.pure false false)⟩
/-- newsreel/block.Right -/
def a60 : AFn := ⟨(.seq (.reg [⟨some 1, .box false (.t 0), none, 0, 0, false⟩,
     ⟨some 2, .mv (.c (.lit (.bool false))), none, 0, 0, false⟩])
  (.seq (.seq (.reg [⟨some 3, .fa [1, 1] 0 (.t 1), none, 0, 0, false⟩,
      ⟨some 4, .ld false 1 (.t 3), none, 0, 0, false⟩,
      ⟨some 5, .bin .lss (.t 4) (.c (.lit (.int .i64 0))), none, 0, 0, false⟩,
      ⟨some 6, .mv (.t 5), none, 0, 0, false⟩,
      ⟨some 7, .fa [1, 1] 0 (.t 1), some (6, false), 0, 0, false⟩,
      ⟨some 8, .ld false 1 (.t 7), some (6, false), 0, 0, false⟩,
      ⟨some 9, .bin .geq (.t 8) (.c (.lit (.int .i64 65536))), some (6, false), 0, 0, false⟩,
      ⟨some 10, .pick (.t 6) (.c (.lit (.bool true))) (.t 9), none, 0, 0, false⟩,
      ⟨some 11, .mv (.t 10), none, 0, 0, false⟩,
      ⟨some 12, .fa [1, 1] 1 (.t 1), some (11, false), 0, 0, false⟩,
      ⟨some 13, .ld false 1 (.t 12), some (11, false), 0, 0, false⟩,
      ⟨some 14, .len false (.t 13), some (11, false), 0, 0, false⟩,
      ⟨some 15, .bin .eql (.t 14) (.c (.lit (.int .i64 0))), some (11, false), 0, 0, false⟩,
      ⟨some 16, .pick (.t 11) (.c (.lit (.bool true))) (.t 15), none, 0, 0, false⟩])
   (.cond (.t 16) (.seq (.reg [⟨some 2, .mv (.c (.lit (.bool false))), none, 0, 0, false⟩])
     .ret)
   .skip))
  (.seq (.reg [⟨some 17, .fa [1, 1] 1 (.t 1), none, 0, 0, false⟩,
     ⟨some 18, .ld false 1 (.t 17), none, 0, 0, false⟩,
     ⟨some 19, .len false (.t 18), none, 0, 0, false⟩,
     ⟨some 20, .fa [1, 1] 0 (.t 1), none, 0, 0, false⟩,
     ⟨some 21, .ld false 1 (.t 20), none, 0, 0, false⟩,
     ⟨some 22, .bin .rem (.t 21) (.c (.lit (.int .i64 16))), none, 0, 0, false⟩,
     ⟨some 23, .bin .sub (.c (.lit (.int .i64 16))) (.t 22), none, 0, 0, false⟩,
     ⟨some 24, .bin .leq (.t 19) (.t 23), none, 0, 0, false⟩,
     ⟨some 2, .mv (.t 24), none, 0, 0, false⟩])
  .ret))),
  25, [.t 2], (.pure true false)⟩
/-- newsreel/file.Right -/
def a61 : AFn := ⟨(.seq (.reg [⟨some 1, .box false (.t 0), none, 0, 0, false⟩,
     ⟨some 2, .mv (.c (.lit (.bool false))), none, 0, 0, false⟩])
  (.seq (.seq (.reg [⟨some 3, .fa [1, 1, 1] 1 (.t 1), none, 0, 0, false⟩,
      ⟨some 4, .ld false 1 (.t 3), none, 0, 0, false⟩,
      ⟨some 5, .len false (.t 4), none, 0, 0, false⟩,
      ⟨some 6, .bin .gtr (.t 5) (.c (.lit (.int .i64 65536))), none, 0, 0, false⟩,
      ⟨some 7, .mv (.t 6), none, 0, 0, false⟩,
      ⟨some 8, .fa [1, 1, 1] 2 (.t 1), some (7, false), 0, 0, false⟩,
      ⟨some 9, .ld false 1 (.t 8), some (7, false), 0, 0, false⟩,
      ⟨some 10, .call (.c (.fn 75 0 [])) [(.t 9), (.c (.fn 76 0 []))], some (7, false), 0, 0, false⟩,
      ⟨some 11, .pick (.t 7) (.c (.lit (.bool true))) (.t 10), none, 0, 0, false⟩])
   (.cond (.t 11) (.seq (.reg [⟨some 2, .mv (.c (.lit (.bool false))), none, 0, 0, false⟩])
     .ret)
   .skip))
  (.seq (.draw []
    [⟨some 12, .fa [1, 1, 1] 0 (.t 1), none, 0, 1, false⟩,
     ⟨some 13, .ld false 1 (.t 12), none, 0, 1, false⟩,
     ⟨some 14, .fa [1, 1, 1] 1 (.t 1), none, 0, 0, false⟩,
     ⟨some 15, .ld false 1 (.t 14), none, 0, 0, false⟩,
     ⟨some 16, .fa [1, 1, 1] 2 (.t 1), none, 0, 0, false⟩,
     ⟨some 17, .ld false 1 (.t 16), none, 0, 0, false⟩,
     ⟨some 18, .call (.c (.fn 45 0 [])) [(.t 15), (.t 17)], none, 0, 1, true⟩,
     ⟨some 19, .call (.c (.fn 77 0 [])) [(.t 13), (.t 18)], none, 1, 1, false⟩,
     ⟨some 2, .mv (.t 19), none, 1, 1, false⟩])
  .ret))),
  20, [.t 2], (.pure true false)⟩
/-- newsreel/file.still -/
def a62 : AFn := ⟨(.seq (.reg [⟨some 2, .box true (.c (.agg [1, 1, 1] [nilD, nilD, nilD])), none, 0, 0, true⟩])
  (.seq (.reg [⟨some 3, .mv (.t 0), none, 0, 0, false⟩,
     ⟨some 4, .call (.c (.fn 39 0 [])) [(.t 3)], none, 0, 0, true⟩,
     ⟨some 5, .mv (.t 0), none, 0, 0, false⟩,
     ⟨some 6, .call (.c (.fn 39 0 [])) [(.t 5)], none, 0, 0, true⟩,
     ⟨some 7, .build [1, 1, 1] [nilD, nilD, nilD] [(0, (.t 4)), (1, (.t 6))], none, 0, 0, false⟩,
     ⟨none, .st 3 (.t 2) (.t 7), none, 0, 0, true⟩])
  .ret)),
  8, [.cell 2 true 3], (.pure false false)⟩
/-- newsreel/dir.Right -/
def a63 : AFn := ⟨(.seq (.reg [⟨some 1, .box false (.t 0), none, 0, 0, false⟩,
     ⟨some 2, .mv (.c (.lit (.bool false))), none, 0, 0, false⟩])
  (.seq (.seq (.reg [⟨some 5, .fa [1, 1, 1] 1 (.t 1), none, 0, 0, false⟩,
      ⟨some 6, .ld false 1 (.t 5), none, 0, 0, false⟩,
      ⟨some 7, .call (.c (.fn 78 0 [])) [(.t 6)], none, 0, 0, false⟩,
      ⟨some 8, .un .not (.t 7), none, 0, 0, false⟩])
   (.cond (.t 8) (.seq (.reg [⟨some 2, .mv (.c (.lit (.bool false))), none, 0, 0, false⟩])
     .ret)
   .skip))
  (.seq (.reg [⟨some 10, .fa [1, 1, 1] 1 (.t 1), none, 0, 0, false⟩,
     ⟨some 11, .ld false 1 (.t 10), none, 0, 0, false⟩,
     ⟨some 12, .fa [1, 1, 1] 2 (.t 1), none, 0, 0, false⟩,
     ⟨some 13, .ld false 1 (.t 12), none, 0, 0, false⟩,
     ⟨some 14, .call (.c (.fn 65 0 [])) [(.t 11), (.t 13)], none, 0, 0, true⟩,
     ⟨some 9, .mv (.t 14), none, 0, 0, false⟩,
     ⟨some 15, .ext (.t 9) 0, none, 0, 0, false⟩,
     ⟨some 16, .ext (.t 9) 1, none, 0, 0, false⟩,
     ⟨some 3, .mv (.t 15), none, 0, 0, false⟩,
     ⟨some 4, .mv (.t 16), none, 0, 0, false⟩])
  (.seq (.reg [⟨some 17, .mv (.t 4), none, 0, 0, false⟩,
     ⟨some 18, .mv (.t 17), none, 0, 0, false⟩,
     ⟨some 19, .mv (.t 3), some (18, true), 0, 0, false⟩,
     ⟨some 20, .fa [1, 1, 1] 0 (.t 1), some (18, true), 0, 0, false⟩,
     ⟨some 21, .ld false 1 (.t 20), some (18, true), 0, 0, false⟩,
     ⟨some 22, .call (.c (.fn 79 0 [])) [(.t 19), (.t 21)], some (18, true), 0, 0, false⟩,
     ⟨some 23, .pick (.t 18) (.t 22) (.c (.lit (.bool false))), none, 0, 0, false⟩,
     ⟨some 2, .mv (.t 23), none, 0, 0, false⟩])
  .ret)))),
  24, [.t 2], (.pure true false)⟩
/-- slices.Clone[[]newsreel/api.Entry,newsreel/api.Entry] -/
def a64 : AFn := ⟨(.seq (.reg [⟨some 2, .mv (.c nilD), none, 0, 0, false⟩])
  (.seq (.seq (.reg [⟨some 3, .mv (.t 0), none, 0, 0, false⟩,
      ⟨some 4, .eq false .nilS (.t 3) (.c nilD), none, 0, 0, false⟩])
   (.cond (.t 4) (.seq (.reg [⟨some 2, .mv (.c nilD), none, 0, 0, false⟩])
     .ret)
   .skip))
  (.seq (.reg [⟨some 5, .bsl true 2 [] [], none, 0, 0, true⟩,
     ⟨some 6, .mv (.t 0), none, 0, 0, false⟩,
     ⟨some 7, .app 2 5864062014805 (.t 5) (.t 6), none, 0, 0, true⟩,
     ⟨some 2, .mv (.t 7), none, 0, 0, false⟩])
  .ret))),
  8, [.t 2], (.pure false true)⟩
/-- newsreel/dir.all -/
def a65 : AFn := ⟨(.seq (.reg [⟨some 4, .mv (.c nilD), none, 0, 0, false⟩,
     ⟨some 5, .mv (.c (.lit (.bool false))), none, 0, 0, false⟩])
  (.seq (.seq (.reg [⟨some 10, .mv (.t 1), none, 0, 0, false⟩,
      ⟨some 11, .len false (.t 10), none, 0, 0, false⟩,
      ⟨some 12, .mv (.c (.lit (.int .i64 0))), none, 0, 0, false⟩])
   (.block 0 (.loop 7169 (.seq (.reg [⟨some 13, .bin .lss (.t 12) (.t 11), none, 0, 0, false⟩])
     (.seq (.cond (.t 13) .skip
      (.exit 0))
     (.seq (.block 1 (.seq (.reg [⟨some 14, .ia 4 (.t 10) (.t 12), none, 0, 0, false⟩,
          ⟨some 15, .ld true 4 (.t 14), none, 0, 0, false⟩,
          ⟨some 7, .box true (.c (.agg [1, 1, 1, 1] [(.lit (.int .i64 0)), (.lit (.string ⟨#[]⟩)), (.lit (.string ⟨#[]⟩)), (.lit (.int .i64 0))])), none, 0, 0, true⟩,
          ⟨none, .st 4 (.t 7) (.t 15), none, 0, 0, true⟩])
       (.seq (.reg [⟨some 17, .mv (.t 0), none, 0, 0, false⟩,
          ⟨some 18, .ld true 4 (.t 7), none, 0, 0, false⟩,
          ⟨some 19, .call (.c (.fn 73 0 [])) [(.t 17), (.t 18)], none, 0, 0, true⟩,
          ⟨some 16, .mv (.t 19), none, 0, 0, false⟩,
          ⟨some 20, .ext (.t 16) 0, none, 0, 0, false⟩,
          ⟨some 21, .ext (.t 16) 1, none, 0, 0, false⟩,
          ⟨some 8, .mv (.t 20), none, 0, 0, false⟩,
          ⟨some 9, .mv (.t 21), none, 0, 0, false⟩])
       (.seq (.seq (.reg [⟨some 22, .mv (.t 9), none, 0, 0, false⟩,
           ⟨some 23, .bin .neq (.t 22) (.c (.lit (.int .i64 0))), none, 0, 0, false⟩])
        (.cond (.t 23) (.seq (.reg [⟨some 4, .mv (.c nilD), none, 0, 0, false⟩,
             ⟨some 5, .mv (.c (.lit (.bool false))), none, 0, 0, false⟩])
          .ret)
        .skip))
       (.reg [⟨some 24, .mv (.t 8), none, 0, 0, false⟩,
         ⟨some 0, .mv (.t 24), none, 0, 0, false⟩])))))
     (.reg [⟨some 25, .bin .add (.t 12) (.c (.lit (.int .i64 1))), none, 0, 0, false⟩,
       ⟨some 12, .mv (.t 25), none, 0, 0, false⟩])))))))
  (.seq (.reg [⟨some 26, .mv (.t 0), none, 0, 0, false⟩,
     ⟨some 4, .mv (.t 26), none, 0, 0, false⟩,
     ⟨some 5, .mv (.c (.lit (.bool true))), none, 0, 0, false⟩])
  .ret))),
  27, [.t 4, .t 5], (.pure false false)⟩
/-- newsreel/newsreelref10.Right -/
def a66 : AFn := ⟨(.seq (.reg [⟨some 1, .box false (.t 0), none, 0, 0, false⟩,
     ⟨some 2, .mv (.c (.lit (.bool false))), none, 0, 0, false⟩])
  (.seq (.seq (.reg [⟨some 3, .mv (.c (.lit (.int .i64 0))), none, 0, 0, false⟩])
   (.block 0 (.loop 10 (.seq (.seq (.reg [⟨some 6, .mv (.t 3), none, 0, 0, false⟩,
         ⟨some 7, .fa [1, 1, 1] 1 (.t 1), none, 0, 0, false⟩,
         ⟨some 8, .ld false 1 (.t 7), none, 0, 0, false⟩,
         ⟨some 9, .len false (.t 8), none, 0, 0, false⟩,
         ⟨some 10, .bin .lss (.t 6) (.t 9), none, 0, 0, false⟩])
      (.cond (.t 10) .skip
      (.exit 0)))
     (.seq (.block 1 (.seq (.draw []
         [⟨some 13, .fa [1, 1, 1] 1 (.t 1), none, 0, 0, false⟩,
          ⟨some 14, .ld false 1 (.t 13), none, 0, 0, false⟩,
          ⟨some 15, .mv (.t 3), none, 0, 0, false⟩,
          ⟨some 16, .ia 2 (.t 14) (.t 15), none, 0, 0, false⟩,
          ⟨some 17, .fa [1, 1] 0 (.t 16), none, 0, 0, false⟩,
          ⟨some 18, .ld false 1 (.t 17), none, 0, 0, false⟩,
          ⟨some 19, .call (.c (.fn 80 0 [])) [(.t 18)], none, 0, 0, false⟩,
          ⟨some 20, .un .not (.t 19), none, 0, 0, false⟩,
          ⟨some 21, .mv (.t 20), none, 0, 0, false⟩,
          ⟨some 22, .mv (.t 3), some (21, false), 0, 0, false⟩,
          ⟨some 23, .bin .gtr (.t 22) (.c (.lit (.int .i64 0))), some (21, false), 0, 0, false⟩,
          ⟨some 24, .mv (.t 23), some (21, false), 0, 0, false⟩,
          ⟨some 25, .fa [1, 1, 1] 1 (.t 1), some (24, true), 0, 0, false⟩,
          ⟨some 26, .ld false 1 (.t 25), some (24, true), 0, 0, false⟩,
          ⟨some 27, .mv (.t 3), some (24, true), 0, 0, false⟩,
          ⟨some 28, .bin .sub (.t 27) (.c (.lit (.int .i64 1))), some (24, true), 0, 0, false⟩,
          ⟨some 29, .ia 2 (.t 26) (.t 28), some (24, true), 0, 0, false⟩,
          ⟨some 30, .fa [1, 1] 0 (.t 29), some (24, true), 0, 0, false⟩,
          ⟨some 31, .ld false 1 (.t 30), some (24, true), 0, 0, false⟩,
          ⟨some 32, .fa [1, 1, 1] 1 (.t 1), some (24, true), 0, 0, false⟩,
          ⟨some 33, .ld false 1 (.t 32), some (24, true), 0, 0, false⟩,
          ⟨some 34, .mv (.t 3), some (24, true), 0, 0, false⟩,
          ⟨some 35, .ia 2 (.t 33) (.t 34), some (24, true), 0, 0, false⟩,
          ⟨some 36, .fa [1, 1] 0 (.t 35), some (24, true), 0, 0, false⟩,
          ⟨some 37, .ld false 1 (.t 36), some (24, true), 0, 0, false⟩,
          ⟨some 38, .bin .geq (.t 31) (.t 37), some (24, true), 0, 0, false⟩,
          ⟨some 39, .pick (.t 24) (.t 38) (.c (.lit (.bool false))), some (21, false), 0, 0, false⟩,
          ⟨some 40, .pick (.t 21) (.c (.lit (.bool true))) (.t 39), none, 0, 0, false⟩])
       (.cond (.t 40) (.seq (.reg [⟨some 2, .mv (.c (.lit (.bool false))), none, 0, 0, false⟩])
         .ret)
       .skip)))
     (.reg [⟨some 11, .mv (.t 3), none, 0, 0, false⟩,
       ⟨some 12, .bin .add (.t 11) (.c (.lit (.int .i64 1))), none, 0, 0, false⟩,
       ⟨some 3, .mv (.t 12), none, 0, 0, false⟩]))))))
  (.seq (.seq (.reg [⟨some 41, .fa [1, 1, 1] 1 (.t 1), none, 0, 0, false⟩,
      ⟨some 42, .ld false 1 (.t 41), none, 0, 0, false⟩,
      ⟨some 43, .len false (.t 42), none, 0, 0, false⟩,
      ⟨some 44, .bin .gtr (.t 43) (.c (.lit (.int .i64 100))), none, 0, 0, false⟩])
   (.cond (.t 44) (.seq (.reg [⟨some 2, .mv (.c (.lit (.bool false))), none, 0, 0, false⟩])
     .ret)
   .skip))
  (.seq (.reg [⟨some 46, .fa [1, 1, 1] 1 (.t 1), none, 0, 0, false⟩,
     ⟨some 47, .ld false 1 (.t 46), none, 0, 0, false⟩,
     ⟨some 48, .fa [1, 1, 1] 2 (.t 1), none, 0, 0, false⟩,
     ⟨some 49, .ld false 1 (.t 48), none, 0, 0, false⟩,
     ⟨some 50, .call (.c (.fn 70 0 [])) [(.t 47), (.t 49)], none, 0, 0, true⟩,
     ⟨some 45, .mv (.t 50), none, 0, 0, false⟩,
     ⟨some 51, .ext (.t 45) 0, none, 0, 0, false⟩,
     ⟨some 52, .ext (.t 45) 1, none, 0, 0, false⟩,
     ⟨some 4, .mv (.t 51), none, 0, 0, false⟩,
     ⟨some 5, .mv (.t 52), none, 0, 0, false⟩])
  (.seq (.reg [⟨some 53, .mv (.t 5), none, 0, 0, false⟩,
     ⟨some 54, .mv (.t 53), none, 0, 0, false⟩,
     ⟨some 55, .mv (.t 4), some (54, true), 0, 0, false⟩,
     ⟨some 56, .fa [1, 1, 1] 0 (.t 1), some (54, true), 0, 0, false⟩,
     ⟨some 57, .ld false 1 (.t 56), some (54, true), 0, 0, false⟩,
     ⟨some 58, .call (.c (.fn 81 0 [])) [(.t 55), (.t 57)], some (54, true), 0, 0, false⟩,
     ⟨some 59, .pick (.t 54) (.t 58) (.c (.lit (.bool false))), none, 0, 0, false⟩,
     ⟨some 2, .mv (.t 59), none, 0, 0, false⟩])
  .ret))))),
  60, [.t 2], (.pure true false)⟩
/-- newsreel/newsreelref10.Done -/
def a67 : AFn := ⟨(.seq (.reg [⟨some 3, .box false (.t 1), none, 0, 0, false⟩,
     ⟨some 4, .mv (.c nilD), none, 0, 0, false⟩,
     ⟨some 5, .mv (.c (.lit (.int .i64 0))), none, 0, 0, false⟩])
  (.seq (.reg [⟨some 7, .mv (.t 0), none, 0, 0, false⟩,
     ⟨some 8, .fa [1, 1, 1, 1] 1 (.t 3), none, 0, 0, false⟩,
     ⟨some 9, .ld false 1 (.t 8), none, 0, 0, false⟩,
     ⟨some 10, .call (.c (.fn 40 0 [])) [(.t 7), (.t 9)], none, 0, 0, false⟩,
     ⟨some 6, .mv (.t 10), none, 0, 0, false⟩])
  (.seq (.seq (.reg [⟨some 11, .fa [1, 1, 1, 1] 0 (.t 3), none, 0, 0, false⟩,
      ⟨some 12, .ld false 1 (.t 11), none, 0, 0, false⟩,
      ⟨some 13, .bin .lss (.t 12) (.c (.lit (.int .i64 1))), none, 0, 0, false⟩,
      ⟨some 14, .mv (.t 13), none, 0, 0, false⟩,
      ⟨some 15, .fa [1, 1, 1, 1] 0 (.t 3), some (14, false), 0, 0, false⟩,
      ⟨some 16, .ld false 1 (.t 15), some (14, false), 0, 0, false⟩,
      ⟨some 17, .bin .gtr (.t 16) (.c (.lit (.int .i64 3))), some (14, false), 0, 0, false⟩,
      ⟨some 18, .pick (.t 14) (.c (.lit (.bool true))) (.t 17), none, 0, 0, false⟩])
   (.cond (.t 18) (.seq (.reg [⟨some 4, .mv (.c nilD), none, 0, 0, false⟩,
        ⟨some 5, .mv (.c (.lit (.int .i64 16))), none, 0, 0, false⟩])
     .ret)
   .skip))
  (.seq (.seq (.reg [⟨some 19, .fa [1, 1, 1, 1] 0 (.t 3), none, 0, 0, false⟩,
      ⟨some 20, .ld false 1 (.t 19), none, 0, 0, false⟩,
      ⟨some 21, .bin .eql (.t 20) (.c (.lit (.int .i64 1))), none, 0, 0, false⟩])
   (.cond (.t 21) (.seq (.seq (.reg [⟨some 22, .fa [1, 1, 1, 1] 1 (.t 3), none, 0, 0, false⟩,
         ⟨some 23, .ld false 1 (.t 22), none, 0, 0, false⟩,
         ⟨some 24, .call (.c (.fn 80 0 [])) [(.t 23)], none, 0, 0, false⟩,
         ⟨some 25, .un .not (.t 24), none, 0, 0, false⟩])
      (.cond (.t 25) (.seq (.reg [⟨some 4, .mv (.c nilD), none, 0, 0, false⟩,
           ⟨some 5, .mv (.c (.lit (.int .i64 1))), none, 0, 0, false⟩])
        .ret)
      .skip))
     (.seq (.seq (.reg [⟨some 26, .mv (.t 6), none, 0, 0, false⟩,
         ⟨some 27, .bin .geq (.t 26) (.c (.lit (.int .i64 0))), none, 0, 0, false⟩])
      (.cond (.t 27) (.seq (.reg [⟨some 4, .mv (.c nilD), none, 0, 0, false⟩,
           ⟨some 5, .mv (.c (.lit (.int .i64 6))), none, 0, 0, false⟩])
        .ret)
      .skip))
     (.seq (.seq (.reg [⟨some 28, .mv (.t 0), none, 0, 0, false⟩,
         ⟨some 29, .len false (.t 28), none, 0, 0, false⟩,
         ⟨some 30, .bin .geq (.t 29) (.c (.lit (.int .i64 100))), none, 0, 0, false⟩])
      (.cond (.t 30) (.seq (.reg [⟨some 4, .mv (.c nilD), none, 0, 0, false⟩,
           ⟨some 5, .mv (.c (.lit (.int .i64 7))), none, 0, 0, false⟩])
        .ret)
      .skip))
     (.seq (.reg [⟨some 31, .mv (.t 0), none, 0, 0, false⟩,
        ⟨some 32, .fa [1, 1, 1, 1] 1 (.t 3), none, 0, 0, false⟩,
        ⟨some 33, .ld false 1 (.t 32), none, 0, 0, false⟩,
        ⟨some 34, .fa [1, 1, 1, 1] 3 (.t 3), none, 0, 0, false⟩,
        ⟨some 35, .ld false 1 (.t 34), none, 0, 0, false⟩,
        ⟨some 36, .build [1, 1] [(.lit (.string ⟨#[]⟩)), (.lit (.int .i64 0))] [(0, (.t 33)), (1, (.t 35))], none, 0, 0, false⟩,
        ⟨some 37, .call (.c (.fn 82 0 [])) [(.t 31), (.t 36)], none, 0, 0, true⟩,
        ⟨some 4, .mv (.t 37), none, 0, 0, false⟩,
        ⟨some 5, .mv (.c (.lit (.int .i64 0))), none, 0, 0, false⟩])
     .ret))))
   .skip))
  (.seq (.seq (.reg [⟨some 38, .mv (.t 6), none, 0, 0, false⟩,
      ⟨some 39, .bin .lss (.t 38) (.c (.lit (.int .i64 0))), none, 0, 0, false⟩])
   (.cond (.t 39) (.seq (.reg [⟨some 4, .mv (.c nilD), none, 0, 0, false⟩,
        ⟨some 5, .mv (.c (.lit (.int .i64 5))), none, 0, 0, false⟩])
     .ret)
   .skip))
  (.seq (.seq (.reg [⟨some 40, .fa [1, 1, 1, 1] 0 (.t 3), none, 0, 0, false⟩,
      ⟨some 41, .ld false 1 (.t 40), none, 0, 0, false⟩,
      ⟨some 42, .bin .eql (.t 41) (.c (.lit (.int .i64 3))), none, 0, 0, false⟩])
   (.cond (.t 42) (.seq (.reg [⟨some 43, .mv (.t 0), none, 0, 0, false⟩,
        ⟨some 44, .fa [1, 1, 1, 1] 1 (.t 3), none, 0, 0, false⟩,
        ⟨some 45, .ld false 1 (.t 44), none, 0, 0, false⟩,
        ⟨some 46, .call (.c (.fn 83 0 [])) [(.t 43), (.t 45)], none, 0, 0, true⟩,
        ⟨some 4, .mv (.t 46), none, 0, 0, false⟩,
        ⟨some 5, .mv (.c (.lit (.int .i64 0))), none, 0, 0, false⟩])
     .ret)
   .skip))
  (.seq (.seq (.reg [⟨some 47, .fa [1, 1, 1, 1] 2 (.t 3), none, 0, 0, false⟩,
      ⟨some 48, .ld false 1 (.t 47), none, 0, 0, false⟩,
      ⟨some 49, .call (.c (.fn 80 0 [])) [(.t 48)], none, 0, 0, false⟩,
      ⟨some 50, .un .not (.t 49), none, 0, 0, false⟩,
      ⟨some 51, .mv (.t 50), none, 0, 0, false⟩,
      ⟨some 52, .fa [1, 1, 1, 1] 2 (.t 3), some (51, false), 0, 0, false⟩,
      ⟨some 53, .ld false 1 (.t 52), some (51, false), 0, 0, false⟩,
      ⟨some 54, .fa [1, 1, 1, 1] 1 (.t 3), some (51, false), 0, 0, false⟩,
      ⟨some 55, .ld false 1 (.t 54), some (51, false), 0, 0, false⟩,
      ⟨some 56, .bin .eql (.t 53) (.t 55), some (51, false), 0, 0, false⟩,
      ⟨some 57, .pick (.t 51) (.c (.lit (.bool true))) (.t 56), none, 0, 0, false⟩])
   (.cond (.t 57) (.seq (.reg [⟨some 4, .mv (.c nilD), none, 0, 0, false⟩,
        ⟨some 5, .mv (.c (.lit (.int .i64 1))), none, 0, 0, false⟩])
     .ret)
   .skip))
  (.seq (.draw []
    [⟨some 58, .mv (.t 0), none, 0, 0, false⟩,
     ⟨some 59, .fa [1, 1, 1, 1] 1 (.t 3), none, 0, 0, false⟩,
     ⟨some 60, .ld false 1 (.t 59), none, 0, 0, false⟩,
     ⟨some 61, .call (.c (.fn 83 0 [])) [(.t 58), (.t 60)], none, 0, 1, true⟩,
     ⟨some 62, .fa [1, 1, 1, 1] 2 (.t 3), none, 0, 1, false⟩,
     ⟨some 63, .ld false 1 (.t 62), none, 0, 1, false⟩,
     ⟨some 64, .call (.c (.fn 83 0 [])) [(.t 61), (.t 63)], none, 1, 2, true⟩,
     ⟨some 65, .fa [1, 1, 1, 1] 2 (.t 3), none, 0, 2, false⟩,
     ⟨some 66, .ld false 1 (.t 65), none, 0, 2, false⟩,
     ⟨some 67, .mv (.t 0), none, 0, 2, false⟩,
     ⟨some 68, .mv (.t 6), none, 0, 2, false⟩,
     ⟨some 69, .ia 2 (.t 67) (.t 68), none, 0, 2, false⟩,
     ⟨some 70, .fa [1, 1] 1 (.t 69), none, 0, 2, false⟩,
     ⟨some 71, .ld false 1 (.t 70), none, 0, 2, false⟩,
     ⟨some 72, .build [1, 1] [(.lit (.string ⟨#[]⟩)), (.lit (.int .i64 0))] [(0, (.t 66)), (1, (.t 71))], none, 0, 2, false⟩,
     ⟨some 73, .call (.c (.fn 82 0 [])) [(.t 64), (.t 72)], none, 2, 3, true⟩,
     ⟨some 4, .mv (.t 73), none, 3, 3, false⟩,
     ⟨some 5, .mv (.c (.lit (.int .i64 0))), none, 3, 3, false⟩])
  .ret)))))))),
  74, [.t 4, .t 5], (.pure false false)⟩
/-- newsreel/newsreelref09.Right -/
def a68 : AFn := ⟨(.seq (.reg [⟨some 1, .box false (.t 0), none, 0, 0, false⟩,
     ⟨some 2, .mv (.c (.lit (.bool false))), none, 0, 0, false⟩])
  (.seq (.seq (.reg [⟨some 3, .mv (.c (.lit (.int .i64 0))), none, 0, 0, false⟩])
   (.block 0 (.loop 10 (.seq (.seq (.reg [⟨some 4, .mv (.t 3), none, 0, 0, false⟩,
         ⟨some 5, .fa [1, 1, 1] 2 (.t 1), none, 0, 0, false⟩,
         ⟨some 6, .ld false 1 (.t 5), none, 0, 0, false⟩,
         ⟨some 7, .len false (.t 6), none, 0, 0, false⟩,
         ⟨some 8, .bin .lss (.t 4) (.t 7), none, 0, 0, false⟩])
      (.cond (.t 8) .skip
      (.exit 0)))
     (.seq (.block 1 (.seq (.reg [⟨some 11, .fa [1, 1, 1] 2 (.t 1), none, 0, 0, false⟩,
          ⟨some 12, .ld false 1 (.t 11), none, 0, 0, false⟩,
          ⟨some 13, .mv (.t 3), none, 0, 0, false⟩,
          ⟨some 14, .ia 2 (.t 12) (.t 13), none, 0, 0, false⟩,
          ⟨some 15, .ld true 2 (.t 14), none, 0, 0, false⟩,
          ⟨some 16, .call (.c (.fn 84 0 [])) [(.t 15)], none, 0, 0, false⟩,
          ⟨some 17, .un .not (.t 16), none, 0, 0, false⟩])
       (.cond (.t 17) (.seq (.reg [⟨some 2, .mv (.c (.lit (.bool false))), none, 0, 0, false⟩])
         .ret)
       .skip)))
     (.reg [⟨some 9, .mv (.t 3), none, 0, 0, false⟩,
       ⟨some 10, .bin .add (.t 9) (.c (.lit (.int .i64 1))), none, 0, 0, false⟩,
       ⟨some 3, .mv (.t 10), none, 0, 0, false⟩]))))))
  (.seq (.draw []
    [⟨some 18, .fa [1, 1, 1] 1 (.t 1), none, 0, 0, false⟩,
     ⟨some 19, .ld false 1 (.t 18), none, 0, 0, false⟩,
     ⟨some 20, .len false (.t 19), none, 0, 0, false⟩,
     ⟨some 21, .bin .leq (.t 20) (.c (.lit (.int .i64 65536))), none, 0, 0, false⟩,
     ⟨some 22, .mv (.t 21), none, 0, 0, false⟩,
     ⟨some 23, .fa [1, 1, 1] 0 (.t 1), some (22, true), 0, 1, false⟩,
     ⟨some 24, .ld false 1 (.t 23), some (22, true), 0, 1, false⟩,
     ⟨some 25, .b2s (.t 24), some (22, true), 0, 1, false⟩,
     ⟨some 26, .fa [1, 1, 1] 1 (.t 1), some (22, true), 0, 0, false⟩,
     ⟨some 27, .ld false 1 (.t 26), some (22, true), 0, 0, false⟩,
     ⟨some 28, .fa [1, 1, 1] 2 (.t 1), some (22, true), 0, 0, false⟩,
     ⟨some 29, .ld false 1 (.t 28), some (22, true), 0, 0, false⟩,
     ⟨some 30, .call (.c (.fn 69 0 [])) [(.t 27), (.t 29)], some (22, true), 0, 1, true⟩,
     ⟨some 31, .b2s (.t 30), some (22, true), 1, 1, false⟩,
     ⟨some 32, .bin .eql (.t 25) (.t 31), some (22, true), 1, 1, false⟩,
     ⟨some 33, .pick (.t 22) (.t 32) (.c (.lit (.bool false))), none, 1, 1, false⟩,
     ⟨some 2, .mv (.t 33), none, 1, 1, false⟩])
  .ret))),
  34, [.t 2], (.pure true false)⟩
/-- newsreel/newsreelref08.Lay -/
def a69 : AFn := ⟨(.seq (.reg [⟨some 4, .mv (.c nilD), none, 0, 0, false⟩])
  (.seq (.reg [⟨some 8, .bsl true 1 [] [], none, 0, 0, true⟩,
     ⟨some 9, .mv (.t 0), none, 0, 0, false⟩,
     ⟨some 10, .app 1 140737488355328 (.t 8) (.t 9), none, 0, 0, true⟩,
     ⟨some 5, .mv (.t 10), none, 0, 0, false⟩])
  (.seq (.seq (.reg [⟨some 6, .mv (.c (.lit (.int .i64 0))), none, 0, 0, false⟩])
   (.block 0 (.loop 98 (.seq (.seq (.reg [⟨some 11, .mv (.t 6), none, 0, 0, false⟩,
         ⟨some 12, .mv (.t 1), none, 0, 0, false⟩,
         ⟨some 13, .len false (.t 12), none, 0, 0, false⟩,
         ⟨some 14, .bin .lss (.t 11) (.t 13), none, 0, 0, false⟩])
      (.cond (.t 14) .skip
      (.exit 0)))
     (.seq (.block 1 (.seq (.seq (.reg [⟨some 17, .mv (.t 1), none, 0, 0, false⟩,
           ⟨some 18, .mv (.t 6), none, 0, 0, false⟩,
           ⟨some 19, .ia 2 (.t 17) (.t 18), none, 0, 0, false⟩,
           ⟨some 20, .ld true 2 (.t 19), none, 0, 0, false⟩,
           ⟨some 21, .call (.c (.fn 84 0 [])) [(.t 20)], none, 0, 0, false⟩,
           ⟨some 22, .un .not (.t 21), none, 0, 0, false⟩])
        (.cond (.t 22) (.exit 1)
        .skip))
       (.seq (.reg [⟨some 7, .mv (.c (.lit (.int .i64 0))), none, 0, 0, false⟩])
       (.block 2 (.loop 226 (.seq (.seq (.reg [⟨some 23, .mv (.t 7), none, 0, 0, false⟩,
             ⟨some 24, .mv (.t 1), none, 0, 0, false⟩,
             ⟨some 25, .mv (.t 6), none, 0, 0, false⟩,
             ⟨some 26, .ia 2 (.t 24) (.t 25), none, 0, 0, false⟩,
             ⟨some 27, .fa [1, 1] 1 (.t 26), none, 0, 0, false⟩,
             ⟨some 28, .ld false 1 (.t 27), none, 0, 0, false⟩,
             ⟨some 29, .len false (.t 28), none, 0, 0, false⟩,
             ⟨some 30, .bin .lss (.t 23) (.t 29), none, 0, 0, false⟩])
          (.cond (.t 30) .skip
          (.exit 2)))
         (.seq (.block 3 (.seq (.block 4 (.loop 226 (.seq (.seq (.reg [⟨some 33, .mv (.t 5), none, 0, 0, false⟩,
                  ⟨some 34, .len false (.t 33), none, 0, 0, false⟩,
                  ⟨some 35, .mv (.t 1), none, 0, 0, false⟩,
                  ⟨some 36, .mv (.t 6), none, 0, 0, false⟩,
                  ⟨some 37, .ia 2 (.t 35) (.t 36), none, 0, 0, false⟩,
                  ⟨some 38, .fa [1, 1] 0 (.t 37), none, 0, 0, false⟩,
                  ⟨some 39, .ld false 1 (.t 38), none, 0, 0, false⟩,
                  ⟨some 40, .mv (.t 7), none, 0, 0, false⟩,
                  ⟨some 41, .bin .add (.t 39) (.t 40), none, 0, 0, false⟩,
                  ⟨some 42, .bin .leq (.t 34) (.t 41), none, 0, 0, false⟩])
               (.cond (.t 42) .skip
               (.exit 4)))
              (.block 5 (.reg [⟨some 43, .mv (.t 5), none, 0, 0, false⟩,
                 ⟨some 44, .bsl false 1 [(.lit (.int .u8 0))] [(0, (.c (.lit (.int .u8 0))))], none, 0, 0, false⟩,
                 ⟨some 45, .app 1 140737488355328 (.t 43) (.t 44), none, 0, 0, true⟩,
                 ⟨some 5, .mv (.t 45), none, 0, 0, false⟩])))))
           (.draw []
            [⟨some 46, .mv (.t 5), none, 0, 0, false⟩,
             ⟨some 47, .mv (.t 1), none, 0, 0, false⟩,
             ⟨some 48, .mv (.t 6), none, 0, 0, false⟩,
             ⟨some 49, .ia 2 (.t 47) (.t 48), none, 0, 0, false⟩,
             ⟨some 50, .fa [1, 1] 0 (.t 49), none, 0, 0, false⟩,
             ⟨some 51, .ld false 1 (.t 50), none, 0, 0, false⟩,
             ⟨some 52, .mv (.t 7), none, 0, 0, false⟩,
             ⟨some 53, .bin .add (.t 51) (.t 52), none, 0, 0, false⟩,
             ⟨some 54, .mv (.t 1), none, 0, 0, false⟩,
             ⟨some 55, .mv (.t 6), none, 0, 0, false⟩,
             ⟨some 56, .ia 2 (.t 54) (.t 55), none, 0, 0, false⟩,
             ⟨some 57, .fa [1, 1] 1 (.t 56), none, 0, 0, false⟩,
             ⟨some 58, .ld false 1 (.t 57), none, 0, 0, false⟩,
             ⟨some 59, .mv (.t 7), none, 0, 0, false⟩,
             ⟨some 60, .ia 1 (.t 58) (.t 59), none, 0, 0, false⟩,
             ⟨some 61, .ld false 1 (.t 60), none, 0, 0, false⟩,
             ⟨some 62, .ia 1 (.t 46) (.t 53), none, 0, 0, false⟩,
             ⟨none, .st 1 (.t 62) (.t 61), none, 0, 1, true⟩])))
         (.reg [⟨some 31, .mv (.t 7), none, 0, 0, false⟩,
           ⟨some 32, .bin .add (.t 31) (.c (.lit (.int .i64 1))), none, 0, 0, false⟩,
           ⟨some 7, .mv (.t 32), none, 0, 0, false⟩]))))))))
     (.reg [⟨some 15, .mv (.t 6), none, 0, 0, false⟩,
       ⟨some 16, .bin .add (.t 15) (.c (.lit (.int .i64 1))), none, 0, 0, false⟩,
       ⟨some 6, .mv (.t 16), none, 0, 0, false⟩]))))))
  (.seq (.reg [⟨some 63, .mv (.t 5), none, 0, 0, false⟩,
     ⟨some 4, .mv (.t 63), none, 0, 0, false⟩])
  .ret)))),
  64, [.t 4], (.pure false false)⟩
/-- newsreel/newsreelref10.All -/
def a70 : AFn := ⟨(.seq (.reg [⟨some 4, .mv (.c nilD), none, 0, 0, false⟩,
     ⟨some 5, .mv (.c (.lit (.bool false))), none, 0, 0, false⟩])
  (.seq (.seq (.reg [⟨some 6, .mv (.c (.lit (.int .i64 0))), none, 0, 0, false⟩])
   (.block 0 (.loop 67 (.seq (.seq (.reg [⟨some 9, .mv (.t 6), none, 0, 0, false⟩,
         ⟨some 10, .mv (.t 1), none, 0, 0, false⟩,
         ⟨some 11, .len false (.t 10), none, 0, 0, false⟩,
         ⟨some 12, .bin .lss (.t 9) (.t 11), none, 0, 0, false⟩])
      (.cond (.t 12) .skip
      (.exit 0)))
     (.seq (.block 1 (.seq (.reg [⟨some 16, .mv (.t 0), none, 0, 0, false⟩,
          ⟨some 17, .mv (.t 1), none, 0, 0, false⟩,
          ⟨some 18, .mv (.t 6), none, 0, 0, false⟩,
          ⟨some 19, .ia 4 (.t 17) (.t 18), none, 0, 0, false⟩,
          ⟨some 20, .ld true 4 (.t 19), none, 0, 0, false⟩,
          ⟨some 21, .call (.c (.fn 67 0 [])) [(.t 16), (.t 20)], none, 0, 0, true⟩,
          ⟨some 15, .mv (.t 21), none, 0, 0, false⟩,
          ⟨some 22, .ext (.t 15) 0, none, 0, 0, false⟩,
          ⟨some 23, .ext (.t 15) 1, none, 0, 0, false⟩,
          ⟨some 7, .mv (.t 22), none, 0, 0, false⟩,
          ⟨some 8, .mv (.t 23), none, 0, 0, false⟩])
       (.seq (.seq (.reg [⟨some 24, .mv (.t 8), none, 0, 0, false⟩,
           ⟨some 25, .bin .neq (.t 24) (.c (.lit (.int .i64 0))), none, 0, 0, false⟩])
        (.cond (.t 25) (.seq (.reg [⟨some 4, .mv (.c nilD), none, 0, 0, false⟩,
             ⟨some 5, .mv (.c (.lit (.bool false))), none, 0, 0, false⟩])
          .ret)
        .skip))
       (.reg [⟨some 26, .mv (.t 7), none, 0, 0, false⟩,
         ⟨some 0, .mv (.t 26), none, 0, 0, false⟩]))))
     (.reg [⟨some 13, .mv (.t 6), none, 0, 0, false⟩,
       ⟨some 14, .bin .add (.t 13) (.c (.lit (.int .i64 1))), none, 0, 0, false⟩,
       ⟨some 6, .mv (.t 14), none, 0, 0, false⟩]))))))
  (.seq (.reg [⟨some 27, .mv (.t 0), none, 0, 0, false⟩,
     ⟨some 4, .mv (.t 27), none, 0, 0, false⟩,
     ⟨some 5, .mv (.c (.lit (.bool true))), none, 0, 0, false⟩])
  .ret))),
  28, [.t 4, .t 5], (.pure false false)⟩
/-- slices.IndexFunc[[]newsreel/api.Entry,newsreel/api.Entry] -/
def a71 : AFn := ⟨(.seq (.reg [⟨some 4, .mv (.c (.lit (.int .i64 0))), none, 0, 0, false⟩])
  (.seq (.seq (.reg [⟨some 6, .mv (.t 0), none, 0, 0, false⟩,
      ⟨some 7, .len false (.t 6), none, 0, 0, false⟩,
      ⟨some 8, .mv (.c (.lit (.int .i64 0))), none, 0, 0, false⟩])
   (.block 0 (.loop 387 (.seq (.reg [⟨some 9, .bin .lss (.t 8) (.t 7), none, 0, 0, false⟩])
     (.seq (.cond (.t 9) .skip
      (.exit 0))
     (.seq (.block 1 (.seq (.reg [⟨some 10, .mv (.t 8), none, 0, 0, false⟩,
          ⟨some 5, .mv (.t 10), none, 0, 0, false⟩])
       (.seq (.reg [⟨some 11, .mv (.t 1), none, 0, 0, false⟩,
          ⟨some 12, .mv (.t 0), none, 0, 0, false⟩,
          ⟨some 13, .mv (.t 5), none, 0, 0, false⟩,
          ⟨some 14, .ia 2 (.t 12) (.t 13), none, 0, 0, false⟩,
          ⟨some 15, .ld true 2 (.t 14), none, 0, 0, false⟩,
          ⟨some 16, .call (.t 11) [(.t 15)], none, 0, 0, true⟩])
       (.cond (.t 16) (.seq (.reg [⟨some 17, .mv (.t 5), none, 0, 0, false⟩,
            ⟨some 4, .mv (.t 17), none, 0, 0, false⟩])
         .ret)
       .skip))))
     (.reg [⟨some 18, .bin .add (.t 8) (.c (.lit (.int .i64 1))), none, 0, 0, false⟩,
       ⟨some 8, .mv (.t 18), none, 0, 0, false⟩])))))))
  (.seq (.reg [⟨some 4, .mv (.c (.lit (.int .i64 (-1)))), none, 0, 0, false⟩])
  .ret))),
  19, [.t 4], (.pure true false)⟩
/-- newsreel/dir.Find$1 -/
def a72 : AFn := ⟨(.seq (.reg [⟨some 2, .box false (.t 0), none, 0, 0, false⟩,
     ⟨some 3, .mv (.c (.lit (.bool false))), none, 0, 0, false⟩])
  (.seq (.reg [⟨some 4, .fa [1, 1] 0 (.t 2), none, 0, 0, false⟩,
     ⟨some 5, .ld false 1 (.t 4), none, 0, 0, false⟩,
     ⟨some 6, .ld false 1 (.t 1), none, 0, 0, false⟩,
     ⟨some 7, .bin .eql (.t 5) (.t 6), none, 0, 0, false⟩,
     ⟨some 3, .mv (.t 7), none, 0, 0, false⟩])
  .ret)),
  8, [.t 3], (.pure true false)⟩
/-- newsreel/dir.done -/
def a73 : AFn := ⟨(.seq (.reg [⟨some 3, .box false (.t 1), none, 0, 0, false⟩,
     ⟨some 4, .mv (.c nilD), none, 0, 0, false⟩,
     ⟨some 5, .mv (.c (.lit (.int .i64 0))), none, 0, 0, false⟩])
  (.seq (.reg [⟨some 9, .mv (.t 0), none, 0, 0, false⟩,
     ⟨some 10, .fa [1, 1, 1, 1] 1 (.t 3), none, 0, 0, false⟩,
     ⟨some 11, .ld false 1 (.t 10), none, 0, 0, false⟩,
     ⟨some 12, .call (.c (.fn 85 0 [])) [(.t 9), (.t 11)], none, 0, 0, false⟩,
     ⟨some 8, .mv (.t 12), none, 0, 0, false⟩,
     ⟨some 13, .ext (.t 8) 0, none, 0, 0, false⟩,
     ⟨some 14, .ext (.t 8) 1, none, 0, 0, false⟩,
     ⟨some 6, .mv (.t 13), none, 0, 0, false⟩,
     ⟨some 7, .mv (.t 14), none, 0, 0, false⟩])
  (.seq (.seq (.reg [⟨some 15, .fa [1, 1, 1, 1] 0 (.t 3), none, 0, 0, false⟩,
      ⟨some 16, .ld false 1 (.t 15), none, 0, 0, false⟩])
   (.block 0 (.seq (.reg [⟨some 18, .bin .eql (.t 16) (.c (.lit (.int .i64 1))), none, 0, 0, false⟩,
       ⟨some 17, .mv (.t 18), none, 0, 0, false⟩])
    (.cond (.t 17) (.seq (.reg [⟨some 19, .mv (.t 0), none, 0, 0, false⟩,
         ⟨some 20, .ld true 4 (.t 3), none, 0, 0, false⟩,
         ⟨some 21, .call (.c (.fn 86 0 [])) [(.t 19), (.t 20)], none, 0, 0, true⟩,
         ⟨some 22, .ext (.t 21) 0, none, 0, 0, false⟩,
         ⟨some 23, .ext (.t 21) 1, none, 0, 0, false⟩,
         ⟨some 4, .mv (.t 22), none, 0, 0, false⟩,
         ⟨some 5, .mv (.t 23), none, 0, 0, false⟩])
      .ret)
    (.seq (.reg [⟨some 25, .bin .eql (.t 16) (.c (.lit (.int .i64 2))), none, 0, 0, false⟩,
         ⟨some 24, .mv (.t 25), none, 0, 0, false⟩])
      (.cond (.t 24) (.seq (.seq (.reg [⟨some 26, .mv (.t 7), none, 0, 0, false⟩,
            ⟨some 27, .un .not (.t 26), none, 0, 0, false⟩])
         (.cond (.t 27) (.seq (.reg [⟨some 4, .mv (.c nilD), none, 0, 0, false⟩,
              ⟨some 5, .mv (.c (.lit (.int .i64 5))), none, 0, 0, false⟩])
           .ret)
         .skip))
        (.seq (.seq (.reg [⟨some 28, .fa [1, 1, 1, 1] 2 (.t 3), none, 0, 0, false⟩,
            ⟨some 29, .ld false 1 (.t 28), none, 0, 0, false⟩,
            ⟨some 30, .call (.c (.fn 87 0 [])) [(.t 29)], none, 0, 0, false⟩,
            ⟨some 31, .un .not (.t 30), none, 0, 0, false⟩,
            ⟨some 32, .mv (.t 31), none, 0, 0, false⟩,
            ⟨some 33, .fa [1, 1, 1, 1] 2 (.t 3), some (32, false), 0, 0, false⟩,
            ⟨some 34, .ld false 1 (.t 33), some (32, false), 0, 0, false⟩,
            ⟨some 35, .fa [1, 1, 1, 1] 1 (.t 3), some (32, false), 0, 0, false⟩,
            ⟨some 36, .ld false 1 (.t 35), some (32, false), 0, 0, false⟩,
            ⟨some 37, .bin .eql (.t 34) (.t 36), some (32, false), 0, 0, false⟩,
            ⟨some 38, .pick (.t 32) (.c (.lit (.bool true))) (.t 37), none, 0, 0, false⟩])
         (.cond (.t 38) (.seq (.reg [⟨some 4, .mv (.c nilD), none, 0, 0, false⟩,
              ⟨some 5, .mv (.c (.lit (.int .i64 1))), none, 0, 0, false⟩])
           .ret)
         .skip))
        (.seq (.draw []
          [⟨some 39, .mv (.t 0), none, 0, 0, false⟩,
           ⟨some 40, .mv (.t 6), none, 0, 0, false⟩,
           ⟨some 41, .call (.c (.fn 89 0 [])) [(.t 39), (.t 40)], none, 0, 1, true⟩,
           ⟨some 42, .fa [1, 1, 1, 1] 2 (.t 3), none, 0, 1, false⟩,
           ⟨some 43, .ld false 1 (.t 42), none, 0, 1, false⟩,
           ⟨some 44, .mv (.t 0), none, 0, 1, false⟩,
           ⟨some 45, .mv (.t 6), none, 0, 1, false⟩,
           ⟨some 46, .ia 2 (.t 44) (.t 45), none, 0, 1, false⟩,
           ⟨some 47, .fa [1, 1] 1 (.t 46), none, 0, 1, false⟩,
           ⟨some 48, .ld false 1 (.t 47), none, 0, 1, false⟩,
           ⟨some 49, .build [1, 1] [(.lit (.string ⟨#[]⟩)), (.lit (.int .i64 0))] [(0, (.t 43)), (1, (.t 48))], none, 0, 1, false⟩,
           ⟨some 50, .call (.c (.fn 88 0 [])) [(.t 41), (.t 49)], none, 1, 2, true⟩,
           ⟨some 4, .mv (.t 50), none, 2, 2, false⟩,
           ⟨some 5, .mv (.c (.lit (.int .i64 0))), none, 2, 2, false⟩])
        .ret)))
      (.seq (.reg [⟨some 52, .bin .eql (.t 16) (.c (.lit (.int .i64 3))), none, 0, 0, false⟩,
           ⟨some 51, .mv (.t 52), none, 0, 0, false⟩])
        (.cond (.t 51) (.seq (.seq (.reg [⟨some 53, .mv (.t 7), none, 0, 0, false⟩,
              ⟨some 54, .un .not (.t 53), none, 0, 0, false⟩])
           (.cond (.t 54) (.seq (.reg [⟨some 4, .mv (.c nilD), none, 0, 0, false⟩,
                ⟨some 5, .mv (.c (.lit (.int .i64 5))), none, 0, 0, false⟩])
             .ret)
           .skip))
          (.seq (.reg [⟨some 55, .mv (.t 0), none, 0, 0, false⟩,
             ⟨some 56, .mv (.t 6), none, 0, 0, false⟩,
             ⟨some 57, .call (.c (.fn 89 0 [])) [(.t 55), (.t 56)], none, 0, 0, true⟩,
             ⟨some 4, .mv (.t 57), none, 0, 0, false⟩,
             ⟨some 5, .mv (.c (.lit (.int .i64 0))), none, 0, 0, false⟩])
          .ret))
        .skip))))))))
  (.seq (.reg [⟨some 4, .mv (.c nilD), none, 0, 0, false⟩,
     ⟨some 5, .mv (.c (.lit (.int .i64 16))), none, 0, 0, false⟩])
  .ret)))),
  58, [.t 4, .t 5], (.pure false false)⟩
/-- slices.Clone[[]newsreel/api.DirOp,newsreel/api.DirOp] -/
def a74 : AFn := ⟨(.seq (.reg [⟨some 2, .mv (.c nilD), none, 0, 0, false⟩])
  (.seq (.seq (.reg [⟨some 3, .mv (.t 0), none, 0, 0, false⟩,
      ⟨some 4, .eq false .nilS (.t 3) (.c nilD), none, 0, 0, false⟩])
   (.cond (.t 4) (.seq (.reg [⟨some 2, .mv (.c nilD), none, 0, 0, false⟩])
     .ret)
   .skip))
  (.seq (.reg [⟨some 5, .bsl true 4 [] [], none, 0, 0, true⟩,
     ⟨some 6, .mv (.t 0), none, 0, 0, false⟩,
     ⟨some 7, .app 4 2932031007402 (.t 5) (.t 6), none, 0, 0, true⟩,
     ⟨some 2, .mv (.t 7), none, 0, 0, false⟩])
  .ret))),
  8, [.t 2], (.pure false true)⟩
/-- slices.ContainsFunc[[]newsreel/api.Piece,newsreel/api.Piece] -/
def a75 : AFn := ⟨(.seq (.reg [⟨some 4, .mv (.c (.lit (.bool false))), none, 0, 0, false⟩])
  (.seq (.reg [⟨some 5, .mv (.t 0), none, 0, 0, false⟩,
     ⟨some 6, .mv (.t 1), none, 0, 0, false⟩,
     ⟨some 7, .call (.c (.fn 90 0 [])) [(.t 5), (.t 6)], none, 0, 0, false⟩,
     ⟨some 8, .bin .geq (.t 7) (.c (.lit (.int .i64 0))), none, 0, 0, false⟩,
     ⟨some 4, .mv (.t 8), none, 0, 0, false⟩])
  .ret)),
  9, [.t 4], (.pure true false)⟩
/-- newsreel/file.Right$1 -/
def a76 : AFn := ⟨(.seq (.reg [⟨some 1, .box false (.t 0), none, 0, 0, false⟩,
     ⟨some 2, .mv (.c (.lit (.bool false))), none, 0, 0, false⟩])
  (.seq (.reg [⟨some 3, .ld true 2 (.t 1), none, 0, 0, false⟩,
     ⟨some 4, .call (.c (.fn 60 0 [])) [(.t 3)], none, 0, 0, false⟩,
     ⟨some 5, .un .not (.t 4), none, 0, 0, false⟩,
     ⟨some 2, .mv (.t 5), none, 0, 0, false⟩])
  .ret)),
  6, [.t 2], (.pure true false)⟩
/-- bytes.Equal -/
def a77 : AFn := ⟨(.seq (.reg [⟨some 4, .mv (.c (.lit (.bool false))), none, 0, 0, false⟩])
  (.seq (.reg [⟨some 5, .mv (.t 0), none, 0, 0, false⟩,
     ⟨some 6, .b2s (.t 5), none, 0, 0, false⟩,
     ⟨some 7, .mv (.t 1), none, 0, 0, false⟩,
     ⟨some 8, .b2s (.t 7), none, 0, 0, false⟩,
     ⟨some 9, .bin .eql (.t 6) (.t 8), none, 0, 0, false⟩,
     ⟨some 4, .mv (.t 9), none, 0, 0, false⟩])
  .ret)),
  10, [.t 4], (.pure true false)⟩
/-- newsreel/dir.may -/
def a78 : AFn := ⟨(.seq (.reg [⟨some 2, .mv (.c (.lit (.bool false))), none, 0, 0, false⟩])
  (.seq (.seq (.reg [⟨some 5, .mv (.t 0), none, 0, 0, false⟩,
      ⟨some 6, .len false (.t 5), none, 0, 0, false⟩,
      ⟨some 7, .mv (.c (.lit (.int .i64 0))), none, 0, 0, false⟩])
   (.block 0 (.loop 225 (.seq (.reg [⟨some 8, .bin .lss (.t 7) (.t 6), none, 0, 0, false⟩])
     (.seq (.cond (.t 8) .skip
      (.exit 0))
     (.seq (.block 1 (.seq (.reg [⟨some 9, .mv (.t 7), none, 0, 0, false⟩,
          ⟨some 10, .ia 2 (.t 5) (.t 7), none, 0, 0, false⟩,
          ⟨some 11, .ld true 2 (.t 10), none, 0, 0, false⟩,
          ⟨some 4, .box true (.c (.agg [1, 1] [(.lit (.string ⟨#[]⟩)), (.lit (.int .i64 0))])), none, 0, 0, true⟩,
          ⟨some 3, .mv (.t 9), none, 0, 0, false⟩,
          ⟨none, .st 2 (.t 4) (.t 11), none, 0, 0, true⟩])
       (.seq (.draw []
         [⟨some 12, .fa [1, 1] 0 (.t 4), none, 0, 0, false⟩,
          ⟨some 13, .ld false 1 (.t 12), none, 0, 0, false⟩,
          ⟨some 14, .call (.c (.fn 87 0 [])) [(.t 13)], none, 0, 0, false⟩,
          ⟨some 15, .un .not (.t 14), none, 0, 0, false⟩,
          ⟨some 16, .mv (.t 15), none, 0, 0, false⟩,
          ⟨some 17, .mv (.t 3), some (16, false), 0, 0, false⟩,
          ⟨some 18, .bin .gtr (.t 17) (.c (.lit (.int .i64 0))), some (16, false), 0, 0, false⟩,
          ⟨some 19, .mv (.t 18), some (16, false), 0, 0, false⟩,
          ⟨some 20, .mv (.t 0), some (19, true), 0, 0, false⟩,
          ⟨some 21, .mv (.t 3), some (19, true), 0, 0, false⟩,
          ⟨some 22, .bin .sub (.t 21) (.c (.lit (.int .i64 1))), some (19, true), 0, 0, false⟩,
          ⟨some 23, .ia 2 (.t 20) (.t 22), some (19, true), 0, 0, false⟩,
          ⟨some 24, .fa [1, 1] 0 (.t 23), some (19, true), 0, 0, false⟩,
          ⟨some 25, .ld false 1 (.t 24), some (19, true), 0, 0, false⟩,
          ⟨some 26, .fa [1, 1] 0 (.t 4), some (19, true), 0, 0, false⟩,
          ⟨some 27, .ld false 1 (.t 26), some (19, true), 0, 0, false⟩,
          ⟨some 28, .bin .geq (.t 25) (.t 27), some (19, true), 0, 0, false⟩,
          ⟨some 29, .pick (.t 19) (.t 28) (.c (.lit (.bool false))), some (16, false), 0, 0, false⟩,
          ⟨some 30, .pick (.t 16) (.c (.lit (.bool true))) (.t 29), none, 0, 0, false⟩])
       (.cond (.t 30) (.seq (.reg [⟨some 2, .mv (.c (.lit (.bool false))), none, 0, 0, false⟩])
         .ret)
       .skip))))
     (.reg [⟨some 31, .bin .add (.t 7) (.c (.lit (.int .i64 1))), none, 0, 0, false⟩,
       ⟨some 7, .mv (.t 31), none, 0, 0, false⟩])))))))
  (.seq (.reg [⟨some 32, .mv (.t 0), none, 0, 0, false⟩,
     ⟨some 33, .len false (.t 32), none, 0, 0, false⟩,
     ⟨some 34, .bin .leq (.t 33) (.c (.lit (.int .i64 100))), none, 0, 0, false⟩,
     ⟨some 2, .mv (.t 34), none, 0, 0, false⟩])
  .ret))),
  35, [.t 2], (.pure true false)⟩
/-- slices.Equal[[]newsreel/api.Entry,newsreel/api.Entry] -/
def a79 : AFn := ⟨(.seq (.reg [⟨some 4, .mv (.c (.lit (.bool false))), none, 0, 0, false⟩])
  (.seq (.seq (.reg [⟨some 6, .mv (.t 0), none, 0, 0, false⟩,
      ⟨some 7, .len false (.t 6), none, 0, 0, false⟩,
      ⟨some 8, .mv (.t 1), none, 0, 0, false⟩,
      ⟨some 9, .len false (.t 8), none, 0, 0, false⟩,
      ⟨some 10, .bin .neq (.t 7) (.t 9), none, 0, 0, false⟩])
   (.cond (.t 10) (.seq (.reg [⟨some 4, .mv (.c (.lit (.bool false))), none, 0, 0, false⟩])
     .ret)
   .skip))
  (.seq (.seq (.reg [⟨some 11, .mv (.t 0), none, 0, 0, false⟩,
      ⟨some 12, .len false (.t 11), none, 0, 0, false⟩,
      ⟨some 13, .mv (.c (.lit (.int .i64 0))), none, 0, 0, false⟩])
   (.block 0 (.loop 12291 (.seq (.reg [⟨some 14, .bin .lss (.t 13) (.t 12), none, 0, 0, false⟩])
     (.seq (.cond (.t 14) .skip
      (.exit 0))
     (.seq (.block 1 (.seq (.reg [⟨some 15, .mv (.t 13), none, 0, 0, false⟩,
          ⟨some 5, .mv (.t 15), none, 0, 0, false⟩])
       (.seq (.draw []
         [⟨some 16, .mv (.t 0), none, 0, 0, false⟩,
          ⟨some 17, .mv (.t 5), none, 0, 0, false⟩,
          ⟨some 18, .ia 2 (.t 16) (.t 17), none, 0, 0, false⟩,
          ⟨some 19, .ld true 2 (.t 18), none, 0, 0, false⟩,
          ⟨some 20, .mv (.t 1), none, 0, 0, false⟩,
          ⟨some 21, .mv (.t 5), none, 0, 0, false⟩,
          ⟨some 22, .ia 2 (.t 20) (.t 21), none, 0, 0, false⟩,
          ⟨some 23, .ld true 2 (.t 22), none, 0, 0, false⟩,
          ⟨some 24, .eq true (.fields [1, 1] [.str, .int]) (.t 19) (.t 23), none, 0, 0, false⟩])
       (.cond (.t 24) (.seq (.reg [⟨some 4, .mv (.c (.lit (.bool false))), none, 0, 0, false⟩])
         .ret)
       .skip))))
     (.reg [⟨some 25, .bin .add (.t 13) (.c (.lit (.int .i64 1))), none, 0, 0, false⟩,
       ⟨some 13, .mv (.t 25), none, 0, 0, false⟩])))))))
  (.seq (.reg [⟨some 4, .mv (.c (.lit (.bool true))), none, 0, 0, false⟩])
  .ret)))),
  26, [.t 4], (.pure true false)⟩
/-- newsreel/newsreelref10.Name -/
def a80 : AFn := ⟨(.seq (.reg [⟨some 2, .mv (.c (.lit (.bool false))), none, 0, 0, false⟩])
  (.seq (.seq (.reg [⟨some 3, .mv (.c (.lit (.int .i64 0))), none, 0, 0, false⟩])
   (.block 0 (.loop 9 (.seq (.seq (.reg [⟨some 4, .mv (.t 3), none, 0, 0, false⟩,
         ⟨some 5, .mv (.t 0), none, 0, 0, false⟩,
         ⟨some 6, .len true (.t 5), none, 0, 0, false⟩,
         ⟨some 7, .bin .lss (.t 4) (.t 6), none, 0, 0, false⟩])
      (.cond (.t 7) .skip
      (.exit 0)))
     (.seq (.block 1 (.seq (.reg [⟨some 10, .mv (.t 0), none, 0, 0, false⟩,
          ⟨some 11, .mv (.t 3), none, 0, 0, false⟩,
          ⟨some 12, .ixS (.t 10) (.t 11), none, 0, 0, false⟩,
          ⟨some 13, .bin .geq (.t 12) (.c (.lit (.int .u8 97))), none, 0, 0, false⟩,
          ⟨some 14, .mv (.t 13), none, 0, 0, false⟩,
          ⟨some 15, .mv (.t 0), some (14, true), 0, 0, false⟩,
          ⟨some 16, .mv (.t 3), some (14, true), 0, 0, false⟩,
          ⟨some 17, .ixS (.t 15) (.t 16), some (14, true), 0, 0, false⟩,
          ⟨some 18, .bin .leq (.t 17) (.c (.lit (.int .u8 122))), some (14, true), 0, 0, false⟩,
          ⟨some 19, .pick (.t 14) (.t 18) (.c (.lit (.bool false))), none, 0, 0, false⟩,
          ⟨some 20, .mv (.t 19), none, 0, 0, false⟩,
          ⟨some 21, .mv (.t 0), some (20, false), 0, 0, false⟩,
          ⟨some 22, .mv (.t 3), some (20, false), 0, 0, false⟩,
          ⟨some 23, .ixS (.t 21) (.t 22), some (20, false), 0, 0, false⟩,
          ⟨some 24, .bin .geq (.t 23) (.c (.lit (.int .u8 48))), some (20, false), 0, 0, false⟩,
          ⟨some 25, .mv (.t 24), some (20, false), 0, 0, false⟩,
          ⟨some 26, .mv (.t 0), some (25, true), 0, 0, false⟩,
          ⟨some 27, .mv (.t 3), some (25, true), 0, 0, false⟩,
          ⟨some 28, .ixS (.t 26) (.t 27), some (25, true), 0, 0, false⟩,
          ⟨some 29, .bin .leq (.t 28) (.c (.lit (.int .u8 57))), some (25, true), 0, 0, false⟩,
          ⟨some 30, .pick (.t 25) (.t 29) (.c (.lit (.bool false))), some (20, false), 0, 0, false⟩,
          ⟨some 31, .pick (.t 20) (.c (.lit (.bool true))) (.t 30), none, 0, 0, false⟩,
          ⟨some 32, .mv (.t 31), none, 0, 0, false⟩,
          ⟨some 33, .mv (.t 0), some (32, false), 0, 0, false⟩,
          ⟨some 34, .mv (.t 3), some (32, false), 0, 0, false⟩,
          ⟨some 35, .ixS (.t 33) (.t 34), some (32, false), 0, 0, false⟩,
          ⟨some 36, .bin .eql (.t 35) (.c (.lit (.int .u8 46))), some (32, false), 0, 0, false⟩,
          ⟨some 37, .pick (.t 32) (.c (.lit (.bool true))) (.t 36), none, 0, 0, false⟩,
          ⟨some 38, .un .not (.t 37), none, 0, 0, false⟩])
       (.cond (.t 38) (.seq (.reg [⟨some 2, .mv (.c (.lit (.bool false))), none, 0, 0, false⟩])
         .ret)
       .skip)))
     (.reg [⟨some 8, .mv (.t 3), none, 0, 0, false⟩,
       ⟨some 9, .bin .add (.t 8) (.c (.lit (.int .i64 1))), none, 0, 0, false⟩,
       ⟨some 3, .mv (.t 9), none, 0, 0, false⟩]))))))
  (.seq (.reg [⟨some 39, .mv (.t 0), none, 0, 0, false⟩,
     ⟨some 40, .len true (.t 39), none, 0, 0, false⟩,
     ⟨some 41, .bin .geq (.t 40) (.c (.lit (.int .i64 1))), none, 0, 0, false⟩,
     ⟨some 42, .mv (.t 41), none, 0, 0, false⟩,
     ⟨some 43, .mv (.t 0), some (42, true), 0, 0, false⟩,
     ⟨some 44, .len true (.t 43), some (42, true), 0, 0, false⟩,
     ⟨some 45, .bin .leq (.t 44) (.c (.lit (.int .i64 24))), some (42, true), 0, 0, false⟩,
     ⟨some 46, .pick (.t 42) (.t 45) (.c (.lit (.bool false))), none, 0, 0, false⟩,
     ⟨some 2, .mv (.t 46), none, 0, 0, false⟩])
  .ret))),
  47, [.t 2], (.pure true false)⟩
/-- newsreel/newsreelref10.Entries -/
def a81 : AFn := ⟨(.seq (.reg [⟨some 4, .mv (.c (.lit (.bool false))), none, 0, 0, false⟩])
  (.seq (.seq (.reg [⟨some 6, .mv (.t 0), none, 0, 0, false⟩,
      ⟨some 7, .len false (.t 6), none, 0, 0, false⟩,
      ⟨some 8, .mv (.t 1), none, 0, 0, false⟩,
      ⟨some 9, .len false (.t 8), none, 0, 0, false⟩,
      ⟨some 10, .bin .neq (.t 7) (.t 9), none, 0, 0, false⟩])
   (.cond (.t 10) (.seq (.reg [⟨some 4, .mv (.c (.lit (.bool false))), none, 0, 0, false⟩])
     .ret)
   .skip))
  (.seq (.seq (.reg [⟨some 5, .mv (.c (.lit (.int .i64 0))), none, 0, 0, false⟩])
   (.block 0 (.loop 35 (.seq (.seq (.reg [⟨some 11, .mv (.t 5), none, 0, 0, false⟩,
         ⟨some 12, .mv (.t 0), none, 0, 0, false⟩,
         ⟨some 13, .len false (.t 12), none, 0, 0, false⟩,
         ⟨some 14, .bin .lss (.t 11) (.t 13), none, 0, 0, false⟩])
      (.cond (.t 14) .skip
      (.exit 0)))
     (.seq (.block 1 (.seq (.draw []
         [⟨some 17, .mv (.t 0), none, 0, 0, false⟩,
          ⟨some 18, .mv (.t 5), none, 0, 0, false⟩,
          ⟨some 19, .ia 2 (.t 17) (.t 18), none, 0, 0, false⟩,
          ⟨some 20, .ld true 2 (.t 19), none, 0, 0, false⟩,
          ⟨some 21, .mv (.t 1), none, 0, 0, false⟩,
          ⟨some 22, .mv (.t 5), none, 0, 0, false⟩,
          ⟨some 23, .ia 2 (.t 21) (.t 22), none, 0, 0, false⟩,
          ⟨some 24, .ld true 2 (.t 23), none, 0, 0, false⟩,
          ⟨some 25, .eq true (.fields [1, 1] [.str, .int]) (.t 20) (.t 24), none, 0, 0, false⟩])
       (.cond (.t 25) (.seq (.reg [⟨some 4, .mv (.c (.lit (.bool false))), none, 0, 0, false⟩])
         .ret)
       .skip)))
     (.reg [⟨some 15, .mv (.t 5), none, 0, 0, false⟩,
       ⟨some 16, .bin .add (.t 15) (.c (.lit (.int .i64 1))), none, 0, 0, false⟩,
       ⟨some 5, .mv (.t 16), none, 0, 0, false⟩]))))))
  (.seq (.reg [⟨some 4, .mv (.c (.lit (.bool true))), none, 0, 0, false⟩])
  .ret)))),
  26, [.t 4], (.pure true false)⟩
/-- newsreel/newsreelref10.With -/
def a82 : AFn := ⟨(.seq (.reg [⟨some 3, .box false (.t 1), none, 0, 0, false⟩,
     ⟨some 4, .mv (.c nilD), none, 0, 0, false⟩])
  (.seq (.reg [⟨some 8, .bsl true 2 [] [], none, 0, 0, true⟩,
     ⟨some 5, .mv (.t 8), none, 0, 0, false⟩])
  (.seq (.reg [⟨some 6, .mv (.c (.lit (.bool false))), none, 0, 0, false⟩])
  (.seq (.seq (.reg [⟨some 7, .mv (.c (.lit (.int .i64 0))), none, 0, 0, false⟩])
   (.block 0 (.loop 233 (.seq (.seq (.reg [⟨some 9, .mv (.t 7), none, 0, 0, false⟩,
         ⟨some 10, .mv (.t 0), none, 0, 0, false⟩,
         ⟨some 11, .len false (.t 10), none, 0, 0, false⟩,
         ⟨some 12, .bin .lss (.t 9) (.t 11), none, 0, 0, false⟩])
      (.cond (.t 12) .skip
      (.exit 0)))
     (.seq (.block 1 (.seq (.seq (.draw []
          [⟨some 15, .mv (.t 6), none, 0, 0, false⟩,
           ⟨some 16, .un .not (.t 15), none, 0, 0, false⟩,
           ⟨some 17, .mv (.t 16), none, 0, 0, false⟩,
           ⟨some 18, .mv (.t 0), some (17, true), 0, 0, false⟩,
           ⟨some 19, .mv (.t 7), some (17, true), 0, 0, false⟩,
           ⟨some 20, .ia 2 (.t 18) (.t 19), some (17, true), 0, 0, false⟩,
           ⟨some 21, .fa [1, 1] 0 (.t 20), some (17, true), 0, 0, false⟩,
           ⟨some 22, .ld false 1 (.t 21), some (17, true), 0, 0, false⟩,
           ⟨some 23, .fa [1, 1] 0 (.t 3), some (17, true), 0, 0, false⟩,
           ⟨some 24, .ld false 1 (.t 23), some (17, true), 0, 0, false⟩,
           ⟨some 25, .bin .gtr (.t 22) (.t 24), some (17, true), 0, 0, false⟩,
           ⟨some 26, .pick (.t 17) (.t 25) (.c (.lit (.bool false))), none, 0, 0, false⟩])
        (.cond (.t 26) (.seq (.reg [⟨some 27, .mv (.t 5), none, 0, 0, false⟩,
             ⟨some 28, .ld true 2 (.t 3), none, 0, 0, false⟩,
             ⟨some 29, .bsl false 2 [(.agg [1, 1] [(.lit (.string ⟨#[]⟩)), (.lit (.int .i64 0))])] [(0, (.t 28))], none, 0, 0, false⟩,
             ⟨some 30, .app 2 5864062014805 (.t 27) (.t 29), none, 0, 0, true⟩,
             ⟨some 5, .mv (.t 30), none, 0, 0, false⟩])
          (.reg [⟨some 6, .mv (.c (.lit (.bool true))), none, 0, 0, false⟩]))
        .skip))
       (.reg [⟨some 31, .mv (.t 5), none, 0, 0, false⟩,
         ⟨some 32, .mv (.t 0), none, 0, 0, false⟩,
         ⟨some 33, .mv (.t 7), none, 0, 0, false⟩,
         ⟨some 34, .ia 2 (.t 32) (.t 33), none, 0, 0, false⟩,
         ⟨some 35, .ld true 2 (.t 34), none, 0, 0, false⟩,
         ⟨some 36, .bsl false 2 [(.agg [1, 1] [(.lit (.string ⟨#[]⟩)), (.lit (.int .i64 0))])] [(0, (.t 35))], none, 0, 0, false⟩,
         ⟨some 37, .app 2 5864062014805 (.t 31) (.t 36), none, 0, 0, true⟩,
         ⟨some 5, .mv (.t 37), none, 0, 0, false⟩])))
     (.reg [⟨some 13, .mv (.t 7), none, 0, 0, false⟩,
       ⟨some 14, .bin .add (.t 13) (.c (.lit (.int .i64 1))), none, 0, 0, false⟩,
       ⟨some 7, .mv (.t 14), none, 0, 0, false⟩]))))))
  (.seq (.seq (.reg [⟨some 38, .mv (.t 6), none, 0, 0, false⟩,
      ⟨some 39, .un .not (.t 38), none, 0, 0, false⟩])
   (.cond (.t 39) (.reg [⟨some 40, .mv (.t 5), none, 0, 0, false⟩,
       ⟨some 41, .ld true 2 (.t 3), none, 0, 0, false⟩,
       ⟨some 42, .bsl false 2 [(.agg [1, 1] [(.lit (.string ⟨#[]⟩)), (.lit (.int .i64 0))])] [(0, (.t 41))], none, 0, 0, false⟩,
       ⟨some 43, .app 2 5864062014805 (.t 40) (.t 42), none, 0, 0, true⟩,
       ⟨some 5, .mv (.t 43), none, 0, 0, false⟩])
   .skip))
  (.seq (.reg [⟨some 44, .mv (.t 5), none, 0, 0, false⟩,
     ⟨some 4, .mv (.t 44), none, 0, 0, false⟩])
  .ret)))))),
  45, [.t 4], (.pure false false)⟩
/-- newsreel/newsreelref10.Without -/
def a83 : AFn := ⟨(.seq (.reg [⟨some 4, .mv (.c nilD), none, 0, 0, false⟩])
  (.seq (.reg [⟨some 7, .bsl true 2 [] [], none, 0, 0, true⟩,
     ⟨some 5, .mv (.t 7), none, 0, 0, false⟩])
  (.seq (.seq (.reg [⟨some 6, .mv (.c (.lit (.int .i64 0))), none, 0, 0, false⟩])
   (.block 0 (.loop 99 (.seq (.seq (.reg [⟨some 8, .mv (.t 6), none, 0, 0, false⟩,
         ⟨some 9, .mv (.t 0), none, 0, 0, false⟩,
         ⟨some 10, .len false (.t 9), none, 0, 0, false⟩,
         ⟨some 11, .bin .lss (.t 8) (.t 10), none, 0, 0, false⟩])
      (.cond (.t 11) .skip
      (.exit 0)))
     (.seq (.block 1 (.seq (.reg [⟨some 14, .mv (.t 0), none, 0, 0, false⟩,
          ⟨some 15, .mv (.t 6), none, 0, 0, false⟩,
          ⟨some 16, .ia 2 (.t 14) (.t 15), none, 0, 0, false⟩,
          ⟨some 17, .fa [1, 1] 0 (.t 16), none, 0, 0, false⟩,
          ⟨some 18, .ld false 1 (.t 17), none, 0, 0, false⟩,
          ⟨some 19, .mv (.t 1), none, 0, 0, false⟩,
          ⟨some 20, .bin .neq (.t 18) (.t 19), none, 0, 0, false⟩])
       (.cond (.t 20) (.reg [⟨some 21, .mv (.t 5), none, 0, 0, false⟩,
           ⟨some 22, .mv (.t 0), none, 0, 0, false⟩,
           ⟨some 23, .mv (.t 6), none, 0, 0, false⟩,
           ⟨some 24, .ia 2 (.t 22) (.t 23), none, 0, 0, false⟩,
           ⟨some 25, .ld true 2 (.t 24), none, 0, 0, false⟩,
           ⟨some 26, .bsl false 2 [(.agg [1, 1] [(.lit (.string ⟨#[]⟩)), (.lit (.int .i64 0))])] [(0, (.t 25))], none, 0, 0, false⟩,
           ⟨some 27, .app 2 5864062014805 (.t 21) (.t 26), none, 0, 0, true⟩,
           ⟨some 5, .mv (.t 27), none, 0, 0, false⟩])
       .skip)))
     (.reg [⟨some 12, .mv (.t 6), none, 0, 0, false⟩,
       ⟨some 13, .bin .add (.t 12) (.c (.lit (.int .i64 1))), none, 0, 0, false⟩,
       ⟨some 6, .mv (.t 13), none, 0, 0, false⟩]))))))
  (.seq (.reg [⟨some 28, .mv (.t 5), none, 0, 0, false⟩,
     ⟨some 4, .mv (.t 28), none, 0, 0, false⟩])
  .ret)))),
  29, [.t 4], (.pure false false)⟩
/-- newsreel/newsreelref08.Right -/
def a84 : AFn := ⟨(.seq (.reg [⟨some 1, .box false (.t 0), none, 0, 0, false⟩,
     ⟨some 2, .mv (.c (.lit (.bool false))), none, 0, 0, false⟩])
  (.seq (.reg [⟨some 3, .fa [1, 1] 0 (.t 1), none, 0, 0, false⟩,
     ⟨some 4, .ld false 1 (.t 3), none, 0, 0, false⟩,
     ⟨some 5, .bin .geq (.t 4) (.c (.lit (.int .i64 0))), none, 0, 0, false⟩,
     ⟨some 6, .mv (.t 5), none, 0, 0, false⟩,
     ⟨some 7, .fa [1, 1] 0 (.t 1), some (6, true), 0, 0, false⟩,
     ⟨some 8, .ld false 1 (.t 7), some (6, true), 0, 0, false⟩,
     ⟨some 9, .bin .lss (.t 8) (.c (.lit (.int .i64 65536))), some (6, true), 0, 0, false⟩,
     ⟨some 10, .pick (.t 6) (.t 9) (.c (.lit (.bool false))), none, 0, 0, false⟩,
     ⟨some 11, .mv (.t 10), none, 0, 0, false⟩,
     ⟨some 12, .fa [1, 1] 1 (.t 1), some (11, true), 0, 0, false⟩,
     ⟨some 13, .ld false 1 (.t 12), some (11, true), 0, 0, false⟩,
     ⟨some 14, .len false (.t 13), some (11, true), 0, 0, false⟩,
     ⟨some 15, .bin .gtr (.t 14) (.c (.lit (.int .i64 0))), some (11, true), 0, 0, false⟩,
     ⟨some 16, .pick (.t 11) (.t 15) (.c (.lit (.bool false))), none, 0, 0, false⟩,
     ⟨some 17, .mv (.t 16), none, 0, 0, false⟩,
     ⟨some 18, .fa [1, 1] 1 (.t 1), some (17, true), 0, 0, false⟩,
     ⟨some 19, .ld false 1 (.t 18), some (17, true), 0, 0, false⟩,
     ⟨some 20, .len false (.t 19), some (17, true), 0, 0, false⟩,
     ⟨some 21, .fa [1, 1] 0 (.t 1), some (17, true), 0, 0, false⟩,
     ⟨some 22, .ld false 1 (.t 21), some (17, true), 0, 0, false⟩,
     ⟨some 23, .bin .rem (.t 22) (.c (.lit (.int .i64 16))), some (17, true), 0, 0, false⟩,
     ⟨some 24, .bin .sub (.c (.lit (.int .i64 16))) (.t 23), some (17, true), 0, 0, false⟩,
     ⟨some 25, .bin .leq (.t 20) (.t 24), some (17, true), 0, 0, false⟩,
     ⟨some 26, .pick (.t 17) (.t 25) (.c (.lit (.bool false))), none, 0, 0, false⟩,
     ⟨some 2, .mv (.t 26), none, 0, 0, false⟩])
  .ret)),
  27, [.t 2], (.pure true false)⟩
/-- newsreel/dir.place -/
def a85 : AFn := ⟨(.seq (.reg [⟨some 4, .mv (.c (.lit (.int .i64 0))), none, 0, 0, false⟩,
     ⟨some 5, .mv (.c (.lit (.bool false))), none, 0, 0, false⟩])
  (.seq (.reg [⟨some 6, .mv (.t 0), none, 0, 0, false⟩,
     ⟨some 7, .mv (.t 1), none, 0, 0, false⟩,
     ⟨some 8, .call (.c (.fn 91 0 [])) [(.t 6), (.t 7), (.c (.fn 92 0 []))], none, 0, 0, false⟩,
     ⟨some 9, .ext (.t 8) 0, none, 0, 0, false⟩,
     ⟨some 10, .ext (.t 8) 1, none, 0, 0, false⟩,
     ⟨some 4, .mv (.t 9), none, 0, 0, false⟩,
     ⟨some 5, .mv (.t 10), none, 0, 0, false⟩])
  .ret)),
  11, [.t 4, .t 5], (.pure true false)⟩
/-- newsreel/dir.link -/
def a86 : AFn := ⟨(.seq (.reg [⟨some 3, .box false (.t 1), none, 0, 0, false⟩,
     ⟨some 4, .mv (.c nilD), none, 0, 0, false⟩,
     ⟨some 5, .mv (.c (.lit (.int .i64 0))), none, 0, 0, false⟩])
  (.seq (.seq (.reg [⟨some 8, .fa [1, 1, 1, 1] 1 (.t 3), none, 0, 0, false⟩,
      ⟨some 9, .ld false 1 (.t 8), none, 0, 0, false⟩,
      ⟨some 10, .call (.c (.fn 87 0 [])) [(.t 9)], none, 0, 0, false⟩,
      ⟨some 11, .un .not (.t 10), none, 0, 0, false⟩])
   (.cond (.t 11) (.seq (.reg [⟨some 4, .mv (.c nilD), none, 0, 0, false⟩,
        ⟨some 5, .mv (.c (.lit (.int .i64 1))), none, 0, 0, false⟩])
     .ret)
   .skip))
  (.seq (.seq (.reg [⟨some 13, .mv (.t 0), none, 0, 0, false⟩,
      ⟨some 14, .fa [1, 1, 1, 1] 1 (.t 3), none, 0, 0, false⟩,
      ⟨some 15, .ld false 1 (.t 14), none, 0, 0, false⟩,
      ⟨some 16, .call (.c (.fn 85 0 [])) [(.t 13), (.t 15)], none, 0, 0, false⟩,
      ⟨some 12, .mv (.t 16), none, 0, 0, false⟩,
      ⟨some 17, .ext (.t 12) 0, none, 0, 0, false⟩,
      ⟨some 18, .ext (.t 12) 1, none, 0, 0, false⟩,
      ⟨some 6, .mv (.t 17), none, 0, 0, false⟩,
      ⟨some 7, .mv (.t 18), none, 0, 0, false⟩])
   (.seq (.reg [⟨some 19, .mv (.t 7), none, 0, 0, false⟩])
   (.cond (.t 19) (.seq (.reg [⟨some 4, .mv (.c nilD), none, 0, 0, false⟩,
        ⟨some 5, .mv (.c (.lit (.int .i64 6))), none, 0, 0, false⟩])
     .ret)
   .skip)))
  (.seq (.seq (.reg [⟨some 20, .mv (.t 0), none, 0, 0, false⟩,
      ⟨some 21, .len false (.t 20), none, 0, 0, false⟩,
      ⟨some 22, .bin .geq (.t 21) (.c (.lit (.int .i64 100))), none, 0, 0, false⟩])
   (.cond (.t 22) (.seq (.reg [⟨some 4, .mv (.c nilD), none, 0, 0, false⟩,
        ⟨some 5, .mv (.c (.lit (.int .i64 7))), none, 0, 0, false⟩])
     .ret)
   .skip))
  (.seq (.reg [⟨some 23, .mv (.t 0), none, 0, 0, false⟩,
     ⟨some 24, .fa [1, 1, 1, 1] 1 (.t 3), none, 0, 0, false⟩,
     ⟨some 25, .ld false 1 (.t 24), none, 0, 0, false⟩,
     ⟨some 26, .fa [1, 1, 1, 1] 3 (.t 3), none, 0, 0, false⟩,
     ⟨some 27, .ld false 1 (.t 26), none, 0, 0, false⟩,
     ⟨some 28, .build [1, 1] [(.lit (.string ⟨#[]⟩)), (.lit (.int .i64 0))] [(0, (.t 25)), (1, (.t 27))], none, 0, 0, false⟩,
     ⟨some 29, .call (.c (.fn 88 0 [])) [(.t 23), (.t 28)], none, 0, 0, true⟩,
     ⟨some 4, .mv (.t 29), none, 0, 0, false⟩,
     ⟨some 5, .mv (.c (.lit (.int .i64 0))), none, 0, 0, false⟩])
  .ret))))),
  30, [.t 4, .t 5], (.pure false false)⟩
/-- newsreel/dir.Name -/
def a87 : AFn := ⟨(.seq (.reg [⟨some 2, .mv (.c (.lit (.bool false))), none, 0, 0, false⟩])
  (.seq (.seq (.reg [⟨some 5, .mv (.t 0), none, 0, 0, false⟩,
      ⟨some 6, .len true (.t 5), none, 0, 0, false⟩,
      ⟨some 7, .mv (.c (.lit (.int .i64 0))), none, 0, 0, false⟩])
   (.block 0 (.loop 193 (.seq (.reg [⟨some 8, .bin .lss (.t 7) (.t 6), none, 0, 0, false⟩])
     (.seq (.cond (.t 8) .skip
      (.exit 0))
     (.seq (.block 1 (.seq (.reg [⟨some 9, .mv (.t 7), none, 0, 0, false⟩,
          ⟨some 3, .mv (.t 9), none, 0, 0, false⟩])
       (.seq (.reg [⟨some 10, .mv (.t 0), none, 0, 0, false⟩,
          ⟨some 11, .mv (.t 3), none, 0, 0, false⟩,
          ⟨some 12, .ixS (.t 10) (.t 11), none, 0, 0, false⟩,
          ⟨some 4, .mv (.t 12), none, 0, 0, false⟩])
       (.seq (.reg [⟨some 13, .mv (.t 4), none, 0, 0, false⟩,
          ⟨some 14, .bin .lss (.t 13) (.c (.lit (.int .u8 97))), none, 0, 0, false⟩,
          ⟨some 15, .mv (.t 14), none, 0, 0, false⟩,
          ⟨some 16, .mv (.t 4), some (15, false), 0, 0, false⟩,
          ⟨some 17, .bin .gtr (.t 16) (.c (.lit (.int .u8 122))), some (15, false), 0, 0, false⟩,
          ⟨some 18, .pick (.t 15) (.c (.lit (.bool true))) (.t 17), none, 0, 0, false⟩,
          ⟨some 19, .mv (.t 18), none, 0, 0, false⟩,
          ⟨some 20, .mv (.t 4), some (19, true), 0, 0, false⟩,
          ⟨some 21, .bin .lss (.t 20) (.c (.lit (.int .u8 48))), some (19, true), 0, 0, false⟩,
          ⟨some 22, .mv (.t 21), some (19, true), 0, 0, false⟩,
          ⟨some 23, .mv (.t 4), some (22, false), 0, 0, false⟩,
          ⟨some 24, .bin .gtr (.t 23) (.c (.lit (.int .u8 57))), some (22, false), 0, 0, false⟩,
          ⟨some 25, .pick (.t 22) (.c (.lit (.bool true))) (.t 24), some (19, true), 0, 0, false⟩,
          ⟨some 26, .pick (.t 19) (.t 25) (.c (.lit (.bool false))), none, 0, 0, false⟩,
          ⟨some 27, .mv (.t 26), none, 0, 0, false⟩,
          ⟨some 28, .mv (.t 4), some (27, true), 0, 0, false⟩,
          ⟨some 29, .bin .neq (.t 28) (.c (.lit (.int .u8 46))), some (27, true), 0, 0, false⟩,
          ⟨some 30, .pick (.t 27) (.t 29) (.c (.lit (.bool false))), none, 0, 0, false⟩])
       (.cond (.t 30) (.seq (.reg [⟨some 2, .mv (.c (.lit (.bool false))), none, 0, 0, false⟩])
         .ret)
       .skip)))))
     (.reg [⟨some 31, .bin .add (.t 7) (.c (.lit (.int .i64 1))), none, 0, 0, false⟩,
       ⟨some 7, .mv (.t 31), none, 0, 0, false⟩])))))))
  (.seq (.reg [⟨some 32, .mv (.t 0), none, 0, 0, false⟩,
     ⟨some 33, .bin .neq (.t 32) (.c (.lit (.string ⟨#[]⟩))), none, 0, 0, false⟩,
     ⟨some 34, .mv (.t 33), none, 0, 0, false⟩,
     ⟨some 35, .mv (.t 0), some (34, true), 0, 0, false⟩,
     ⟨some 36, .len true (.t 35), some (34, true), 0, 0, false⟩,
     ⟨some 37, .bin .leq (.t 36) (.c (.lit (.int .i64 24))), some (34, true), 0, 0, false⟩,
     ⟨some 38, .pick (.t 34) (.t 37) (.c (.lit (.bool false))), none, 0, 0, false⟩,
     ⟨some 2, .mv (.t 38), none, 0, 0, false⟩])
  .ret))),
  39, [.t 2], (.pure true false)⟩
/-- newsreel/dir.with -/
def a88 : AFn := ⟨(.seq (.reg [⟨some 3, .box false (.t 1), none, 0, 0, false⟩,
     ⟨some 4, .mv (.c nilD), none, 0, 0, false⟩])
  (.seq (.reg [⟨some 9, .mv (.t 0), none, 0, 0, false⟩,
     ⟨some 10, .fa [1, 1] 0 (.t 3), none, 0, 0, false⟩,
     ⟨some 11, .ld false 1 (.t 10), none, 0, 0, false⟩,
     ⟨some 12, .call (.c (.fn 85 0 [])) [(.t 9), (.t 11)], none, 0, 0, false⟩,
     ⟨some 8, .mv (.t 12), none, 0, 0, false⟩,
     ⟨some 13, .ext (.t 8) 0, none, 0, 0, false⟩,
     ⟨some 14, .ext (.t 8) 1, none, 0, 0, false⟩,
     ⟨some 5, .mv (.t 13), none, 0, 0, false⟩,
     ⟨some 6, .mv (.t 14), none, 0, 0, false⟩])
  (.seq (.reg [⟨some 15, .mv (.t 0), none, 0, 0, false⟩,
     ⟨some 16, .call (.c (.fn 64 0 [])) [(.t 15)], none, 0, 0, true⟩,
     ⟨some 7, .mv (.t 16), none, 0, 0, false⟩])
  (.seq (.seq (.reg [⟨some 17, .mv (.t 6), none, 0, 0, false⟩])
   (.cond (.t 17) (.seq (.reg [⟨some 18, .mv (.t 7), none, 0, 0, false⟩,
        ⟨some 19, .mv (.t 5), none, 0, 0, false⟩,
        ⟨some 20, .ld true 2 (.t 3), none, 0, 0, false⟩,
        ⟨some 21, .ia 2 (.t 18) (.t 19), none, 0, 0, false⟩,
        ⟨none, .st 2 (.t 21) (.t 20), none, 0, 0, true⟩])
     (.seq (.reg [⟨some 22, .mv (.t 7), none, 0, 0, false⟩,
        ⟨some 4, .mv (.t 22), none, 0, 0, false⟩])
     .ret))
   .skip))
  (.seq (.reg [⟨some 23, .mv (.t 7), none, 0, 0, false⟩,
     ⟨some 24, .mv (.t 5), none, 0, 0, false⟩,
     ⟨some 25, .ld true 2 (.t 3), none, 0, 0, false⟩,
     ⟨some 26, .bsl false 2 [(.agg [1, 1] [(.lit (.string ⟨#[]⟩)), (.lit (.int .i64 0))])] [(0, (.t 25))], none, 0, 0, false⟩,
     ⟨some 27, .call (.c (.fn 94 0 [])) [(.t 23), (.t 24), (.t 26)], none, 0, 0, true⟩,
     ⟨some 4, .mv (.t 27), none, 0, 0, false⟩])
  .ret))))),
  28, [.t 4], (.pure false false)⟩
/-- newsreel/dir.without -/
def a89 : AFn := ⟨(.seq (.reg [⟨some 4, .mv (.c nilD), none, 0, 0, false⟩])
  (.seq (.reg [⟨some 5, .mv (.t 0), none, 0, 0, false⟩,
     ⟨some 6, .call (.c (.fn 64 0 [])) [(.t 5)], none, 0, 0, true⟩,
     ⟨some 7, .mv (.t 1), none, 0, 0, false⟩,
     ⟨some 8, .mv (.t 1), none, 0, 0, false⟩,
     ⟨some 9, .bin .add (.t 8) (.c (.lit (.int .i64 1))), none, 0, 0, false⟩,
     ⟨some 10, .call (.c (.fn 95 0 [])) [(.t 6), (.t 7), (.t 9)], none, 0, 0, true⟩,
     ⟨some 4, .mv (.t 10), none, 0, 0, false⟩])
  .ret)),
  11, [.t 4], (.pure false false)⟩
/-- slices.IndexFunc[[]newsreel/api.Piece,newsreel/api.Piece] -/
def a90 : AFn := ⟨(.seq (.reg [⟨some 4, .mv (.c (.lit (.int .i64 0))), none, 0, 0, false⟩])
  (.seq (.seq (.reg [⟨some 6, .mv (.t 0), none, 0, 0, false⟩,
      ⟨some 7, .len false (.t 6), none, 0, 0, false⟩,
      ⟨some 8, .mv (.c (.lit (.int .i64 0))), none, 0, 0, false⟩])
   (.block 0 (.loop 387 (.seq (.reg [⟨some 9, .bin .lss (.t 8) (.t 7), none, 0, 0, false⟩])
     (.seq (.cond (.t 9) .skip
      (.exit 0))
     (.seq (.block 1 (.seq (.reg [⟨some 10, .mv (.t 8), none, 0, 0, false⟩,
          ⟨some 5, .mv (.t 10), none, 0, 0, false⟩])
       (.seq (.reg [⟨some 11, .mv (.t 1), none, 0, 0, false⟩,
          ⟨some 12, .mv (.t 0), none, 0, 0, false⟩,
          ⟨some 13, .mv (.t 5), none, 0, 0, false⟩,
          ⟨some 14, .ia 2 (.t 12) (.t 13), none, 0, 0, false⟩,
          ⟨some 15, .ld true 2 (.t 14), none, 0, 0, false⟩,
          ⟨some 16, .call (.t 11) [(.t 15)], none, 0, 0, true⟩])
       (.cond (.t 16) (.seq (.reg [⟨some 17, .mv (.t 5), none, 0, 0, false⟩,
            ⟨some 4, .mv (.t 17), none, 0, 0, false⟩])
         .ret)
       .skip))))
     (.reg [⟨some 18, .bin .add (.t 8) (.c (.lit (.int .i64 1))), none, 0, 0, false⟩,
       ⟨some 8, .mv (.t 18), none, 0, 0, false⟩])))))))
  (.seq (.reg [⟨some 4, .mv (.c (.lit (.int .i64 (-1)))), none, 0, 0, false⟩])
  .ret))),
  19, [.t 4], (.pure true false)⟩
/-- slices.BinarySearchFunc[[]newsreel/api.Entry,newsreel/api.Entry,string] -/
def a91 : AFn := ⟨(.seq (.reg [⟨some 6, .mv (.c (.lit (.int .i64 0))), none, 0, 0, false⟩,
     ⟨some 7, .mv (.c (.lit (.bool false))), none, 0, 0, false⟩])
  (.seq (.reg [⟨some 12, .mv (.t 0), none, 0, 0, false⟩,
     ⟨some 13, .len false (.t 12), none, 0, 0, false⟩,
     ⟨some 8, .mv (.t 13), none, 0, 0, false⟩])
  (.seq (.reg [⟨some 14, .mv (.t 8), none, 0, 0, false⟩,
     ⟨some 9, .mv (.c (.lit (.int .i64 0))), none, 0, 0, false⟩,
     ⟨some 10, .mv (.t 14), none, 0, 0, false⟩])
  (.seq (.block 0 (.loop 1799 (.seq (.seq (.reg [⟨some 15, .mv (.t 9), none, 0, 0, false⟩,
         ⟨some 16, .mv (.t 10), none, 0, 0, false⟩,
         ⟨some 17, .bin .lss (.t 15) (.t 16), none, 0, 0, false⟩])
      (.cond (.t 17) .skip
      (.exit 0)))
     (.block 1 (.seq (.reg [⟨some 18, .mv (.t 9), none, 0, 0, false⟩,
         ⟨some 19, .mv (.t 10), none, 0, 0, false⟩,
         ⟨some 20, .bin .add (.t 18) (.t 19), none, 0, 0, false⟩,
         ⟨some 21, .cvi .u64 (.t 20), none, 0, 0, false⟩,
         ⟨some 22, .bin .shr (.t 21) (.c (.lit (.int .u64 1))), none, 0, 0, false⟩,
         ⟨some 23, .cvi .i64 (.t 22), none, 0, 0, false⟩,
         ⟨some 11, .mv (.t 23), none, 0, 0, false⟩])
      (.seq (.reg [⟨some 24, .mv (.t 2), none, 0, 0, false⟩,
         ⟨some 25, .mv (.t 0), none, 0, 0, false⟩,
         ⟨some 26, .mv (.t 11), none, 0, 0, false⟩,
         ⟨some 27, .ia 2 (.t 25) (.t 26), none, 0, 0, false⟩,
         ⟨some 28, .ld true 2 (.t 27), none, 0, 0, false⟩,
         ⟨some 29, .mv (.t 1), none, 0, 0, false⟩,
         ⟨some 30, .call (.t 24) [(.t 28), (.t 29)], none, 0, 0, true⟩,
         ⟨some 31, .bin .lss (.t 30) (.c (.lit (.int .i64 0))), none, 0, 0, false⟩])
      (.cond (.t 31) (.reg [⟨some 32, .mv (.t 11), none, 0, 0, false⟩,
          ⟨some 33, .bin .add (.t 32) (.c (.lit (.int .i64 1))), none, 0, 0, false⟩,
          ⟨some 9, .mv (.t 33), none, 0, 0, false⟩])
      (.reg [⟨some 34, .mv (.t 11), none, 0, 0, false⟩,
          ⟨some 10, .mv (.t 34), none, 0, 0, false⟩]))))))))
  (.seq (.reg [⟨some 35, .mv (.t 9), none, 0, 0, false⟩,
     ⟨some 36, .mv (.t 9), none, 0, 0, false⟩,
     ⟨some 37, .mv (.t 8), none, 0, 0, false⟩,
     ⟨some 38, .bin .lss (.t 36) (.t 37), none, 0, 0, false⟩,
     ⟨some 39, .mv (.t 38), none, 0, 0, false⟩,
     ⟨some 40, .mv (.t 2), some (39, true), 0, 0, false⟩,
     ⟨some 41, .mv (.t 0), some (39, true), 0, 0, false⟩,
     ⟨some 42, .mv (.t 9), some (39, true), 0, 0, false⟩,
     ⟨some 43, .ia 2 (.t 41) (.t 42), some (39, true), 0, 0, false⟩,
     ⟨some 44, .ld true 2 (.t 43), some (39, true), 0, 0, false⟩,
     ⟨some 45, .mv (.t 1), some (39, true), 0, 0, false⟩,
     ⟨some 46, .call (.t 40) [(.t 44), (.t 45)], some (39, true), 0, 0, true⟩,
     ⟨some 47, .bin .eql (.t 46) (.c (.lit (.int .i64 0))), some (39, true), 0, 0, false⟩,
     ⟨some 48, .pick (.t 39) (.t 47) (.c (.lit (.bool false))), none, 0, 0, false⟩,
     ⟨some 6, .mv (.t 35), none, 0, 0, false⟩,
     ⟨some 7, .mv (.t 48), none, 0, 0, false⟩])
  .ret))))),
  49, [.t 6, .t 7], (.pure true false)⟩
/-- newsreel/dir.place$1 -/
def a92 : AFn := ⟨(.seq (.reg [⟨some 2, .box false (.t 0), none, 0, 0, false⟩,
     ⟨some 4, .mv (.c (.lit (.int .i64 0))), none, 0, 0, false⟩])
  (.seq (.reg [⟨some 5, .fa [1, 1] 0 (.t 2), none, 0, 0, false⟩,
     ⟨some 6, .ld false 1 (.t 5), none, 0, 0, false⟩,
     ⟨some 7, .mv (.t 1), none, 0, 0, false⟩,
     ⟨some 8, .call (.c (.fn 93 0 [])) [(.t 6), (.t 7)], none, 0, 0, false⟩,
     ⟨some 4, .mv (.t 8), none, 0, 0, false⟩])
  .ret)),
  9, [.t 4], (.pure true false)⟩
/-- strings.Compare -/
def a93 : AFn := ⟨(.seq (.reg [⟨some 4, .mv (.c (.lit (.int .i64 0))), none, 0, 0, false⟩])
  (.seq (.reg [⟨some 5, .mv (.t 0), none, 0, 0, false⟩,
     ⟨some 6, .mv (.t 1), none, 0, 0, false⟩,
     ⟨some 7, .call (.c (.fn 96 0 [])) [(.t 5), (.t 6)], none, 0, 0, false⟩,
     ⟨some 4, .mv (.t 7), none, 0, 0, false⟩])
  .ret)),
  8, [.t 4], (.pure true false)⟩
/-- slices.Insert[[]newsreel/api.Entry,newsreel/api.Entry] -/
def a94 : AFn := ⟨(.seq (.reg [⟨some 6, .mv (.c nilD), none, 0, 0, false⟩])
  (.seq (.reg [⟨some 10, .mv (.t 0), none, 0, 0, false⟩,
     ⟨some 11, .mv (.t 1), none, 0, 0, false⟩,
     ⟨some 12, .slc 2 (.t 10) (some (.t 11)) none none, none, 0, 0, false⟩])
  (.seq (.reg [⟨some 13, .mv (.t 2), none, 0, 0, false⟩,
     ⟨some 14, .len false (.t 13), none, 0, 0, false⟩,
     ⟨some 7, .mv (.t 14), none, 0, 0, false⟩])
  (.seq (.seq (.reg [⟨some 15, .mv (.t 7), none, 0, 0, false⟩,
      ⟨some 16, .bin .eql (.t 15) (.c (.lit (.int .i64 0))), none, 0, 0, false⟩])
   (.cond (.t 16) (.seq (.reg [⟨some 17, .mv (.t 0), none, 0, 0, false⟩,
        ⟨some 6, .mv (.t 17), none, 0, 0, false⟩])
     .ret)
   .skip))
  (.seq (.reg [⟨some 18, .mv (.t 0), none, 0, 0, false⟩,
     ⟨some 19, .len false (.t 18), none, 0, 0, false⟩,
     ⟨some 8, .mv (.t 19), none, 0, 0, false⟩])
  (.seq (.seq (.reg [⟨some 20, .mv (.t 1), none, 0, 0, false⟩,
      ⟨some 21, .mv (.t 8), none, 0, 0, false⟩,
      ⟨some 22, .bin .eql (.t 20) (.t 21), none, 0, 0, false⟩])
   (.cond (.t 22) (.seq (.reg [⟨some 23, .mv (.t 0), none, 0, 0, false⟩,
        ⟨some 24, .mv (.t 2), none, 0, 0, false⟩,
        ⟨some 25, .app 2 5864062014805 (.t 23) (.t 24), none, 0, 0, true⟩,
        ⟨some 6, .mv (.t 25), none, 0, 0, false⟩])
     .ret)
   .skip))
  (.seq (.seq (.reg [⟨some 26, .mv (.t 8), none, 0, 0, false⟩,
      ⟨some 27, .mv (.t 7), none, 0, 0, false⟩,
      ⟨some 28, .bin .add (.t 26) (.t 27), none, 0, 0, false⟩,
      ⟨some 29, .mv (.t 0), none, 0, 0, false⟩,
      ⟨some 30, .cap (.t 29), none, 0, 0, false⟩,
      ⟨some 31, .bin .gtr (.t 28) (.t 30), none, 0, 0, false⟩])
   (.cond (.t 31) (.seq (.reg [⟨some 32, .mv (.t 0), none, 0, 0, false⟩,
        ⟨some 33, .mv (.t 1), none, 0, 0, false⟩,
        ⟨some 34, .slc 2 (.t 32) none (some (.t 33)) none, none, 0, 0, false⟩,
        ⟨some 35, .mv (.t 8), none, 0, 0, false⟩,
        ⟨some 36, .mv (.t 7), none, 0, 0, false⟩,
        ⟨some 37, .bin .add (.t 35) (.t 36), none, 0, 0, false⟩,
        ⟨some 38, .mv (.t 1), none, 0, 0, false⟩,
        ⟨some 39, .bin .sub (.t 37) (.t 38), none, 0, 0, false⟩,
        ⟨some 40, .appZ 2 5864062014805 (.agg [1, 1] [(.lit (.string ⟨#[]⟩)), (.lit (.int .i64 0))]) (.t 34) (.t 39), none, 0, 0, true⟩,
        ⟨some 9, .mv (.t 40), none, 0, 0, false⟩])
     (.seq (.reg [⟨some 41, .mv (.t 9), none, 0, 0, false⟩,
        ⟨some 42, .mv (.t 1), none, 0, 0, false⟩,
        ⟨some 43, .slc 2 (.t 41) (some (.t 42)) none none, none, 0, 0, false⟩,
        ⟨some 44, .mv (.t 2), none, 0, 0, false⟩,
        ⟨some 45, .cpy 2 (.t 43) (.t 44), none, 0, 0, true⟩])
     (.seq (.draw []
       [⟨some 46, .mv (.t 9), none, 0, 0, false⟩,
        ⟨some 47, .mv (.t 1), none, 0, 0, false⟩,
        ⟨some 48, .mv (.t 7), none, 0, 0, false⟩,
        ⟨some 49, .bin .add (.t 47) (.t 48), none, 0, 0, false⟩,
        ⟨some 50, .slc 2 (.t 46) (some (.t 49)) none none, none, 0, 0, false⟩,
        ⟨some 51, .mv (.t 0), none, 0, 0, false⟩,
        ⟨some 52, .mv (.t 1), none, 0, 0, false⟩,
        ⟨some 53, .slc 2 (.t 51) (some (.t 52)) none none, none, 0, 0, false⟩,
        ⟨some 54, .cpy 2 (.t 50) (.t 53), none, 0, 1, true⟩])
     (.seq (.reg [⟨some 55, .mv (.t 9), none, 0, 0, false⟩,
        ⟨some 6, .mv (.t 55), none, 0, 0, false⟩])
     .ret))))
   .skip))
  (.seq (.reg [⟨some 56, .mv (.t 0), none, 0, 0, false⟩,
     ⟨some 57, .mv (.t 8), none, 0, 0, false⟩,
     ⟨some 58, .mv (.t 7), none, 0, 0, false⟩,
     ⟨some 59, .bin .add (.t 57) (.t 58), none, 0, 0, false⟩,
     ⟨some 60, .slc 2 (.t 56) none (some (.t 59)) none, none, 0, 0, false⟩,
     ⟨some 0, .mv (.t 60), none, 0, 0, false⟩])
  (.seq (.seq (.reg [⟨some 61, .mv (.t 2), none, 0, 0, false⟩,
      ⟨some 62, .mv (.t 0), none, 0, 0, false⟩,
      ⟨some 63, .mv (.t 1), none, 0, 0, false⟩,
      ⟨some 64, .mv (.t 7), none, 0, 0, false⟩,
      ⟨some 65, .bin .add (.t 63) (.t 64), none, 0, 0, false⟩,
      ⟨some 66, .slc 2 (.t 62) (some (.t 65)) none none, none, 0, 0, false⟩,
      ⟨some 67, .call (.c (.fn 97 0 [])) [(.t 61), (.t 66)], none, 0, 0, true⟩,
      ⟨some 68, .un .not (.t 67), none, 0, 0, false⟩])
   (.cond (.t 68) (.seq (.draw []
       [⟨some 69, .mv (.t 0), none, 0, 0, false⟩,
        ⟨some 70, .mv (.t 1), none, 0, 0, false⟩,
        ⟨some 71, .mv (.t 7), none, 0, 0, false⟩,
        ⟨some 72, .bin .add (.t 70) (.t 71), none, 0, 0, false⟩,
        ⟨some 73, .slc 2 (.t 69) (some (.t 72)) none none, none, 0, 0, false⟩,
        ⟨some 74, .mv (.t 0), none, 0, 0, false⟩,
        ⟨some 75, .mv (.t 1), none, 0, 0, false⟩,
        ⟨some 76, .slc 2 (.t 74) (some (.t 75)) none none, none, 0, 0, false⟩,
        ⟨some 77, .cpy 2 (.t 73) (.t 76), none, 0, 1, true⟩])
     (.seq (.reg [⟨some 78, .mv (.t 0), none, 0, 0, false⟩,
        ⟨some 79, .mv (.t 1), none, 0, 0, false⟩,
        ⟨some 80, .slc 2 (.t 78) (some (.t 79)) none none, none, 0, 0, false⟩,
        ⟨some 81, .mv (.t 2), none, 0, 0, false⟩,
        ⟨some 82, .cpy 2 (.t 80) (.t 81), none, 0, 0, true⟩])
     (.seq (.reg [⟨some 83, .mv (.t 0), none, 0, 0, false⟩,
        ⟨some 6, .mv (.t 83), none, 0, 0, false⟩])
     .ret)))
   .skip))
  (.seq (.reg [⟨some 84, .mv (.t 0), none, 0, 0, false⟩,
     ⟨some 85, .mv (.t 8), none, 0, 0, false⟩,
     ⟨some 86, .slc 2 (.t 84) (some (.t 85)) none none, none, 0, 0, false⟩,
     ⟨some 87, .mv (.t 2), none, 0, 0, false⟩,
     ⟨some 88, .cpy 2 (.t 86) (.t 87), none, 0, 0, true⟩])
  (.seq (.reg [⟨some 89, .mv (.t 0), none, 0, 0, false⟩,
     ⟨some 90, .mv (.t 1), none, 0, 0, false⟩,
     ⟨some 91, .slc 2 (.t 89) (some (.t 90)) none none, none, 0, 0, false⟩,
     ⟨some 92, .mv (.t 7), none, 0, 0, false⟩,
     ⟨some 93, .call (.c (.fn 98 0 [])) [(.t 91), (.t 92)], none, 0, 0, true⟩])
  (.seq (.reg [⟨some 94, .mv (.t 0), none, 0, 0, false⟩,
     ⟨some 6, .mv (.t 94), none, 0, 0, false⟩])
  .ret)))))))))))),
  95, [.t 6], .eff⟩
/-- slices.Delete[[]newsreel/api.Entry,newsreel/api.Entry] -/
def a95 : AFn := ⟨(.seq (.reg [⟨some 6, .mv (.c nilD), none, 0, 0, false⟩])
  (.seq (.reg [⟨some 8, .mv (.t 0), none, 0, 0, false⟩,
     ⟨some 9, .mv (.t 1), none, 0, 0, false⟩,
     ⟨some 10, .mv (.t 2), none, 0, 0, false⟩,
     ⟨some 11, .mv (.t 0), none, 0, 0, false⟩,
     ⟨some 12, .len false (.t 11), none, 0, 0, false⟩,
     ⟨some 13, .slc 2 (.t 8) (some (.t 9)) (some (.t 10)) (some (.t 12)), none, 0, 0, false⟩])
  (.seq (.seq (.reg [⟨some 14, .mv (.t 1), none, 0, 0, false⟩,
      ⟨some 15, .mv (.t 2), none, 0, 0, false⟩,
      ⟨some 16, .bin .eql (.t 14) (.t 15), none, 0, 0, false⟩])
   (.cond (.t 16) (.seq (.reg [⟨some 17, .mv (.t 0), none, 0, 0, false⟩,
        ⟨some 6, .mv (.t 17), none, 0, 0, false⟩])
     .ret)
   .skip))
  (.seq (.reg [⟨some 18, .mv (.t 0), none, 0, 0, false⟩,
     ⟨some 19, .len false (.t 18), none, 0, 0, false⟩,
     ⟨some 7, .mv (.t 19), none, 0, 0, false⟩])
  (.seq (.draw []
    [⟨some 20, .mv (.t 0), none, 0, 0, false⟩,
     ⟨some 21, .mv (.t 1), none, 0, 0, false⟩,
     ⟨some 22, .slc 2 (.t 20) none (some (.t 21)) none, none, 0, 0, false⟩,
     ⟨some 23, .mv (.t 0), none, 0, 0, false⟩,
     ⟨some 24, .mv (.t 2), none, 0, 0, false⟩,
     ⟨some 25, .slc 2 (.t 23) (some (.t 24)) none none, none, 0, 0, false⟩,
     ⟨some 26, .app 2 5864062014805 (.t 22) (.t 25), none, 0, 1, true⟩,
     ⟨some 0, .mv (.t 26), none, 1, 1, false⟩])
  (.seq (.reg [⟨some 27, .mv (.t 0), none, 0, 0, false⟩,
     ⟨some 28, .mv (.t 0), none, 0, 0, false⟩,
     ⟨some 29, .len false (.t 28), none, 0, 0, false⟩,
     ⟨some 30, .mv (.t 7), none, 0, 0, false⟩,
     ⟨some 31, .slc 2 (.t 27) (some (.t 29)) (some (.t 30)) none, none, 0, 0, false⟩,
     ⟨none, .clr 2 (.agg [1, 1] [(.lit (.string ⟨#[]⟩)), (.lit (.int .i64 0))]) (.t 31), none, 0, 0, true⟩])
  (.seq (.reg [⟨some 32, .mv (.t 0), none, 0, 0, false⟩,
     ⟨some 6, .mv (.t 32), none, 0, 0, false⟩])
  .ret))))))),
  33, [.t 6], .eff⟩
/-- internal/bytealg.CompareString -/
def a96 : AFn := ⟨(.seq (.reg [⟨some 4, .mv (.c (.lit (.int .i64 0))), none, 0, 0, false⟩])
  (.seq (.reg [⟨some 5, .mv (.t 0), none, 0, 0, false⟩,
     ⟨some 6, .mv (.t 1), none, 0, 0, false⟩,
     ⟨some 7, .call (.c (.fn 99 0 [])) [(.t 5), (.t 6)], none, 0, 0, true⟩,
     ⟨some 4, .mv (.t 7), none, 0, 0, false⟩])
  .ret)),
  8, [.t 4], (.pure true false)⟩
/-- slices.rotateRight[newsreel/api.Entry] -/
def a98 : AFn := ⟨(.reg [⟨some 4, .mv (.t 0), none, 0, 0, false⟩,
    ⟨some 5, .mv (.t 0), none, 0, 0, false⟩,
    ⟨some 6, .len false (.t 5), none, 0, 0, false⟩,
    ⟨some 7, .mv (.t 1), none, 0, 0, false⟩,
    ⟨some 8, .bin .sub (.t 6) (.t 7), none, 0, 0, false⟩,
    ⟨some 9, .call (.c (.fn 100 0 [])) [(.t 4), (.t 8)], none, 0, 0, true⟩]),
  10, [], .eff⟩
/-- slices.rotateLeft[newsreel/api.Entry] -/
def a100 : AFn := ⟨(.seq (.reg [⟨some 4, .mv (.t 0), none, 0, 0, false⟩,
     ⟨some 5, .mv (.t 1), none, 0, 0, false⟩,
     ⟨some 6, .slc 2 (.t 4) none (some (.t 5)) none, none, 0, 0, false⟩,
     ⟨some 7, .call (.c (.fn 101 0 [])) [(.t 6)], none, 0, 0, true⟩])
  (.seq (.reg [⟨some 8, .mv (.t 0), none, 0, 0, false⟩,
     ⟨some 9, .mv (.t 1), none, 0, 0, false⟩,
     ⟨some 10, .slc 2 (.t 8) (some (.t 9)) none none, none, 0, 0, false⟩,
     ⟨some 11, .call (.c (.fn 101 0 [])) [(.t 10)], none, 0, 0, true⟩])
  (.reg [⟨some 12, .mv (.t 0), none, 0, 0, false⟩,
    ⟨some 13, .call (.c (.fn 101 0 [])) [(.t 12)], none, 0, 0, true⟩]))),
  14, [], .eff⟩
/-- slices.Reverse[[]newsreel/api.Entry,newsreel/api.Entry] -/
def a101 : AFn := ⟨(.seq (.reg [⟨some 4, .mv (.t 0), none, 0, 0, false⟩,
     ⟨some 5, .len false (.t 4), none, 0, 0, false⟩,
     ⟨some 6, .bin .sub (.t 5) (.c (.lit (.int .i64 1))), none, 0, 0, false⟩,
     ⟨some 2, .mv (.c (.lit (.int .i64 0))), none, 0, 0, false⟩,
     ⟨some 3, .mv (.t 6), none, 0, 0, false⟩])
  (.block 0 (.loop 13 (.seq (.seq (.reg [⟨some 7, .mv (.t 2), none, 0, 0, false⟩,
        ⟨some 8, .mv (.t 3), none, 0, 0, false⟩,
        ⟨some 9, .bin .lss (.t 7) (.t 8), none, 0, 0, false⟩])
     (.cond (.t 9) .skip
     (.exit 0)))
    (.seq (.block 1 (.draw []
       [⟨some 14, .mv (.t 0), none, 0, 0, false⟩,
        ⟨some 15, .mv (.t 2), none, 0, 0, false⟩,
        ⟨some 16, .mv (.t 0), none, 0, 1, false⟩,
        ⟨some 17, .mv (.t 3), none, 0, 1, false⟩,
        ⟨some 18, .mv (.t 0), none, 0, 0, false⟩,
        ⟨some 19, .mv (.t 3), none, 0, 0, false⟩,
        ⟨some 20, .ia 2 (.t 18) (.t 19), none, 0, 0, false⟩,
        ⟨some 21, .ld true 2 (.t 20), none, 0, 0, false⟩,
        ⟨some 22, .mv (.t 0), none, 0, 0, false⟩,
        ⟨some 23, .mv (.t 2), none, 0, 0, false⟩,
        ⟨some 24, .ia 2 (.t 22) (.t 23), none, 0, 0, false⟩,
        ⟨some 25, .ld true 2 (.t 24), none, 0, 0, false⟩,
        ⟨some 26, .ia 2 (.t 14) (.t 15), none, 0, 0, false⟩,
        ⟨none, .st 2 (.t 26) (.t 21), none, 0, 1, true⟩,
        ⟨some 27, .ia 2 (.t 16) (.t 17), none, 1, 1, false⟩,
        ⟨none, .st 2 (.t 27) (.t 25), none, 1, 2, true⟩]))
    (.reg [⟨some 10, .mv (.t 2), none, 0, 0, false⟩,
      ⟨some 11, .bin .add (.t 10) (.c (.lit (.int .i64 1))), none, 0, 0, false⟩,
      ⟨some 12, .mv (.t 3), none, 0, 0, false⟩,
      ⟨some 13, .bin .sub (.t 12) (.c (.lit (.int .i64 1))), none, 0, 0, false⟩,
      ⟨some 2, .mv (.t 11), none, 0, 0, false⟩,
      ⟨some 3, .mv (.t 13), none, 0, 0, false⟩])))))),
  28, [], .eff⟩
def annM (f : FuncId) : List (Nat × Nat) := match f with
    | 3 => [(6, 2)]
    | 4 => [(9, 1)]
    | 5 => [(6, 4)]
    | 7 => [(3, 2)]
    | 14 => [(6, 2)]
    | 15 => [(1, 0)]
    | 20 => [(6, 2)]
    | 22 => [(16, 7)]
    | 26 => [(2, 5), (5, 2), (13, 12)]
    | 31 => [(0, 0), (6, 9), (14, 1)]
    | 32 => [(11, 13), (17, 1)]
    | 33 => [(11, 1)]
    | 35 => [(1, 0), (11, 1)]
    | 39 => [(3, 0)]
    | 41 => [(4, 9)]
    | 43 => [(3, 6)]
    | 45 => [(4, 2)]
    | 46 => [(0, 1)]
    | 47 => [(0, 1)]
    | 48 => [(0, 1)]
    | 49 => [(0, 1), (6, 3)]
    | 50 => [(0, 2), (6, 3)]
    | 52 => [(5, 0)]
    | 53 => [(0, 1), (6, 0)]
    | 54 => [(0, 1)]
    | 55 => [(0, 1)]
    | 56 => [(0, 1)]
    | 57 => [(0, 1), (3, 0)]
    | 59 => [(0, 2)]
    | 62 => [(0, 0)]
    | 64 => [(3, 0)]
    | 65 => [(3, 2)]
    | 69 => [(1, 0)]
    | 74 => [(3, 0)]
    | 78 => [(3, 3)]
    | 82 => [(1, 0)]
    | 83 => [(1, 0)]
    | _ => []
def annF (f : FuncId) : FMode := match f with
    | 3 => (.pure true false)
    | 4 => (.pure true false)
    | 5 => (.pure true false)
    | 6 => (.pure true false)
    | 7 => .eff
    | 8 => (.pure true false)
    | 9 => .eff
    | 10 => .eff
    | 11 => (.pure true false)
    | 12 => (.pure true false)
    | 13 => (.pure true false)
    | 14 => .eff
    | 15 => .eff
    | 16 => (.pure true false)
    | 17 => .eff
    | 18 => .eff
    | 19 => (.pure true false)
    | 20 => .eff
    | 21 => .eff
    | 22 => .eff
    | 23 => .eff
    | 24 => .eff
    | 25 => .eff
    | 26 => .eff
    | 27 => (.pure true false)
    | 28 => .eff
    | 29 => .eff
    | 30 => .eff
    | 31 => .eff
    | 32 => .eff
    | 33 => .eff
    | 34 => .eff
    | 35 => .eff
    | 36 => (.pure true false)
    | 37 => .eff
    | 38 => (.pure true false)
    | 39 => (.pure false true)
    | 40 => (.pure true false)
    | 41 => .eff
    | 42 => (.pure false false)
    | 43 => (.pure true false)
    | 44 => .eff
    | 45 => (.pure false false)
    | 46 => (.pure false false)
    | 47 => (.pure false false)
    | 48 => (.pure false false)
    | 49 => (.pure false false)
    | 50 => (.pure false false)
    | 51 => .eff
    | 52 => (.pure false false)
    | 53 => (.pure false false)
    | 54 => (.pure false false)
    | 55 => (.pure false false)
    | 56 => (.pure false false)
    | 57 => (.pure false false)
    | 58 => (.pure true false)
    | 59 => (.pure false false)
    | 60 => (.pure true false)
    | 61 => (.pure true false)
    | 62 => (.pure false false)
    | 63 => (.pure true false)
    | 64 => (.pure false true)
    | 65 => (.pure false false)
    | 66 => (.pure true false)
    | 67 => (.pure false false)
    | 68 => (.pure true false)
    | 69 => (.pure false false)
    | 70 => (.pure false false)
    | 71 => (.pure true false)
    | 72 => (.pure true false)
    | 73 => (.pure false false)
    | 74 => (.pure false true)
    | 75 => (.pure true false)
    | 76 => (.pure true false)
    | 77 => (.pure true false)
    | 78 => (.pure true false)
    | 79 => (.pure true false)
    | 80 => (.pure true false)
    | 81 => (.pure true false)
    | 82 => (.pure false false)
    | 83 => (.pure false false)
    | 84 => (.pure true false)
    | 85 => (.pure true false)
    | 86 => (.pure false false)
    | 87 => (.pure true false)
    | 88 => (.pure false false)
    | 89 => (.pure false false)
    | 90 => (.pure true false)
    | 91 => (.pure true false)
    | 92 => (.pure true false)
    | 93 => (.pure true false)
    | 94 => .eff
    | 95 => .eff
    | 96 => (.pure true false)
    | 98 => .eff
    | 100 => .eff
    | 101 => .eff
    | _ => .eff
def ann : Ann := ⟨annM, annF⟩
end Go.Dk
