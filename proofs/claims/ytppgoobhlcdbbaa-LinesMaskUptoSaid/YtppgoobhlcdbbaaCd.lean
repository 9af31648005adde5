/- The code of the functions that are reached, as the interpreter reads it. -/
import Derived.Test.YtppgoobhlcdbbaaProg
import Derived.KernelRfl
import Derived.Test.YtppgoobhlcdbbaaDx17
set_option maxRecDepth 100000
namespace Go.Proofs.Ytppgoobhlcdbbaa.Cd
open Go Go.Dx
/-- pianola/pianolalaw10.LinesNumbers -/
def c3 : C := .seq (.ops [⟨some 0, none, .mov (.c (.bool false))⟩])
 (.seq (.ops [⟨some 1, none, .mov (.c (.slice none 0 0))⟩])
 (.seq (.seq (.ops [⟨some 2, none, .mov (.c (.int .i64 0))⟩])
  (.block 0
   (.loop
    (.seq (.seq (.ops [⟨some 3, none, .mov (.t 2)⟩,
       ⟨some 4, none, .bin .lss (.t 3) (.c (.int .i64 60))⟩])
     (.cond (.t 4)
      (.skip)
      (.exit 0)))
    (.seq (.block 1
      (.ops [⟨some 7, none, .mov (.t 1)⟩,
       ⟨some 8, none, .mov (.t 2)⟩,
       ⟨some 9, none, .bin .rem (.t 8) (.c (.int .i64 4))⟩,
       ⟨some 10, none, .mov (.t 2)⟩,
       ⟨some 11, none, .bin .rem (.t 10) (.c (.int .i64 9))⟩,
       ⟨some 12, none, .bin .sub (.t 11) (.c (.int .i64 1))⟩,
       ⟨some 13, none, .mov (.t 2)⟩,
       ⟨some 14, none, .bin .rem (.t 13) (.c (.int .i64 3))⟩,
       ⟨some 15, none, .bin .gtr (.t 14) (.c (.int .i64 0))⟩,
       ⟨some 16, none, .mov (.t 2)⟩,
       ⟨some 17, none, .bin .rem (.t 16) (.c (.int .i64 20))⟩,
       ⟨some 18, none, .conv .u32 (.t 17)⟩,
       ⟨some 19, none, .mov (.t 2)⟩,
       ⟨some 20, none, .conv .u32 (.t 19)⟩,
       ⟨some 21, none, .bin .mul (.t 20) (.c (.int .u32 17))⟩,
       ⟨some 22, none, .mov (.t 2)⟩,
       ⟨some 23, none, .mov (.t 2)⟩,
       ⟨some 24, none, .bin .rem (.t 23) (.c (.int .i64 40))⟩,
       ⟨some 25, none, .conv .u64 (.t 24)⟩,
       ⟨some 26, none, .bin .shl (.t 22) (.t 25)⟩,
       ⟨some 27, none, .build [(.int .i64 0), (.int .i64 0), (.bool false), (.int .u32 0), (.int .u32 0), (.int .i64 0)] [(0, 1, (.t 9)), (1, 1, (.t 12)), (2, 1, (.t 15)), (3, 1, (.t 18)), (4, 1, (.t 21)), (5, 1, (.t 26))]⟩,
       ⟨some 28, none, .bsl 1 [(.int .i64 0), (.int .i64 0), (.bool false), (.int .u32 0), (.int .u32 0), (.int .i64 0)] [(0, 6, (.t 27))]⟩,
       ⟨some 29, none, .app 6 40 (.t 7) (.t 28)⟩,
       ⟨some 1, none, .mov (.t 29)⟩]))
    (.ops [⟨some 5, none, .mov (.t 2)⟩,
     ⟨some 6, none, .bin .add (.t 5) (.c (.int .i64 1))⟩,
     ⟨some 2, none, .mov (.t 6)⟩]))))))
 (.seq (.ops [⟨some 30, none, .mov (.t 1)⟩,
   ⟨some 31, none, .call 4 [(.t 30)]⟩,
   ⟨some 32, none, .mov (.t 31)⟩,
   ⟨some 33, some (32, true), .call 15 []⟩,
   ⟨some 34, none, .pick (.t 32) (.t 33) (.c (.bool false))⟩,
   ⟨some 0, none, .mov (.t 34)⟩])
 (.ret))))
def f3 : F := ⟨c3, [.t 0], some []⟩
theorem h3 : compF Try.prog (compAny Try.prog) 3 = some (f3.body, f3.res) := by kernel_rfl
/-- pianola/pianolalaw10.LinesPlays -/
def c4 : C := .seq (.ops [⟨some 2, none, .mov (.c (.bool false))⟩])
 (.seq (.ops [⟨some 14, none, .call 16 []⟩,
   ⟨some 3, none, .mov (.t 14)⟩])
 (.seq (.ops [⟨some 4, none, .mov (.c (.int .u32 0))⟩,
   ⟨some 5, none, .mov (.c (.int .u32 0))⟩])
 (.seq (.seq (.ops [⟨some 6, none, .mov (.c (.int .i64 0))⟩])
  (.block 0
   (.loop
    (.seq (.seq (.ops [⟨some 15, none, .mov (.t 6)⟩,
       ⟨some 16, none, .mov (.t 0)⟩,
       ⟨some 17, none, .len 1 (.t 16)⟩,
       ⟨some 18, none, .bin .lss (.t 15) (.t 17)⟩,
       ⟨some 19, none, .mov (.t 18)⟩,
       ⟨some 20, some (19, true), .mov (.t 6)⟩,
       ⟨some 21, some (19, true), .bin .lss (.t 20) (.c (.int .i64 60))⟩,
       ⟨some 22, none, .pick (.t 19) (.t 21) (.c (.bool false))⟩])
     (.cond (.t 22)
      (.skip)
      (.exit 0)))
    (.seq (.block 1
      (.seq (.seq (.ops [⟨some 25, none, .mov (.t 3)⟩,
         ⟨some 26, none, .eqn 0 false (.t 25)⟩])
       (.cond (.t 26)
        (.seq (.ops [⟨some 2, none, .mov (.c (.bool false))⟩])
        (.ret))
        (.skip)))
      (.seq (.ops [⟨some 27, none, .mov (.t 0)⟩,
        ⟨some 28, none, .mov (.t 6)⟩,
        ⟨some 29, none, .ia 6 (.t 27) (.t 28)⟩,
        ⟨some 30, none, .ldn 6 (.t 29)⟩,
        ⟨some 7, none, .new [(.int .i64 0), (.int .i64 0), (.bool false), (.int .u32 0), (.int .u32 0), (.int .i64 0)]⟩,
        ⟨none, none, .stn 6 (.t 7) (.t 30)⟩])
      (.seq (.seq (.ops [⟨some 31, none, .fa 0 (.t 7)⟩,
         ⟨some 32, none, .ld (.t 31)⟩,
         ⟨some 33, none, .bin .lss (.t 32) (.c (.int .i64 2))⟩])
       (.cond (.t 33)
        (.seq (.ops [⟨some 34, none, .mov (.t 3)⟩,
          ⟨some 35, none, .fa 1 (.t 7)⟩,
          ⟨some 36, none, .ld (.t 35)⟩,
          ⟨some 37, none, .fa 2 (.t 7)⟩,
          ⟨some 38, none, .ld (.t 37)⟩,
          ⟨some 39, none, .call 17 [(.t 34), (.t 36), (.t 38)]⟩])
        (.seq (.ops [⟨some 40, none, .fa 1 (.t 7)⟩,
          ⟨some 41, none, .ld (.t 40)⟩,
          ⟨some 42, none, .bin .geq (.t 41) (.c (.int .i64 1))⟩,
          ⟨some 43, none, .mov (.t 42)⟩,
          ⟨some 44, some (43, true), .fa 1 (.t 7)⟩,
          ⟨some 45, some (43, true), .ld (.t 44)⟩,
          ⟨some 46, some (43, true), .bin .leq (.t 45) (.c (.int .i64 5))⟩,
          ⟨some 47, none, .pick (.t 43) (.t 46) (.c (.bool false))⟩])
        (.cond (.t 47)
         (.seq (.ops [⟨some 48, none, .mov (.t 4)⟩,
           ⟨some 49, none, .fa 1 (.t 7)⟩,
           ⟨some 50, none, .ld (.t 49)⟩,
           ⟨some 51, none, .conv .u64 (.t 50)⟩,
           ⟨some 52, none, .bin .shl (.c (.int .u32 1)) (.t 51)⟩,
           ⟨some 53, none, .bin .andNot (.t 48) (.t 52)⟩,
           ⟨some 4, none, .mov (.t 53)⟩])
         (.seq (.ops [⟨some 54, none, .fa 2 (.t 7)⟩,
           ⟨some 55, none, .ld (.t 54)⟩])
         (.cond (.t 55)
          (.ops [⟨some 56, none, .mov (.t 4)⟩,
           ⟨some 57, none, .fa 1 (.t 7)⟩,
           ⟨some 58, none, .ld (.t 57)⟩,
           ⟨some 59, none, .conv .u64 (.t 58)⟩,
           ⟨some 60, none, .bin .shl (.c (.int .u32 1)) (.t 59)⟩,
           ⟨some 61, none, .bin .or (.t 56) (.t 60)⟩,
           ⟨some 4, none, .mov (.t 61)⟩])
          (.skip))))
         (.skip))))
        (.seq (.ops [⟨some 62, none, .fa 3 (.t 7)⟩,
          ⟨some 63, none, .ld (.t 62)⟩,
          ⟨some 8, none, .mov (.t 63)⟩])
        (.seq (.seq (.ops [⟨some 64, none, .fa 0 (.t 7)⟩,
           ⟨some 65, none, .ld (.t 64)⟩,
           ⟨some 66, none, .bin .eql (.t 65) (.c (.int .i64 2))⟩])
         (.cond (.t 66)
          (.ops [⟨some 67, none, .mov (.t 8)⟩,
           ⟨some 68, none, .bin .rem (.t 67) (.c (.int .u32 16))⟩,
           ⟨some 69, none, .bin .andNot (.t 68) (.c (.int .u32 3))⟩,
           ⟨some 8, none, .mov (.t 69)⟩])
          (.skip)))
        (.seq (.ops [⟨some 70, none, .mov (.t 8)⟩,
          ⟨some 71, none, .bin .eql (.t 70) (.c (.int .u32 0))⟩,
          ⟨some 72, none, .mov (.t 71)⟩,
          ⟨some 73, some (72, false), .mov (.t 8)⟩,
          ⟨some 74, some (72, false), .bin .eql (.t 73) (.c (.int .u32 4))⟩,
          ⟨some 75, none, .pick (.t 72) (.c (.bool true)) (.t 74)⟩,
          ⟨some 76, none, .mov (.t 75)⟩,
          ⟨some 77, some (76, false), .mov (.t 8)⟩,
          ⟨some 78, some (76, false), .bin .eql (.t 77) (.c (.int .u32 8))⟩,
          ⟨some 79, none, .pick (.t 76) (.c (.bool true)) (.t 78)⟩,
          ⟨some 80, none, .mov (.t 79)⟩,
          ⟨some 81, some (80, false), .mov (.t 8)⟩,
          ⟨some 82, some (80, false), .bin .eql (.t 81) (.c (.int .u32 12))⟩,
          ⟨some 83, none, .pick (.t 80) (.c (.bool true)) (.t 82)⟩,
          ⟨some 9, none, .mov (.t 83)⟩])
        (.seq (.seq (.ops [⟨some 84, none, .mov (.t 3)⟩,
           ⟨some 85, none, .mov (.t 8)⟩,
           ⟨some 86, none, .fa 4 (.t 7)⟩,
           ⟨some 87, none, .ld (.t 86)⟩,
           ⟨some 88, none, .call 18 [(.t 84), (.t 85), (.t 87)]⟩,
           ⟨some 89, none, .mov (.t 9)⟩,
           ⟨some 90, none, .eqb true (.t 88) (.t 89)⟩])
         (.cond (.t 90)
          (.seq (.ops [⟨some 2, none, .mov (.c (.bool false))⟩])
          (.ret))
          (.skip)))
        (.seq (.ops [⟨some 91, none, .mov (.t 8)⟩,
          ⟨some 92, none, .bin .eql (.t 91) (.c (.int .u32 4))⟩])
        (.cond (.t 92)
         (.ops [⟨some 93, none, .fa 4 (.t 7)⟩,
          ⟨some 94, none, .ld (.t 93)⟩,
          ⟨some 95, none, .bin .and (.t 94) (.c (.int .u32 62))⟩,
          ⟨some 5, none, .mov (.t 95)⟩])
         (.skip)))))))))
      (.seq (.seq (.ops [⟨some 10, none, .mov (.c (.int .u32 0))⟩])
       (.block 2
        (.loop
         (.seq (.seq (.ops [⟨some 96, none, .mov (.t 10)⟩,
            ⟨some 97, none, .bin .lss (.t 96) (.c (.int .u32 20))⟩])
          (.cond (.t 97)
           (.skip)
           (.exit 2)))
         (.seq (.block 3
           (.seq (.ops [⟨some 101, none, .mov (.t 3)⟩,
             ⟨some 102, none, .mov (.t 10)⟩,
             ⟨some 103, none, .fa 5 (.t 7)⟩,
             ⟨some 104, none, .ld (.t 103)⟩,
             ⟨some 105, none, .call 19 [(.t 101), (.t 102), (.t 104)]⟩,
             ⟨some 100, none, .mov (.t 105)⟩,
             ⟨some 106, none, .ext (.t 100) 0⟩,
             ⟨some 107, none, .ext (.t 100) 1⟩,
             ⟨some 11, none, .mov (.t 106)⟩,
             ⟨some 12, none, .mov (.t 107)⟩])
           (.seq (.ops [⟨some 13, none, .mov (.c (.int .u32 0))⟩])
           (.seq (.seq (.ops [⟨some 108, none, .mov (.t 10)⟩])
            (.block 4
             (.seq (.ops [⟨some 110, none, .bin .eql (.t 108) (.c (.int .u32 0))⟩,
               ⟨some 109, none, .mov (.t 110)⟩])
             (.cond (.t 109)
              (.ops [⟨some 111, none, .mov (.t 4)⟩,
               ⟨some 13, none, .mov (.t 111)⟩])
              (.seq (.ops [⟨some 113, none, .bin .eql (.t 108) (.c (.int .u32 4))⟩,
                ⟨some 112, none, .mov (.t 113)⟩])
              (.cond (.t 112)
               (.ops [⟨some 114, none, .mov (.t 5)⟩,
                ⟨some 13, none, .mov (.t 114)⟩])
               (.seq (.ops [⟨some 116, none, .bin .eql (.t 108) (.c (.int .u32 8))⟩,
                 ⟨some 115, none, .mov (.t 116)⟩])
               (.cond (.t 115)
                (.ops [⟨some 117, none, .fa 5 (.t 7)⟩,
                 ⟨some 118, none, .ld (.t 117)⟩,
                 ⟨some 119, none, .conv .u64 (.t 118)⟩,
                 ⟨some 120, none, .conv .u32 (.t 119)⟩,
                 ⟨some 13, none, .mov (.t 120)⟩])
                (.seq (.ops [⟨some 122, none, .bin .eql (.t 108) (.c (.int .u32 12))⟩,
                  ⟨some 121, none, .mov (.t 122)⟩])
                (.cond (.t 121)
                 (.ops [⟨some 123, none, .fa 5 (.t 7)⟩,
                  ⟨some 124, none, .ld (.t 123)⟩,
                  ⟨some 125, none, .conv .u64 (.t 124)⟩,
                  ⟨some 126, none, .bin .shr (.t 125) (.c (.int .u64 32))⟩,
                  ⟨some 127, none, .conv .u32 (.t 126)⟩,
                  ⟨some 13, none, .mov (.t 127)⟩])
                 (.skip)))))))))))
           (.seq (.ops [⟨some 128, none, .mov (.t 12)⟩,
             ⟨some 129, none, .mov (.t 10)⟩,
             ⟨some 130, none, .bin .rem (.t 129) (.c (.int .u32 4))⟩,
             ⟨some 131, none, .bin .eql (.t 130) (.c (.int .u32 0))⟩,
             ⟨some 132, none, .mov (.t 131)⟩,
             ⟨some 133, some (132, true), .mov (.t 10)⟩,
             ⟨some 134, some (132, true), .bin .lss (.t 133) (.c (.int .u32 16))⟩,
             ⟨some 135, none, .pick (.t 132) (.t 134) (.c (.bool false))⟩,
             ⟨some 136, none, .eqb true (.t 128) (.t 135)⟩,
             ⟨some 137, none, .mov (.t 136)⟩,
             ⟨some 138, some (137, false), .mov (.t 11)⟩,
             ⟨some 139, some (137, false), .mov (.t 13)⟩,
             ⟨some 140, some (137, false), .bin .neq (.t 138) (.t 139)⟩,
             ⟨some 141, none, .pick (.t 137) (.c (.bool true)) (.t 140)⟩])
           (.cond (.t 141)
            (.seq (.ops [⟨some 2, none, .mov (.c (.bool false))⟩])
            (.ret))
            (.skip)))))))
         (.ops [⟨some 98, none, .mov (.t 10)⟩,
          ⟨some 99, none, .bin .add (.t 98) (.c (.int .u32 1))⟩,
          ⟨some 10, none, .mov (.t 99)⟩]))))))
      (.seq (.ops [⟨some 142, none, .mov (.t 3)⟩,
        ⟨some 143, none, .call 20 [(.t 142)]⟩,
        ⟨some 144, none, .mov (.t 4)⟩,
        ⟨some 145, none, .mov (.t 5)⟩,
        ⟨some 146, none, .bin .and (.t 144) (.t 145)⟩,
        ⟨some 147, none, .bin .neq (.t 146) (.c (.int .u32 0))⟩,
        ⟨some 148, none, .eqb true (.t 143) (.t 147)⟩])
      (.cond (.t 148)
       (.seq (.ops [⟨some 2, none, .mov (.c (.bool false))⟩])
       (.ret))
       (.skip))))))))
    (.ops [⟨some 23, none, .mov (.t 6)⟩,
     ⟨some 24, none, .bin .add (.t 23) (.c (.int .i64 1))⟩,
     ⟨some 6, none, .mov (.t 24)⟩]))))))
 (.seq (.ops [⟨some 149, none, .mov (.t 3)⟩,
   ⟨some 150, none, .eqn 0 true (.t 149)⟩,
   ⟨some 151, none, .mov (.t 150)⟩,
   ⟨some 152, none, .pick (.t 151) (.c (.bool true)) (.c (.bool false))⟩,
   ⟨some 153, none, .mov (.t 152)⟩,
   ⟨some 154, some (153, true), .call 15 []⟩,
   ⟨some 155, none, .pick (.t 153) (.t 154) (.c (.bool false))⟩,
   ⟨some 2, none, .mov (.t 155)⟩])
 (.ret)))))
def f4 : F := ⟨c4, [.t 2], some []⟩
theorem h4 : compF Try.prog (compAny Try.prog) 4 = some (f4.body, f4.res) := by kernel_rfl
/-- pianola/pianolalaw10.LinesMask -/
def c5 : C := .seq (.ops [⟨some 4, none, .mov (.c (.bool false))⟩])
 (.seq (.ops [⟨some 9, none, .call 16 []⟩,
   ⟨some 5, none, .mov (.t 9)⟩])
 (.seq (.seq (.ops [⟨some 10, none, .mov (.t 5)⟩,
    ⟨some 11, none, .eqn 0 false (.t 10)⟩])
  (.cond (.t 11)
   (.seq (.ops [⟨some 4, none, .mov (.c (.bool false))⟩])
   (.ret))
   (.skip)))
 (.seq (.ops [⟨some 12, none, .mov (.t 0)⟩,
   ⟨some 13, none, .bin .rem (.t 12) (.c (.int .i64 5))⟩,
   ⟨some 14, none, .bin .add (.t 13) (.c (.int .i64 5))⟩,
   ⟨some 15, none, .bin .rem (.t 14) (.c (.int .i64 5))⟩,
   ⟨some 16, none, .bin .add (.c (.int .i64 1)) (.t 15)⟩,
   ⟨some 6, none, .mov (.t 16)⟩])
 (.seq (.ops [⟨some 17, none, .mov (.t 6)⟩,
   ⟨some 18, none, .conv .u64 (.t 17)⟩,
   ⟨some 19, none, .bin .shl (.c (.int .u32 1)) (.t 18)⟩,
   ⟨some 7, none, .mov (.t 19)⟩])
 (.seq (.ops [⟨some 20, none, .mov (.t 5)⟩,
   ⟨some 21, none, .mov (.t 6)⟩,
   ⟨some 22, none, .call 17 [(.t 20), (.t 21), (.c (.bool true))]⟩])
 (.seq (.seq (.ops [⟨some 23, none, .mov (.t 5)⟩,
    ⟨some 24, none, .call 20 [(.t 23)]⟩,
    ⟨some 25, none, .mov (.t 24)⟩,
    ⟨some 26, some (25, false), .mov (.t 5)⟩,
    ⟨some 27, some (25, false), .mov (.t 1)⟩,
    ⟨some 28, some (25, false), .mov (.t 7)⟩,
    ⟨some 29, some (25, false), .bin .andNot (.t 27) (.t 28)⟩,
    ⟨some 30, some (25, false), .call 18 [(.t 26), (.c (.int .u32 4)), (.t 29)]⟩,
    ⟨some 31, some (25, false), .un .not (.t 30)⟩,
    ⟨some 32, none, .pick (.t 25) (.c (.bool true)) (.t 31)⟩,
    ⟨some 33, none, .mov (.t 32)⟩,
    ⟨some 34, some (33, false), .mov (.t 5)⟩,
    ⟨some 35, some (33, false), .call 20 [(.t 34)]⟩,
    ⟨some 36, none, .pick (.t 33) (.c (.bool true)) (.t 35)⟩,
    ⟨some 37, none, .mov (.t 36)⟩,
    ⟨some 38, some (37, false), .mov (.t 5)⟩,
    ⟨some 39, some (37, false), .mov (.t 1)⟩,
    ⟨some 40, some (37, false), .mov (.t 7)⟩,
    ⟨some 41, some (37, false), .bin .or (.t 39) (.t 40)⟩,
    ⟨some 42, some (37, false), .call 18 [(.t 38), (.c (.int .u32 4)), (.t 41)]⟩,
    ⟨some 43, some (37, false), .un .not (.t 42)⟩,
    ⟨some 44, none, .pick (.t 37) (.c (.bool true)) (.t 43)⟩,
    ⟨some 45, none, .mov (.t 44)⟩,
    ⟨some 46, some (45, false), .mov (.t 5)⟩,
    ⟨some 47, some (45, false), .call 20 [(.t 46)]⟩,
    ⟨some 48, some (45, false), .un .not (.t 47)⟩,
    ⟨some 49, none, .pick (.t 45) (.c (.bool true)) (.t 48)⟩])
  (.cond (.t 49)
   (.seq (.ops [⟨some 4, none, .mov (.c (.bool false))⟩])
   (.ret))
   (.skip)))
 (.seq (.ops [⟨some 50, none, .mov (.t 5)⟩,
   ⟨some 51, none, .mov (.t 6)⟩,
   ⟨some 52, none, .call 17 [(.t 50), (.t 51), (.c (.bool false))]⟩])
 (.seq (.seq (.ops [⟨some 53, none, .mov (.t 5)⟩,
    ⟨some 54, none, .call 20 [(.t 53)]⟩])
  (.cond (.t 54)
   (.seq (.ops [⟨some 4, none, .mov (.c (.bool false))⟩])
   (.ret))
   (.skip)))
 (.seq (.ops [⟨some 55, none, .mov (.t 5)⟩,
   ⟨some 56, none, .mov (.t 6)⟩,
   ⟨some 57, none, .call 17 [(.t 55), (.t 56), (.c (.bool true))]⟩])
 (.seq (.ops [⟨some 58, none, .mov (.t 5)⟩,
   ⟨some 59, none, .call 20 [(.t 58)]⟩,
   ⟨some 8, none, .mov (.t 59)⟩])
 (.seq (.ops [⟨some 60, none, .mov (.t 8)⟩,
   ⟨some 61, none, .mov (.t 60)⟩,
   ⟨some 62, some (61, true), .mov (.t 5)⟩,
   ⟨some 63, some (61, true), .call 18 [(.t 62), (.c (.int .u32 0)), (.c (.int .u32 0))]⟩,
   ⟨some 64, none, .pick (.t 61) (.t 63) (.c (.bool false))⟩,
   ⟨some 65, none, .mov (.t 64)⟩,
   ⟨some 66, some (65, true), .mov (.t 5)⟩,
   ⟨some 67, some (65, true), .call 20 [(.t 66)]⟩,
   ⟨some 68, none, .pick (.t 65) (.t 67) (.c (.bool false))⟩,
   ⟨some 69, none, .mov (.t 68)⟩,
   ⟨some 70, some (69, true), .mov (.t 5)⟩,
   ⟨some 71, some (69, true), .call 18 [(.t 70), (.c (.int .u32 4)), (.c (.int .u32 0))]⟩,
   ⟨some 72, none, .pick (.t 69) (.t 71) (.c (.bool false))⟩,
   ⟨some 73, none, .mov (.t 72)⟩,
   ⟨some 74, some (73, true), .mov (.t 5)⟩,
   ⟨some 75, some (73, true), .call 20 [(.t 74)]⟩,
   ⟨some 76, some (73, true), .un .not (.t 75)⟩,
   ⟨some 77, none, .pick (.t 73) (.t 76) (.c (.bool false))⟩,
   ⟨some 78, none, .mov (.t 77)⟩,
   ⟨some 79, none, .pick (.t 78) (.c (.bool true)) (.c (.bool false))⟩,
   ⟨some 80, none, .mov (.t 79)⟩,
   ⟨some 81, some (80, true), .call 15 []⟩,
   ⟨some 82, none, .pick (.t 80) (.t 81) (.c (.bool false))⟩,
   ⟨some 4, none, .mov (.t 82)⟩])
 (.ret))))))))))))
def f5 : F := ⟨c5, [.t 4], some []⟩
theorem h5 : compF Try.prog (compAny Try.prog) 5 = some (f5.body, f5.res) := by kernel_rfl
/-- pianola/pianolalaw10.known -/
def c15 : C := .seq (.ops [⟨some 0, none, .mov (.c (.bool false))⟩])
 (.seq (.ops [⟨some 5, none, .call 16 []⟩,
   ⟨some 1, none, .mov (.t 5)⟩])
 (.seq (.seq (.ops [⟨some 6, none, .mov (.t 1)⟩,
    ⟨some 7, none, .eqn 0 false (.t 6)⟩,
    ⟨some 8, none, .mov (.t 7)⟩,
    ⟨some 9, some (8, false), .mov (.t 1)⟩,
    ⟨some 10, some (8, false), .call 20 [(.t 9)]⟩,
    ⟨some 11, none, .pick (.t 8) (.c (.bool true)) (.t 10)⟩])
  (.cond (.t 11)
   (.seq (.ops [⟨some 0, none, .mov (.c (.bool false))⟩])
   (.ret))
   (.skip)))
 (.seq (.ops [⟨some 12, none, .mov (.t 1)⟩,
   ⟨some 13, none, .call 17 [(.t 12), (.c (.int .i64 3)), (.c (.bool true))]⟩])
 (.seq (.ops [⟨some 14, none, .mov (.t 1)⟩,
   ⟨some 15, none, .call 18 [(.t 14), (.c (.int .u32 4)), (.c (.int .u32 8))]⟩,
   ⟨some 2, none, .mov (.t 15)⟩])
 (.seq (.ops [⟨some 17, none, .mov (.t 1)⟩,
   ⟨some 18, none, .call 19 [(.t 17), (.c (.int .u32 1)), (.c (.int .i64 0))]⟩,
   ⟨some 16, none, .mov (.t 18)⟩,
   ⟨some 19, none, .ext (.t 16) 0⟩,
   ⟨some 20, none, .ext (.t 16) 1⟩,
   ⟨some 3, none, .mov (.t 19)⟩,
   ⟨some 4, none, .mov (.t 20)⟩])
 (.seq (.ops [⟨some 21, none, .mov (.t 2)⟩,
   ⟨some 22, none, .mov (.t 21)⟩,
   ⟨some 23, some (22, true), .mov (.t 1)⟩,
   ⟨some 24, some (22, true), .call 20 [(.t 23)]⟩,
   ⟨some 25, none, .pick (.t 22) (.t 24) (.c (.bool false))⟩,
   ⟨some 26, none, .mov (.t 25)⟩,
   ⟨some 27, some (26, true), .mov (.t 4)⟩,
   ⟨some 28, some (26, true), .un .not (.t 27)⟩,
   ⟨some 29, none, .pick (.t 26) (.t 28) (.c (.bool false))⟩,
   ⟨some 0, none, .mov (.t 29)⟩])
 (.ret)))))))
def f15 : F := ⟨c15, [.t 0], some []⟩
theorem h15 : compF Try.prog (compAny Try.prog) 15 = some (f15.body, f15.res) := by kernel_rfl
/-- pianola/lines.New -/
def c16 : C := .seq (.ops [⟨some 0, none, .mov (.c (.pointer none))⟩])
 (.seq (.ops [⟨some 1, none, .build [(.int .u32 0), (.int .u32 0)] []⟩,
   ⟨some 2, none, .box (.t 1)⟩,
   ⟨some 0, none, .mov (.t 2)⟩])
 (.ret))
def f16 : F := ⟨c16, [.t 0], some []⟩
theorem h16 : compF Try.prog (compAny Try.prog) 16 = some (f16.body, f16.res) := by kernel_rfl
/-- (*pianola/lines.Lines).Set -/
def c17 : C := .seq (.seq (.ops [⟨some 6, none, .mov (.t 1)⟩,
    ⟨some 7, none, .bin .lss (.t 6) (.c (.int .i64 1))⟩,
    ⟨some 8, none, .mov (.t 7)⟩,
    ⟨some 9, some (8, false), .mov (.t 1)⟩,
    ⟨some 10, some (8, false), .bin .gtr (.t 9) (.c (.int .i64 5))⟩,
    ⟨some 11, none, .pick (.t 8) (.c (.bool true)) (.t 10)⟩])
  (.cond (.t 11)
   (.ret)
   (.skip)))
 (.seq (.any 0 [.op 0 ⟨some 12, none, .mov (.t 0)⟩,
   .op 1 ⟨some 13, none, .nilc (.t 12)⟩,
   .op 2 ⟨some 14, none, .fa 0 (.t 13)⟩,
   .op 3 ⟨some 15, none, .ld (.t 14)⟩,
   .op 4 ⟨some 16, none, .mov (.t 1)⟩,
   .op 5 ⟨some 17, none, .bin .shl (.c (.int .u32 1)) (.t 16)⟩,
   .op 6 ⟨some 18, none, .bin .andNot (.t 15) (.t 17)⟩,
   .op 7 ⟨some 19, none, .nilc (.t 12)⟩,
   .op 8 ⟨some 20, none, .fa 0 (.t 19)⟩,
   .op 9 ⟨none, none, .st (.t 20) (.t 18)⟩])
 (.seq (.ops [⟨some 21, none, .mov (.t 2)⟩])
 (.cond (.t 21)
  (.any 0 [.op 0 ⟨some 22, none, .mov (.t 0)⟩,
   .op 1 ⟨some 23, none, .nilc (.t 22)⟩,
   .op 2 ⟨some 24, none, .fa 0 (.t 23)⟩,
   .op 3 ⟨some 25, none, .ld (.t 24)⟩,
   .op 4 ⟨some 26, none, .mov (.t 1)⟩,
   .op 5 ⟨some 27, none, .bin .shl (.c (.int .u32 1)) (.t 26)⟩,
   .op 6 ⟨some 28, none, .bin .or (.t 25) (.t 27)⟩,
   .op 7 ⟨some 29, none, .nilc (.t 22)⟩,
   .op 8 ⟨some 30, none, .fa 0 (.t 29)⟩,
   .op 9 ⟨none, none, .st (.t 30) (.t 28)⟩])
  (.skip))))
def f17 : F := ⟨c17, [], some []⟩
theorem h17 : compF Try.prog (compAny Try.prog) 17 = some (f17.body, f17.res) := by kernel_rfl
/-- (*pianola/lines.Lines).Write -/
def c18 : C := .seq (.ops [⟨some 6, none, .mov (.c (.bool false))⟩])
 (.seq (.seq (.ops [⟨some 7, none, .mov (.t 1)⟩])
  (.block 0
   (.seq (.ops [⟨some 9, none, .bin .eql (.t 7) (.c (.int .u32 4))⟩,
     ⟨some 8, none, .mov (.t 9)⟩])
   (.cond (.t 8)
    (.ops [⟨some 10, none, .mov (.t 0)⟩,
     ⟨some 11, none, .mov (.t 2)⟩,
     ⟨some 12, none, .bin .and (.t 11) (.c (.int .u32 62))⟩,
     ⟨some 13, none, .nilc (.t 10)⟩,
     ⟨some 14, none, .fa 1 (.t 13)⟩,
     ⟨none, none, .st (.t 14) (.t 12)⟩])
    (.seq (.seq (.ops [⟨some 16, none, .bin .eql (.t 7) (.c (.int .u32 0))⟩,
       ⟨some 15, none, .mov (.t 16)⟩])
     (.cond (.t 15)
      (.skip)
      (.seq (.ops [⟨some 17, none, .bin .eql (.t 7) (.c (.int .u32 8))⟩,
        ⟨some 15, none, .mov (.t 17)⟩])
      (.cond (.t 15)
       (.skip)
       (.ops [⟨some 18, none, .bin .eql (.t 7) (.c (.int .u32 12))⟩,
        ⟨some 15, none, .mov (.t 18)⟩])))))
    (.cond (.t 15)
     (.skip)
     (.seq (.ops [⟨some 6, none, .mov (.c (.bool false))⟩])
     (.ret))))))))
 (.seq (.ops [⟨some 6, none, .mov (.c (.bool true))⟩])
 (.ret)))
def f18 : F := ⟨c18, [.t 6], some []⟩
theorem h18 : compF Try.prog (compAny Try.prog) 18 = some (f18.body, f18.res) := by kernel_rfl
/-- (*pianola/lines.Lines).Read -/
def c19 : C := .seq (.ops [⟨some 6, none, .mov (.c (.int .u32 0))⟩,
   ⟨some 7, none, .mov (.c (.bool false))⟩])
 (.seq (.seq (.ops [⟨some 8, none, .mov (.t 1)⟩])
  (.block 0
   (.seq (.ops [⟨some 10, none, .bin .eql (.t 8) (.c (.int .u32 0))⟩,
     ⟨some 9, none, .mov (.t 10)⟩])
   (.cond (.t 9)
    (.seq (.ops [⟨some 11, none, .mov (.t 0)⟩,
      ⟨some 12, none, .nilc (.t 11)⟩,
      ⟨some 13, none, .fa 0 (.t 12)⟩,
      ⟨some 14, none, .ld (.t 13)⟩,
      ⟨some 6, none, .mov (.t 14)⟩,
      ⟨some 7, none, .mov (.c (.bool true))⟩])
    (.ret))
    (.seq (.ops [⟨some 16, none, .bin .eql (.t 8) (.c (.int .u32 4))⟩,
      ⟨some 15, none, .mov (.t 16)⟩])
    (.cond (.t 15)
     (.seq (.ops [⟨some 17, none, .mov (.t 0)⟩,
       ⟨some 18, none, .nilc (.t 17)⟩,
       ⟨some 19, none, .fa 1 (.t 18)⟩,
       ⟨some 20, none, .ld (.t 19)⟩,
       ⟨some 6, none, .mov (.t 20)⟩,
       ⟨some 7, none, .mov (.c (.bool true))⟩])
     (.ret))
     (.seq (.ops [⟨some 22, none, .bin .eql (.t 8) (.c (.int .u32 8))⟩,
       ⟨some 21, none, .mov (.t 22)⟩])
     (.cond (.t 21)
      (.seq (.ops [⟨some 23, none, .mov (.t 2)⟩,
        ⟨some 24, none, .conv .u32 (.t 23)⟩,
        ⟨some 6, none, .mov (.t 24)⟩,
        ⟨some 7, none, .mov (.c (.bool true))⟩])
      (.ret))
      (.seq (.ops [⟨some 26, none, .bin .eql (.t 8) (.c (.int .u32 12))⟩,
        ⟨some 25, none, .mov (.t 26)⟩])
      (.cond (.t 25)
       (.seq (.ops [⟨some 27, none, .mov (.t 2)⟩,
         ⟨some 28, none, .bin .shr (.t 27) (.c (.int .u64 32))⟩,
         ⟨some 29, none, .conv .u32 (.t 28)⟩,
         ⟨some 6, none, .mov (.t 29)⟩,
         ⟨some 7, none, .mov (.c (.bool true))⟩])
       (.ret))
       (.skip)))))))))))
 (.seq (.ops [⟨some 6, none, .mov (.c (.int .u32 0))⟩,
   ⟨some 7, none, .mov (.c (.bool false))⟩])
 (.ret)))
def f19 : F := ⟨c19, [.t 6, .t 7], some []⟩
theorem h19 : compF Try.prog (compAny Try.prog) 19 = some (f19.body, f19.res) := by kernel_rfl
/-- (*pianola/lines.Lines).Raised -/
def c20 : C := .seq (.ops [⟨some 2, none, .mov (.c (.bool false))⟩])
 (.seq (.any 0 [.op 0 ⟨some 3, none, .mov (.t 0)⟩,
   .op 1 ⟨some 4, none, .nilc (.t 3)⟩,
   .op 2 ⟨some 5, none, .fa 0 (.t 4)⟩,
   .op 3 ⟨some 6, none, .ld (.t 5)⟩,
   .op 4 ⟨some 7, none, .mov (.t 0)⟩,
   .op 5 ⟨some 8, none, .nilc (.t 7)⟩,
   .op 6 ⟨some 9, none, .fa 1 (.t 8)⟩,
   .op 7 ⟨some 10, none, .ld (.t 9)⟩,
   .op 8 ⟨some 11, none, .bin .and (.t 6) (.t 10)⟩,
   .op 9 ⟨some 12, none, .bin .neq (.t 11) (.c (.int .u32 0))⟩,
   .op 10 ⟨some 2, none, .mov (.t 12)⟩])
 (.ret))
def f20 : F := ⟨c20, [.t 2], some []⟩
theorem h20 : compF Try.prog (compAny Try.prog) 20 = some (f20.body, f20.res) := by kernel_rfl
end Go.Proofs.Ytppgoobhlcdbbaa.Cd
