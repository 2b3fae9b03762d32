/- The codes of the functions, and that the program has them. -/
import Derived.Test.YtbnelpgogjbgjaaGreatCodQw
import Derived.KernelRfl
import Derived.Test.YtbnelpgogjbgjaaGreatProg
/- The codes of the functions, and that the program has them. -/
set_option linter.unusedVariables false
namespace Go.Proofs.YtbnelpgogjbgjaaGreat.Q
open Go.RowKit
/-- gosem.cut.init -/
def c2 : ACode :=
  (.reg [
    ⟨(some 0), none, .call (.func 1) []⟩])
theorem F2 : compF Tryz.prog 2 = some ⟨0, 1, [], c2⟩ := by kernel_rfl
theorem B2 : Bod Tryz.prog 2 := bod_of F2
/-- quaestor/quaestorlaw06.ContractCodes -/
def c3 : ACode :=
  (.seq
   (.reg [
     ⟨(some 1), none, .box (.tmp 0)⟩,
     ⟨(some 2), none, .mv (.const (.bool false))⟩])
   (.seq
    (.seq
     (.reg [
       ⟨(some 3), none, .load true 4 (.tmp 1)⟩,
       ⟨(some 4), none, .call (.func 12) [(.tmp 3)]⟩,
       ⟨(some 5), none, .un .not (.tmp 4)⟩])
     (.cond (.tmp 5)
      (.seq
       (.reg [
         ⟨(some 2), none, .mv (.const (.bool true))⟩])
       .ret)
      .skip))
    (.seq
     (.dreg 5 [
       ⟨(some 6), none, .slit 5 1 [(.const (.int .u8 9))]⟩,
       ⟨(some 7), none, .load true 4 (.tmp 1)⟩,
       ⟨(some 8), none, .call (.func 14) [(.tmp 6), (.tmp 7)]⟩,
       ⟨(some 9), none, .slit 5 1 [(.const (.int .u8 9))]⟩,
       ⟨(some 10), none, .load true 4 (.tmp 1)⟩,
       ⟨(some 11), none, .call (.func 15) [(.tmp 9), (.tmp 10)]⟩,
       ⟨(some 12), none, .call (.func 13) [(.tmp 8), (.tmp 11)]⟩,
       ⟨(some 13), none, .mv (.tmp 12)⟩,
       ⟨(some 14), (some (13, true)), .call (.func 16) []⟩,
       ⟨(some 15), none, .pick (.tmp 13) (.tmp 14) (.const (.bool false))⟩,
       ⟨(some 2), none, .mv (.tmp 15)⟩])
     .ret)))
theorem F3 : compF Tryz.prog 3 = some ⟨1, 16, [.tmp 2], c3⟩ := by kernel_rfl
theorem B3 : Bod Tryz.prog 3 := bod_of F3
/-- quaestor/quaestorlaw06.ContractSound -/
def c4 : ACode :=
  (.seq
   (.reg [
     ⟨(some 2), none, .box (.tmp 0)⟩,
     ⟨(some 4), none, .mv (.const (.bool false))⟩])
   (.seq
    (.seq
     (.reg [
       ⟨(some 14), none, .load true 4 (.tmp 2)⟩,
       ⟨(some 15), none, .call (.func 12) [(.tmp 14)]⟩,
       ⟨(some 16), none, .un .not (.tmp 15)⟩,
       ⟨(some 17), none, .mv (.tmp 16)⟩,
       ⟨(some 18), (some (17, false)), .mv (.tmp 1)⟩,
       ⟨(some 19), (some (17, false)), .len false (.tmp 18)⟩,
       ⟨(some 20), (some (17, false)), .bin .gtr .other (.tmp 19) (.const (.int .i64 30))⟩,
       ⟨(some 21), none, .pick (.tmp 17) (.const (.bool true)) (.tmp 20)⟩])
     (.cond (.tmp 21)
      (.seq
       (.reg [
         ⟨(some 4), none, .mv (.const (.bool true))⟩])
       .ret)
      .skip))
    (.seq
     (.seq
      (.reg [
        ⟨(some 22), none, .load true 4 (.tmp 2)⟩,
        ⟨(some 23), none, .call (.func 17) [(.tmp 22)]⟩,
        ⟨(some 24), none, .bin .neq .other (.tmp 23) (.const (.int .i64 0))⟩])
      (.cond (.tmp 24)
       (.seq
        (.reg [
          ⟨(some 25), none, .load true 4 (.tmp 2)⟩,
          ⟨(some 26), none, .call (.func 18) [(.tmp 25)]⟩,
          ⟨(some 27), none, .bin .neq .other (.tmp 26) (.const (.int .i64 0))⟩,
          ⟨(some 28), none, .mv (.tmp 27)⟩,
          ⟨(some 29), (some (28, true)), .call (.func 16) []⟩,
          ⟨(some 30), none, .pick (.tmp 28) (.tmp 29) (.const (.bool false))⟩,
          ⟨(some 4), none, .mv (.tmp 30)⟩])
        .ret)
       .skip))
     (.seq
      (.seq
       (.reg [
         ⟨(some 31), none, .fad 1 (.tmp 2)⟩,
         ⟨(some 32), none, .load false 1 (.tmp 31)⟩,
         ⟨(some 33), none, .mv (.tmp 1)⟩,
         ⟨(some 34), none, .call (.func 19) [(.tmp 32), (.tmp 33)]⟩,
         ⟨(some 35), none, .un .not (.tmp 34)⟩])
       (.cond (.tmp 35)
        (.seq
         (.reg [
           ⟨(some 1), none, .mv (.const (.slice none 0 0))⟩])
         (.seq
          (.reg [
            ⟨(some 5), none, .mv (.const (.int .i64 0))⟩])
          (.block 0
           (.loop
            (.seq
             (.seq
              (.reg [
                ⟨(some 36), none, .mv (.tmp 5)⟩,
                ⟨(some 37), none, .fad 1 (.tmp 2)⟩,
                ⟨(some 38), none, .load false 1 (.tmp 37)⟩,
                ⟨(some 39), none, .len false (.tmp 38)⟩,
                ⟨(some 40), none, .bin .lss .other (.tmp 36) (.tmp 39)⟩])
              (.cond (.tmp 40)
               .skip
               (.exit 0)))
             (.seq
              (.block 1
               (.reg [
                 ⟨(some 43), none, .mv (.tmp 1)⟩,
                 ⟨(some 44), none, .fad 1 (.tmp 2)⟩,
                 ⟨(some 45), none, .load false 1 (.tmp 44)⟩,
                 ⟨(some 46), none, .mv (.tmp 5)⟩,
                 ⟨(some 47), none, .iad 8 (.tmp 45) (.tmp 46)⟩,
                 ⟨(some 48), none, .fad 3 (.tmp 47)⟩,
                 ⟨(some 49), none, .load true 5 (.tmp 48)⟩,
                 ⟨(some 50), none, .slit 39 5 [(.tmp 49)]⟩,
                 ⟨(some 51), none, .app 5 48 [.int .i64 0, .int .i64 0, .bool false, .string ⟨#[]⟩, .float .f64 0] 39 (.tmp 43) (.tmp 50)⟩,
                 ⟨(some 1), none, .mv (.tmp 51)⟩]))
              (.reg [
                ⟨(some 41), none, .mv (.tmp 5)⟩,
                ⟨(some 42), none, .bin .add .other (.tmp 41) (.const (.int .i64 1))⟩,
                ⟨(some 5), none, .mv (.tmp 42)⟩])))))))
        .skip))
      (.seq
       (.seq
        (.reg [
          ⟨(some 6), none, .mv (.const (.int .i64 0))⟩])
        (.block 2
         (.loop
          (.seq
           (.seq
            (.reg [
              ⟨(some 52), none, .mv (.tmp 6)⟩,
              ⟨(some 53), none, .fad 3 (.tmp 2)⟩,
              ⟨(some 54), none, .load false 1 (.tmp 53)⟩,
              ⟨(some 55), none, .len false (.tmp 54)⟩,
              ⟨(some 56), none, .bin .lss .other (.tmp 52) (.tmp 55)⟩])
            (.cond (.tmp 56)
             .skip
             (.exit 2)))
           (.seq
            (.block 3
             (.seq
              (.reg [
                ⟨(some 59), none, .fad 3 (.tmp 2)⟩,
                ⟨(some 60), none, .load false 1 (.tmp 59)⟩,
                ⟨(some 61), none, .mv (.tmp 6)⟩,
                ⟨(some 62), none, .iad 13 (.tmp 60) (.tmp 61)⟩,
                ⟨(some 63), none, .load true 13 (.tmp 62)⟩,
                ⟨(some 7), none, .alloc [.string ⟨#[]⟩, .int .i64 0, .int .i64 0, .int .i64 0, .slice none 0 0, .string ⟨#[]⟩, .int .i64 0, .int .i64 0, .bool false, .string ⟨#[]⟩, .float .f64 0, .slice none 0 0, .int .i64 0]⟩,
                ⟨none, none, .store 13 (.tmp 7) (.tmp 63)⟩])
              (.seq
               (.reg [
                 ⟨(some 65), none, .fad 3 (.tmp 7)⟩,
                 ⟨(some 66), none, .load true 8 (.tmp 65)⟩,
                 ⟨(some 67), none, .fad 1 (.tmp 2)⟩,
                 ⟨(some 68), none, .load false 1 (.tmp 67)⟩,
                 ⟨(some 69), none, .mv (.tmp 1)⟩,
                 ⟨(some 70), none, .call (.func 20) [(.tmp 66), (.tmp 68), (.tmp 69)]⟩,
                 ⟨(some 64), none, .mv (.tmp 70)⟩,
                 ⟨(some 71), none, .ext (.tmp 64) 0⟩,
                 ⟨(some 72), none, .ext (.tmp 64) 1⟩,
                 ⟨(some 8), none, .alloc [.int .i64 0, .int .i64 0, .bool false, .string ⟨#[]⟩, .float .f64 0]⟩,
                 ⟨none, none, .store 5 (.tmp 8) (.tmp 71)⟩,
                 ⟨(some 9), none, .mv (.tmp 72)⟩])
               (.seq
                (.seq
                 (.reg [
                   ⟨(some 73), none, .mv (.tmp 9)⟩,
                   ⟨(some 74), none, .bin .neq .other (.tmp 73) (.const (.int .i64 0))⟩,
                   ⟨(some 75), none, .mv (.tmp 74)⟩,
                   ⟨(some 76), (some (75, true)), .mv (.tmp 9)⟩,
                   ⟨(some 77), (some (75, true)), .bin .neq .other (.tmp 76) (.const (.int .i64 41))⟩,
                   ⟨(some 78), none, .pick (.tmp 75) (.tmp 77) (.const (.bool false))⟩,
                   ⟨(some 79), none, .mv (.tmp 78)⟩,
                   ⟨(some 80), (some (79, true)), .mv (.tmp 9)⟩,
                   ⟨(some 81), (some (79, true)), .bin .neq .other (.tmp 80) (.const (.int .i64 42))⟩,
                   ⟨(some 82), none, .pick (.tmp 79) (.tmp 81) (.const (.bool false))⟩,
                   ⟨(some 83), none, .mv (.tmp 82)⟩,
                   ⟨(some 84), (some (83, false)), .mv (.tmp 9)⟩,
                   ⟨(some 85), (some (83, false)), .bin .eql .other (.tmp 84) (.const (.int .i64 0))⟩,
                   ⟨(some 86), (some (83, false)), .mv (.tmp 85)⟩,
                   ⟨(some 87), (some (86, true)), .fad 0 (.tmp 8)⟩,
                   ⟨(some 88), (some (86, true)), .load false 1 (.tmp 87)⟩,
                   ⟨(some 89), (some (86, true)), .bin .neq .other (.tmp 88) (.const (.int .i64 2))⟩,
                   ⟨(some 90), (some (83, false)), .pick (.tmp 86) (.tmp 89) (.const (.bool false))⟩,
                   ⟨(some 91), none, .pick (.tmp 83) (.const (.bool true)) (.tmp 90)⟩])
                 (.cond (.tmp 91)
                  (.seq
                   (.reg [
                     ⟨(some 4), none, .mv (.const (.bool false))⟩])
                   .ret)
                  .skip))
                (.seq
                 (.reg [
                   ⟨(some 10), none, .mv (.const (.int .i64 0))⟩])
                 (.block 4
                  (.loop
                   (.seq
                    (.seq
                     (.reg [
                       ⟨(some 92), none, .mv (.tmp 10)⟩,
                       ⟨(some 93), none, .fad 11 (.tmp 7)⟩,
                       ⟨(some 94), none, .load false 1 (.tmp 93)⟩,
                       ⟨(some 95), none, .len false (.tmp 94)⟩,
                       ⟨(some 96), none, .bin .lss .other (.tmp 92) (.tmp 95)⟩])
                     (.cond (.tmp 96)
                      .skip
                      (.exit 4)))
                    (.seq
                     (.block 5
                      (.seq
                       (.dreg 15 [
                         ⟨(some 100), none, .fad 11 (.tmp 7)⟩,
                         ⟨(some 101), none, .load false 1 (.tmp 100)⟩,
                         ⟨(some 102), none, .mv (.tmp 10)⟩,
                         ⟨(some 103), none, .iad 9 (.tmp 101) (.tmp 102)⟩,
                         ⟨(some 104), none, .fad 1 (.tmp 103)⟩,
                         ⟨(some 105), none, .load true 8 (.tmp 104)⟩,
                         ⟨(some 106), none, .fad 1 (.tmp 2)⟩,
                         ⟨(some 107), none, .load false 1 (.tmp 106)⟩,
                         ⟨(some 108), none, .mv (.tmp 1)⟩,
                         ⟨(some 109), none, .call (.func 20) [(.tmp 105), (.tmp 107), (.tmp 108)]⟩,
                         ⟨(some 99), none, .mv (.tmp 109)⟩,
                         ⟨(some 110), none, .ext (.tmp 99) 0⟩,
                         ⟨(some 111), none, .ext (.tmp 99) 1⟩,
                         ⟨(some 11), none, .alloc [.int .i64 0, .int .i64 0, .bool false, .string ⟨#[]⟩, .float .f64 0]⟩,
                         ⟨none, none, .store 5 (.tmp 11) (.tmp 110)⟩,
                         ⟨(some 12), none, .mv (.tmp 111)⟩])
                       (.seq
                        (.dreg 7 [
                          ⟨(some 112), none, .load true 4 (.tmp 2)⟩,
                          ⟨(some 113), none, .fad 11 (.tmp 7)⟩,
                          ⟨(some 114), none, .load false 1 (.tmp 113)⟩,
                          ⟨(some 115), none, .mv (.tmp 10)⟩,
                          ⟨(some 116), none, .iad 9 (.tmp 114) (.tmp 115)⟩,
                          ⟨(some 117), none, .fad 0 (.tmp 116)⟩,
                          ⟨(some 118), none, .load false 1 (.tmp 117)⟩,
                          ⟨(some 119), none, .call (.func 21) [(.tmp 112), (.tmp 118)]⟩,
                          ⟨(some 13), none, .mv (.tmp 119)⟩])
                        (.seq
                         (.dreg 33 [
                           ⟨(some 120), none, .mv (.tmp 13)⟩,
                           ⟨(some 121), none, .bin .lss .other (.tmp 120) (.const (.int .i64 0))⟩,
                           ⟨(some 122), none, .mv (.tmp 121)⟩,
                           ⟨(some 123), (some (122, false)), .mv (.tmp 13)⟩,
                           ⟨(some 124), (some (122, false)), .fad 1 (.tmp 2)⟩,
                           ⟨(some 125), (some (122, false)), .load false 1 (.tmp 124)⟩,
                           ⟨(some 126), (some (122, false)), .len false (.tmp 125)⟩,
                           ⟨(some 127), (some (122, false)), .bin .geq .other (.tmp 123) (.tmp 126)⟩,
                           ⟨(some 128), none, .pick (.tmp 122) (.const (.bool true)) (.tmp 127)⟩,
                           ⟨(some 129), none, .mv (.tmp 128)⟩,
                           ⟨(some 130), (some (129, false)), .mv (.tmp 12)⟩,
                           ⟨(some 131), (some (129, false)), .bin .neq .other (.tmp 130) (.const (.int .i64 0))⟩,
                           ⟨(some 132), (some (129, false)), .mv (.tmp 131)⟩,
                           ⟨(some 133), (some (132, true)), .mv (.tmp 12)⟩,
                           ⟨(some 134), (some (132, true)), .bin .neq .other (.tmp 133) (.const (.int .i64 41))⟩,
                           ⟨(some 135), (some (129, false)), .pick (.tmp 132) (.tmp 134) (.const (.bool false))⟩,
                           ⟨(some 136), (some (129, false)), .mv (.tmp 135)⟩,
                           ⟨(some 137), (some (136, true)), .mv (.tmp 12)⟩,
                           ⟨(some 138), (some (136, true)), .bin .neq .other (.tmp 137) (.const (.int .i64 42))⟩,
                           ⟨(some 139), (some (129, false)), .pick (.tmp 136) (.tmp 138) (.const (.bool false))⟩,
                           ⟨(some 140), none, .pick (.tmp 129) (.const (.bool true)) (.tmp 139)⟩,
                           ⟨(some 141), none, .mv (.tmp 140)⟩,
                           ⟨(some 142), (some (141, false)), .mv (.tmp 12)⟩,
                           ⟨(some 143), (some (141, false)), .bin .eql .other (.tmp 142) (.const (.int .i64 0))⟩,
                           ⟨(some 144), (some (141, false)), .mv (.tmp 143)⟩,
                           ⟨(some 145), (some (144, true)), .fad 0 (.tmp 11)⟩,
                           ⟨(some 146), (some (144, true)), .load false 1 (.tmp 145)⟩,
                           ⟨(some 147), (some (144, true)), .fad 1 (.tmp 2)⟩,
                           ⟨(some 148), (some (144, true)), .load false 1 (.tmp 147)⟩,
                           ⟨(some 149), (some (144, true)), .mv (.tmp 13)⟩,
                           ⟨(some 150), (some (144, true)), .iad 8 (.tmp 148) (.tmp 149)⟩,
                           ⟨(some 151), (some (144, true)), .fad 1 (.tmp 150)⟩,
                           ⟨(some 152), (some (144, true)), .load false 1 (.tmp 151)⟩,
                           ⟨(some 153), (some (144, true)), .bin .neq .other (.tmp 146) (.tmp 152)⟩,
                           ⟨(some 154), (some (141, false)), .pick (.tmp 144) (.tmp 153) (.const (.bool false))⟩,
                           ⟨(some 155), none, .pick (.tmp 141) (.const (.bool true)) (.tmp 154)⟩])
                         (.cond (.tmp 155)
                          (.seq
                           (.reg [
                             ⟨(some 4), none, .mv (.const (.bool false))⟩])
                           .ret)
                          .skip)))))
                     (.reg [
                       ⟨(some 97), none, .mv (.tmp 10)⟩,
                       ⟨(some 98), none, .bin .add .other (.tmp 97) (.const (.int .i64 1))⟩,
                       ⟨(some 10), none, .mv (.tmp 98)⟩]))))))))))
            (.reg [
              ⟨(some 57), none, .mv (.tmp 6)⟩,
              ⟨(some 58), none, .bin .add .other (.tmp 57) (.const (.int .i64 1))⟩,
              ⟨(some 6), none, .mv (.tmp 58)⟩]))))))
       (.seq
        (.reg [
          ⟨(some 156), none, .call (.func 16) []⟩,
          ⟨(some 4), none, .mv (.tmp 156)⟩])
        .ret))))))
theorem F4 : compF Tryz.prog 4 = some ⟨2, 157, [.tmp 4], c4⟩ := by kernel_rfl
theorem B4 : Bod Tryz.prog 4 := bod_of F4
/-- quaestor/quaestorlaw06.ContractReads -/
def c5 : ACode :=
  (.seq
   (.reg [
     ⟨(some 2), none, .mv (.const (.bool false))⟩])
   (.seq
    (.seq
     (.reg [
       ⟨(some 9), none, .mv (.tmp 0)⟩,
       ⟨(some 10), none, .len false (.tmp 9)⟩,
       ⟨(some 11), none, .bin .gtr .other (.tmp 10) (.const (.int .i64 10000))⟩])
     (.cond (.tmp 11)
      (.seq
       (.reg [
         ⟨(some 2), none, .mv (.const (.bool true))⟩])
       .ret)
      .skip))
    (.seq
     (.reg [
       ⟨(some 12), none, .mv (.tmp 0)⟩,
       ⟨(some 13), none, .call (.func 22) [(.tmp 12)]⟩,
       ⟨(some 14), none, .mv (.tmp 0)⟩,
       ⟨(some 15), none, .build [.slice none 0 0, .int .i64 0, .int .i64 0] [(0, 1, (.tmp 14))]⟩,
       ⟨(some 16), none, .box (.tmp 15)⟩,
       ⟨(some 3), none, .mv (.tmp 13)⟩,
       ⟨(some 4), none, .mv (.tmp 16)⟩])
     (.seq
      (.reg [
        ⟨(some 18), none, .mv (.tmp 3)⟩,
        ⟨(some 19), none, .call (.func 23) [(.tmp 18)]⟩,
        ⟨(some 17), none, .mv (.tmp 19)⟩,
        ⟨(some 20), none, .ext (.tmp 17) 0⟩,
        ⟨(some 21), none, .ext (.tmp 17) 1⟩,
        ⟨(some 5), none, .alloc [.string ⟨#[]⟩, .slice none 0 0, .slice none 0 0, .slice none 0 0]⟩,
        ⟨none, none, .store 4 (.tmp 5) (.tmp 20)⟩,
        ⟨(some 6), none, .mv (.tmp 21)⟩])
      (.seq
       (.reg [
         ⟨(some 23), none, .mv (.tmp 4)⟩,
         ⟨(some 24), none, .call (.func 24) [(.tmp 23)]⟩,
         ⟨(some 22), none, .mv (.tmp 24)⟩,
         ⟨(some 25), none, .ext (.tmp 22) 0⟩,
         ⟨(some 26), none, .ext (.tmp 22) 1⟩,
         ⟨(some 7), none, .alloc [.string ⟨#[]⟩, .slice none 0 0, .slice none 0 0, .slice none 0 0]⟩,
         ⟨none, none, .store 4 (.tmp 7) (.tmp 25)⟩,
         ⟨(some 8), none, .mv (.tmp 26)⟩])
       (.seq
        (.seq
         (.reg [
           ⟨(some 27), none, .mv (.tmp 6)⟩,
           ⟨(some 28), none, .mv (.tmp 8)⟩,
           ⟨(some 29), none, .bin .neq .other (.tmp 27) (.tmp 28)⟩,
           ⟨(some 30), none, .mv (.tmp 29)⟩,
           ⟨(some 31), (some (30, false)), .mv (.tmp 6)⟩,
           ⟨(some 32), (some (30, false)), .bin .eql .other (.tmp 31) (.const (.int .i64 0))⟩,
           ⟨(some 33), (some (30, false)), .mv (.tmp 32)⟩,
           ⟨(some 34), (some (33, true)), .mv (.tmp 3)⟩,
           ⟨(some 35), (some (33, true)), .call (.func 25) [(.tmp 34)]⟩,
           ⟨(some 36), (some (33, true)), .mv (.tmp 4)⟩,
           ⟨(some 37), (some (33, true)), .call (.func 26) [(.tmp 36)]⟩,
           ⟨(some 38), (some (33, true)), .bin .neq .other (.tmp 35) (.tmp 37)⟩,
           ⟨(some 39), (some (30, false)), .pick (.tmp 33) (.tmp 38) (.const (.bool false))⟩,
           ⟨(some 40), none, .pick (.tmp 30) (.const (.bool true)) (.tmp 39)⟩])
         (.cond (.tmp 40)
          (.seq
           (.reg [
             ⟨(some 2), none, .mv (.const (.bool false))⟩])
           .ret)
          .skip))
        (.seq
         (.seq
          (.reg [
            ⟨(some 41), none, .mv (.tmp 6)⟩,
            ⟨(some 42), none, .bin .neq .other (.tmp 41) (.const (.int .i64 0))⟩])
          (.cond (.tmp 42)
           (.seq
            (.reg [
              ⟨(some 43), none, .fad 0 (.tmp 5)⟩,
              ⟨(some 44), none, .load false 1 (.tmp 43)⟩,
              ⟨(some 45), none, .bin .eql .other (.tmp 44) (.const (.string ⟨#[]⟩))⟩,
              ⟨(some 46), none, .mv (.tmp 45)⟩,
              ⟨(some 47), (some (46, true)), .fad 1 (.tmp 5)⟩,
              ⟨(some 48), (some (46, true)), .load false 1 (.tmp 47)⟩,
              ⟨(some 49), (some (46, true)), .len false (.tmp 48)⟩,
              ⟨(some 50), (some (46, true)), .fad 2 (.tmp 5)⟩,
              ⟨(some 51), (some (46, true)), .load false 1 (.tmp 50)⟩,
              ⟨(some 52), (some (46, true)), .len false (.tmp 51)⟩,
              ⟨(some 53), (some (46, true)), .bin .add .other (.tmp 49) (.tmp 52)⟩,
              ⟨(some 54), (some (46, true)), .fad 3 (.tmp 5)⟩,
              ⟨(some 55), (some (46, true)), .load false 1 (.tmp 54)⟩,
              ⟨(some 56), (some (46, true)), .len false (.tmp 55)⟩,
              ⟨(some 57), (some (46, true)), .bin .add .other (.tmp 53) (.tmp 56)⟩,
              ⟨(some 58), (some (46, true)), .bin .eql .other (.tmp 57) (.const (.int .i64 0))⟩,
              ⟨(some 59), none, .pick (.tmp 46) (.tmp 58) (.const (.bool false))⟩,
              ⟨(some 60), none, .mv (.tmp 59)⟩,
              ⟨(some 61), (some (60, true)), .call (.func 16) []⟩,
              ⟨(some 62), none, .pick (.tmp 60) (.tmp 61) (.const (.bool false))⟩,
              ⟨(some 2), none, .mv (.tmp 62)⟩])
            .ret)
           .skip))
         (.seq
          (.reg [
            ⟨(some 63), none, .load true 4 (.tmp 5)⟩,
            ⟨(some 64), none, .call (.func 18) [(.tmp 63)]⟩,
            ⟨(some 65), none, .bin .eql .other (.tmp 64) (.const (.int .i64 0))⟩,
            ⟨(some 66), none, .mv (.tmp 65)⟩,
            ⟨(some 67), (some (66, true)), .load true 4 (.tmp 5)⟩,
            ⟨(some 68), (some (66, true)), .load true 4 (.tmp 7)⟩,
            ⟨(some 69), (some (66, true)), .call (.func 27) [(.tmp 67), (.tmp 68)]⟩,
            ⟨(some 70), none, .pick (.tmp 66) (.tmp 69) (.const (.bool false))⟩,
            ⟨(some 71), none, .mv (.tmp 70)⟩,
            ⟨(some 72), (some (71, true)), .call (.func 16) []⟩,
            ⟨(some 73), none, .pick (.tmp 71) (.tmp 72) (.const (.bool false))⟩,
            ⟨(some 2), none, .mv (.tmp 73)⟩])
          .ret))))))))
theorem F5 : compF Tryz.prog 5 = some ⟨1, 74, [.tmp 2], c5⟩ := by kernel_rfl
theorem B5 : Bod Tryz.prog 5 := bod_of F5
/-- quaestor/quaestorlaw06.Few -/
def c12 : ACode :=
  (.seq
   (.reg [
     ⟨(some 1), none, .box (.tmp 0)⟩,
     ⟨(some 2), none, .mv (.const (.bool false))⟩])
   (.seq
    (.seq
     (.reg [
       ⟨(some 6), none, .fad 0 (.tmp 1)⟩,
       ⟨(some 7), none, .load false 1 (.tmp 6)⟩,
       ⟨(some 8), none, .len true (.tmp 7)⟩,
       ⟨(some 9), none, .bin .gtr .other (.tmp 8) (.const (.int .i64 200))⟩,
       ⟨(some 10), none, .mv (.tmp 9)⟩,
       ⟨(some 11), (some (10, false)), .fad 1 (.tmp 1)⟩,
       ⟨(some 12), (some (10, false)), .load false 1 (.tmp 11)⟩,
       ⟨(some 13), (some (10, false)), .len false (.tmp 12)⟩,
       ⟨(some 14), (some (10, false)), .bin .gtr .other (.tmp 13) (.const (.int .i64 30))⟩,
       ⟨(some 15), none, .pick (.tmp 10) (.const (.bool true)) (.tmp 14)⟩,
       ⟨(some 16), none, .mv (.tmp 15)⟩,
       ⟨(some 17), (some (16, false)), .fad 2 (.tmp 1)⟩,
       ⟨(some 18), (some (16, false)), .load false 1 (.tmp 17)⟩,
       ⟨(some 19), (some (16, false)), .len false (.tmp 18)⟩,
       ⟨(some 20), (some (16, false)), .bin .gtr .other (.tmp 19) (.const (.int .i64 30))⟩,
       ⟨(some 21), none, .pick (.tmp 16) (.const (.bool true)) (.tmp 20)⟩,
       ⟨(some 22), none, .mv (.tmp 21)⟩,
       ⟨(some 23), (some (22, false)), .fad 3 (.tmp 1)⟩,
       ⟨(some 24), (some (22, false)), .load false 1 (.tmp 23)⟩,
       ⟨(some 25), (some (22, false)), .len false (.tmp 24)⟩,
       ⟨(some 26), (some (22, false)), .bin .gtr .other (.tmp 25) (.const (.int .i64 30))⟩,
       ⟨(some 27), none, .pick (.tmp 22) (.const (.bool true)) (.tmp 26)⟩])
     (.cond (.tmp 27)
      (.seq
       (.reg [
         ⟨(some 2), none, .mv (.const (.bool false))⟩])
       .ret)
      .skip))
    (.seq
     (.seq
      (.reg [
        ⟨(some 3), none, .mv (.const (.int .i64 0))⟩])
      (.block 0
       (.loop
        (.seq
         (.seq
          (.reg [
            ⟨(some 28), none, .mv (.tmp 3)⟩,
            ⟨(some 29), none, .fad 1 (.tmp 1)⟩,
            ⟨(some 30), none, .load false 1 (.tmp 29)⟩,
            ⟨(some 31), none, .len false (.tmp 30)⟩,
            ⟨(some 32), none, .bin .lss .other (.tmp 28) (.tmp 31)⟩])
          (.cond (.tmp 32)
           .skip
           (.exit 0)))
         (.seq
          (.block 1
           (.seq
            (.reg [
              ⟨(some 35), none, .fad 1 (.tmp 1)⟩,
              ⟨(some 36), none, .load false 1 (.tmp 35)⟩,
              ⟨(some 37), none, .mv (.tmp 3)⟩,
              ⟨(some 38), none, .iad 8 (.tmp 36) (.tmp 37)⟩,
              ⟨(some 39), none, .fad 0 (.tmp 38)⟩,
              ⟨(some 40), none, .load false 1 (.tmp 39)⟩,
              ⟨(some 41), none, .len true (.tmp 40)⟩,
              ⟨(some 42), none, .bin .gtr .other (.tmp 41) (.const (.int .i64 200))⟩,
              ⟨(some 43), none, .mv (.tmp 42)⟩,
              ⟨(some 44), (some (43, false)), .fad 1 (.tmp 1)⟩,
              ⟨(some 45), (some (43, false)), .load false 1 (.tmp 44)⟩,
              ⟨(some 46), (some (43, false)), .mv (.tmp 3)⟩,
              ⟨(some 47), (some (43, false)), .iad 8 (.tmp 45) (.tmp 46)⟩,
              ⟨(some 48), (some (43, false)), .fad 2 (.tmp 47)⟩,
              ⟨(some 49), (some (43, false)), .load false 1 (.tmp 48)⟩,
              ⟨(some 50), (some (43, false)), .len false (.tmp 49)⟩,
              ⟨(some 51), (some (43, false)), .bin .gtr .other (.tmp 50) (.const (.int .i64 30))⟩,
              ⟨(some 52), none, .pick (.tmp 43) (.const (.bool true)) (.tmp 51)⟩,
              ⟨(some 53), none, .mv (.tmp 52)⟩,
              ⟨(some 54), (some (53, false)), .fad 1 (.tmp 1)⟩,
              ⟨(some 55), (some (53, false)), .load false 1 (.tmp 54)⟩,
              ⟨(some 56), (some (53, false)), .mv (.tmp 3)⟩,
              ⟨(some 57), (some (53, false)), .iad 8 (.tmp 55) (.tmp 56)⟩,
              ⟨(some 58), (some (53, false)), .fad 3 (.tmp 57)⟩,
              ⟨(some 59), (some (53, false)), .fad 3 (.tmp 58)⟩,
              ⟨(some 60), (some (53, false)), .load false 1 (.tmp 59)⟩,
              ⟨(some 61), (some (53, false)), .len true (.tmp 60)⟩,
              ⟨(some 62), (some (53, false)), .bin .gtr .other (.tmp 61) (.const (.int .i64 200))⟩,
              ⟨(some 63), none, .pick (.tmp 53) (.const (.bool true)) (.tmp 62)⟩])
            (.cond (.tmp 63)
             (.seq
              (.reg [
                ⟨(some 2), none, .mv (.const (.bool false))⟩])
              .ret)
             .skip)))
          (.reg [
            ⟨(some 33), none, .mv (.tmp 3)⟩,
            ⟨(some 34), none, .bin .add .other (.tmp 33) (.const (.int .i64 1))⟩,
            ⟨(some 3), none, .mv (.tmp 34)⟩]))))))
     (.seq
      (.seq
       (.reg [
         ⟨(some 4), none, .mv (.const (.int .i64 0))⟩])
       (.block 2
        (.loop
         (.seq
          (.seq
           (.reg [
             ⟨(some 64), none, .mv (.tmp 4)⟩,
             ⟨(some 65), none, .fad 2 (.tmp 1)⟩,
             ⟨(some 66), none, .load false 1 (.tmp 65)⟩,
             ⟨(some 67), none, .len false (.tmp 66)⟩,
             ⟨(some 68), none, .bin .lss .other (.tmp 64) (.tmp 67)⟩])
           (.cond (.tmp 68)
            .skip
            (.exit 2)))
          (.seq
           (.block 3
            (.seq
             (.reg [
               ⟨(some 71), none, .fad 2 (.tmp 1)⟩,
               ⟨(some 72), none, .load false 1 (.tmp 71)⟩,
               ⟨(some 73), none, .mv (.tmp 4)⟩,
               ⟨(some 74), none, .iad 3 (.tmp 72) (.tmp 73)⟩,
               ⟨(some 75), none, .fad 2 (.tmp 74)⟩,
               ⟨(some 76), none, .load false 1 (.tmp 75)⟩,
               ⟨(some 77), none, .len false (.tmp 76)⟩,
               ⟨(some 78), none, .bin .gtr .other (.tmp 77) (.const (.int .i64 30))⟩])
             (.cond (.tmp 78)
              (.seq
               (.reg [
                 ⟨(some 2), none, .mv (.const (.bool false))⟩])
               .ret)
              .skip)))
           (.reg [
             ⟨(some 69), none, .mv (.tmp 4)⟩,
             ⟨(some 70), none, .bin .add .other (.tmp 69) (.const (.int .i64 1))⟩,
             ⟨(some 4), none, .mv (.tmp 70)⟩]))))))
      (.seq
       (.seq
        (.reg [
          ⟨(some 5), none, .mv (.const (.int .i64 0))⟩])
        (.block 4
         (.loop
          (.seq
           (.seq
            (.reg [
              ⟨(some 79), none, .mv (.tmp 5)⟩,
              ⟨(some 80), none, .fad 3 (.tmp 1)⟩,
              ⟨(some 81), none, .load false 1 (.tmp 80)⟩,
              ⟨(some 82), none, .len false (.tmp 81)⟩,
              ⟨(some 83), none, .bin .lss .other (.tmp 79) (.tmp 82)⟩])
            (.cond (.tmp 83)
             .skip
             (.exit 4)))
           (.seq
            (.block 5
             (.seq
              (.reg [
                ⟨(some 86), none, .fad 3 (.tmp 1)⟩,
                ⟨(some 87), none, .load false 1 (.tmp 86)⟩,
                ⟨(some 88), none, .mv (.tmp 5)⟩,
                ⟨(some 89), none, .iad 13 (.tmp 87) (.tmp 88)⟩,
                ⟨(some 90), none, .fad 11 (.tmp 89)⟩,
                ⟨(some 91), none, .load false 1 (.tmp 90)⟩,
                ⟨(some 92), none, .len false (.tmp 91)⟩,
                ⟨(some 93), none, .bin .gtr .other (.tmp 92) (.const (.int .i64 30))⟩])
              (.cond (.tmp 93)
               (.seq
                (.reg [
                  ⟨(some 2), none, .mv (.const (.bool false))⟩])
                .ret)
               .skip)))
            (.reg [
              ⟨(some 84), none, .mv (.tmp 5)⟩,
              ⟨(some 85), none, .bin .add .other (.tmp 84) (.const (.int .i64 1))⟩,
              ⟨(some 5), none, .mv (.tmp 85)⟩]))))))
       (.seq
        (.reg [
          ⟨(some 2), none, .mv (.const (.bool true))⟩])
        .ret))))))
theorem F12 : compF Tryz.prog 12 = some ⟨1, 94, [.tmp 2], c12⟩ := by kernel_rfl
theorem B12 : Bod Tryz.prog 12 := bod_of F12
/-- quaestor/quaestorref01.Same -/
def c13 : ACode :=
  (.seq
   (.reg [
     ⟨(some 4), none, .mv (.const (.bool false))⟩])
   (.seq
    (.reg [
      ⟨(some 5), none, .mv (.tmp 0)⟩,
      ⟨(some 6), none, .b2s (.tmp 5)⟩,
      ⟨(some 7), none, .mv (.tmp 1)⟩,
      ⟨(some 8), none, .b2s (.tmp 7)⟩,
      ⟨(some 9), none, .bin .eql .other (.tmp 6) (.tmp 8)⟩,
      ⟨(some 4), none, .mv (.tmp 9)⟩])
    .ret))
theorem F13 : compF Tryz.prog 13 = some ⟨2, 10, [.tmp 4], c13⟩ := by kernel_rfl
theorem B13 : Bod Tryz.prog 13 := bod_of F13
/-- quaestor/contract.Put -/
def c14 : ACode :=
  (.seq
   (.reg [
     ⟨(some 3), none, .box (.tmp 1)⟩,
     ⟨(some 4), none, .mv (.const (.slice none 0 0))⟩])
   (.seq
    (.reg [
      ⟨(some 5), none, .mv (.tmp 0)⟩,
      ⟨(some 6), none, .call (.func 39) [(.tmp 5)]⟩,
      ⟨(some 0), none, .mv (.tmp 6)⟩])
    (.seq
     (.seq
      (.reg [
        ⟨(some 7), none, .load true 4 (.tmp 3)⟩,
        ⟨(some 8), none, .call (.func 17) [(.tmp 7)]⟩,
        ⟨(some 9), none, .bin .neq .other (.tmp 8) (.const (.int .i64 0))⟩])
      (.cond (.tmp 9)
       (.seq
        (.reg [
          ⟨(some 10), none, .mv (.tmp 0)⟩,
          ⟨(some 4), none, .mv (.tmp 10)⟩])
        .ret)
       .skip))
     (.seq
      (.dreg 6 [
        ⟨(some 11), none, .mv (.tmp 0)⟩,
        ⟨(some 12), none, .fad 0 (.tmp 3)⟩,
        ⟨(some 13), none, .load false 1 (.tmp 12)⟩,
        ⟨(some 14), none, .call (.func 41) [(.tmp 11), (.tmp 13)]⟩,
        ⟨(some 15), none, .fad 1 (.tmp 3)⟩,
        ⟨(some 16), none, .load false 1 (.tmp 15)⟩,
        ⟨(some 17), none, .call (.func 40) [(.tmp 14), (.tmp 16), (.func 42)]⟩,
        ⟨(some 0), none, .mv (.tmp 17)⟩])
      (.seq
       (.reg [
         ⟨(some 18), none, .mv (.tmp 0)⟩,
         ⟨(some 19), none, .fad 2 (.tmp 3)⟩,
         ⟨(some 20), none, .load false 1 (.tmp 19)⟩,
         ⟨(some 21), none, .call (.func 46) [(.tmp 18), (.tmp 20), (.func 47)]⟩,
         ⟨(some 0), none, .mv (.tmp 21)⟩])
       (.seq
        (.reg [
          ⟨(some 22), none, .mv (.tmp 0)⟩,
          ⟨(some 23), none, .fad 3 (.tmp 3)⟩,
          ⟨(some 24), none, .load false 1 (.tmp 23)⟩,
          ⟨(some 25), none, .call (.func 49) [(.tmp 22), (.tmp 24), (.func 50)]⟩,
          ⟨(some 4), none, .mv (.tmp 25)⟩])
        .ret))))))
theorem F14 : compF Tryz.prog 14 = some ⟨2, 26, [.tmp 4], c14⟩ := by kernel_rfl
theorem B14 : Bod Tryz.prog 14 := bod_of F14
/-- quaestor/quaestorref06.Put -/
def c15 : ACode :=
  (.seq
   (.reg [
     ⟨(some 3), none, .box (.tmp 1)⟩,
     ⟨(some 4), none, .mv (.const (.slice none 0 0))⟩])
   (.seq
    (.reg [
      ⟨(some 15), none, .slit 5 1 []⟩,
      ⟨(some 16), none, .mv (.tmp 0)⟩,
      ⟨(some 17), none, .app 1 1 [.int .u8 0] 5 (.tmp 15) (.tmp 16)⟩,
      ⟨(some 5), none, .mv (.tmp 17)⟩])
    (.seq
     (.seq
      (.reg [
        ⟨(some 18), none, .load true 4 (.tmp 3)⟩,
        ⟨(some 19), none, .call (.func 18) [(.tmp 18)]⟩,
        ⟨(some 20), none, .bin .neq .other (.tmp 19) (.const (.int .i64 0))⟩])
      (.cond (.tmp 20)
       (.seq
        (.reg [
          ⟨(some 21), none, .mv (.tmp 5)⟩,
          ⟨(some 4), none, .mv (.tmp 21)⟩])
        .ret)
       .skip))
     (.seq
      (.dreg 7 [
        ⟨(some 22), none, .mv (.tmp 5)⟩,
        ⟨(some 23), none, .fad 0 (.tmp 3)⟩,
        ⟨(some 24), none, .load false 1 (.tmp 23)⟩,
        ⟨(some 25), none, .call (.func 55) [(.tmp 22), (.tmp 24)]⟩,
        ⟨(some 26), none, .fad 1 (.tmp 3)⟩,
        ⟨(some 27), none, .load false 1 (.tmp 26)⟩,
        ⟨(some 28), none, .len false (.tmp 27)⟩,
        ⟨(some 29), none, .call (.func 54) [(.tmp 25), (.tmp 28)]⟩,
        ⟨(some 5), none, .mv (.tmp 29)⟩])
      (.seq
       (.seq
        (.reg [
          ⟨(some 6), none, .mv (.const (.int .i64 0))⟩])
        (.block 0
         (.loop
          (.seq
           (.seq
            (.reg [
              ⟨(some 30), none, .mv (.tmp 6)⟩,
              ⟨(some 31), none, .fad 1 (.tmp 3)⟩,
              ⟨(some 32), none, .load false 1 (.tmp 31)⟩,
              ⟨(some 33), none, .len false (.tmp 32)⟩,
              ⟨(some 34), none, .bin .lss .other (.tmp 30) (.tmp 33)⟩])
            (.cond (.tmp 34)
             .skip
             (.exit 0)))
           (.seq
            (.block 1
             (.seq
              (.reg [
                ⟨(some 37), none, .fad 1 (.tmp 3)⟩,
                ⟨(some 38), none, .load false 1 (.tmp 37)⟩,
                ⟨(some 39), none, .mv (.tmp 6)⟩,
                ⟨(some 40), none, .iad 8 (.tmp 38) (.tmp 39)⟩,
                ⟨(some 41), none, .load true 8 (.tmp 40)⟩,
                ⟨(some 7), none, .alloc [.string ⟨#[]⟩, .int .i64 0, .slice none 0 0, .int .i64 0, .int .i64 0, .bool false, .string ⟨#[]⟩, .float .f64 0]⟩,
                ⟨none, none, .store 8 (.tmp 7) (.tmp 41)⟩])
              (.seq
               (.dreg 6 [
                 ⟨(some 42), none, .mv (.tmp 5)⟩,
                 ⟨(some 43), none, .fad 0 (.tmp 7)⟩,
                 ⟨(some 44), none, .load false 1 (.tmp 43)⟩,
                 ⟨(some 45), none, .call (.func 55) [(.tmp 42), (.tmp 44)]⟩,
                 ⟨(some 46), none, .fad 1 (.tmp 7)⟩,
                 ⟨(some 47), none, .load false 1 (.tmp 46)⟩,
                 ⟨(some 48), none, .call (.func 56) [(.tmp 45), (.tmp 47)]⟩,
                 ⟨(some 5), none, .mv (.tmp 48)⟩])
               (.seq
                (.reg [
                  ⟨(some 49), none, .mv (.tmp 5)⟩,
                  ⟨(some 50), none, .fad 2 (.tmp 7)⟩,
                  ⟨(some 51), none, .load false 1 (.tmp 50)⟩,
                  ⟨(some 52), none, .len false (.tmp 51)⟩,
                  ⟨(some 53), none, .call (.func 54) [(.tmp 49), (.tmp 52)]⟩,
                  ⟨(some 5), none, .mv (.tmp 53)⟩])
                (.seq
                 (.seq
                  (.reg [
                    ⟨(some 8), none, .mv (.const (.int .i64 0))⟩])
                  (.block 2
                   (.loop
                    (.seq
                     (.seq
                      (.reg [
                        ⟨(some 54), none, .mv (.tmp 8)⟩,
                        ⟨(some 55), none, .fad 2 (.tmp 7)⟩,
                        ⟨(some 56), none, .load false 1 (.tmp 55)⟩,
                        ⟨(some 57), none, .len false (.tmp 56)⟩,
                        ⟨(some 58), none, .bin .lss .other (.tmp 54) (.tmp 57)⟩])
                      (.cond (.tmp 58)
                       .skip
                       (.exit 2)))
                     (.seq
                      (.block 3
                       (.reg [
                         ⟨(some 61), none, .mv (.tmp 5)⟩,
                         ⟨(some 62), none, .fad 2 (.tmp 7)⟩,
                         ⟨(some 63), none, .load false 1 (.tmp 62)⟩,
                         ⟨(some 64), none, .mv (.tmp 8)⟩,
                         ⟨(some 65), none, .iad 1 (.tmp 63) (.tmp 64)⟩,
                         ⟨(some 66), none, .load false 1 (.tmp 65)⟩,
                         ⟨(some 67), none, .call (.func 55) [(.tmp 61), (.tmp 66)]⟩,
                         ⟨(some 5), none, .mv (.tmp 67)⟩]))
                      (.reg [
                        ⟨(some 59), none, .mv (.tmp 8)⟩,
                        ⟨(some 60), none, .bin .add .other (.tmp 59) (.const (.int .i64 1))⟩,
                        ⟨(some 8), none, .mv (.tmp 60)⟩]))))))
                 (.reg [
                   ⟨(some 68), none, .mv (.tmp 5)⟩,
                   ⟨(some 69), none, .fad 3 (.tmp 7)⟩,
                   ⟨(some 70), none, .load true 5 (.tmp 69)⟩,
                   ⟨(some 71), none, .call (.func 57) [(.tmp 68), (.tmp 70)]⟩,
                   ⟨(some 5), none, .mv (.tmp 71)⟩]))))))
            (.reg [
              ⟨(some 35), none, .mv (.tmp 6)⟩,
              ⟨(some 36), none, .bin .add .other (.tmp 35) (.const (.int .i64 1))⟩,
              ⟨(some 6), none, .mv (.tmp 36)⟩]))))))
       (.seq
        (.reg [
          ⟨(some 72), none, .mv (.tmp 5)⟩,
          ⟨(some 73), none, .fad 2 (.tmp 3)⟩,
          ⟨(some 74), none, .load false 1 (.tmp 73)⟩,
          ⟨(some 75), none, .len false (.tmp 74)⟩,
          ⟨(some 76), none, .call (.func 54) [(.tmp 72), (.tmp 75)]⟩,
          ⟨(some 5), none, .mv (.tmp 76)⟩])
        (.seq
         (.seq
          (.reg [
            ⟨(some 9), none, .mv (.const (.int .i64 0))⟩])
          (.block 4
           (.loop
            (.seq
             (.seq
              (.reg [
                ⟨(some 77), none, .mv (.tmp 9)⟩,
                ⟨(some 78), none, .fad 2 (.tmp 3)⟩,
                ⟨(some 79), none, .load false 1 (.tmp 78)⟩,
                ⟨(some 80), none, .len false (.tmp 79)⟩,
                ⟨(some 81), none, .bin .lss .other (.tmp 77) (.tmp 80)⟩])
              (.cond (.tmp 81)
               .skip
               (.exit 4)))
             (.seq
              (.block 5
               (.seq
                (.reg [
                  ⟨(some 84), none, .fad 2 (.tmp 3)⟩,
                  ⟨(some 85), none, .load false 1 (.tmp 84)⟩,
                  ⟨(some 86), none, .mv (.tmp 9)⟩,
                  ⟨(some 87), none, .iad 3 (.tmp 85) (.tmp 86)⟩,
                  ⟨(some 88), none, .load true 3 (.tmp 87)⟩,
                  ⟨(some 10), none, .alloc [.string ⟨#[]⟩, .int .i64 0, .slice none 0 0]⟩,
                  ⟨none, none, .store 3 (.tmp 10) (.tmp 88)⟩])
                (.seq
                 (.dreg 6 [
                   ⟨(some 89), none, .mv (.tmp 5)⟩,
                   ⟨(some 90), none, .fad 0 (.tmp 10)⟩,
                   ⟨(some 91), none, .load false 1 (.tmp 90)⟩,
                   ⟨(some 92), none, .call (.func 55) [(.tmp 89), (.tmp 91)]⟩,
                   ⟨(some 93), none, .fad 1 (.tmp 10)⟩,
                   ⟨(some 94), none, .load false 1 (.tmp 93)⟩,
                   ⟨(some 95), none, .call (.func 56) [(.tmp 92), (.tmp 94)]⟩,
                   ⟨(some 5), none, .mv (.tmp 95)⟩])
                 (.seq
                  (.reg [
                    ⟨(some 96), none, .mv (.tmp 5)⟩,
                    ⟨(some 97), none, .fad 2 (.tmp 10)⟩,
                    ⟨(some 98), none, .load false 1 (.tmp 97)⟩,
                    ⟨(some 99), none, .len false (.tmp 98)⟩,
                    ⟨(some 100), none, .call (.func 54) [(.tmp 96), (.tmp 99)]⟩,
                    ⟨(some 5), none, .mv (.tmp 100)⟩])
                  (.seq
                   (.reg [
                     ⟨(some 11), none, .mv (.const (.int .i64 0))⟩])
                   (.block 6
                    (.loop
                     (.seq
                      (.seq
                       (.reg [
                         ⟨(some 101), none, .mv (.tmp 11)⟩,
                         ⟨(some 102), none, .fad 2 (.tmp 10)⟩,
                         ⟨(some 103), none, .load false 1 (.tmp 102)⟩,
                         ⟨(some 104), none, .len false (.tmp 103)⟩,
                         ⟨(some 105), none, .bin .lss .other (.tmp 101) (.tmp 104)⟩])
                       (.cond (.tmp 105)
                        .skip
                        (.exit 6)))
                      (.seq
                       (.block 7
                        (.reg [
                          ⟨(some 108), none, .mv (.tmp 5)⟩,
                          ⟨(some 109), none, .fad 2 (.tmp 10)⟩,
                          ⟨(some 110), none, .load false 1 (.tmp 109)⟩,
                          ⟨(some 111), none, .mv (.tmp 11)⟩,
                          ⟨(some 112), none, .iad 1 (.tmp 110) (.tmp 111)⟩,
                          ⟨(some 113), none, .load false 1 (.tmp 112)⟩,
                          ⟨(some 114), none, .call (.func 56) [(.tmp 108), (.tmp 113)]⟩,
                          ⟨(some 5), none, .mv (.tmp 114)⟩]))
                       (.reg [
                         ⟨(some 106), none, .mv (.tmp 11)⟩,
                         ⟨(some 107), none, .bin .add .other (.tmp 106) (.const (.int .i64 1))⟩,
                         ⟨(some 11), none, .mv (.tmp 107)⟩]))))))))))
              (.reg [
                ⟨(some 82), none, .mv (.tmp 9)⟩,
                ⟨(some 83), none, .bin .add .other (.tmp 82) (.const (.int .i64 1))⟩,
                ⟨(some 9), none, .mv (.tmp 83)⟩]))))))
         (.seq
          (.reg [
            ⟨(some 115), none, .mv (.tmp 5)⟩,
            ⟨(some 116), none, .fad 3 (.tmp 3)⟩,
            ⟨(some 117), none, .load false 1 (.tmp 116)⟩,
            ⟨(some 118), none, .len false (.tmp 117)⟩,
            ⟨(some 119), none, .call (.func 54) [(.tmp 115), (.tmp 118)]⟩,
            ⟨(some 5), none, .mv (.tmp 119)⟩])
          (.seq
           (.seq
            (.reg [
              ⟨(some 12), none, .mv (.const (.int .i64 0))⟩])
            (.block 8
             (.loop
              (.seq
               (.seq
                (.reg [
                  ⟨(some 120), none, .mv (.tmp 12)⟩,
                  ⟨(some 121), none, .fad 3 (.tmp 3)⟩,
                  ⟨(some 122), none, .load false 1 (.tmp 121)⟩,
                  ⟨(some 123), none, .len false (.tmp 122)⟩,
                  ⟨(some 124), none, .bin .lss .other (.tmp 120) (.tmp 123)⟩])
                (.cond (.tmp 124)
                 .skip
                 (.exit 8)))
               (.seq
                (.block 9
                 (.seq
                  (.reg [
                    ⟨(some 127), none, .fad 3 (.tmp 3)⟩,
                    ⟨(some 128), none, .load false 1 (.tmp 127)⟩,
                    ⟨(some 129), none, .mv (.tmp 12)⟩,
                    ⟨(some 130), none, .iad 13 (.tmp 128) (.tmp 129)⟩,
                    ⟨(some 131), none, .load true 13 (.tmp 130)⟩,
                    ⟨(some 13), none, .alloc [.string ⟨#[]⟩, .int .i64 0, .int .i64 0, .int .i64 0, .slice none 0 0, .string ⟨#[]⟩, .int .i64 0, .int .i64 0, .bool false, .string ⟨#[]⟩, .float .f64 0, .slice none 0 0, .int .i64 0]⟩,
                    ⟨none, none, .store 13 (.tmp 13) (.tmp 131)⟩])
                  (.seq
                   (.dreg 6 [
                     ⟨(some 132), none, .mv (.tmp 5)⟩,
                     ⟨(some 133), none, .fad 0 (.tmp 13)⟩,
                     ⟨(some 134), none, .load false 1 (.tmp 133)⟩,
                     ⟨(some 135), none, .call (.func 55) [(.tmp 132), (.tmp 134)]⟩,
                     ⟨(some 136), none, .fad 1 (.tmp 13)⟩,
                     ⟨(some 137), none, .load false 1 (.tmp 136)⟩,
                     ⟨(some 138), none, .call (.func 56) [(.tmp 135), (.tmp 137)]⟩,
                     ⟨(some 5), none, .mv (.tmp 138)⟩])
                   (.seq
                    (.dreg 6 [
                      ⟨(some 139), none, .mv (.tmp 5)⟩,
                      ⟨(some 140), none, .fad 2 (.tmp 13)⟩,
                      ⟨(some 141), none, .load false 1 (.tmp 140)⟩,
                      ⟨(some 142), none, .call (.func 56) [(.tmp 139), (.tmp 141)]⟩,
                      ⟨(some 143), none, .fad 12 (.tmp 13)⟩,
                      ⟨(some 144), none, .load false 1 (.tmp 143)⟩,
                      ⟨(some 145), none, .call (.func 56) [(.tmp 142), (.tmp 144)]⟩,
                      ⟨(some 5), none, .mv (.tmp 145)⟩])
                    (.seq
                     (.dreg 7 [
                       ⟨(some 146), none, .mv (.tmp 5)⟩,
                       ⟨(some 147), none, .fad 3 (.tmp 13)⟩,
                       ⟨(some 148), none, .load true 8 (.tmp 147)⟩,
                       ⟨(some 149), none, .call (.func 58) [(.tmp 146), (.tmp 148)]⟩,
                       ⟨(some 150), none, .fad 11 (.tmp 13)⟩,
                       ⟨(some 151), none, .load false 1 (.tmp 150)⟩,
                       ⟨(some 152), none, .len false (.tmp 151)⟩,
                       ⟨(some 153), none, .call (.func 54) [(.tmp 149), (.tmp 152)]⟩,
                       ⟨(some 5), none, .mv (.tmp 153)⟩])
                     (.seq
                      (.reg [
                        ⟨(some 14), none, .mv (.const (.int .i64 0))⟩])
                      (.block 10
                       (.loop
                        (.seq
                         (.seq
                          (.reg [
                            ⟨(some 154), none, .mv (.tmp 14)⟩,
                            ⟨(some 155), none, .fad 11 (.tmp 13)⟩,
                            ⟨(some 156), none, .load false 1 (.tmp 155)⟩,
                            ⟨(some 157), none, .len false (.tmp 156)⟩,
                            ⟨(some 158), none, .bin .lss .other (.tmp 154) (.tmp 157)⟩])
                          (.cond (.tmp 158)
                           .skip
                           (.exit 10)))
                         (.seq
                          (.block 11
                           (.dreg 14 [
                             ⟨(some 161), none, .mv (.tmp 5)⟩,
                             ⟨(some 162), none, .fad 11 (.tmp 13)⟩,
                             ⟨(some 163), none, .load false 1 (.tmp 162)⟩,
                             ⟨(some 164), none, .mv (.tmp 14)⟩,
                             ⟨(some 165), none, .iad 9 (.tmp 163) (.tmp 164)⟩,
                             ⟨(some 166), none, .fad 0 (.tmp 165)⟩,
                             ⟨(some 167), none, .load false 1 (.tmp 166)⟩,
                             ⟨(some 168), none, .call (.func 55) [(.tmp 161), (.tmp 167)]⟩,
                             ⟨(some 169), none, .fad 11 (.tmp 13)⟩,
                             ⟨(some 170), none, .load false 1 (.tmp 169)⟩,
                             ⟨(some 171), none, .mv (.tmp 14)⟩,
                             ⟨(some 172), none, .iad 9 (.tmp 170) (.tmp 171)⟩,
                             ⟨(some 173), none, .fad 1 (.tmp 172)⟩,
                             ⟨(some 174), none, .load true 8 (.tmp 173)⟩,
                             ⟨(some 175), none, .call (.func 58) [(.tmp 168), (.tmp 174)]⟩,
                             ⟨(some 5), none, .mv (.tmp 175)⟩]))
                          (.reg [
                            ⟨(some 159), none, .mv (.tmp 14)⟩,
                            ⟨(some 160), none, .bin .add .other (.tmp 159) (.const (.int .i64 1))⟩,
                            ⟨(some 14), none, .mv (.tmp 160)⟩])))))))))))
                (.reg [
                  ⟨(some 125), none, .mv (.tmp 12)⟩,
                  ⟨(some 126), none, .bin .add .other (.tmp 125) (.const (.int .i64 1))⟩,
                  ⟨(some 12), none, .mv (.tmp 126)⟩]))))))
           (.seq
            (.reg [
              ⟨(some 176), none, .mv (.tmp 5)⟩,
              ⟨(some 4), none, .mv (.tmp 176)⟩])
            .ret))))))))))
theorem F15 : compF Tryz.prog 15 = some ⟨2, 177, [.tmp 4], c15⟩ := by kernel_rfl
theorem B15 : Bod Tryz.prog 15 := bod_of F15
/-- quaestor/quaestorlaw06.awake -/
def c16 : ACode :=
  (.seq
   (.reg [
     ⟨(some 0), none, .mv (.const (.bool false))⟩])
   (.seq
    (.reg [
      ⟨(some 4), none, .call (.func 59) []⟩,
      ⟨(some 5), none, .call (.func 59) []⟩,
      ⟨(some 6), none, .call (.func 59) []⟩,
      ⟨(some 1), none, .alloc [.string ⟨#[]⟩, .slice none 0 0, .slice none 0 0, .slice none 0 0]⟩,
      ⟨(some 2), none, .alloc [.string ⟨#[]⟩, .slice none 0 0, .slice none 0 0, .slice none 0 0]⟩,
      ⟨(some 3), none, .alloc [.string ⟨#[]⟩, .slice none 0 0, .slice none 0 0, .slice none 0 0]⟩,
      ⟨none, none, .store 4 (.tmp 1) (.tmp 4)⟩,
      ⟨none, none, .store 4 (.tmp 2) (.tmp 5)⟩,
      ⟨none, none, .store 4 (.tmp 3) (.tmp 6)⟩])
    (.seq
     (.reg [
       ⟨(some 7), none, .fad 2 (.tmp 1)⟩,
       ⟨none, none, .store 1 (.tmp 7) (.const (.slice none 0 0))⟩])
     (.seq
      (.reg [
        ⟨(some 8), none, .fad 3 (.tmp 1)⟩,
        ⟨none, none, .store 1 (.tmp 8) (.const (.slice none 0 0))⟩])
      (.seq
       (.reg [
         ⟨(some 9), none, .build [.int .i64 0, .int .i64 0, .bool false, .string ⟨#[]⟩, .float .f64 0] [(0, 1, (.const (.int .i64 1)))]⟩,
         ⟨(some 10), none, .build [.int .i64 0, .slice none 0 0, .string ⟨#[]⟩, .int .i64 0, .int .i64 0, .bool false, .string ⟨#[]⟩, .float .f64 0] [(0, 1, (.const (.int .i64 1))), (3, 5, (.tmp 9))]⟩,
         ⟨(some 11), none, .build [.string ⟨#[]⟩, .int .i64 0, .int .i64 0, .int .i64 0, .slice none 0 0, .string ⟨#[]⟩, .int .i64 0, .int .i64 0, .bool false, .string ⟨#[]⟩, .float .f64 0, .slice none 0 0, .int .i64 0] [(0, 1, (.const (.string ⟨#[109]⟩))), (12, 1, (.const (.int .i64 (-1)))), (3, 8, (.tmp 10))]⟩,
         ⟨(some 12), none, .slit 47 13 [(.tmp 11)]⟩,
         ⟨(some 13), none, .fad 3 (.tmp 2)⟩,
         ⟨none, none, .store 1 (.tmp 13) (.tmp 12)⟩])
       (.seq
        (.dreg 8 [
          ⟨(some 14), none, .fad 1 (.tmp 3)⟩,
          ⟨(some 15), none, .load false 1 (.tmp 14)⟩,
          ⟨(some 16), none, .iad 8 (.tmp 15) (.const (.int .i64 0))⟩,
          ⟨(some 17), none, .load true 8 (.tmp 16)⟩,
          ⟨(some 18), none, .fad 1 (.tmp 3)⟩,
          ⟨(some 19), none, .load false 1 (.tmp 18)⟩,
          ⟨(some 20), none, .iad 8 (.tmp 19) (.const (.int .i64 0))⟩,
          ⟨(some 21), none, .load true 8 (.tmp 20)⟩,
          ⟨(some 22), none, .slit 41 8 [(.tmp 17), (.tmp 21)]⟩,
          ⟨(some 23), none, .fad 1 (.tmp 3)⟩,
          ⟨none, none, .store 1 (.tmp 23) (.tmp 22)⟩])
        (.seq
         (.reg [
           ⟨(some 24), none, .call (.func 59) []⟩,
           ⟨(some 25), none, .call (.func 17) [(.tmp 24)]⟩,
           ⟨(some 26), none, .bin .eql .other (.tmp 25) (.const (.int .i64 0))⟩,
           ⟨(some 27), none, .mv (.tmp 26)⟩,
           ⟨(some 28), (some (27, true)), .call (.func 59) []⟩,
           ⟨(some 29), (some (27, true)), .call (.func 14) [(.const (.slice none 0 0)), (.tmp 28)]⟩,
           ⟨(some 30), (some (27, true)), .len false (.tmp 29)⟩,
           ⟨(some 31), (some (27, true)), .bin .gtr .other (.tmp 30) (.const (.int .i64 20))⟩,
           ⟨(some 32), none, .pick (.tmp 27) (.tmp 31) (.const (.bool false))⟩,
           ⟨(some 33), none, .mv (.tmp 32)⟩,
           ⟨(some 34), (some (33, true)), .load true 4 (.tmp 1)⟩,
           ⟨(some 35), (some (33, true)), .call (.func 17) [(.tmp 34)]⟩,
           ⟨(some 36), (some (33, true)), .bin .eql .other (.tmp 35) (.const (.int .i64 61))⟩,
           ⟨(some 37), none, .pick (.tmp 33) (.tmp 36) (.const (.bool false))⟩,
           ⟨(some 38), none, .mv (.tmp 37)⟩,
           ⟨(some 39), (some (38, true)), .load true 4 (.tmp 2)⟩,
           ⟨(some 40), (some (38, true)), .call (.func 17) [(.tmp 39)]⟩,
           ⟨(some 41), (some (38, true)), .bin .eql .other (.tmp 40) (.const (.int .i64 62))⟩,
           ⟨(some 42), none, .pick (.tmp 38) (.tmp 41) (.const (.bool false))⟩,
           ⟨(some 43), none, .mv (.tmp 42)⟩,
           ⟨(some 44), (some (43, true)), .load true 4 (.tmp 3)⟩,
           ⟨(some 45), (some (43, true)), .call (.func 17) [(.tmp 44)]⟩,
           ⟨(some 46), (some (43, true)), .bin .eql .other (.tmp 45) (.const (.int .i64 60))⟩,
           ⟨(some 47), none, .pick (.tmp 43) (.tmp 46) (.const (.bool false))⟩,
           ⟨(some 48), none, .mv (.tmp 47)⟩,
           ⟨(some 49), (some (48, true)), .call (.func 59) []⟩,
           ⟨(some 50), (some (48, true)), .call (.func 60) [(.tmp 49), (.const (.string ⟨#[116]⟩))]⟩,
           ⟨(some 51), (some (48, true)), .bin .eql .other (.tmp 50) (.const (.int .i64 1))⟩,
           ⟨(some 52), none, .pick (.tmp 48) (.tmp 51) (.const (.bool false))⟩,
           ⟨(some 0), none, .mv (.tmp 52)⟩])
         .ret)))))))
theorem F16 : compF Tryz.prog 16 = some ⟨0, 53, [.tmp 0], c16⟩ := by kernel_rfl
theorem B16 : Bod Tryz.prog 16 := bod_of F16
/-- quaestor/contract.Check -/
def c17 : ACode :=
  (.seq
   (.reg [
     ⟨(some 1), none, .box (.tmp 0)⟩,
     ⟨(some 2), none, .mv (.const (.int .i64 0))⟩])
   (.seq
    (.reg [
      ⟨(some 4), none, .mkf 61 [] [(.tmp 1)]⟩,
      ⟨(some 3), none, .mv (.tmp 4)⟩])
    (.seq
     (.block 0
      (.seq
       (.reg [
         ⟨(some 6), none, .fad 0 (.tmp 1)⟩,
         ⟨(some 7), none, .load false 1 (.tmp 6)⟩,
         ⟨(some 8), none, .call (.func 63) [(.tmp 7)]⟩,
         ⟨(some 9), none, .un .not (.tmp 8)⟩,
         ⟨(some 5), none, .mv (.tmp 9)⟩])
       (.cond (.tmp 5)
        (.seq
         (.reg [
           ⟨(some 2), none, .mv (.const (.int .i64 50))⟩])
         .ret)
        (.seq
         (.reg [
           ⟨(some 11), none, .fad 1 (.tmp 1)⟩,
           ⟨(some 12), none, .load false 1 (.tmp 11)⟩,
           ⟨(some 13), none, .len false (.tmp 12)⟩,
           ⟨(some 14), none, .bin .gtr .other (.tmp 13) (.const (.int .i64 6))⟩,
           ⟨(some 15), none, .mv (.tmp 14)⟩,
           ⟨(some 16), (some (15, false)), .fad 1 (.tmp 1)⟩,
           ⟨(some 17), (some (15, false)), .load false 1 (.tmp 16)⟩,
           ⟨(some 18), (some (15, false)), .call (.func 64) [(.tmp 17), (.func 65)]⟩,
           ⟨(some 19), (some (15, false)), .un .not (.tmp 18)⟩,
           ⟨(some 20), none, .pick (.tmp 15) (.const (.bool true)) (.tmp 19)⟩,
           ⟨(some 21), none, .mv (.tmp 20)⟩,
           ⟨(some 22), (some (21, false)), .fad 1 (.tmp 1)⟩,
           ⟨(some 23), (some (21, false)), .load false 1 (.tmp 22)⟩,
           ⟨(some 24), (some (21, false)), .call (.func 66) [(.tmp 23), (.func 67)]⟩,
           ⟨(some 25), none, .pick (.tmp 21) (.const (.bool true)) (.tmp 24)⟩,
           ⟨(some 10), none, .mv (.tmp 25)⟩])
         (.cond (.tmp 10)
          (.seq
           (.reg [
             ⟨(some 2), none, .mv (.const (.int .i64 60))⟩])
           .ret)
          (.seq
           (.reg [
             ⟨(some 27), none, .fad 2 (.tmp 1)⟩,
             ⟨(some 28), none, .load false 1 (.tmp 27)⟩,
             ⟨(some 29), none, .len false (.tmp 28)⟩,
             ⟨(some 30), none, .bin .eql .other (.tmp 29) (.const (.int .i64 0))⟩,
             ⟨(some 31), none, .mv (.tmp 30)⟩,
             ⟨(some 32), (some (31, false)), .fad 2 (.tmp 1)⟩,
             ⟨(some 33), (some (31, false)), .load false 1 (.tmp 32)⟩,
             ⟨(some 34), (some (31, false)), .len false (.tmp 33)⟩,
             ⟨(some 35), (some (31, false)), .bin .gtr .other (.tmp 34) (.const (.int .i64 6))⟩,
             ⟨(some 36), none, .pick (.tmp 31) (.const (.bool true)) (.tmp 35)⟩,
             ⟨(some 37), none, .mv (.tmp 36)⟩,
             ⟨(some 38), (some (37, false)), .fad 2 (.tmp 1)⟩,
             ⟨(some 39), (some (37, false)), .load false 1 (.tmp 38)⟩,
             ⟨(some 40), (some (37, false)), .call (.func 69) [(.tmp 39), (.func 70)]⟩,
             ⟨(some 41), (some (37, false)), .un .not (.tmp 40)⟩,
             ⟨(some 42), none, .pick (.tmp 37) (.const (.bool true)) (.tmp 41)⟩,
             ⟨(some 43), none, .mv (.tmp 42)⟩,
             ⟨(some 44), (some (43, false)), .fad 2 (.tmp 1)⟩,
             ⟨(some 45), (some (43, false)), .load false 1 (.tmp 44)⟩,
             ⟨(some 46), (some (43, false)), .call (.func 71) [(.tmp 45), (.func 72)]⟩,
             ⟨(some 47), none, .pick (.tmp 43) (.const (.bool true)) (.tmp 46)⟩,
             ⟨(some 26), none, .mv (.tmp 47)⟩])
           (.cond (.tmp 26)
            (.seq
             (.reg [
               ⟨(some 2), none, .mv (.const (.int .i64 61))⟩])
             .ret)
            (.seq
             (.reg [
               ⟨(some 49), none, .fad 3 (.tmp 1)⟩,
               ⟨(some 50), none, .load false 1 (.tmp 49)⟩,
               ⟨(some 51), none, .len false (.tmp 50)⟩,
               ⟨(some 52), none, .bin .gtr .other (.tmp 51) (.const (.int .i64 8))⟩,
               ⟨(some 53), none, .mv (.tmp 52)⟩,
               ⟨(some 54), (some (53, false)), .fad 3 (.tmp 1)⟩,
               ⟨(some 55), (some (53, false)), .load false 1 (.tmp 54)⟩,
               ⟨(some 56), (some (53, false)), .call (.func 74) [(.tmp 55), (.func 75)]⟩,
               ⟨(some 57), (some (53, false)), .un .not (.tmp 56)⟩,
               ⟨(some 58), none, .pick (.tmp 53) (.const (.bool true)) (.tmp 57)⟩,
               ⟨(some 59), none, .mv (.tmp 58)⟩,
               ⟨(some 60), (some (59, false)), .fad 3 (.tmp 1)⟩,
               ⟨(some 61), (some (59, false)), .load false 1 (.tmp 60)⟩,
               ⟨(some 62), (some (59, false)), .mv (.tmp 3)⟩,
               ⟨(some 63), (some (59, false)), .call (.func 76) [(.tmp 61), (.tmp 62)]⟩,
               ⟨(some 64), none, .pick (.tmp 59) (.const (.bool true)) (.tmp 63)⟩,
               ⟨(some 48), none, .mv (.tmp 64)⟩])
             (.cond (.tmp 48)
              (.seq
               (.reg [
                 ⟨(some 2), none, .mv (.const (.int .i64 62))⟩])
               .ret)
              .skip)))))))))
     (.seq
      (.reg [
        ⟨(some 2), none, .mv (.const (.int .i64 0))⟩])
      .ret))))
theorem F17 : compF Tryz.prog 17 = some ⟨1, 65, [.tmp 2], c17⟩ := by kernel_rfl
theorem B17 : Bod Tryz.prog 17 := bod_of F17
/-- quaestor/quaestorref06.Check -/
def c18 : ACode :=
  (.seq
   (.reg [
     ⟨(some 1), none, .box (.tmp 0)⟩,
     ⟨(some 2), none, .mv (.const (.int .i64 0))⟩])
   (.seq
    (.seq
     (.reg [
       ⟨(some 4), none, .fad 0 (.tmp 1)⟩,
       ⟨(some 5), none, .load false 1 (.tmp 4)⟩,
       ⟨(some 6), none, .call (.func 77) [(.tmp 5)]⟩,
       ⟨(some 7), none, .un .not (.tmp 6)⟩])
     (.cond (.tmp 7)
      (.seq
       (.reg [
         ⟨(some 2), none, .mv (.const (.int .i64 50))⟩])
       .ret)
      .skip))
    (.seq
     (.seq
      (.reg [
        ⟨(some 8), none, .load true 4 (.tmp 1)⟩,
        ⟨(some 9), none, .call (.func 78) [(.tmp 8)]⟩,
        ⟨(some 10), none, .un .not (.tmp 9)⟩])
      (.cond (.tmp 10)
       (.seq
        (.reg [
          ⟨(some 2), none, .mv (.const (.int .i64 60))⟩])
        .ret)
       .skip))
     (.seq
      (.seq
       (.reg [
         ⟨(some 11), none, .load true 4 (.tmp 1)⟩,
         ⟨(some 12), none, .call (.func 79) [(.tmp 11)]⟩,
         ⟨(some 13), none, .un .not (.tmp 12)⟩])
       (.cond (.tmp 13)
        (.seq
         (.reg [
           ⟨(some 2), none, .mv (.const (.int .i64 61))⟩])
         .ret)
        .skip))
      (.seq
       (.seq
        (.reg [
          ⟨(some 14), none, .fad 3 (.tmp 1)⟩,
          ⟨(some 15), none, .load false 1 (.tmp 14)⟩,
          ⟨(some 16), none, .len false (.tmp 15)⟩,
          ⟨(some 17), none, .bin .gtr .other (.tmp 16) (.const (.int .i64 8))⟩])
        (.cond (.tmp 17)
         (.seq
          (.reg [
            ⟨(some 2), none, .mv (.const (.int .i64 62))⟩])
          .ret)
         .skip))
       (.seq
        (.seq
         (.reg [
           ⟨(some 3), none, .mv (.const (.int .i64 0))⟩])
         (.block 0
          (.loop
           (.seq
            (.seq
             (.reg [
               ⟨(some 18), none, .mv (.tmp 3)⟩,
               ⟨(some 19), none, .fad 3 (.tmp 1)⟩,
               ⟨(some 20), none, .load false 1 (.tmp 19)⟩,
               ⟨(some 21), none, .len false (.tmp 20)⟩,
               ⟨(some 22), none, .bin .lss .other (.tmp 18) (.tmp 21)⟩])
             (.cond (.tmp 22)
              .skip
              (.exit 0)))
            (.seq
             (.block 1
              (.seq
               (.dreg 27 [
                 ⟨(some 25), none, .fad 3 (.tmp 1)⟩,
                 ⟨(some 26), none, .load false 1 (.tmp 25)⟩,
                 ⟨(some 27), none, .mv (.tmp 3)⟩,
                 ⟨(some 28), none, .iad 13 (.tmp 26) (.tmp 27)⟩,
                 ⟨(some 29), none, .fad 0 (.tmp 28)⟩,
                 ⟨(some 30), none, .load false 1 (.tmp 29)⟩,
                 ⟨(some 31), none, .call (.func 77) [(.tmp 30)]⟩,
                 ⟨(some 32), none, .un .not (.tmp 31)⟩,
                 ⟨(some 33), none, .mv (.tmp 32)⟩,
                 ⟨(some 34), (some (33, false)), .load true 4 (.tmp 1)⟩,
                 ⟨(some 35), (some (33, false)), .fad 3 (.tmp 1)⟩,
                 ⟨(some 36), (some (33, false)), .load false 1 (.tmp 35)⟩,
                 ⟨(some 37), (some (33, false)), .mv (.tmp 3)⟩,
                 ⟨(some 38), (some (33, false)), .iad 13 (.tmp 36) (.tmp 37)⟩,
                 ⟨(some 39), (some (33, false)), .fad 0 (.tmp 38)⟩,
                 ⟨(some 40), (some (33, false)), .load false 1 (.tmp 39)⟩,
                 ⟨(some 41), (some (33, false)), .call (.func 80) [(.tmp 34), (.tmp 40)]⟩,
                 ⟨(some 42), (some (33, false)), .mv (.tmp 3)⟩,
                 ⟨(some 43), (some (33, false)), .bin .neq .other (.tmp 41) (.tmp 42)⟩,
                 ⟨(some 44), none, .pick (.tmp 33) (.const (.bool true)) (.tmp 43)⟩,
                 ⟨(some 45), none, .mv (.tmp 44)⟩,
                 ⟨(some 46), (some (45, false)), .load true 4 (.tmp 1)⟩,
                 ⟨(some 47), (some (45, false)), .fad 3 (.tmp 1)⟩,
                 ⟨(some 48), (some (45, false)), .load false 1 (.tmp 47)⟩,
                 ⟨(some 49), (some (45, false)), .mv (.tmp 3)⟩,
                 ⟨(some 50), (some (45, false)), .iad 13 (.tmp 48) (.tmp 49)⟩,
                 ⟨(some 51), (some (45, false)), .load true 13 (.tmp 50)⟩,
                 ⟨(some 52), (some (45, false)), .call (.func 81) [(.tmp 46), (.tmp 51)]⟩,
                 ⟨(some 53), (some (45, false)), .un .not (.tmp 52)⟩,
                 ⟨(some 54), none, .pick (.tmp 45) (.const (.bool true)) (.tmp 53)⟩])
               (.cond (.tmp 54)
                (.seq
                 (.reg [
                   ⟨(some 2), none, .mv (.const (.int .i64 62))⟩])
                 .ret)
                .skip)))
             (.reg [
               ⟨(some 23), none, .mv (.tmp 3)⟩,
               ⟨(some 24), none, .bin .add .other (.tmp 23) (.const (.int .i64 1))⟩,
               ⟨(some 3), none, .mv (.tmp 24)⟩]))))))
        (.seq
         (.reg [
           ⟨(some 2), none, .mv (.const (.int .i64 0))⟩])
         .ret)))))))
theorem F18 : compF Tryz.prog 18 = some ⟨1, 55, [.tmp 2], c18⟩ := by kernel_rfl
theorem B18 : Bod Tryz.prog 18 := bod_of F18
/-- quaestor/contract.Field -/
def c21 : ACode :=
  (.seq
   (.reg [
     ⟨(some 2), none, .box (.tmp 0)⟩,
     ⟨(some 4), none, .mv (.const (.int .i64 0))⟩])
   (.seq
    (.reg [
      ⟨(some 5), none, .fad 1 (.tmp 2)⟩,
      ⟨(some 6), none, .load false 1 (.tmp 5)⟩,
      ⟨(some 7), none, .mv (.tmp 1)⟩,
      ⟨(some 8), none, .call (.func 89) [(.tmp 6), (.tmp 7), (.func 65)]⟩,
      ⟨(some 4), none, .mv (.tmp 8)⟩])
    .ret))
theorem F21 : compF Tryz.prog 21 = some ⟨2, 9, [.tmp 4], c21⟩ := by kernel_rfl
theorem B21 : Bod Tryz.prog 21 := bod_of F21
/-- slices.Clone(()byte,byte) -/
def c39 : ACode :=
  (.seq
   (.reg [
     ⟨(some 2), none, .mv (.const (.slice none 0 0))⟩])
   (.seq
    (.seq
     (.reg [
       ⟨(some 3), none, .mv (.tmp 0)⟩,
       ⟨(some 4), none, .bin .eql .slice (.tmp 3) (.const (.slice none 0 0))⟩])
     (.cond (.tmp 4)
      (.seq
       (.reg [
         ⟨(some 2), none, .mv (.const (.slice none 0 0))⟩])
       .ret)
      .skip))
    (.seq
     (.reg [
       ⟨(some 5), none, .slit 5 1 []⟩,
       ⟨(some 6), none, .mv (.tmp 0)⟩,
       ⟨(some 7), none, .app 1 1 [.int .u8 0] 5 (.tmp 5) (.tmp 6)⟩,
       ⟨(some 2), none, .mv (.tmp 7)⟩])
     .ret)))
theorem F39 : compF Tryz.prog 39 = some ⟨1, 8, [.tmp 2], c39⟩ := by kernel_rfl
theorem B39 : Bod Tryz.prog 39 := bod_of F39
/-- quaestor/contract.list(quaestor/api.Field) -/
def c40 : ACode :=
  (.seq
   (.reg [
     ⟨(some 6), none, .mv (.const (.slice none 0 0))⟩])
   (.seq
    (.reg [
      ⟨(some 9), none, .mv (.tmp 0)⟩,
      ⟨(some 10), none, .mv (.tmp 1)⟩,
      ⟨(some 11), none, .len false (.tmp 10)⟩,
      ⟨(some 12), none, .call (.func 108) [(.tmp 9), (.tmp 11)]⟩,
      ⟨(some 0), none, .mv (.tmp 12)⟩])
    (.seq
     (.seq
      (.reg [
        ⟨(some 13), none, .mv (.tmp 1)⟩,
        ⟨(some 14), none, .len false (.tmp 13)⟩,
        ⟨(some 15), none, .mv (.const (.int .i64 0))⟩])
      (.block 0
       (.loop
        (.seq
         (.reg [
           ⟨(some 16), none, .bin .lss .other (.tmp 15) (.tmp 14)⟩])
         (.seq
          (.cond (.tmp 16)
           .skip
           (.exit 0))
          (.seq
           (.block 1
            (.seq
             (.reg [
               ⟨(some 17), none, .iad 8 (.tmp 13) (.tmp 15)⟩,
               ⟨(some 18), none, .load true 8 (.tmp 17)⟩,
               ⟨(some 8), none, .alloc [.string ⟨#[]⟩, .int .i64 0, .slice none 0 0, .int .i64 0, .int .i64 0, .bool false, .string ⟨#[]⟩, .float .f64 0]⟩,
               ⟨none, none, .store 8 (.tmp 8) (.tmp 18)⟩])
             (.reg [
               ⟨(some 19), none, .mv (.tmp 2)⟩,
               ⟨(some 20), none, .mv (.tmp 0)⟩,
               ⟨(some 21), none, .load true 8 (.tmp 8)⟩,
               ⟨(some 22), none, .call (.tmp 19) [(.tmp 20), (.tmp 21)]⟩,
               ⟨(some 0), none, .mv (.tmp 22)⟩])))
           (.reg [
             ⟨(some 23), none, .bin .add .other (.tmp 15) (.const (.int .i64 1))⟩,
             ⟨(some 15), none, .mv (.tmp 23)⟩])))))))
     (.seq
      (.reg [
        ⟨(some 24), none, .mv (.tmp 0)⟩,
        ⟨(some 6), none, .mv (.tmp 24)⟩])
      .ret))))
theorem F40 : compF Tryz.prog 40 = some ⟨3, 25, [.tmp 6], c40⟩ := by kernel_rfl
theorem B40 : Bod Tryz.prog 40 := bod_of F40
/-- quaestor/contract.text -/
def c41 : ACode :=
  (.seq
   (.reg [
     ⟨(some 4), none, .mv (.const (.slice none 0 0))⟩])
   (.seq
    (.reg [
      ⟨(some 5), none, .mv (.tmp 0)⟩,
      ⟨(some 6), none, .mv (.tmp 1)⟩,
      ⟨(some 7), none, .s2b 5 (.tmp 6)⟩,
      ⟨(some 8), none, .call (.func 109) [(.tmp 5), (.tmp 7)]⟩,
      ⟨(some 4), none, .mv (.tmp 8)⟩])
    .ret))
theorem F41 : compF Tryz.prog 41 = some ⟨2, 9, [.tmp 4], c41⟩ := by kernel_rfl
theorem B41 : Bod Tryz.prog 41 := bod_of F41
/-- quaestor/contract.Put$1 -/
def c42 : ACode :=
  (.seq
   (.reg [
     ⟨(some 3), none, .box (.tmp 1)⟩,
     ⟨(some 4), none, .mv (.const (.slice none 0 0))⟩])
   (.seq
    (.dreg 9 [
      ⟨(some 5), none, .mv (.tmp 0)⟩,
      ⟨(some 6), none, .fad 0 (.tmp 3)⟩,
      ⟨(some 7), none, .load false 1 (.tmp 6)⟩,
      ⟨(some 8), none, .call (.func 41) [(.tmp 5), (.tmp 7)]⟩,
      ⟨(some 9), none, .fad 1 (.tmp 3)⟩,
      ⟨(some 10), none, .load false 1 (.tmp 9)⟩,
      ⟨(some 11), none, .call (.func 44) [(.tmp 8), (.tmp 10)]⟩,
      ⟨(some 12), none, .fad 2 (.tmp 3)⟩,
      ⟨(some 13), none, .load false 1 (.tmp 12)⟩,
      ⟨(some 14), none, .call (.func 43) [(.tmp 11), (.tmp 13), (.func 41)]⟩,
      ⟨(some 0), none, .mv (.tmp 14)⟩])
    (.seq
     (.reg [
       ⟨(some 15), none, .mv (.tmp 0)⟩,
       ⟨(some 16), none, .fad 3 (.tmp 3)⟩,
       ⟨(some 17), none, .load true 5 (.tmp 16)⟩,
       ⟨(some 18), none, .call (.func 45) [(.tmp 15), (.tmp 17)]⟩,
       ⟨(some 4), none, .mv (.tmp 18)⟩])
     .ret)))
theorem F42 : compF Tryz.prog 42 = some ⟨2, 19, [.tmp 4], c42⟩ := by kernel_rfl
theorem B42 : Bod Tryz.prog 42 := bod_of F42
/-- quaestor/contract.list(string) -/
def c43 : ACode :=
  (.seq
   (.reg [
     ⟨(some 6), none, .mv (.const (.slice none 0 0))⟩])
   (.seq
    (.reg [
      ⟨(some 9), none, .mv (.tmp 0)⟩,
      ⟨(some 10), none, .mv (.tmp 1)⟩,
      ⟨(some 11), none, .len false (.tmp 10)⟩,
      ⟨(some 12), none, .call (.func 108) [(.tmp 9), (.tmp 11)]⟩,
      ⟨(some 0), none, .mv (.tmp 12)⟩])
    (.seq
     (.seq
      (.reg [
        ⟨(some 13), none, .mv (.tmp 1)⟩,
        ⟨(some 14), none, .len false (.tmp 13)⟩,
        ⟨(some 15), none, .mv (.const (.int .i64 0))⟩])
      (.block 0
       (.loop
        (.seq
         (.reg [
           ⟨(some 16), none, .bin .lss .other (.tmp 15) (.tmp 14)⟩])
         (.seq
          (.cond (.tmp 16)
           .skip
           (.exit 0))
          (.seq
           (.block 1
            (.seq
             (.reg [
               ⟨(some 17), none, .iad 1 (.tmp 13) (.tmp 15)⟩,
               ⟨(some 18), none, .load false 1 (.tmp 17)⟩,
               ⟨(some 8), none, .mv (.tmp 18)⟩])
             (.reg [
               ⟨(some 19), none, .mv (.tmp 2)⟩,
               ⟨(some 20), none, .mv (.tmp 0)⟩,
               ⟨(some 21), none, .mv (.tmp 8)⟩,
               ⟨(some 22), none, .call (.tmp 19) [(.tmp 20), (.tmp 21)]⟩,
               ⟨(some 0), none, .mv (.tmp 22)⟩])))
           (.reg [
             ⟨(some 23), none, .bin .add .other (.tmp 15) (.const (.int .i64 1))⟩,
             ⟨(some 15), none, .mv (.tmp 23)⟩])))))))
     (.seq
      (.reg [
        ⟨(some 24), none, .mv (.tmp 0)⟩,
        ⟨(some 6), none, .mv (.tmp 24)⟩])
      .ret))))
theorem F43 : compF Tryz.prog 43 = some ⟨3, 25, [.tmp 6], c43⟩ := by kernel_rfl
theorem B43 : Bod Tryz.prog 43 := bod_of F43
/-- quaestor/contract.number -/
def c44 : ACode :=
  (.seq
   (.reg [
     ⟨(some 4), none, .mv (.const (.slice none 0 0))⟩])
   (.seq
    (.reg [
      ⟨(some 5), none, .mv (.tmp 0)⟩,
      ⟨(some 6), none, .mv (.tmp 1)⟩,
      ⟨(some 7), none, .call (.func 110) [(.tmp 5), (.tmp 6)]⟩,
      ⟨(some 4), none, .mv (.tmp 7)⟩])
    .ret))
theorem F44 : compF Tryz.prog 44 = some ⟨2, 8, [.tmp 4], c44⟩ := by kernel_rfl
theorem B44 : Bod Tryz.prog 44 := bod_of F44
/-- quaestor/value.Put -/
def c45 : ACode :=
  (.seq
   (.reg [
     ⟨(some 3), none, .box (.tmp 1)⟩,
     ⟨(some 4), none, .mv (.const (.slice none 0 0))⟩])
   (.seq
    (.reg [
      ⟨(some 5), none, .mv (.tmp 0)⟩,
      ⟨(some 6), none, .fad 0 (.tmp 3)⟩,
      ⟨(some 7), none, .load false 1 (.tmp 6)⟩,
      ⟨(some 8), none, .call (.func 110) [(.tmp 5), (.tmp 7)]⟩,
      ⟨(some 0), none, .mv (.tmp 8)⟩])
    (.seq
     (.seq
      (.reg [
        ⟨(some 9), none, .fad 0 (.tmp 3)⟩,
        ⟨(some 10), none, .load false 1 (.tmp 9)⟩])
      (.block 0
       (.seq
        (.reg [
          ⟨(some 12), none, .bin .eql .other (.tmp 10) (.const (.int .i64 1))⟩,
          ⟨(some 11), none, .mv (.tmp 12)⟩])
        (.cond (.tmp 11)
         (.reg [
           ⟨(some 13), none, .mv (.tmp 0)⟩,
           ⟨(some 14), none, .fad 1 (.tmp 3)⟩,
           ⟨(some 15), none, .load false 1 (.tmp 14)⟩,
           ⟨(some 16), none, .call (.func 110) [(.tmp 13), (.tmp 15)]⟩,
           ⟨(some 0), none, .mv (.tmp 16)⟩])
         (.seq
          (.reg [
            ⟨(some 18), none, .bin .eql .other (.tmp 10) (.const (.int .i64 2))⟩,
            ⟨(some 17), none, .mv (.tmp 18)⟩])
          (.cond (.tmp 17)
           (.reg [
             ⟨(some 19), none, .mv (.tmp 0)⟩,
             ⟨(some 20), none, .fad 2 (.tmp 3)⟩,
             ⟨(some 21), none, .load false 1 (.tmp 20)⟩,
             ⟨(some 22), none, .call (.func 111) [(.tmp 19), (.tmp 21)]⟩,
             ⟨(some 0), none, .mv (.tmp 22)⟩])
           (.seq
            (.reg [
              ⟨(some 24), none, .bin .eql .other (.tmp 10) (.const (.int .i64 3))⟩,
              ⟨(some 23), none, .mv (.tmp 24)⟩])
            (.cond (.tmp 23)
             (.reg [
               ⟨(some 25), none, .mv (.tmp 0)⟩,
               ⟨(some 26), none, .fad 3 (.tmp 3)⟩,
               ⟨(some 27), none, .load false 1 (.tmp 26)⟩,
               ⟨(some 28), none, .s2b 5 (.tmp 27)⟩,
               ⟨(some 29), none, .call (.func 109) [(.tmp 25), (.tmp 28)]⟩,
               ⟨(some 0), none, .mv (.tmp 29)⟩])
             (.seq
              (.reg [
                ⟨(some 31), none, .bin .eql .other (.tmp 10) (.const (.int .i64 4))⟩,
                ⟨(some 30), none, .mv (.tmp 31)⟩])
              (.cond (.tmp 30)
               (.reg [
                 ⟨(some 32), none, .mv (.tmp 0)⟩,
                 ⟨(some 33), none, .fad 4 (.tmp 3)⟩,
                 ⟨(some 34), none, .load false 1 (.tmp 33)⟩,
                 ⟨(some 35), none, .call (.func 112) [(.tmp 32), (.tmp 34)]⟩,
                 ⟨(some 0), none, .mv (.tmp 35)⟩])
               .skip))))))))))
     (.seq
      (.reg [
        ⟨(some 36), none, .mv (.tmp 0)⟩,
        ⟨(some 4), none, .mv (.tmp 36)⟩])
      .ret))))
theorem F45 : compF Tryz.prog 45 = some ⟨2, 37, [.tmp 4], c45⟩ := by kernel_rfl
theorem B45 : Bod Tryz.prog 45 := bod_of F45
/-- quaestor/contract.list(quaestor/api.Stage) -/
def c46 : ACode :=
  (.seq
   (.reg [
     ⟨(some 6), none, .mv (.const (.slice none 0 0))⟩])
   (.seq
    (.reg [
      ⟨(some 9), none, .mv (.tmp 0)⟩,
      ⟨(some 10), none, .mv (.tmp 1)⟩,
      ⟨(some 11), none, .len false (.tmp 10)⟩,
      ⟨(some 12), none, .call (.func 108) [(.tmp 9), (.tmp 11)]⟩,
      ⟨(some 0), none, .mv (.tmp 12)⟩])
    (.seq
     (.seq
      (.reg [
        ⟨(some 13), none, .mv (.tmp 1)⟩,
        ⟨(some 14), none, .len false (.tmp 13)⟩,
        ⟨(some 15), none, .mv (.const (.int .i64 0))⟩])
      (.block 0
       (.loop
        (.seq
         (.reg [
           ⟨(some 16), none, .bin .lss .other (.tmp 15) (.tmp 14)⟩])
         (.seq
          (.cond (.tmp 16)
           .skip
           (.exit 0))
          (.seq
           (.block 1
            (.seq
             (.reg [
               ⟨(some 17), none, .iad 3 (.tmp 13) (.tmp 15)⟩,
               ⟨(some 18), none, .load true 3 (.tmp 17)⟩,
               ⟨(some 8), none, .alloc [.string ⟨#[]⟩, .int .i64 0, .slice none 0 0]⟩,
               ⟨none, none, .store 3 (.tmp 8) (.tmp 18)⟩])
             (.reg [
               ⟨(some 19), none, .mv (.tmp 2)⟩,
               ⟨(some 20), none, .mv (.tmp 0)⟩,
               ⟨(some 21), none, .load true 3 (.tmp 8)⟩,
               ⟨(some 22), none, .call (.tmp 19) [(.tmp 20), (.tmp 21)]⟩,
               ⟨(some 0), none, .mv (.tmp 22)⟩])))
           (.reg [
             ⟨(some 23), none, .bin .add .other (.tmp 15) (.const (.int .i64 1))⟩,
             ⟨(some 15), none, .mv (.tmp 23)⟩])))))))
     (.seq
      (.reg [
        ⟨(some 24), none, .mv (.tmp 0)⟩,
        ⟨(some 6), none, .mv (.tmp 24)⟩])
      .ret))))
theorem F46 : compF Tryz.prog 46 = some ⟨3, 25, [.tmp 6], c46⟩ := by kernel_rfl
theorem B46 : Bod Tryz.prog 46 := bod_of F46
/-- quaestor/contract.Put$2 -/
def c47 : ACode :=
  (.seq
   (.reg [
     ⟨(some 3), none, .box (.tmp 1)⟩,
     ⟨(some 4), none, .mv (.const (.slice none 0 0))⟩])
   (.seq
    (.dreg 9 [
      ⟨(some 5), none, .mv (.tmp 0)⟩,
      ⟨(some 6), none, .fad 0 (.tmp 3)⟩,
      ⟨(some 7), none, .load false 1 (.tmp 6)⟩,
      ⟨(some 8), none, .call (.func 41) [(.tmp 5), (.tmp 7)]⟩,
      ⟨(some 9), none, .fad 1 (.tmp 3)⟩,
      ⟨(some 10), none, .load false 1 (.tmp 9)⟩,
      ⟨(some 11), none, .call (.func 44) [(.tmp 8), (.tmp 10)]⟩,
      ⟨(some 12), none, .fad 2 (.tmp 3)⟩,
      ⟨(some 13), none, .load false 1 (.tmp 12)⟩,
      ⟨(some 14), none, .call (.func 48) [(.tmp 11), (.tmp 13), (.func 44)]⟩,
      ⟨(some 4), none, .mv (.tmp 14)⟩])
    .ret))
theorem F47 : compF Tryz.prog 47 = some ⟨2, 15, [.tmp 4], c47⟩ := by kernel_rfl
theorem B47 : Bod Tryz.prog 47 := bod_of F47
/-- quaestor/contract.list(int) -/
def c48 : ACode :=
  (.seq
   (.reg [
     ⟨(some 6), none, .mv (.const (.slice none 0 0))⟩])
   (.seq
    (.reg [
      ⟨(some 9), none, .mv (.tmp 0)⟩,
      ⟨(some 10), none, .mv (.tmp 1)⟩,
      ⟨(some 11), none, .len false (.tmp 10)⟩,
      ⟨(some 12), none, .call (.func 108) [(.tmp 9), (.tmp 11)]⟩,
      ⟨(some 0), none, .mv (.tmp 12)⟩])
    (.seq
     (.seq
      (.reg [
        ⟨(some 13), none, .mv (.tmp 1)⟩,
        ⟨(some 14), none, .len false (.tmp 13)⟩,
        ⟨(some 15), none, .mv (.const (.int .i64 0))⟩])
      (.block 0
       (.loop
        (.seq
         (.reg [
           ⟨(some 16), none, .bin .lss .other (.tmp 15) (.tmp 14)⟩])
         (.seq
          (.cond (.tmp 16)
           .skip
           (.exit 0))
          (.seq
           (.block 1
            (.seq
             (.reg [
               ⟨(some 17), none, .iad 1 (.tmp 13) (.tmp 15)⟩,
               ⟨(some 18), none, .load false 1 (.tmp 17)⟩,
               ⟨(some 8), none, .mv (.tmp 18)⟩])
             (.reg [
               ⟨(some 19), none, .mv (.tmp 2)⟩,
               ⟨(some 20), none, .mv (.tmp 0)⟩,
               ⟨(some 21), none, .mv (.tmp 8)⟩,
               ⟨(some 22), none, .call (.tmp 19) [(.tmp 20), (.tmp 21)]⟩,
               ⟨(some 0), none, .mv (.tmp 22)⟩])))
           (.reg [
             ⟨(some 23), none, .bin .add .other (.tmp 15) (.const (.int .i64 1))⟩,
             ⟨(some 15), none, .mv (.tmp 23)⟩])))))))
     (.seq
      (.reg [
        ⟨(some 24), none, .mv (.tmp 0)⟩,
        ⟨(some 6), none, .mv (.tmp 24)⟩])
      .ret))))
theorem F48 : compF Tryz.prog 48 = some ⟨3, 25, [.tmp 6], c48⟩ := by kernel_rfl
theorem B48 : Bod Tryz.prog 48 := bod_of F48
/-- quaestor/contract.list(quaestor/api.Move) -/
def c49 : ACode :=
  (.seq
   (.reg [
     ⟨(some 6), none, .mv (.const (.slice none 0 0))⟩])
   (.seq
    (.reg [
      ⟨(some 9), none, .mv (.tmp 0)⟩,
      ⟨(some 10), none, .mv (.tmp 1)⟩,
      ⟨(some 11), none, .len false (.tmp 10)⟩,
      ⟨(some 12), none, .call (.func 108) [(.tmp 9), (.tmp 11)]⟩,
      ⟨(some 0), none, .mv (.tmp 12)⟩])
    (.seq
     (.seq
      (.reg [
        ⟨(some 13), none, .mv (.tmp 1)⟩,
        ⟨(some 14), none, .len false (.tmp 13)⟩,
        ⟨(some 15), none, .mv (.const (.int .i64 0))⟩])
      (.block 0
       (.loop
        (.seq
         (.reg [
           ⟨(some 16), none, .bin .lss .other (.tmp 15) (.tmp 14)⟩])
         (.seq
          (.cond (.tmp 16)
           .skip
           (.exit 0))
          (.seq
           (.block 1
            (.seq
             (.reg [
               ⟨(some 17), none, .iad 13 (.tmp 13) (.tmp 15)⟩,
               ⟨(some 18), none, .load true 13 (.tmp 17)⟩,
               ⟨(some 8), none, .alloc [.string ⟨#[]⟩, .int .i64 0, .int .i64 0, .int .i64 0, .slice none 0 0, .string ⟨#[]⟩, .int .i64 0, .int .i64 0, .bool false, .string ⟨#[]⟩, .float .f64 0, .slice none 0 0, .int .i64 0]⟩,
               ⟨none, none, .store 13 (.tmp 8) (.tmp 18)⟩])
             (.reg [
               ⟨(some 19), none, .mv (.tmp 2)⟩,
               ⟨(some 20), none, .mv (.tmp 0)⟩,
               ⟨(some 21), none, .load true 13 (.tmp 8)⟩,
               ⟨(some 22), none, .call (.tmp 19) [(.tmp 20), (.tmp 21)]⟩,
               ⟨(some 0), none, .mv (.tmp 22)⟩])))
           (.reg [
             ⟨(some 23), none, .bin .add .other (.tmp 15) (.const (.int .i64 1))⟩,
             ⟨(some 15), none, .mv (.tmp 23)⟩])))))))
     (.seq
      (.reg [
        ⟨(some 24), none, .mv (.tmp 0)⟩,
        ⟨(some 6), none, .mv (.tmp 24)⟩])
      .ret))))
theorem F49 : compF Tryz.prog 49 = some ⟨3, 25, [.tmp 6], c49⟩ := by kernel_rfl
theorem B49 : Bod Tryz.prog 49 := bod_of F49
/-- quaestor/contract.Put$3 -/
def c50 : ACode :=
  (.seq
   (.reg [
     ⟨(some 3), none, .box (.tmp 1)⟩,
     ⟨(some 4), none, .mv (.const (.slice none 0 0))⟩])
   (.seq
    (.dreg 12 [
      ⟨(some 5), none, .mv (.tmp 0)⟩,
      ⟨(some 6), none, .fad 0 (.tmp 3)⟩,
      ⟨(some 7), none, .load false 1 (.tmp 6)⟩,
      ⟨(some 8), none, .call (.func 41) [(.tmp 5), (.tmp 7)]⟩,
      ⟨(some 9), none, .fad 1 (.tmp 3)⟩,
      ⟨(some 10), none, .load false 1 (.tmp 9)⟩,
      ⟨(some 11), none, .call (.func 44) [(.tmp 8), (.tmp 10)]⟩,
      ⟨(some 12), none, .fad 2 (.tmp 3)⟩,
      ⟨(some 13), none, .load false 1 (.tmp 12)⟩,
      ⟨(some 14), none, .call (.func 44) [(.tmp 11), (.tmp 13)]⟩,
      ⟨(some 15), none, .fad 12 (.tmp 3)⟩,
      ⟨(some 16), none, .load false 1 (.tmp 15)⟩,
      ⟨(some 17), none, .call (.func 44) [(.tmp 14), (.tmp 16)]⟩,
      ⟨(some 0), none, .mv (.tmp 17)⟩])
    (.seq
     (.dreg 6 [
       ⟨(some 18), none, .mv (.tmp 0)⟩,
       ⟨(some 19), none, .fad 3 (.tmp 3)⟩,
       ⟨(some 20), none, .load true 8 (.tmp 19)⟩,
       ⟨(some 21), none, .call (.func 52) [(.tmp 18), (.tmp 20)]⟩,
       ⟨(some 22), none, .fad 11 (.tmp 3)⟩,
       ⟨(some 23), none, .load false 1 (.tmp 22)⟩,
       ⟨(some 24), none, .call (.func 51) [(.tmp 21), (.tmp 23), (.func 53)]⟩,
       ⟨(some 4), none, .mv (.tmp 24)⟩])
     .ret)))
theorem F50 : compF Tryz.prog 50 = some ⟨2, 25, [.tmp 4], c50⟩ := by kernel_rfl
theorem B50 : Bod Tryz.prog 50 := bod_of F50
/-- quaestor/contract.list(quaestor/api.Effect) -/
def c51 : ACode :=
  (.seq
   (.reg [
     ⟨(some 6), none, .mv (.const (.slice none 0 0))⟩])
   (.seq
    (.reg [
      ⟨(some 9), none, .mv (.tmp 0)⟩,
      ⟨(some 10), none, .mv (.tmp 1)⟩,
      ⟨(some 11), none, .len false (.tmp 10)⟩,
      ⟨(some 12), none, .call (.func 108) [(.tmp 9), (.tmp 11)]⟩,
      ⟨(some 0), none, .mv (.tmp 12)⟩])
    (.seq
     (.seq
      (.reg [
        ⟨(some 13), none, .mv (.tmp 1)⟩,
        ⟨(some 14), none, .len false (.tmp 13)⟩,
        ⟨(some 15), none, .mv (.const (.int .i64 0))⟩])
      (.block 0
       (.loop
        (.seq
         (.reg [
           ⟨(some 16), none, .bin .lss .other (.tmp 15) (.tmp 14)⟩])
         (.seq
          (.cond (.tmp 16)
           .skip
           (.exit 0))
          (.seq
           (.block 1
            (.seq
             (.reg [
               ⟨(some 17), none, .iad 9 (.tmp 13) (.tmp 15)⟩,
               ⟨(some 18), none, .load true 9 (.tmp 17)⟩,
               ⟨(some 8), none, .alloc [.string ⟨#[]⟩, .int .i64 0, .slice none 0 0, .string ⟨#[]⟩, .int .i64 0, .int .i64 0, .bool false, .string ⟨#[]⟩, .float .f64 0]⟩,
               ⟨none, none, .store 9 (.tmp 8) (.tmp 18)⟩])
             (.reg [
               ⟨(some 19), none, .mv (.tmp 2)⟩,
               ⟨(some 20), none, .mv (.tmp 0)⟩,
               ⟨(some 21), none, .load true 9 (.tmp 8)⟩,
               ⟨(some 22), none, .call (.tmp 19) [(.tmp 20), (.tmp 21)]⟩,
               ⟨(some 0), none, .mv (.tmp 22)⟩])))
           (.reg [
             ⟨(some 23), none, .bin .add .other (.tmp 15) (.const (.int .i64 1))⟩,
             ⟨(some 15), none, .mv (.tmp 23)⟩])))))))
     (.seq
      (.reg [
        ⟨(some 24), none, .mv (.tmp 0)⟩,
        ⟨(some 6), none, .mv (.tmp 24)⟩])
      .ret))))
theorem F51 : compF Tryz.prog 51 = some ⟨3, 25, [.tmp 6], c51⟩ := by kernel_rfl
theorem B51 : Bod Tryz.prog 51 := bod_of F51
/-- quaestor/expr.Put -/
def c52 : ACode :=
  (.seq
   (.reg [
     ⟨(some 3), none, .box (.tmp 1)⟩,
     ⟨(some 4), none, .mv (.const (.slice none 0 0))⟩])
   (.seq
    (.reg [
      ⟨(some 5), none, .mv (.tmp 0)⟩,
      ⟨(some 6), none, .call (.func 39) [(.tmp 5)]⟩,
      ⟨(some 0), none, .mv (.tmp 6)⟩])
    (.seq
     (.seq
      (.reg [
        ⟨(some 7), none, .load true 8 (.tmp 3)⟩,
        ⟨(some 8), none, .call (.func 85) [(.tmp 7)]⟩])
      (.cond (.tmp 8)
       (.reg [
         ⟨(some 9), none, .mv (.tmp 0)⟩,
         ⟨(some 10), none, .load true 8 (.tmp 3)⟩,
         ⟨(some 11), none, .call (.func 113) [(.tmp 9), (.tmp 10)]⟩,
         ⟨(some 0), none, .mv (.tmp 11)⟩])
       .skip))
     (.seq
      (.reg [
        ⟨(some 12), none, .mv (.tmp 0)⟩,
        ⟨(some 4), none, .mv (.tmp 12)⟩])
      .ret))))
theorem F52 : compF Tryz.prog 52 = some ⟨2, 13, [.tmp 4], c52⟩ := by kernel_rfl
theorem B52 : Bod Tryz.prog 52 := bod_of F52
/-- quaestor/contract.Put$3$1 -/
def c53 : ACode :=
  (.seq
   (.reg [
     ⟨(some 3), none, .box (.tmp 1)⟩,
     ⟨(some 4), none, .mv (.const (.slice none 0 0))⟩])
   (.seq
    (.dreg 6 [
      ⟨(some 5), none, .mv (.tmp 0)⟩,
      ⟨(some 6), none, .fad 0 (.tmp 3)⟩,
      ⟨(some 7), none, .load false 1 (.tmp 6)⟩,
      ⟨(some 8), none, .call (.func 41) [(.tmp 5), (.tmp 7)]⟩,
      ⟨(some 9), none, .fad 1 (.tmp 3)⟩,
      ⟨(some 10), none, .load true 8 (.tmp 9)⟩,
      ⟨(some 11), none, .call (.func 52) [(.tmp 8), (.tmp 10)]⟩,
      ⟨(some 4), none, .mv (.tmp 11)⟩])
    .ret))
theorem F53 : compF Tryz.prog 53 = some ⟨2, 12, [.tmp 4], c53⟩ := by kernel_rfl
theorem B53 : Bod Tryz.prog 53 := bod_of F53
/-- quaestor/quaestorref01.Count -/
def c54 : ACode :=
  (.seq
   (.reg [
     ⟨(some 4), none, .mv (.const (.slice none 0 0))⟩])
   (.seq
    (.reg [
      ⟨(some 5), none, .mv (.tmp 0)⟩,
      ⟨(some 6), none, .mv (.tmp 1)⟩,
      ⟨(some 7), none, .mm false [(.tmp 6), (.const (.int .i64 4294967295))]⟩,
      ⟨(some 8), none, .mm true [(.const (.int .i64 0)), (.tmp 7)]⟩,
      ⟨(some 9), none, .cvi .u64 (.tmp 8)⟩,
      ⟨(some 10), none, .call (.func 114) [(.tmp 5), (.tmp 9), (.const (.int .i64 4))]⟩,
      ⟨(some 4), none, .mv (.tmp 10)⟩])
    .ret))
theorem F54 : compF Tryz.prog 54 = some ⟨2, 11, [.tmp 4], c54⟩ := by kernel_rfl
theorem B54 : Bod Tryz.prog 54 := bod_of F54
/-- quaestor/quaestorref06.text -/
def c55 : ACode :=
  (.seq
   (.reg [
     ⟨(some 4), none, .mv (.const (.slice none 0 0))⟩])
   (.seq
    (.reg [
      ⟨(some 5), none, .mv (.tmp 0)⟩,
      ⟨(some 6), none, .mv (.tmp 1)⟩,
      ⟨(some 7), none, .s2b 5 (.tmp 6)⟩,
      ⟨(some 8), none, .call (.func 115) [(.tmp 5), (.tmp 7)]⟩,
      ⟨(some 4), none, .mv (.tmp 8)⟩])
    .ret))
theorem F55 : compF Tryz.prog 55 = some ⟨2, 9, [.tmp 4], c55⟩ := by kernel_rfl
theorem B55 : Bod Tryz.prog 55 := bod_of F55
/-- quaestor/quaestorref01.Int -/
def c56 : ACode :=
  (.seq
   (.reg [
     ⟨(some 4), none, .mv (.const (.slice none 0 0))⟩])
   (.seq
    (.reg [
      ⟨(some 5), none, .mv (.tmp 0)⟩,
      ⟨(some 6), none, .mv (.tmp 1)⟩,
      ⟨(some 7), none, .cvi .u64 (.tmp 6)⟩,
      ⟨(some 8), none, .call (.func 114) [(.tmp 5), (.tmp 7), (.const (.int .i64 8))]⟩,
      ⟨(some 4), none, .mv (.tmp 8)⟩])
    .ret))
theorem F56 : compF Tryz.prog 56 = some ⟨2, 9, [.tmp 4], c56⟩ := by kernel_rfl
theorem B56 : Bod Tryz.prog 56 := bod_of F56
/-- quaestor/quaestorref04.Put -/
def c57 : ACode :=
  (.seq
   (.reg [
     ⟨(some 3), none, .box (.tmp 1)⟩,
     ⟨(some 4), none, .mv (.const (.slice none 0 0))⟩])
   (.seq
    (.reg [
      ⟨(some 5), none, .mv (.tmp 0)⟩,
      ⟨(some 6), none, .fad 0 (.tmp 3)⟩,
      ⟨(some 7), none, .load false 1 (.tmp 6)⟩,
      ⟨(some 8), none, .call (.func 56) [(.tmp 5), (.tmp 7)]⟩,
      ⟨(some 0), none, .mv (.tmp 8)⟩])
    (.seq
     (.seq
      (.reg [
        ⟨(some 9), none, .fad 0 (.tmp 3)⟩,
        ⟨(some 10), none, .load false 1 (.tmp 9)⟩])
      (.block 0
       (.seq
        (.reg [
          ⟨(some 12), none, .bin .eql .other (.tmp 10) (.const (.int .i64 1))⟩,
          ⟨(some 11), none, .mv (.tmp 12)⟩])
        (.cond (.tmp 11)
         (.seq
          (.reg [
            ⟨(some 13), none, .mv (.tmp 0)⟩,
            ⟨(some 14), none, .fad 1 (.tmp 3)⟩,
            ⟨(some 15), none, .load false 1 (.tmp 14)⟩,
            ⟨(some 16), none, .call (.func 56) [(.tmp 13), (.tmp 15)]⟩,
            ⟨(some 4), none, .mv (.tmp 16)⟩])
          .ret)
         (.seq
          (.reg [
            ⟨(some 18), none, .bin .eql .other (.tmp 10) (.const (.int .i64 2))⟩,
            ⟨(some 17), none, .mv (.tmp 18)⟩])
          (.cond (.tmp 17)
           (.seq
            (.reg [
              ⟨(some 19), none, .mv (.tmp 0)⟩,
              ⟨(some 20), none, .fad 2 (.tmp 3)⟩,
              ⟨(some 21), none, .load false 1 (.tmp 20)⟩,
              ⟨(some 22), none, .call (.func 116) [(.tmp 19), (.tmp 21)]⟩,
              ⟨(some 4), none, .mv (.tmp 22)⟩])
            .ret)
           (.seq
            (.reg [
              ⟨(some 24), none, .bin .eql .other (.tmp 10) (.const (.int .i64 3))⟩,
              ⟨(some 23), none, .mv (.tmp 24)⟩])
            (.cond (.tmp 23)
             (.seq
              (.reg [
                ⟨(some 25), none, .mv (.tmp 0)⟩,
                ⟨(some 26), none, .fad 3 (.tmp 3)⟩,
                ⟨(some 27), none, .load false 1 (.tmp 26)⟩,
                ⟨(some 28), none, .s2b 5 (.tmp 27)⟩,
                ⟨(some 29), none, .call (.func 115) [(.tmp 25), (.tmp 28)]⟩,
                ⟨(some 4), none, .mv (.tmp 29)⟩])
              .ret)
             (.seq
              (.reg [
                ⟨(some 31), none, .bin .eql .other (.tmp 10) (.const (.int .i64 4))⟩,
                ⟨(some 30), none, .mv (.tmp 31)⟩])
              (.cond (.tmp 30)
               (.seq
                (.reg [
                  ⟨(some 32), none, .mv (.tmp 0)⟩,
                  ⟨(some 33), none, .fad 4 (.tmp 3)⟩,
                  ⟨(some 34), none, .load false 1 (.tmp 33)⟩,
                  ⟨(some 35), none, .call (.func 117) [(.tmp 32), (.tmp 34)]⟩,
                  ⟨(some 4), none, .mv (.tmp 35)⟩])
                .ret)
               .skip))))))))))
     (.seq
      (.reg [
        ⟨(some 36), none, .mv (.tmp 0)⟩,
        ⟨(some 4), none, .mv (.tmp 36)⟩])
      .ret))))
theorem F57 : compF Tryz.prog 57 = some ⟨2, 37, [.tmp 4], c57⟩ := by kernel_rfl
theorem B57 : Bod Tryz.prog 57 := bod_of F57
/-- quaestor/quaestorref05.Put -/
def c58 : ACode :=
  (.seq
   (.reg [
     ⟨(some 3), none, .box (.tmp 1)⟩,
     ⟨(some 4), none, .mv (.const (.slice none 0 0))⟩])
   (.seq
    (.seq
     (.reg [
       ⟨(some 5), none, .load true 8 (.tmp 3)⟩,
       ⟨(some 6), none, .call (.func 118) [(.tmp 5)]⟩,
       ⟨(some 7), none, .un .not (.tmp 6)⟩])
     (.cond (.tmp 7)
      (.seq
       (.reg [
         ⟨(some 8), none, .slit 5 1 []⟩,
         ⟨(some 9), none, .mv (.tmp 0)⟩,
         ⟨(some 10), none, .app 1 1 [.int .u8 0] 5 (.tmp 8) (.tmp 9)⟩,
         ⟨(some 4), none, .mv (.tmp 10)⟩])
       .ret)
      .skip))
    (.seq
     (.reg [
       ⟨(some 11), none, .mv (.tmp 0)⟩,
       ⟨(some 12), none, .load true 8 (.tmp 3)⟩,
       ⟨(some 13), none, .call (.func 119) [(.tmp 11), (.tmp 12)]⟩,
       ⟨(some 4), none, .mv (.tmp 13)⟩])
     .ret)))
theorem F58 : compF Tryz.prog 58 = some ⟨2, 14, [.tmp 4], c58⟩ := by kernel_rfl
theorem B58 : Bod Tryz.prog 58 := bod_of F58
/-- quaestor/quaestorlaw06.One -/
def c59 : ACode :=
  (.seq
   (.reg [
     ⟨(some 0), none, .alloc [.string ⟨#[]⟩, .slice none 0 0, .slice none 0 0, .slice none 0 0]⟩])
   (.seq
    (.reg [
      ⟨(some 2), none, .build [.int .i64 0, .int .i64 0, .bool false, .string ⟨#[]⟩, .float .f64 0] [(0, 1, (.const (.int .i64 2))), (2, 1, (.const (.bool true)))]⟩,
      ⟨(some 3), none, .build [.int .i64 0, .slice none 0 0, .string ⟨#[]⟩, .int .i64 0, .int .i64 0, .bool false, .string ⟨#[]⟩, .float .f64 0] [(0, 1, (.const (.int .i64 1))), (3, 5, (.tmp 2))]⟩,
      ⟨(some 1), none, .alloc [.int .i64 0, .slice none 0 0, .string ⟨#[]⟩, .int .i64 0, .int .i64 0, .bool false, .string ⟨#[]⟩, .float .f64 0]⟩,
      ⟨none, none, .store 8 (.tmp 1) (.tmp 3)⟩])
    (.seq
     (.reg [
       ⟨(some 4), none, .build [.int .i64 0, .int .i64 0, .bool false, .string ⟨#[]⟩, .float .f64 0] [(0, 1, (.const (.int .i64 1)))]⟩,
       ⟨(some 5), none, .build [.string ⟨#[]⟩, .int .i64 0, .slice none 0 0, .int .i64 0, .int .i64 0, .bool false, .string ⟨#[]⟩, .float .f64 0] [(0, 1, (.const (.string ⟨#[110]⟩))), (1, 1, (.const (.int .i64 1))), (3, 5, (.tmp 4))]⟩,
       ⟨(some 6), none, .slit 41 8 [(.tmp 5)]⟩,
       ⟨(some 7), none, .build [.string ⟨#[]⟩, .int .i64 0, .slice none 0 0] [(0, 1, (.const (.string ⟨#[115]⟩)))]⟩,
       ⟨(some 8), none, .slit 3 1 [(.const (.int .i64 0)), (.const (.int .i64 2))]⟩,
       ⟨(some 9), none, .build [.string ⟨#[]⟩, .int .i64 0, .slice none 0 0] [(0, 1, (.const (.string ⟨#[116]⟩))), (1, 1, (.const (.int .i64 1))), (2, 1, (.tmp 8))]⟩,
       ⟨(some 10), none, .slit 85 3 [(.tmp 7), (.tmp 9)]⟩,
       ⟨(some 11), none, .load true 8 (.tmp 1)⟩,
       ⟨(some 12), none, .build [.string ⟨#[]⟩, .int .i64 0, .int .i64 0, .int .i64 0, .slice none 0 0, .string ⟨#[]⟩, .int .i64 0, .int .i64 0, .bool false, .string ⟨#[]⟩, .float .f64 0, .slice none 0 0, .int .i64 0] [(0, 1, (.const (.string ⟨#[109]⟩))), (1, 1, (.const (.int .i64 0))), (2, 1, (.const (.int .i64 1))), (12, 1, (.const (.int .i64 (-1)))), (3, 8, (.tmp 11))]⟩,
       ⟨(some 13), none, .slit 47 13 [(.tmp 12)]⟩,
       ⟨(some 14), none, .build [.string ⟨#[]⟩, .slice none 0 0, .slice none 0 0, .slice none 0 0] [(0, 1, (.const (.string ⟨#[99]⟩))), (1, 1, (.tmp 6)), (2, 1, (.tmp 10)), (3, 1, (.tmp 13))]⟩,
       ⟨none, none, .store 4 (.tmp 0) (.tmp 14)⟩])
     .ret)))
theorem F59 : compF Tryz.prog 59 = some ⟨0, 15, [.cell 0 true 4], c59⟩ := by kernel_rfl
theorem B59 : Bod Tryz.prog 59 := bod_of F59
/-- quaestor/contract.Stage -/
def c60 : ACode :=
  (.seq
   (.reg [
     ⟨(some 2), none, .box (.tmp 0)⟩,
     ⟨(some 4), none, .mv (.const (.int .i64 0))⟩])
   (.seq
    (.reg [
      ⟨(some 5), none, .fad 2 (.tmp 2)⟩,
      ⟨(some 6), none, .load false 1 (.tmp 5)⟩,
      ⟨(some 7), none, .mv (.tmp 1)⟩,
      ⟨(some 8), none, .call (.func 120) [(.tmp 6), (.tmp 7), (.func 70)]⟩,
      ⟨(some 4), none, .mv (.tmp 8)⟩])
    .ret))
theorem F60 : compF Tryz.prog 60 = some ⟨2, 9, [.tmp 4], c60⟩ := by kernel_rfl
theorem B60 : Bod Tryz.prog 60 := bod_of F60
/-- quaestor/contract.Check$1 -/
def c61 : ACode :=
  (.seq
   (.reg [
     ⟨(some 2), none, .box (.tmp 0)⟩,
     ⟨(some 3), none, .mv (.const (.bool false))⟩])
   (.seq
    (.reg [
      ⟨(some 4), none, .load true 4 (.tmp 1)⟩,
      ⟨(some 5), none, .load true 13 (.tmp 2)⟩,
      ⟨(some 6), none, .call (.func 62) [(.tmp 4), (.tmp 5)]⟩,
      ⟨(some 7), none, .un .not (.tmp 6)⟩,
      ⟨(some 3), none, .mv (.tmp 7)⟩])
    .ret))
theorem F61 : compF Tryz.prog 61 = some ⟨2, 8, [.tmp 3], c61⟩ := by kernel_rfl
theorem B61 : Bod Tryz.prog 61 := bod_of F61
/-- quaestor/contract.goodMove -/
def c62 : ACode :=
  (.seq
   (.reg [
     ⟨(some 2), none, .box (.tmp 0)⟩,
     ⟨(some 3), none, .box (.tmp 1)⟩,
     ⟨(some 4), none, .mv (.const (.bool false))⟩])
   (.seq
    (.reg [
      ⟨(some 10), none, .mkf 121 [] [(.tmp 2)]⟩,
      ⟨(some 5), none, .mv (.tmp 10)⟩])
    (.seq
     (.seq
      (.reg [
        ⟨(some 11), none, .mv (.tmp 5)⟩,
        ⟨(some 12), none, .fad 1 (.tmp 3)⟩,
        ⟨(some 13), none, .load false 1 (.tmp 12)⟩,
        ⟨(some 14), none, .call (.tmp 11) [(.tmp 13)]⟩,
        ⟨(some 15), none, .un .not (.tmp 14)⟩,
        ⟨(some 16), none, .mv (.tmp 15)⟩,
        ⟨(some 17), (some (16, false)), .mv (.tmp 5)⟩,
        ⟨(some 18), (some (16, false)), .fad 2 (.tmp 3)⟩,
        ⟨(some 19), (some (16, false)), .load false 1 (.tmp 18)⟩,
        ⟨(some 20), (some (16, false)), .call (.tmp 17) [(.tmp 19)]⟩,
        ⟨(some 21), (some (16, false)), .un .not (.tmp 20)⟩,
        ⟨(some 22), none, .pick (.tmp 16) (.const (.bool true)) (.tmp 21)⟩,
        ⟨(some 23), none, .mv (.tmp 22)⟩,
        ⟨(some 24), (some (23, false)), .fad 12 (.tmp 3)⟩,
        ⟨(some 25), (some (23, false)), .load false 1 (.tmp 24)⟩,
        ⟨(some 26), (some (23, false)), .bin .lss .other (.tmp 25) (.const (.int .i64 (-1)))⟩,
        ⟨(some 27), none, .pick (.tmp 23) (.const (.bool true)) (.tmp 26)⟩,
        ⟨(some 28), none, .mv (.tmp 27)⟩,
        ⟨(some 29), (some (28, false)), .fad 12 (.tmp 3)⟩,
        ⟨(some 30), (some (28, false)), .load false 1 (.tmp 29)⟩,
        ⟨(some 31), (some (28, false)), .bin .geq .other (.tmp 30) (.const (.int .i64 4))⟩,
        ⟨(some 32), none, .pick (.tmp 28) (.const (.bool true)) (.tmp 31)⟩,
        ⟨(some 33), none, .mv (.tmp 32)⟩,
        ⟨(some 34), (some (33, false)), .fad 11 (.tmp 3)⟩,
        ⟨(some 35), (some (33, false)), .load false 1 (.tmp 34)⟩,
        ⟨(some 36), (some (33, false)), .len false (.tmp 35)⟩,
        ⟨(some 37), (some (33, false)), .bin .gtr .other (.tmp 36) (.const (.int .i64 4))⟩,
        ⟨(some 38), none, .pick (.tmp 33) (.const (.bool true)) (.tmp 37)⟩,
        ⟨(some 39), none, .mv (.tmp 38)⟩,
        ⟨(some 40), (some (39, false)), .fad 3 (.tmp 3)⟩,
        ⟨(some 41), (some (39, false)), .load true 8 (.tmp 40)⟩,
        ⟨(some 42), (some (39, false)), .fad 1 (.tmp 2)⟩,
        ⟨(some 43), (some (39, false)), .load false 1 (.tmp 42)⟩,
        ⟨(some 44), (some (39, false)), .call (.func 122) [(.tmp 41), (.const (.int .i64 2)), (.tmp 43)]⟩,
        ⟨(some 45), (some (39, false)), .un .not (.tmp 44)⟩,
        ⟨(some 46), none, .pick (.tmp 39) (.const (.bool true)) (.tmp 45)⟩])
      (.cond (.tmp 46)
       (.seq
        (.reg [
          ⟨(some 4), none, .mv (.const (.bool false))⟩])
        .ret)
       .skip))
     (.seq
      (.reg [
        ⟨(some 6), none, .mv (.const (.slice none 0 0))⟩])
      (.seq
       (.seq
        (.reg [
          ⟨(some 47), none, .fad 11 (.tmp 3)⟩,
          ⟨(some 48), none, .load false 1 (.tmp 47)⟩,
          ⟨(some 49), none, .len false (.tmp 48)⟩,
          ⟨(some 50), none, .mv (.const (.int .i64 0))⟩])
        (.block 0
         (.loop
          (.seq
           (.reg [
             ⟨(some 51), none, .bin .lss .other (.tmp 50) (.tmp 49)⟩])
           (.seq
            (.cond (.tmp 51)
             .skip
             (.exit 0))
            (.seq
             (.block 1
              (.seq
               (.reg [
                 ⟨(some 52), none, .iad 9 (.tmp 48) (.tmp 50)⟩,
                 ⟨(some 53), none, .load true 9 (.tmp 52)⟩,
                 ⟨(some 8), none, .alloc [.string ⟨#[]⟩, .int .i64 0, .slice none 0 0, .string ⟨#[]⟩, .int .i64 0, .int .i64 0, .bool false, .string ⟨#[]⟩, .float .f64 0]⟩,
                 ⟨none, none, .store 9 (.tmp 8) (.tmp 53)⟩])
               (.seq
                (.reg [
                  ⟨(some 54), none, .load true 4 (.tmp 2)⟩,
                  ⟨(some 55), none, .fad 0 (.tmp 8)⟩,
                  ⟨(some 56), none, .load false 1 (.tmp 55)⟩,
                  ⟨(some 57), none, .call (.func 21) [(.tmp 54), (.tmp 56)]⟩,
                  ⟨(some 9), none, .mv (.tmp 57)⟩])
                (.seq
                 (.seq
                  (.dreg 13 [
                    ⟨(some 58), none, .mv (.tmp 9)⟩,
                    ⟨(some 59), none, .bin .lss .other (.tmp 58) (.const (.int .i64 0))⟩,
                    ⟨(some 60), none, .mv (.tmp 59)⟩,
                    ⟨(some 61), (some (60, false)), .fad 1 (.tmp 8)⟩,
                    ⟨(some 62), (some (60, false)), .load true 8 (.tmp 61)⟩,
                    ⟨(some 63), (some (60, false)), .fad 1 (.tmp 2)⟩,
                    ⟨(some 64), (some (60, false)), .load false 1 (.tmp 63)⟩,
                    ⟨(some 65), (some (60, false)), .mv (.tmp 9)⟩,
                    ⟨(some 66), (some (60, false)), .iad 8 (.tmp 64) (.tmp 65)⟩,
                    ⟨(some 67), (some (60, false)), .fad 1 (.tmp 66)⟩,
                    ⟨(some 68), (some (60, false)), .load false 1 (.tmp 67)⟩,
                    ⟨(some 69), (some (60, false)), .fad 1 (.tmp 2)⟩,
                    ⟨(some 70), (some (60, false)), .load false 1 (.tmp 69)⟩,
                    ⟨(some 71), (some (60, false)), .call (.func 122) [(.tmp 62), (.tmp 68), (.tmp 70)]⟩,
                    ⟨(some 72), (some (60, false)), .un .not (.tmp 71)⟩,
                    ⟨(some 73), none, .pick (.tmp 60) (.const (.bool true)) (.tmp 72)⟩])
                  (.cond (.tmp 73)
                   (.seq
                    (.reg [
                      ⟨(some 4), none, .mv (.const (.bool false))⟩])
                    .ret)
                   .skip))
                 (.reg [
                   ⟨(some 74), none, .mv (.tmp 6)⟩,
                   ⟨(some 75), none, .fad 0 (.tmp 8)⟩,
                   ⟨(some 76), none, .load false 1 (.tmp 75)⟩,
                   ⟨(some 77), none, .slit 9 1 [(.tmp 76)]⟩,
                   ⟨(some 78), none, .app 1 16 [.string ⟨#[]⟩] 9 (.tmp 74) (.tmp 77)⟩,
                   ⟨(some 6), none, .mv (.tmp 78)⟩])))))
             (.reg [
               ⟨(some 79), none, .bin .add .other (.tmp 50) (.const (.int .i64 1))⟩,
               ⟨(some 50), none, .mv (.tmp 79)⟩])))))))
       (.seq
        (.reg [
          ⟨(some 80), none, .mv (.tmp 6)⟩,
          ⟨(some 81), none, .call (.func 123) [(.tmp 80)]⟩,
          ⟨(some 4), none, .mv (.tmp 81)⟩])
        .ret))))))
theorem F62 : compF Tryz.prog 62 = some ⟨2, 82, [.tmp 4], c62⟩ := by kernel_rfl
theorem B62 : Bod Tryz.prog 62 := bod_of F62
/-- quaestor/contract.named -/
def c63 : ACode :=
  (.seq
   (.reg [
     ⟨(some 2), none, .mv (.const (.bool false))⟩])
   (.seq
    (.reg [
      ⟨(some 3), none, .mv (.tmp 0)⟩,
      ⟨(some 4), none, .len true (.tmp 3)⟩,
      ⟨(some 5), none, .bin .gtr .other (.tmp 4) (.const (.int .i64 0))⟩,
      ⟨(some 6), none, .mv (.tmp 5)⟩,
      ⟨(some 7), (some (6, true)), .mv (.tmp 0)⟩,
      ⟨(some 8), (some (6, true)), .len true (.tmp 7)⟩,
      ⟨(some 9), (some (6, true)), .bin .leq .other (.tmp 8) (.const (.int .i64 16))⟩,
      ⟨(some 10), none, .pick (.tmp 6) (.tmp 9) (.const (.bool false))⟩,
      ⟨(some 2), none, .mv (.tmp 10)⟩])
    .ret))
theorem F63 : compF Tryz.prog 63 = some ⟨1, 11, [.tmp 2], c63⟩ := by kernel_rfl
theorem B63 : Bod Tryz.prog 63 := bod_of F63
/-- quaestor/contract.once(quaestor/api.Field) -/
def c64 : ACode :=
  (.seq
   (.reg [
     ⟨(some 4), none, .mv (.const (.bool false))⟩])
   (.seq
    (.seq
     (.reg [
       ⟨(some 7), none, .mv (.tmp 0)⟩,
       ⟨(some 8), none, .len false (.tmp 7)⟩,
       ⟨(some 9), none, .mv (.const (.int .i64 0))⟩])
     (.block 0
      (.loop
       (.seq
        (.reg [
          ⟨(some 10), none, .bin .lss .other (.tmp 9) (.tmp 8)⟩])
        (.seq
         (.cond (.tmp 10)
          .skip
          (.exit 0))
         (.seq
          (.block 1
           (.seq
            (.reg [
              ⟨(some 11), none, .mv (.tmp 9)⟩,
              ⟨(some 12), none, .iad 8 (.tmp 7) (.tmp 9)⟩,
              ⟨(some 13), none, .load true 8 (.tmp 12)⟩,
              ⟨(some 6), none, .alloc [.string ⟨#[]⟩, .int .i64 0, .slice none 0 0, .int .i64 0, .int .i64 0, .bool false, .string ⟨#[]⟩, .float .f64 0]⟩,
              ⟨(some 5), none, .mv (.tmp 11)⟩,
              ⟨none, none, .store 8 (.tmp 6) (.tmp 13)⟩])
            (.seq
             (.reg [
               ⟨(some 14), none, .mv (.tmp 1)⟩,
               ⟨(some 15), none, .load true 8 (.tmp 6)⟩,
               ⟨(some 16), none, .call (.tmp 14) [(.tmp 15)]⟩,
               ⟨(some 17), none, .call (.func 63) [(.tmp 16)]⟩,
               ⟨(some 18), none, .un .not (.tmp 17)⟩,
               ⟨(some 19), none, .mv (.tmp 18)⟩,
               ⟨(some 20), (some (19, false)), .mv (.tmp 0)⟩,
               ⟨(some 21), (some (19, false)), .mv (.tmp 1)⟩,
               ⟨(some 22), (some (19, false)), .load true 8 (.tmp 6)⟩,
               ⟨(some 23), (some (19, false)), .call (.tmp 21) [(.tmp 22)]⟩,
               ⟨(some 24), (some (19, false)), .mv (.tmp 1)⟩,
               ⟨(some 25), (some (19, false)), .call (.func 89) [(.tmp 20), (.tmp 23), (.tmp 24)]⟩,
               ⟨(some 26), (some (19, false)), .mv (.tmp 5)⟩,
               ⟨(some 27), (some (19, false)), .bin .neq .other (.tmp 25) (.tmp 26)⟩,
               ⟨(some 28), none, .pick (.tmp 19) (.const (.bool true)) (.tmp 27)⟩])
             (.cond (.tmp 28)
              (.seq
               (.reg [
                 ⟨(some 4), none, .mv (.const (.bool false))⟩])
               .ret)
              .skip))))
          (.reg [
            ⟨(some 29), none, .bin .add .other (.tmp 9) (.const (.int .i64 1))⟩,
            ⟨(some 9), none, .mv (.tmp 29)⟩])))))))
    (.seq
     (.reg [
       ⟨(some 4), none, .mv (.const (.bool true))⟩])
     .ret)))
theorem F64 : compF Tryz.prog 64 = some ⟨2, 30, [.tmp 4], c64⟩ := by kernel_rfl
theorem B64 : Bod Tryz.prog 64 := bod_of F64
/-- quaestor/contract.fieldName -/
def c65 : ACode :=
  (.seq
   (.reg [
     ⟨(some 1), none, .box (.tmp 0)⟩,
     ⟨(some 2), none, .mv (.const (.string ⟨#[]⟩))⟩])
   (.seq
    (.reg [
      ⟨(some 3), none, .fad 0 (.tmp 1)⟩,
      ⟨(some 4), none, .load false 1 (.tmp 3)⟩,
      ⟨(some 2), none, .mv (.tmp 4)⟩])
    .ret))
theorem F65 : compF Tryz.prog 65 = some ⟨1, 5, [.tmp 2], c65⟩ := by kernel_rfl
theorem B65 : Bod Tryz.prog 65 := bod_of F65
/-- slices.ContainsFunc(()quaestor/api.Field,quaestor/api.Field) -/
def c66 : ACode :=
  (.seq
   (.reg [
     ⟨(some 4), none, .mv (.const (.bool false))⟩])
   (.seq
    (.reg [
      ⟨(some 5), none, .mv (.tmp 0)⟩,
      ⟨(some 6), none, .mv (.tmp 1)⟩,
      ⟨(some 7), none, .call (.func 124) [(.tmp 5), (.tmp 6)]⟩,
      ⟨(some 8), none, .bin .geq .other (.tmp 7) (.const (.int .i64 0))⟩,
      ⟨(some 4), none, .mv (.tmp 8)⟩])
    .ret))
theorem F66 : compF Tryz.prog 66 = some ⟨2, 9, [.tmp 4], c66⟩ := by kernel_rfl
theorem B66 : Bod Tryz.prog 66 := bod_of F66
/-- quaestor/contract.Check$2 -/
def c67 : ACode :=
  (.seq
   (.reg [
     ⟨(some 1), none, .box (.tmp 0)⟩,
     ⟨(some 2), none, .mv (.const (.bool false))⟩])
   (.seq
    (.reg [
      ⟨(some 3), none, .load true 8 (.tmp 1)⟩,
      ⟨(some 4), none, .call (.func 68) [(.tmp 3)]⟩,
      ⟨(some 5), none, .un .not (.tmp 4)⟩,
      ⟨(some 2), none, .mv (.tmp 5)⟩])
    .ret))
theorem F67 : compF Tryz.prog 67 = some ⟨1, 6, [.tmp 2], c67⟩ := by kernel_rfl
theorem B67 : Bod Tryz.prog 67 := bod_of F67
/-- quaestor/contract.goodField -/
def c68 : ACode :=
  (.seq
   (.reg [
     ⟨(some 1), none, .box (.tmp 0)⟩,
     ⟨(some 2), none, .mv (.const (.bool false))⟩])
   (.seq
    (.reg [
      ⟨(some 4), none, .fad 2 (.tmp 1)⟩,
      ⟨(some 5), none, .load false 1 (.tmp 4)⟩,
      ⟨(some 6), none, .call (.func 125) [(.tmp 5), (.func 126)]⟩,
      ⟨(some 3), none, .mv (.tmp 6)⟩])
    (.seq
     (.reg [
       ⟨(some 7), none, .fad 2 (.tmp 1)⟩,
       ⟨(some 8), none, .load false 1 (.tmp 7)⟩,
       ⟨(some 9), none, .len false (.tmp 8)⟩,
       ⟨(some 10), none, .bin .leq .other (.tmp 9) (.const (.int .i64 4))⟩,
       ⟨(some 11), none, .mv (.tmp 10)⟩,
       ⟨(some 12), (some (11, true)), .mv (.tmp 3)⟩,
       ⟨(some 13), (some (11, true)), .un .not (.tmp 12)⟩,
       ⟨(some 14), none, .pick (.tmp 11) (.tmp 13) (.const (.bool false))⟩,
       ⟨(some 15), none, .mv (.tmp 14)⟩,
       ⟨(some 16), (some (15, true)), .fad 2 (.tmp 1)⟩,
       ⟨(some 17), (some (15, true)), .load false 1 (.tmp 16)⟩,
       ⟨(some 18), (some (15, true)), .call (.func 123) [(.tmp 17)]⟩,
       ⟨(some 19), none, .pick (.tmp 15) (.tmp 18) (.const (.bool false))⟩,
       ⟨(some 20), none, .mv (.tmp 19)⟩,
       ⟨(some 21), (some (20, true)), .fad 2 (.tmp 1)⟩,
       ⟨(some 22), (some (20, true)), .load false 1 (.tmp 21)⟩,
       ⟨(some 23), (some (20, true)), .len false (.tmp 22)⟩,
       ⟨(some 24), (some (20, true)), .bin .eql .other (.tmp 23) (.const (.int .i64 0))⟩,
       ⟨(some 25), (some (20, true)), .mv (.tmp 24)⟩,
       ⟨(some 26), (some (25, false)), .fad 1 (.tmp 1)⟩,
       ⟨(some 27), (some (25, false)), .load false 1 (.tmp 26)⟩,
       ⟨(some 28), (some (25, false)), .bin .eql .other (.tmp 27) (.const (.int .i64 3))⟩,
       ⟨(some 29), (some (20, true)), .pick (.tmp 25) (.const (.bool true)) (.tmp 28)⟩,
       ⟨(some 30), none, .pick (.tmp 20) (.tmp 29) (.const (.bool false))⟩,
       ⟨(some 31), none, .mv (.tmp 30)⟩,
       ⟨(some 32), (some (31, true)), .fad 3 (.tmp 1)⟩,
       ⟨(some 33), (some (31, true)), .load true 5 (.tmp 32)⟩,
       ⟨(some 34), (some (31, true)), .load true 8 (.tmp 1)⟩,
       ⟨(some 35), (some (31, true)), .call (.func 100) [(.tmp 33), (.tmp 34)]⟩,
       ⟨(some 36), (some (31, true)), .bin .eql .other (.tmp 35) (.const (.int .i64 0))⟩,
       ⟨(some 37), none, .pick (.tmp 31) (.tmp 36) (.const (.bool false))⟩,
       ⟨(some 2), none, .mv (.tmp 37)⟩])
     .ret)))
theorem F68 : compF Tryz.prog 68 = some ⟨1, 38, [.tmp 2], c68⟩ := by kernel_rfl
theorem B68 : Bod Tryz.prog 68 := bod_of F68
/-- quaestor/contract.once(quaestor/api.Stage) -/
def c69 : ACode :=
  (.seq
   (.reg [
     ⟨(some 4), none, .mv (.const (.bool false))⟩])
   (.seq
    (.seq
     (.reg [
       ⟨(some 7), none, .mv (.tmp 0)⟩,
       ⟨(some 8), none, .len false (.tmp 7)⟩,
       ⟨(some 9), none, .mv (.const (.int .i64 0))⟩])
     (.block 0
      (.loop
       (.seq
        (.reg [
          ⟨(some 10), none, .bin .lss .other (.tmp 9) (.tmp 8)⟩])
        (.seq
         (.cond (.tmp 10)
          .skip
          (.exit 0))
         (.seq
          (.block 1
           (.seq
            (.reg [
              ⟨(some 11), none, .mv (.tmp 9)⟩,
              ⟨(some 12), none, .iad 3 (.tmp 7) (.tmp 9)⟩,
              ⟨(some 13), none, .load true 3 (.tmp 12)⟩,
              ⟨(some 6), none, .alloc [.string ⟨#[]⟩, .int .i64 0, .slice none 0 0]⟩,
              ⟨(some 5), none, .mv (.tmp 11)⟩,
              ⟨none, none, .store 3 (.tmp 6) (.tmp 13)⟩])
            (.seq
             (.reg [
               ⟨(some 14), none, .mv (.tmp 1)⟩,
               ⟨(some 15), none, .load true 3 (.tmp 6)⟩,
               ⟨(some 16), none, .call (.tmp 14) [(.tmp 15)]⟩,
               ⟨(some 17), none, .call (.func 63) [(.tmp 16)]⟩,
               ⟨(some 18), none, .un .not (.tmp 17)⟩,
               ⟨(some 19), none, .mv (.tmp 18)⟩,
               ⟨(some 20), (some (19, false)), .mv (.tmp 0)⟩,
               ⟨(some 21), (some (19, false)), .mv (.tmp 1)⟩,
               ⟨(some 22), (some (19, false)), .load true 3 (.tmp 6)⟩,
               ⟨(some 23), (some (19, false)), .call (.tmp 21) [(.tmp 22)]⟩,
               ⟨(some 24), (some (19, false)), .mv (.tmp 1)⟩,
               ⟨(some 25), (some (19, false)), .call (.func 120) [(.tmp 20), (.tmp 23), (.tmp 24)]⟩,
               ⟨(some 26), (some (19, false)), .mv (.tmp 5)⟩,
               ⟨(some 27), (some (19, false)), .bin .neq .other (.tmp 25) (.tmp 26)⟩,
               ⟨(some 28), none, .pick (.tmp 19) (.const (.bool true)) (.tmp 27)⟩])
             (.cond (.tmp 28)
              (.seq
               (.reg [
                 ⟨(some 4), none, .mv (.const (.bool false))⟩])
               .ret)
              .skip))))
          (.reg [
            ⟨(some 29), none, .bin .add .other (.tmp 9) (.const (.int .i64 1))⟩,
            ⟨(some 9), none, .mv (.tmp 29)⟩])))))))
    (.seq
     (.reg [
       ⟨(some 4), none, .mv (.const (.bool true))⟩])
     .ret)))
theorem F69 : compF Tryz.prog 69 = some ⟨2, 30, [.tmp 4], c69⟩ := by kernel_rfl
theorem B69 : Bod Tryz.prog 69 := bod_of F69
/-- quaestor/contract.stageName -/
def c70 : ACode :=
  (.seq
   (.reg [
     ⟨(some 1), none, .box (.tmp 0)⟩,
     ⟨(some 2), none, .mv (.const (.string ⟨#[]⟩))⟩])
   (.seq
    (.reg [
      ⟨(some 3), none, .fad 0 (.tmp 1)⟩,
      ⟨(some 4), none, .load false 1 (.tmp 3)⟩,
      ⟨(some 2), none, .mv (.tmp 4)⟩])
    .ret))
theorem F70 : compF Tryz.prog 70 = some ⟨1, 5, [.tmp 2], c70⟩ := by kernel_rfl
theorem B70 : Bod Tryz.prog 70 := bod_of F70
/-- slices.ContainsFunc(()quaestor/api.Stage,quaestor/api.Stage) -/
def c71 : ACode :=
  (.seq
   (.reg [
     ⟨(some 4), none, .mv (.const (.bool false))⟩])
   (.seq
    (.reg [
      ⟨(some 5), none, .mv (.tmp 0)⟩,
      ⟨(some 6), none, .mv (.tmp 1)⟩,
      ⟨(some 7), none, .call (.func 127) [(.tmp 5), (.tmp 6)]⟩,
      ⟨(some 8), none, .bin .geq .other (.tmp 7) (.const (.int .i64 0))⟩,
      ⟨(some 4), none, .mv (.tmp 8)⟩])
    .ret))
theorem F71 : compF Tryz.prog 71 = some ⟨2, 9, [.tmp 4], c71⟩ := by kernel_rfl
theorem B71 : Bod Tryz.prog 71 := bod_of F71
/-- quaestor/contract.Check$3 -/
def c72 : ACode :=
  (.seq
   (.reg [
     ⟨(some 1), none, .box (.tmp 0)⟩,
     ⟨(some 2), none, .mv (.const (.bool false))⟩])
   (.seq
    (.reg [
      ⟨(some 3), none, .load true 3 (.tmp 1)⟩,
      ⟨(some 4), none, .call (.func 73) [(.tmp 3)]⟩,
      ⟨(some 5), none, .un .not (.tmp 4)⟩,
      ⟨(some 2), none, .mv (.tmp 5)⟩])
    .ret))
theorem F72 : compF Tryz.prog 72 = some ⟨1, 6, [.tmp 2], c72⟩ := by kernel_rfl
theorem B72 : Bod Tryz.prog 72 := bod_of F72
/-- quaestor/contract.goodStage -/
def c73 : ACode :=
  (.seq
   (.reg [
     ⟨(some 1), none, .box (.tmp 0)⟩,
     ⟨(some 2), none, .mv (.const (.bool false))⟩])
   (.seq
    (.seq
     (.reg [
       ⟨(some 6), none, .fad 2 (.tmp 1)⟩,
       ⟨(some 7), none, .load false 1 (.tmp 6)⟩,
       ⟨(some 8), none, .len false (.tmp 7)⟩,
       ⟨(some 9), none, .bin .gtr .other (.tmp 8) (.const (.int .i64 4))⟩,
       ⟨(some 10), none, .mv (.tmp 9)⟩,
       ⟨(some 11), (some (10, false)), .fad 1 (.tmp 1)⟩,
       ⟨(some 12), (some (10, false)), .load false 1 (.tmp 11)⟩,
       ⟨(some 13), (some (10, false)), .bin .lss .other (.tmp 12) (.const (.int .i64 0))⟩,
       ⟨(some 14), none, .pick (.tmp 10) (.const (.bool true)) (.tmp 13)⟩,
       ⟨(some 15), none, .mv (.tmp 14)⟩,
       ⟨(some 16), (some (15, false)), .fad 1 (.tmp 1)⟩,
       ⟨(some 17), (some (15, false)), .load false 1 (.tmp 16)⟩,
       ⟨(some 18), (some (15, false)), .fad 2 (.tmp 1)⟩,
       ⟨(some 19), (some (15, false)), .load false 1 (.tmp 18)⟩,
       ⟨(some 20), (some (15, false)), .len false (.tmp 19)⟩,
       ⟨(some 21), (some (15, false)), .bin .gtr .other (.tmp 17) (.tmp 20)⟩,
       ⟨(some 22), none, .pick (.tmp 15) (.const (.bool true)) (.tmp 21)⟩])
     (.cond (.tmp 22)
      (.seq
       (.reg [
         ⟨(some 2), none, .mv (.const (.bool false))⟩])
       .ret)
      .skip))
    (.seq
     (.reg [
       ⟨(some 3), none, .mv (.const (.int .i64 (-1)))⟩])
     (.seq
      (.seq
       (.reg [
         ⟨(some 23), none, .fad 2 (.tmp 1)⟩,
         ⟨(some 24), none, .load false 1 (.tmp 23)⟩,
         ⟨(some 25), none, .len false (.tmp 24)⟩,
         ⟨(some 26), none, .mv (.const (.int .i64 0))⟩])
       (.block 0
        (.loop
         (.seq
          (.reg [
            ⟨(some 27), none, .bin .lss .other (.tmp 26) (.tmp 25)⟩])
          (.seq
           (.cond (.tmp 27)
            .skip
            (.exit 0))
           (.seq
            (.block 1
             (.seq
              (.reg [
                ⟨(some 28), none, .iad 1 (.tmp 24) (.tmp 26)⟩,
                ⟨(some 29), none, .load false 1 (.tmp 28)⟩,
                ⟨(some 5), none, .mv (.tmp 29)⟩])
              (.seq
               (.seq
                (.reg [
                  ⟨(some 30), none, .mv (.tmp 5)⟩,
                  ⟨(some 31), none, .mv (.tmp 3)⟩,
                  ⟨(some 32), none, .bin .leq .other (.tmp 30) (.tmp 31)⟩,
                  ⟨(some 33), none, .mv (.tmp 32)⟩,
                  ⟨(some 34), (some (33, false)), .mv (.tmp 5)⟩,
                  ⟨(some 35), (some (33, false)), .bin .geq .other (.tmp 34) (.const (.int .i64 4))⟩,
                  ⟨(some 36), none, .pick (.tmp 33) (.const (.bool true)) (.tmp 35)⟩])
                (.cond (.tmp 36)
                 (.seq
                  (.reg [
                    ⟨(some 2), none, .mv (.const (.bool false))⟩])
                  .ret)
                 .skip))
               (.reg [
                 ⟨(some 37), none, .mv (.tmp 5)⟩,
                 ⟨(some 3), none, .mv (.tmp 37)⟩]))))
            (.reg [
              ⟨(some 38), none, .bin .add .other (.tmp 26) (.const (.int .i64 1))⟩,
              ⟨(some 26), none, .mv (.tmp 38)⟩])))))))
      (.seq
       (.reg [
         ⟨(some 2), none, .mv (.const (.bool true))⟩])
       .ret)))))
theorem F73 : compF Tryz.prog 73 = some ⟨1, 39, [.tmp 2], c73⟩ := by kernel_rfl
theorem B73 : Bod Tryz.prog 73 := bod_of F73
/-- quaestor/contract.once(quaestor/api.Move) -/
def c74 : ACode :=
  (.seq
   (.reg [
     ⟨(some 4), none, .mv (.const (.bool false))⟩])
   (.seq
    (.seq
     (.reg [
       ⟨(some 7), none, .mv (.tmp 0)⟩,
       ⟨(some 8), none, .len false (.tmp 7)⟩,
       ⟨(some 9), none, .mv (.const (.int .i64 0))⟩])
     (.block 0
      (.loop
       (.seq
        (.reg [
          ⟨(some 10), none, .bin .lss .other (.tmp 9) (.tmp 8)⟩])
        (.seq
         (.cond (.tmp 10)
          .skip
          (.exit 0))
         (.seq
          (.block 1
           (.seq
            (.reg [
              ⟨(some 11), none, .mv (.tmp 9)⟩,
              ⟨(some 12), none, .iad 13 (.tmp 7) (.tmp 9)⟩,
              ⟨(some 13), none, .load true 13 (.tmp 12)⟩,
              ⟨(some 6), none, .alloc [.string ⟨#[]⟩, .int .i64 0, .int .i64 0, .int .i64 0, .slice none 0 0, .string ⟨#[]⟩, .int .i64 0, .int .i64 0, .bool false, .string ⟨#[]⟩, .float .f64 0, .slice none 0 0, .int .i64 0]⟩,
              ⟨(some 5), none, .mv (.tmp 11)⟩,
              ⟨none, none, .store 13 (.tmp 6) (.tmp 13)⟩])
            (.seq
             (.reg [
               ⟨(some 14), none, .mv (.tmp 1)⟩,
               ⟨(some 15), none, .load true 13 (.tmp 6)⟩,
               ⟨(some 16), none, .call (.tmp 14) [(.tmp 15)]⟩,
               ⟨(some 17), none, .call (.func 63) [(.tmp 16)]⟩,
               ⟨(some 18), none, .un .not (.tmp 17)⟩,
               ⟨(some 19), none, .mv (.tmp 18)⟩,
               ⟨(some 20), (some (19, false)), .mv (.tmp 0)⟩,
               ⟨(some 21), (some (19, false)), .mv (.tmp 1)⟩,
               ⟨(some 22), (some (19, false)), .load true 13 (.tmp 6)⟩,
               ⟨(some 23), (some (19, false)), .call (.tmp 21) [(.tmp 22)]⟩,
               ⟨(some 24), (some (19, false)), .mv (.tmp 1)⟩,
               ⟨(some 25), (some (19, false)), .call (.func 128) [(.tmp 20), (.tmp 23), (.tmp 24)]⟩,
               ⟨(some 26), (some (19, false)), .mv (.tmp 5)⟩,
               ⟨(some 27), (some (19, false)), .bin .neq .other (.tmp 25) (.tmp 26)⟩,
               ⟨(some 28), none, .pick (.tmp 19) (.const (.bool true)) (.tmp 27)⟩])
             (.cond (.tmp 28)
              (.seq
               (.reg [
                 ⟨(some 4), none, .mv (.const (.bool false))⟩])
               .ret)
              .skip))))
          (.reg [
            ⟨(some 29), none, .bin .add .other (.tmp 9) (.const (.int .i64 1))⟩,
            ⟨(some 9), none, .mv (.tmp 29)⟩])))))))
    (.seq
     (.reg [
       ⟨(some 4), none, .mv (.const (.bool true))⟩])
     .ret)))
theorem F74 : compF Tryz.prog 74 = some ⟨2, 30, [.tmp 4], c74⟩ := by kernel_rfl
theorem B74 : Bod Tryz.prog 74 := bod_of F74
/-- quaestor/contract.moveName -/
def c75 : ACode :=
  (.seq
   (.reg [
     ⟨(some 1), none, .box (.tmp 0)⟩,
     ⟨(some 2), none, .mv (.const (.string ⟨#[]⟩))⟩])
   (.seq
    (.reg [
      ⟨(some 3), none, .fad 0 (.tmp 1)⟩,
      ⟨(some 4), none, .load false 1 (.tmp 3)⟩,
      ⟨(some 2), none, .mv (.tmp 4)⟩])
    .ret))
theorem F75 : compF Tryz.prog 75 = some ⟨1, 5, [.tmp 2], c75⟩ := by kernel_rfl
theorem B75 : Bod Tryz.prog 75 := bod_of F75
/-- slices.ContainsFunc(()quaestor/api.Move,quaestor/api.Move) -/
def c76 : ACode :=
  (.seq
   (.reg [
     ⟨(some 4), none, .mv (.const (.bool false))⟩])
   (.seq
    (.reg [
      ⟨(some 5), none, .mv (.tmp 0)⟩,
      ⟨(some 6), none, .mv (.tmp 1)⟩,
      ⟨(some 7), none, .call (.func 129) [(.tmp 5), (.tmp 6)]⟩,
      ⟨(some 8), none, .bin .geq .other (.tmp 7) (.const (.int .i64 0))⟩,
      ⟨(some 4), none, .mv (.tmp 8)⟩])
    .ret))
theorem F76 : compF Tryz.prog 76 = some ⟨2, 9, [.tmp 4], c76⟩ := by kernel_rfl
theorem B76 : Bod Tryz.prog 76 := bod_of F76
/-- quaestor/quaestorref06.Name -/
def c77 : ACode :=
  (.seq
   (.reg [
     ⟨(some 2), none, .mv (.const (.bool false))⟩])
   (.seq
    (.reg [
      ⟨(some 3), none, .mv (.tmp 0)⟩,
      ⟨(some 4), none, .len true (.tmp 3)⟩,
      ⟨(some 5), none, .bin .geq .other (.tmp 4) (.const (.int .i64 1))⟩,
      ⟨(some 6), none, .mv (.tmp 5)⟩,
      ⟨(some 7), (some (6, true)), .mv (.tmp 0)⟩,
      ⟨(some 8), (some (6, true)), .len true (.tmp 7)⟩,
      ⟨(some 9), (some (6, true)), .bin .leq .other (.tmp 8) (.const (.int .i64 16))⟩,
      ⟨(some 10), none, .pick (.tmp 6) (.tmp 9) (.const (.bool false))⟩,
      ⟨(some 2), none, .mv (.tmp 10)⟩])
    .ret))
theorem F77 : compF Tryz.prog 77 = some ⟨1, 11, [.tmp 2], c77⟩ := by kernel_rfl
theorem B77 : Bod Tryz.prog 77 := bod_of F77
/-- quaestor/quaestorref06.fields -/
def c78 : ACode :=
  (.seq
   (.reg [
     ⟨(some 1), none, .box (.tmp 0)⟩,
     ⟨(some 2), none, .mv (.const (.bool false))⟩])
   (.seq
    (.seq
     (.reg [
       ⟨(some 5), none, .fad 1 (.tmp 1)⟩,
       ⟨(some 6), none, .load false 1 (.tmp 5)⟩,
       ⟨(some 7), none, .len false (.tmp 6)⟩,
       ⟨(some 8), none, .bin .gtr .other (.tmp 7) (.const (.int .i64 6))⟩])
     (.cond (.tmp 8)
      (.seq
       (.reg [
         ⟨(some 2), none, .mv (.const (.bool false))⟩])
       .ret)
      .skip))
    (.seq
     (.seq
      (.reg [
        ⟨(some 3), none, .mv (.const (.int .i64 0))⟩])
      (.block 0
       (.loop
        (.seq
         (.seq
          (.reg [
            ⟨(some 9), none, .mv (.tmp 3)⟩,
            ⟨(some 10), none, .fad 1 (.tmp 1)⟩,
            ⟨(some 11), none, .load false 1 (.tmp 10)⟩,
            ⟨(some 12), none, .len false (.tmp 11)⟩,
            ⟨(some 13), none, .bin .lss .other (.tmp 9) (.tmp 12)⟩])
          (.cond (.tmp 13)
           .skip
           (.exit 0)))
         (.seq
          (.block 1
           (.seq
            (.reg [
              ⟨(some 16), none, .fad 1 (.tmp 1)⟩,
              ⟨(some 17), none, .load false 1 (.tmp 16)⟩,
              ⟨(some 18), none, .mv (.tmp 3)⟩,
              ⟨(some 19), none, .iad 8 (.tmp 17) (.tmp 18)⟩,
              ⟨(some 20), none, .load true 8 (.tmp 19)⟩,
              ⟨(some 4), none, .alloc [.string ⟨#[]⟩, .int .i64 0, .slice none 0 0, .int .i64 0, .int .i64 0, .bool false, .string ⟨#[]⟩, .float .f64 0]⟩,
              ⟨none, none, .store 8 (.tmp 4) (.tmp 20)⟩])
            (.seq
             (.reg [
               ⟨(some 21), none, .fad 0 (.tmp 4)⟩,
               ⟨(some 22), none, .load false 1 (.tmp 21)⟩,
               ⟨(some 23), none, .call (.func 77) [(.tmp 22)]⟩,
               ⟨(some 24), none, .un .not (.tmp 23)⟩,
               ⟨(some 25), none, .mv (.tmp 24)⟩,
               ⟨(some 26), (some (25, false)), .load true 4 (.tmp 1)⟩,
               ⟨(some 27), (some (25, false)), .fad 0 (.tmp 4)⟩,
               ⟨(some 28), (some (25, false)), .load false 1 (.tmp 27)⟩,
               ⟨(some 29), (some (25, false)), .call (.func 130) [(.tmp 26), (.tmp 28)]⟩,
               ⟨(some 30), (some (25, false)), .mv (.tmp 3)⟩,
               ⟨(some 31), (some (25, false)), .bin .neq .other (.tmp 29) (.tmp 30)⟩,
               ⟨(some 32), none, .pick (.tmp 25) (.const (.bool true)) (.tmp 31)⟩,
               ⟨(some 33), none, .mv (.tmp 32)⟩,
               ⟨(some 34), (some (33, false)), .fad 1 (.tmp 4)⟩,
               ⟨(some 35), (some (33, false)), .load false 1 (.tmp 34)⟩,
               ⟨(some 36), (some (33, false)), .bin .lss .other (.tmp 35) (.const (.int .i64 1))⟩,
               ⟨(some 37), none, .pick (.tmp 33) (.const (.bool true)) (.tmp 36)⟩,
               ⟨(some 38), none, .mv (.tmp 37)⟩,
               ⟨(some 39), (some (38, false)), .fad 1 (.tmp 4)⟩,
               ⟨(some 40), (some (38, false)), .load false 1 (.tmp 39)⟩,
               ⟨(some 41), (some (38, false)), .bin .gtr .other (.tmp 40) (.const (.int .i64 4))⟩,
               ⟨(some 42), none, .pick (.tmp 38) (.const (.bool true)) (.tmp 41)⟩,
               ⟨(some 43), none, .mv (.tmp 42)⟩,
               ⟨(some 44), (some (43, false)), .load true 8 (.tmp 4)⟩,
               ⟨(some 45), (some (43, false)), .call (.func 131) [(.tmp 44)]⟩,
               ⟨(some 46), (some (43, false)), .un .not (.tmp 45)⟩,
               ⟨(some 47), none, .pick (.tmp 43) (.const (.bool true)) (.tmp 46)⟩,
               ⟨(some 48), none, .mv (.tmp 47)⟩,
               ⟨(some 49), (some (48, false)), .fad 3 (.tmp 4)⟩,
               ⟨(some 50), (some (48, false)), .load true 5 (.tmp 49)⟩,
               ⟨(some 51), (some (48, false)), .load true 8 (.tmp 4)⟩,
               ⟨(some 52), (some (48, false)), .call (.func 102) [(.tmp 50), (.tmp 51)]⟩,
               ⟨(some 53), (some (48, false)), .bin .neq .other (.tmp 52) (.const (.int .i64 0))⟩,
               ⟨(some 54), none, .pick (.tmp 48) (.const (.bool true)) (.tmp 53)⟩])
             (.cond (.tmp 54)
              (.seq
               (.reg [
                 ⟨(some 2), none, .mv (.const (.bool false))⟩])
               .ret)
              .skip))))
          (.reg [
            ⟨(some 14), none, .mv (.tmp 3)⟩,
            ⟨(some 15), none, .bin .add .other (.tmp 14) (.const (.int .i64 1))⟩,
            ⟨(some 3), none, .mv (.tmp 15)⟩]))))))
     (.seq
      (.reg [
        ⟨(some 2), none, .mv (.const (.bool true))⟩])
      .ret))))
theorem F78 : compF Tryz.prog 78 = some ⟨1, 55, [.tmp 2], c78⟩ := by kernel_rfl
theorem B78 : Bod Tryz.prog 78 := bod_of F78
/-- quaestor/quaestorref06.stages -/
def c79 : ACode :=
  (.seq
   (.reg [
     ⟨(some 1), none, .box (.tmp 0)⟩,
     ⟨(some 2), none, .mv (.const (.bool false))⟩])
   (.seq
    (.seq
     (.reg [
       ⟨(some 6), none, .fad 2 (.tmp 1)⟩,
       ⟨(some 7), none, .load false 1 (.tmp 6)⟩,
       ⟨(some 8), none, .len false (.tmp 7)⟩,
       ⟨(some 9), none, .bin .lss .other (.tmp 8) (.const (.int .i64 1))⟩,
       ⟨(some 10), none, .mv (.tmp 9)⟩,
       ⟨(some 11), (some (10, false)), .fad 2 (.tmp 1)⟩,
       ⟨(some 12), (some (10, false)), .load false 1 (.tmp 11)⟩,
       ⟨(some 13), (some (10, false)), .len false (.tmp 12)⟩,
       ⟨(some 14), (some (10, false)), .bin .gtr .other (.tmp 13) (.const (.int .i64 6))⟩,
       ⟨(some 15), none, .pick (.tmp 10) (.const (.bool true)) (.tmp 14)⟩])
     (.cond (.tmp 15)
      (.seq
       (.reg [
         ⟨(some 2), none, .mv (.const (.bool false))⟩])
       .ret)
      .skip))
    (.seq
     (.seq
      (.reg [
        ⟨(some 3), none, .mv (.const (.int .i64 0))⟩])
      (.block 0
       (.loop
        (.seq
         (.seq
          (.reg [
            ⟨(some 16), none, .mv (.tmp 3)⟩,
            ⟨(some 17), none, .fad 2 (.tmp 1)⟩,
            ⟨(some 18), none, .load false 1 (.tmp 17)⟩,
            ⟨(some 19), none, .len false (.tmp 18)⟩,
            ⟨(some 20), none, .bin .lss .other (.tmp 16) (.tmp 19)⟩])
          (.cond (.tmp 20)
           .skip
           (.exit 0)))
         (.seq
          (.block 1
           (.seq
            (.reg [
              ⟨(some 23), none, .fad 2 (.tmp 1)⟩,
              ⟨(some 24), none, .load false 1 (.tmp 23)⟩,
              ⟨(some 25), none, .mv (.tmp 3)⟩,
              ⟨(some 26), none, .iad 3 (.tmp 24) (.tmp 25)⟩,
              ⟨(some 27), none, .load true 3 (.tmp 26)⟩,
              ⟨(some 4), none, .alloc [.string ⟨#[]⟩, .int .i64 0, .slice none 0 0]⟩,
              ⟨none, none, .store 3 (.tmp 4) (.tmp 27)⟩])
            (.seq
             (.seq
              (.reg [
                ⟨(some 28), none, .fad 0 (.tmp 4)⟩,
                ⟨(some 29), none, .load false 1 (.tmp 28)⟩,
                ⟨(some 30), none, .call (.func 77) [(.tmp 29)]⟩,
                ⟨(some 31), none, .un .not (.tmp 30)⟩,
                ⟨(some 32), none, .mv (.tmp 31)⟩,
                ⟨(some 33), (some (32, false)), .load true 4 (.tmp 1)⟩,
                ⟨(some 34), (some (32, false)), .fad 0 (.tmp 4)⟩,
                ⟨(some 35), (some (32, false)), .load false 1 (.tmp 34)⟩,
                ⟨(some 36), (some (32, false)), .call (.func 132) [(.tmp 33), (.tmp 35)]⟩,
                ⟨(some 37), (some (32, false)), .mv (.tmp 3)⟩,
                ⟨(some 38), (some (32, false)), .bin .neq .other (.tmp 36) (.tmp 37)⟩,
                ⟨(some 39), none, .pick (.tmp 32) (.const (.bool true)) (.tmp 38)⟩,
                ⟨(some 40), none, .mv (.tmp 39)⟩,
                ⟨(some 41), (some (40, false)), .fad 2 (.tmp 4)⟩,
                ⟨(some 42), (some (40, false)), .load false 1 (.tmp 41)⟩,
                ⟨(some 43), (some (40, false)), .len false (.tmp 42)⟩,
                ⟨(some 44), (some (40, false)), .bin .gtr .other (.tmp 43) (.const (.int .i64 4))⟩,
                ⟨(some 45), none, .pick (.tmp 40) (.const (.bool true)) (.tmp 44)⟩,
                ⟨(some 46), none, .mv (.tmp 45)⟩,
                ⟨(some 47), (some (46, false)), .fad 1 (.tmp 4)⟩,
                ⟨(some 48), (some (46, false)), .load false 1 (.tmp 47)⟩,
                ⟨(some 49), (some (46, false)), .bin .lss .other (.tmp 48) (.const (.int .i64 0))⟩,
                ⟨(some 50), none, .pick (.tmp 46) (.const (.bool true)) (.tmp 49)⟩,
                ⟨(some 51), none, .mv (.tmp 50)⟩,
                ⟨(some 52), (some (51, false)), .fad 1 (.tmp 4)⟩,
                ⟨(some 53), (some (51, false)), .load false 1 (.tmp 52)⟩,
                ⟨(some 54), (some (51, false)), .fad 2 (.tmp 4)⟩,
                ⟨(some 55), (some (51, false)), .load false 1 (.tmp 54)⟩,
                ⟨(some 56), (some (51, false)), .len false (.tmp 55)⟩,
                ⟨(some 57), (some (51, false)), .bin .gtr .other (.tmp 53) (.tmp 56)⟩,
                ⟨(some 58), none, .pick (.tmp 51) (.const (.bool true)) (.tmp 57)⟩])
              (.cond (.tmp 58)
               (.seq
                (.reg [
                  ⟨(some 2), none, .mv (.const (.bool false))⟩])
                .ret)
               .skip))
             (.seq
              (.reg [
                ⟨(some 5), none, .mv (.const (.int .i64 0))⟩])
              (.block 2
               (.loop
                (.seq
                 (.seq
                  (.reg [
                    ⟨(some 59), none, .mv (.tmp 5)⟩,
                    ⟨(some 60), none, .fad 2 (.tmp 4)⟩,
                    ⟨(some 61), none, .load false 1 (.tmp 60)⟩,
                    ⟨(some 62), none, .len false (.tmp 61)⟩,
                    ⟨(some 63), none, .bin .lss .other (.tmp 59) (.tmp 62)⟩])
                  (.cond (.tmp 63)
                   .skip
                   (.exit 2)))
                 (.seq
                  (.block 3
                   (.seq
                    (.dreg 29 [
                      ⟨(some 66), none, .fad 2 (.tmp 4)⟩,
                      ⟨(some 67), none, .load false 1 (.tmp 66)⟩,
                      ⟨(some 68), none, .mv (.tmp 5)⟩,
                      ⟨(some 69), none, .iad 1 (.tmp 67) (.tmp 68)⟩,
                      ⟨(some 70), none, .load false 1 (.tmp 69)⟩,
                      ⟨(some 71), none, .bin .lss .other (.tmp 70) (.const (.int .i64 0))⟩,
                      ⟨(some 72), none, .mv (.tmp 71)⟩,
                      ⟨(some 73), (some (72, false)), .fad 2 (.tmp 4)⟩,
                      ⟨(some 74), (some (72, false)), .load false 1 (.tmp 73)⟩,
                      ⟨(some 75), (some (72, false)), .mv (.tmp 5)⟩,
                      ⟨(some 76), (some (72, false)), .iad 1 (.tmp 74) (.tmp 75)⟩,
                      ⟨(some 77), (some (72, false)), .load false 1 (.tmp 76)⟩,
                      ⟨(some 78), (some (72, false)), .bin .geq .other (.tmp 77) (.const (.int .i64 4))⟩,
                      ⟨(some 79), none, .pick (.tmp 72) (.const (.bool true)) (.tmp 78)⟩,
                      ⟨(some 80), none, .mv (.tmp 79)⟩,
                      ⟨(some 81), (some (80, false)), .mv (.tmp 5)⟩,
                      ⟨(some 82), (some (80, false)), .bin .gtr .other (.tmp 81) (.const (.int .i64 0))⟩,
                      ⟨(some 83), (some (80, false)), .mv (.tmp 82)⟩,
                      ⟨(some 84), (some (83, true)), .fad 2 (.tmp 4)⟩,
                      ⟨(some 85), (some (83, true)), .load false 1 (.tmp 84)⟩,
                      ⟨(some 86), (some (83, true)), .mv (.tmp 5)⟩,
                      ⟨(some 87), (some (83, true)), .iad 1 (.tmp 85) (.tmp 86)⟩,
                      ⟨(some 88), (some (83, true)), .load false 1 (.tmp 87)⟩,
                      ⟨(some 89), (some (83, true)), .fad 2 (.tmp 4)⟩,
                      ⟨(some 90), (some (83, true)), .load false 1 (.tmp 89)⟩,
                      ⟨(some 91), (some (83, true)), .mv (.tmp 5)⟩,
                      ⟨(some 92), (some (83, true)), .bin .sub .other (.tmp 91) (.const (.int .i64 1))⟩,
                      ⟨(some 93), (some (83, true)), .iad 1 (.tmp 90) (.tmp 92)⟩,
                      ⟨(some 94), (some (83, true)), .load false 1 (.tmp 93)⟩,
                      ⟨(some 95), (some (83, true)), .bin .leq .other (.tmp 88) (.tmp 94)⟩,
                      ⟨(some 96), (some (80, false)), .pick (.tmp 83) (.tmp 95) (.const (.bool false))⟩,
                      ⟨(some 97), none, .pick (.tmp 80) (.const (.bool true)) (.tmp 96)⟩])
                    (.cond (.tmp 97)
                     (.seq
                      (.reg [
                        ⟨(some 2), none, .mv (.const (.bool false))⟩])
                      .ret)
                     .skip)))
                  (.reg [
                    ⟨(some 64), none, .mv (.tmp 5)⟩,
                    ⟨(some 65), none, .bin .add .other (.tmp 64) (.const (.int .i64 1))⟩,
                    ⟨(some 5), none, .mv (.tmp 65)⟩])))))))))
          (.reg [
            ⟨(some 21), none, .mv (.tmp 3)⟩,
            ⟨(some 22), none, .bin .add .other (.tmp 21) (.const (.int .i64 1))⟩,
            ⟨(some 3), none, .mv (.tmp 22)⟩]))))))
     (.seq
      (.reg [
        ⟨(some 2), none, .mv (.const (.bool true))⟩])
      .ret))))
theorem F79 : compF Tryz.prog 79 = some ⟨1, 98, [.tmp 2], c79⟩ := by kernel_rfl
theorem B79 : Bod Tryz.prog 79 := bod_of F79
/-- quaestor/quaestorref06.Move -/
def c80 : ACode :=
  (.seq
   (.reg [
     ⟨(some 2), none, .box (.tmp 0)⟩,
     ⟨(some 4), none, .mv (.const (.int .i64 0))⟩])
   (.seq
    (.seq
     (.reg [
       ⟨(some 5), none, .mv (.const (.int .i64 0))⟩])
     (.block 0
      (.loop
       (.seq
        (.seq
         (.reg [
           ⟨(some 6), none, .mv (.tmp 5)⟩,
           ⟨(some 7), none, .fad 3 (.tmp 2)⟩,
           ⟨(some 8), none, .load false 1 (.tmp 7)⟩,
           ⟨(some 9), none, .len false (.tmp 8)⟩,
           ⟨(some 10), none, .bin .lss .other (.tmp 6) (.tmp 9)⟩])
         (.cond (.tmp 10)
          .skip
          (.exit 0)))
        (.seq
         (.block 1
          (.seq
           (.reg [
             ⟨(some 13), none, .fad 3 (.tmp 2)⟩,
             ⟨(some 14), none, .load false 1 (.tmp 13)⟩,
             ⟨(some 15), none, .mv (.tmp 5)⟩,
             ⟨(some 16), none, .iad 13 (.tmp 14) (.tmp 15)⟩,
             ⟨(some 17), none, .fad 0 (.tmp 16)⟩,
             ⟨(some 18), none, .load false 1 (.tmp 17)⟩,
             ⟨(some 19), none, .mv (.tmp 1)⟩,
             ⟨(some 20), none, .bin .eql .other (.tmp 18) (.tmp 19)⟩])
           (.cond (.tmp 20)
            (.seq
             (.reg [
               ⟨(some 21), none, .mv (.tmp 5)⟩,
               ⟨(some 4), none, .mv (.tmp 21)⟩])
             .ret)
            .skip)))
         (.reg [
           ⟨(some 11), none, .mv (.tmp 5)⟩,
           ⟨(some 12), none, .bin .add .other (.tmp 11) (.const (.int .i64 1))⟩,
           ⟨(some 5), none, .mv (.tmp 12)⟩]))))))
    (.seq
     (.reg [
       ⟨(some 4), none, .mv (.const (.int .i64 (-1)))⟩])
     .ret)))
theorem F80 : compF Tryz.prog 80 = some ⟨2, 22, [.tmp 4], c80⟩ := by kernel_rfl
theorem B80 : Bod Tryz.prog 80 := bod_of F80
end Go.Proofs.YtbnelpgogjbgjaaGreat.Q
