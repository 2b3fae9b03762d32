/- The codes of the functions, and that the program has them. -/
import Derived.Test.YtbnelpgogjbgjaaFndQw
import Derived.KernelRfl
import Derived.Test.YtbnelpgogjbgjaaProg
/- The codes of the functions, and that the program has them. -/
set_option linter.unusedVariables false
namespace Go.Proofs.Ytbnelpgogjbgjaa.Q
open Go.RowKit
/-- gosem.cut.init -/
def c2 : ACode :=
  (.reg [
    ⟨(some 0), none, .call (.func 1) []⟩])
theorem F2 : compF Try.prog 2 = some ⟨0, 1, [], c2⟩ := by kernel_rfl
theorem B2 : Bod Try.prog 2 := bod_of F2
/-- quaestor/quaestorlaw06.ContractChecks -/
def c3 : ACode :=
  (.seq
   (.reg [
     ⟨(some 1), none, .box (.tmp 0)⟩,
     ⟨(some 2), none, .mv (.const (.bool false))⟩])
   (.seq
    (.seq
     (.reg [
       ⟨(some 3), none, .load true 4 (.tmp 1)⟩,
       ⟨(some 4), none, .call (.func 8) [(.tmp 3)]⟩,
       ⟨(some 5), none, .un .not (.tmp 4)⟩])
     (.cond (.tmp 5)
      (.seq
       (.reg [
         ⟨(some 2), none, .mv (.const (.bool true))⟩])
       .ret)
      .skip))
    (.seq
     (.dreg 3 [
       ⟨(some 6), none, .load true 4 (.tmp 1)⟩,
       ⟨(some 7), none, .call (.func 9) [(.tmp 6)]⟩,
       ⟨(some 8), none, .load true 4 (.tmp 1)⟩,
       ⟨(some 9), none, .call (.func 10) [(.tmp 8)]⟩,
       ⟨(some 10), none, .bin .eql .other (.tmp 7) (.tmp 9)⟩,
       ⟨(some 11), none, .mv (.tmp 10)⟩,
       ⟨(some 12), (some (11, true)), .call (.func 11) []⟩,
       ⟨(some 13), none, .pick (.tmp 11) (.tmp 12) (.const (.bool false))⟩,
       ⟨(some 2), none, .mv (.tmp 13)⟩])
     .ret)))
theorem F3 : compF Try.prog 3 = some ⟨1, 14, [.tmp 2], c3⟩ := by kernel_rfl
theorem B3 : Bod Try.prog 3 := bod_of F3
/-- quaestor/quaestorlaw06.ContractFinds -/
def c4 : ACode :=
  (.seq
   (.reg [
     ⟨(some 2), none, .box (.tmp 0)⟩,
     ⟨(some 4), none, .mv (.const (.bool false))⟩])
   (.seq
    (.seq
     (.reg [
       ⟨(some 5), none, .load true 4 (.tmp 2)⟩,
       ⟨(some 6), none, .call (.func 8) [(.tmp 5)]⟩,
       ⟨(some 7), none, .un .not (.tmp 6)⟩,
       ⟨(some 8), none, .mv (.tmp 7)⟩,
       ⟨(some 9), (some (8, false)), .mv (.tmp 1)⟩,
       ⟨(some 10), (some (8, false)), .len true (.tmp 9)⟩,
       ⟨(some 11), (some (8, false)), .bin .gtr .other (.tmp 10) (.const (.int .i64 200))⟩,
       ⟨(some 12), none, .pick (.tmp 8) (.const (.bool true)) (.tmp 11)⟩])
     (.cond (.tmp 12)
      (.seq
       (.reg [
         ⟨(some 4), none, .mv (.const (.bool true))⟩])
       .ret)
      .skip))
    (.seq
     (.dreg 22 [
       ⟨(some 13), none, .load true 4 (.tmp 2)⟩,
       ⟨(some 14), none, .mv (.tmp 1)⟩,
       ⟨(some 15), none, .call (.func 12) [(.tmp 13), (.tmp 14)]⟩,
       ⟨(some 16), none, .load true 4 (.tmp 2)⟩,
       ⟨(some 17), none, .mv (.tmp 1)⟩,
       ⟨(some 18), none, .call (.func 13) [(.tmp 16), (.tmp 17)]⟩,
       ⟨(some 19), none, .bin .eql .other (.tmp 15) (.tmp 18)⟩,
       ⟨(some 20), none, .mv (.tmp 19)⟩,
       ⟨(some 21), (some (20, true)), .load true 4 (.tmp 2)⟩,
       ⟨(some 22), (some (20, true)), .mv (.tmp 1)⟩,
       ⟨(some 23), (some (20, true)), .call (.func 14) [(.tmp 21), (.tmp 22)]⟩,
       ⟨(some 24), (some (20, true)), .load true 4 (.tmp 2)⟩,
       ⟨(some 25), (some (20, true)), .mv (.tmp 1)⟩,
       ⟨(some 26), (some (20, true)), .call (.func 15) [(.tmp 24), (.tmp 25)]⟩,
       ⟨(some 27), (some (20, true)), .bin .eql .other (.tmp 23) (.tmp 26)⟩,
       ⟨(some 28), none, .pick (.tmp 20) (.tmp 27) (.const (.bool false))⟩,
       ⟨(some 29), none, .mv (.tmp 28)⟩,
       ⟨(some 30), (some (29, true)), .load true 4 (.tmp 2)⟩,
       ⟨(some 31), (some (29, true)), .mv (.tmp 1)⟩,
       ⟨(some 32), (some (29, true)), .call (.func 16) [(.tmp 30), (.tmp 31)]⟩,
       ⟨(some 33), (some (29, true)), .load true 4 (.tmp 2)⟩,
       ⟨(some 34), (some (29, true)), .mv (.tmp 1)⟩,
       ⟨(some 35), (some (29, true)), .call (.func 17) [(.tmp 33), (.tmp 34)]⟩,
       ⟨(some 36), (some (29, true)), .bin .eql .other (.tmp 32) (.tmp 35)⟩,
       ⟨(some 37), none, .pick (.tmp 29) (.tmp 36) (.const (.bool false))⟩,
       ⟨(some 38), none, .mv (.tmp 37)⟩,
       ⟨(some 39), (some (38, true)), .call (.func 11) []⟩,
       ⟨(some 40), none, .pick (.tmp 38) (.tmp 39) (.const (.bool false))⟩,
       ⟨(some 4), none, .mv (.tmp 40)⟩])
     .ret)))
theorem F4 : compF Try.prog 4 = some ⟨2, 41, [.tmp 4], c4⟩ := by kernel_rfl
theorem B4 : Bod Try.prog 4 := bod_of F4
/-- quaestor/quaestorlaw05.ExprCodes -/
def c5 : ACode :=
  (.seq
   (.reg [
     ⟨(some 2), none, .box (.tmp 0)⟩,
     ⟨(some 4), none, .mv (.const (.bool false))⟩])
   (.seq
    (.seq
     (.reg [
       ⟨(some 11), none, .mv (.tmp 1)⟩,
       ⟨(some 12), none, .len false (.tmp 11)⟩,
       ⟨(some 13), none, .bin .gtr .other (.tmp 12) (.const (.int .i64 5000))⟩,
       ⟨(some 14), none, .mv (.tmp 13)⟩,
       ⟨(some 15), (some (14, false)), .load true 8 (.tmp 2)⟩,
       ⟨(some 16), (some (14, false)), .call (.func 18) [(.tmp 15)]⟩,
       ⟨(some 17), (some (14, false)), .mv (.tmp 16)⟩,
       ⟨(some 18), (some (17, true)), .load true 8 (.tmp 2)⟩,
       ⟨(some 19), (some (17, true)), .call (.func 19) [(.tmp 18)]⟩,
       ⟨(some 20), (some (14, false)), .pick (.tmp 17) (.tmp 19) (.const (.bool false))⟩,
       ⟨(some 21), none, .pick (.tmp 14) (.const (.bool true)) (.tmp 20)⟩])
     (.cond (.tmp 21)
      (.seq
       (.reg [
         ⟨(some 4), none, .mv (.const (.bool true))⟩])
       .ret)
      .skip))
    (.seq
     (.reg [
       ⟨(some 22), none, .mv (.tmp 1)⟩,
       ⟨(some 23), none, .call (.func 20) [(.tmp 22)]⟩,
       ⟨(some 24), none, .mv (.tmp 1)⟩,
       ⟨(some 25), none, .build [.slice none 0 0, .int .i64 0, .int .i64 0] [(0, 1, (.tmp 24))]⟩,
       ⟨(some 26), none, .box (.tmp 25)⟩,
       ⟨(some 5), none, .mv (.tmp 23)⟩,
       ⟨(some 6), none, .mv (.tmp 26)⟩])
     (.seq
      (.reg [
        ⟨(some 28), none, .mv (.tmp 5)⟩,
        ⟨(some 29), none, .call (.func 21) [(.tmp 28)]⟩,
        ⟨(some 27), none, .mv (.tmp 29)⟩,
        ⟨(some 30), none, .ext (.tmp 27) 0⟩,
        ⟨(some 31), none, .ext (.tmp 27) 1⟩,
        ⟨(some 7), none, .alloc [.int .i64 0, .slice none 0 0, .string ⟨#[]⟩, .int .i64 0, .int .i64 0, .bool false, .string ⟨#[]⟩, .float .f64 0]⟩,
        ⟨none, none, .store 8 (.tmp 7) (.tmp 30)⟩,
        ⟨(some 8), none, .mv (.tmp 31)⟩])
      (.seq
       (.reg [
         ⟨(some 33), none, .mv (.tmp 6)⟩,
         ⟨(some 34), none, .call (.func 22) [(.tmp 33)]⟩,
         ⟨(some 32), none, .mv (.tmp 34)⟩,
         ⟨(some 35), none, .ext (.tmp 32) 0⟩,
         ⟨(some 36), none, .ext (.tmp 32) 1⟩,
         ⟨(some 9), none, .alloc [.int .i64 0, .slice none 0 0, .string ⟨#[]⟩, .int .i64 0, .int .i64 0, .bool false, .string ⟨#[]⟩, .float .f64 0]⟩,
         ⟨none, none, .store 8 (.tmp 9) (.tmp 35)⟩,
         ⟨(some 10), none, .mv (.tmp 36)⟩])
       (.seq
        (.dreg 24 [
          ⟨(some 37), none, .slit 5 1 [(.const (.int .u8 9))]⟩,
          ⟨(some 38), none, .load true 8 (.tmp 2)⟩,
          ⟨(some 39), none, .call (.func 24) [(.tmp 37), (.tmp 38)]⟩,
          ⟨(some 40), none, .slit 5 1 [(.const (.int .u8 9))]⟩,
          ⟨(some 41), none, .load true 8 (.tmp 2)⟩,
          ⟨(some 42), none, .call (.func 25) [(.tmp 40), (.tmp 41)]⟩,
          ⟨(some 43), none, .call (.func 23) [(.tmp 39), (.tmp 42)]⟩,
          ⟨(some 44), none, .mv (.tmp 43)⟩,
          ⟨(some 45), (some (44, true)), .load true 8 (.tmp 7)⟩,
          ⟨(some 46), (some (44, true)), .load true 8 (.tmp 9)⟩,
          ⟨(some 47), (some (44, true)), .call (.func 26) [(.tmp 45), (.tmp 46)]⟩,
          ⟨(some 48), none, .pick (.tmp 44) (.tmp 47) (.const (.bool false))⟩,
          ⟨(some 49), none, .mv (.tmp 48)⟩,
          ⟨(some 50), (some (49, true)), .mv (.tmp 8)⟩,
          ⟨(some 51), (some (49, true)), .mv (.tmp 10)⟩,
          ⟨(some 52), (some (49, true)), .bin .eql .other (.tmp 50) (.tmp 51)⟩,
          ⟨(some 53), none, .pick (.tmp 49) (.tmp 52) (.const (.bool false))⟩,
          ⟨(some 54), none, .mv (.tmp 53)⟩,
          ⟨(some 55), (some (54, true)), .mv (.tmp 8)⟩,
          ⟨(some 56), (some (54, true)), .bin .neq .other (.tmp 55) (.const (.int .i64 0))⟩,
          ⟨(some 57), (some (54, true)), .mv (.tmp 56)⟩,
          ⟨(some 58), (some (57, false)), .mv (.tmp 5)⟩,
          ⟨(some 59), (some (57, false)), .call (.func 27) [(.tmp 58)]⟩,
          ⟨(some 60), (some (57, false)), .mv (.tmp 6)⟩,
          ⟨(some 61), (some (57, false)), .call (.func 28) [(.tmp 60)]⟩,
          ⟨(some 62), (some (57, false)), .bin .eql .other (.tmp 59) (.tmp 61)⟩,
          ⟨(some 63), (some (54, true)), .pick (.tmp 57) (.const (.bool true)) (.tmp 62)⟩,
          ⟨(some 64), none, .pick (.tmp 54) (.tmp 63) (.const (.bool false))⟩,
          ⟨(some 65), none, .mv (.tmp 64)⟩,
          ⟨(some 66), (some (65, true)), .call (.func 29) []⟩,
          ⟨(some 67), none, .pick (.tmp 65) (.tmp 66) (.const (.bool false))⟩,
          ⟨(some 4), none, .mv (.tmp 67)⟩])
        .ret))))))
theorem F5 : compF Try.prog 5 = some ⟨2, 68, [.tmp 4], c5⟩ := by kernel_rfl
theorem B5 : Bod Try.prog 5 := bod_of F5
/-- quaestor/quaestorlaw06.Few -/
def c8 : ACode :=
  (.seq
   (.reg [
     ⟨(some 1), none, .box (.tmp 0)⟩,
     ⟨(some 2), none, .mv (.const (.bool false))⟩])
   (.seq
    (.seq
     (.reg [
       ⟨(some 6), none, .fad 0 (.tmp 1)⟩,
       ⟨(some 7), none, .load false 1 (.tmp 6)⟩,
       ⟨(some 8), none, .len true (.tmp 7)⟩,
       ⟨(some 9), none, .bin .gtr .other (.tmp 8) (.const (.int .i64 200))⟩,
       ⟨(some 10), none, .mv (.tmp 9)⟩,
       ⟨(some 11), (some (10, false)), .fad 1 (.tmp 1)⟩,
       ⟨(some 12), (some (10, false)), .load false 1 (.tmp 11)⟩,
       ⟨(some 13), (some (10, false)), .len false (.tmp 12)⟩,
       ⟨(some 14), (some (10, false)), .bin .gtr .other (.tmp 13) (.const (.int .i64 30))⟩,
       ⟨(some 15), none, .pick (.tmp 10) (.const (.bool true)) (.tmp 14)⟩,
       ⟨(some 16), none, .mv (.tmp 15)⟩,
       ⟨(some 17), (some (16, false)), .fad 2 (.tmp 1)⟩,
       ⟨(some 18), (some (16, false)), .load false 1 (.tmp 17)⟩,
       ⟨(some 19), (some (16, false)), .len false (.tmp 18)⟩,
       ⟨(some 20), (some (16, false)), .bin .gtr .other (.tmp 19) (.const (.int .i64 30))⟩,
       ⟨(some 21), none, .pick (.tmp 16) (.const (.bool true)) (.tmp 20)⟩,
       ⟨(some 22), none, .mv (.tmp 21)⟩,
       ⟨(some 23), (some (22, false)), .fad 3 (.tmp 1)⟩,
       ⟨(some 24), (some (22, false)), .load false 1 (.tmp 23)⟩,
       ⟨(some 25), (some (22, false)), .len false (.tmp 24)⟩,
       ⟨(some 26), (some (22, false)), .bin .gtr .other (.tmp 25) (.const (.int .i64 30))⟩,
       ⟨(some 27), none, .pick (.tmp 22) (.const (.bool true)) (.tmp 26)⟩])
     (.cond (.tmp 27)
      (.seq
       (.reg [
         ⟨(some 2), none, .mv (.const (.bool false))⟩])
       .ret)
      .skip))
    (.seq
     (.seq
      (.reg [
        ⟨(some 3), none, .mv (.const (.int .i64 0))⟩])
      (.block 0
       (.loop
        (.seq
         (.seq
          (.reg [
            ⟨(some 28), none, .mv (.tmp 3)⟩,
            ⟨(some 29), none, .fad 1 (.tmp 1)⟩,
            ⟨(some 30), none, .load false 1 (.tmp 29)⟩,
            ⟨(some 31), none, .len false (.tmp 30)⟩,
            ⟨(some 32), none, .bin .lss .other (.tmp 28) (.tmp 31)⟩])
          (.cond (.tmp 32)
           .skip
           (.exit 0)))
         (.seq
          (.block 1
           (.seq
            (.reg [
              ⟨(some 35), none, .fad 1 (.tmp 1)⟩,
              ⟨(some 36), none, .load false 1 (.tmp 35)⟩,
              ⟨(some 37), none, .mv (.tmp 3)⟩,
              ⟨(some 38), none, .iad 8 (.tmp 36) (.tmp 37)⟩,
              ⟨(some 39), none, .fad 0 (.tmp 38)⟩,
              ⟨(some 40), none, .load false 1 (.tmp 39)⟩,
              ⟨(some 41), none, .len true (.tmp 40)⟩,
              ⟨(some 42), none, .bin .gtr .other (.tmp 41) (.const (.int .i64 200))⟩,
              ⟨(some 43), none, .mv (.tmp 42)⟩,
              ⟨(some 44), (some (43, false)), .fad 1 (.tmp 1)⟩,
              ⟨(some 45), (some (43, false)), .load false 1 (.tmp 44)⟩,
              ⟨(some 46), (some (43, false)), .mv (.tmp 3)⟩,
              ⟨(some 47), (some (43, false)), .iad 8 (.tmp 45) (.tmp 46)⟩,
              ⟨(some 48), (some (43, false)), .fad 2 (.tmp 47)⟩,
              ⟨(some 49), (some (43, false)), .load false 1 (.tmp 48)⟩,
              ⟨(some 50), (some (43, false)), .len false (.tmp 49)⟩,
              ⟨(some 51), (some (43, false)), .bin .gtr .other (.tmp 50) (.const (.int .i64 30))⟩,
              ⟨(some 52), none, .pick (.tmp 43) (.const (.bool true)) (.tmp 51)⟩,
              ⟨(some 53), none, .mv (.tmp 52)⟩,
              ⟨(some 54), (some (53, false)), .fad 1 (.tmp 1)⟩,
              ⟨(some 55), (some (53, false)), .load false 1 (.tmp 54)⟩,
              ⟨(some 56), (some (53, false)), .mv (.tmp 3)⟩,
              ⟨(some 57), (some (53, false)), .iad 8 (.tmp 55) (.tmp 56)⟩,
              ⟨(some 58), (some (53, false)), .fad 3 (.tmp 57)⟩,
              ⟨(some 59), (some (53, false)), .fad 3 (.tmp 58)⟩,
              ⟨(some 60), (some (53, false)), .load false 1 (.tmp 59)⟩,
              ⟨(some 61), (some (53, false)), .len true (.tmp 60)⟩,
              ⟨(some 62), (some (53, false)), .bin .gtr .other (.tmp 61) (.const (.int .i64 200))⟩,
              ⟨(some 63), none, .pick (.tmp 53) (.const (.bool true)) (.tmp 62)⟩])
            (.cond (.tmp 63)
             (.seq
              (.reg [
                ⟨(some 2), none, .mv (.const (.bool false))⟩])
              .ret)
             .skip)))
          (.reg [
            ⟨(some 33), none, .mv (.tmp 3)⟩,
            ⟨(some 34), none, .bin .add .other (.tmp 33) (.const (.int .i64 1))⟩,
            ⟨(some 3), none, .mv (.tmp 34)⟩]))))))
     (.seq
      (.seq
       (.reg [
         ⟨(some 4), none, .mv (.const (.int .i64 0))⟩])
       (.block 2
        (.loop
         (.seq
          (.seq
           (.reg [
             ⟨(some 64), none, .mv (.tmp 4)⟩,
             ⟨(some 65), none, .fad 2 (.tmp 1)⟩,
             ⟨(some 66), none, .load false 1 (.tmp 65)⟩,
             ⟨(some 67), none, .len false (.tmp 66)⟩,
             ⟨(some 68), none, .bin .lss .other (.tmp 64) (.tmp 67)⟩])
           (.cond (.tmp 68)
            .skip
            (.exit 2)))
          (.seq
           (.block 3
            (.seq
             (.reg [
               ⟨(some 71), none, .fad 2 (.tmp 1)⟩,
               ⟨(some 72), none, .load false 1 (.tmp 71)⟩,
               ⟨(some 73), none, .mv (.tmp 4)⟩,
               ⟨(some 74), none, .iad 3 (.tmp 72) (.tmp 73)⟩,
               ⟨(some 75), none, .fad 2 (.tmp 74)⟩,
               ⟨(some 76), none, .load false 1 (.tmp 75)⟩,
               ⟨(some 77), none, .len false (.tmp 76)⟩,
               ⟨(some 78), none, .bin .gtr .other (.tmp 77) (.const (.int .i64 30))⟩])
             (.cond (.tmp 78)
              (.seq
               (.reg [
                 ⟨(some 2), none, .mv (.const (.bool false))⟩])
               .ret)
              .skip)))
           (.reg [
             ⟨(some 69), none, .mv (.tmp 4)⟩,
             ⟨(some 70), none, .bin .add .other (.tmp 69) (.const (.int .i64 1))⟩,
             ⟨(some 4), none, .mv (.tmp 70)⟩]))))))
      (.seq
       (.seq
        (.reg [
          ⟨(some 5), none, .mv (.const (.int .i64 0))⟩])
        (.block 4
         (.loop
          (.seq
           (.seq
            (.reg [
              ⟨(some 79), none, .mv (.tmp 5)⟩,
              ⟨(some 80), none, .fad 3 (.tmp 1)⟩,
              ⟨(some 81), none, .load false 1 (.tmp 80)⟩,
              ⟨(some 82), none, .len false (.tmp 81)⟩,
              ⟨(some 83), none, .bin .lss .other (.tmp 79) (.tmp 82)⟩])
            (.cond (.tmp 83)
             .skip
             (.exit 4)))
           (.seq
            (.block 5
             (.seq
              (.reg [
                ⟨(some 86), none, .fad 3 (.tmp 1)⟩,
                ⟨(some 87), none, .load false 1 (.tmp 86)⟩,
                ⟨(some 88), none, .mv (.tmp 5)⟩,
                ⟨(some 89), none, .iad 13 (.tmp 87) (.tmp 88)⟩,
                ⟨(some 90), none, .fad 11 (.tmp 89)⟩,
                ⟨(some 91), none, .load false 1 (.tmp 90)⟩,
                ⟨(some 92), none, .len false (.tmp 91)⟩,
                ⟨(some 93), none, .bin .gtr .other (.tmp 92) (.const (.int .i64 30))⟩])
              (.cond (.tmp 93)
               (.seq
                (.reg [
                  ⟨(some 2), none, .mv (.const (.bool false))⟩])
                .ret)
               .skip)))
            (.reg [
              ⟨(some 84), none, .mv (.tmp 5)⟩,
              ⟨(some 85), none, .bin .add .other (.tmp 84) (.const (.int .i64 1))⟩,
              ⟨(some 5), none, .mv (.tmp 85)⟩]))))))
       (.seq
        (.reg [
          ⟨(some 2), none, .mv (.const (.bool true))⟩])
        .ret))))))
theorem F8 : compF Try.prog 8 = some ⟨1, 94, [.tmp 2], c8⟩ := by kernel_rfl
theorem B8 : Bod Try.prog 8 := bod_of F8
/-- quaestor/contract.Check -/
def c9 : ACode :=
  (.seq
   (.reg [
     ⟨(some 1), none, .box (.tmp 0)⟩,
     ⟨(some 2), none, .mv (.const (.int .i64 0))⟩])
   (.seq
    (.reg [
      ⟨(some 4), none, .mkf 37 [] [(.tmp 1)]⟩,
      ⟨(some 3), none, .mv (.tmp 4)⟩])
    (.seq
     (.block 0
      (.seq
       (.reg [
         ⟨(some 6), none, .fad 0 (.tmp 1)⟩,
         ⟨(some 7), none, .load false 1 (.tmp 6)⟩,
         ⟨(some 8), none, .call (.func 39) [(.tmp 7)]⟩,
         ⟨(some 9), none, .un .not (.tmp 8)⟩,
         ⟨(some 5), none, .mv (.tmp 9)⟩])
       (.cond (.tmp 5)
        (.seq
         (.reg [
           ⟨(some 2), none, .mv (.const (.int .i64 50))⟩])
         .ret)
        (.seq
         (.reg [
           ⟨(some 11), none, .fad 1 (.tmp 1)⟩,
           ⟨(some 12), none, .load false 1 (.tmp 11)⟩,
           ⟨(some 13), none, .len false (.tmp 12)⟩,
           ⟨(some 14), none, .bin .gtr .other (.tmp 13) (.const (.int .i64 6))⟩,
           ⟨(some 15), none, .mv (.tmp 14)⟩,
           ⟨(some 16), (some (15, false)), .fad 1 (.tmp 1)⟩,
           ⟨(some 17), (some (15, false)), .load false 1 (.tmp 16)⟩,
           ⟨(some 18), (some (15, false)), .call (.func 40) [(.tmp 17), (.func 41)]⟩,
           ⟨(some 19), (some (15, false)), .un .not (.tmp 18)⟩,
           ⟨(some 20), none, .pick (.tmp 15) (.const (.bool true)) (.tmp 19)⟩,
           ⟨(some 21), none, .mv (.tmp 20)⟩,
           ⟨(some 22), (some (21, false)), .fad 1 (.tmp 1)⟩,
           ⟨(some 23), (some (21, false)), .load false 1 (.tmp 22)⟩,
           ⟨(some 24), (some (21, false)), .call (.func 42) [(.tmp 23), (.func 43)]⟩,
           ⟨(some 25), none, .pick (.tmp 21) (.const (.bool true)) (.tmp 24)⟩,
           ⟨(some 10), none, .mv (.tmp 25)⟩])
         (.cond (.tmp 10)
          (.seq
           (.reg [
             ⟨(some 2), none, .mv (.const (.int .i64 60))⟩])
           .ret)
          (.seq
           (.reg [
             ⟨(some 27), none, .fad 2 (.tmp 1)⟩,
             ⟨(some 28), none, .load false 1 (.tmp 27)⟩,
             ⟨(some 29), none, .len false (.tmp 28)⟩,
             ⟨(some 30), none, .bin .eql .other (.tmp 29) (.const (.int .i64 0))⟩,
             ⟨(some 31), none, .mv (.tmp 30)⟩,
             ⟨(some 32), (some (31, false)), .fad 2 (.tmp 1)⟩,
             ⟨(some 33), (some (31, false)), .load false 1 (.tmp 32)⟩,
             ⟨(some 34), (some (31, false)), .len false (.tmp 33)⟩,
             ⟨(some 35), (some (31, false)), .bin .gtr .other (.tmp 34) (.const (.int .i64 6))⟩,
             ⟨(some 36), none, .pick (.tmp 31) (.const (.bool true)) (.tmp 35)⟩,
             ⟨(some 37), none, .mv (.tmp 36)⟩,
             ⟨(some 38), (some (37, false)), .fad 2 (.tmp 1)⟩,
             ⟨(some 39), (some (37, false)), .load false 1 (.tmp 38)⟩,
             ⟨(some 40), (some (37, false)), .call (.func 45) [(.tmp 39), (.func 46)]⟩,
             ⟨(some 41), (some (37, false)), .un .not (.tmp 40)⟩,
             ⟨(some 42), none, .pick (.tmp 37) (.const (.bool true)) (.tmp 41)⟩,
             ⟨(some 43), none, .mv (.tmp 42)⟩,
             ⟨(some 44), (some (43, false)), .fad 2 (.tmp 1)⟩,
             ⟨(some 45), (some (43, false)), .load false 1 (.tmp 44)⟩,
             ⟨(some 46), (some (43, false)), .call (.func 47) [(.tmp 45), (.func 48)]⟩,
             ⟨(some 47), none, .pick (.tmp 43) (.const (.bool true)) (.tmp 46)⟩,
             ⟨(some 26), none, .mv (.tmp 47)⟩])
           (.cond (.tmp 26)
            (.seq
             (.reg [
               ⟨(some 2), none, .mv (.const (.int .i64 61))⟩])
             .ret)
            (.seq
             (.reg [
               ⟨(some 49), none, .fad 3 (.tmp 1)⟩,
               ⟨(some 50), none, .load false 1 (.tmp 49)⟩,
               ⟨(some 51), none, .len false (.tmp 50)⟩,
               ⟨(some 52), none, .bin .gtr .other (.tmp 51) (.const (.int .i64 8))⟩,
               ⟨(some 53), none, .mv (.tmp 52)⟩,
               ⟨(some 54), (some (53, false)), .fad 3 (.tmp 1)⟩,
               ⟨(some 55), (some (53, false)), .load false 1 (.tmp 54)⟩,
               ⟨(some 56), (some (53, false)), .call (.func 50) [(.tmp 55), (.func 51)]⟩,
               ⟨(some 57), (some (53, false)), .un .not (.tmp 56)⟩,
               ⟨(some 58), none, .pick (.tmp 53) (.const (.bool true)) (.tmp 57)⟩,
               ⟨(some 59), none, .mv (.tmp 58)⟩,
               ⟨(some 60), (some (59, false)), .fad 3 (.tmp 1)⟩,
               ⟨(some 61), (some (59, false)), .load false 1 (.tmp 60)⟩,
               ⟨(some 62), (some (59, false)), .mv (.tmp 3)⟩,
               ⟨(some 63), (some (59, false)), .call (.func 52) [(.tmp 61), (.tmp 62)]⟩,
               ⟨(some 64), none, .pick (.tmp 59) (.const (.bool true)) (.tmp 63)⟩,
               ⟨(some 48), none, .mv (.tmp 64)⟩])
             (.cond (.tmp 48)
              (.seq
               (.reg [
                 ⟨(some 2), none, .mv (.const (.int .i64 62))⟩])
               .ret)
              .skip)))))))))
     (.seq
      (.reg [
        ⟨(some 2), none, .mv (.const (.int .i64 0))⟩])
      .ret))))
theorem F9 : compF Try.prog 9 = some ⟨1, 65, [.tmp 2], c9⟩ := by kernel_rfl
theorem B9 : Bod Try.prog 9 := bod_of F9
/-- quaestor/quaestorref06.Check -/
def c10 : ACode :=
  (.seq
   (.reg [
     ⟨(some 1), none, .box (.tmp 0)⟩,
     ⟨(some 2), none, .mv (.const (.int .i64 0))⟩])
   (.seq
    (.seq
     (.reg [
       ⟨(some 4), none, .fad 0 (.tmp 1)⟩,
       ⟨(some 5), none, .load false 1 (.tmp 4)⟩,
       ⟨(some 6), none, .call (.func 53) [(.tmp 5)]⟩,
       ⟨(some 7), none, .un .not (.tmp 6)⟩])
     (.cond (.tmp 7)
      (.seq
       (.reg [
         ⟨(some 2), none, .mv (.const (.int .i64 50))⟩])
       .ret)
      .skip))
    (.seq
     (.seq
      (.reg [
        ⟨(some 8), none, .load true 4 (.tmp 1)⟩,
        ⟨(some 9), none, .call (.func 54) [(.tmp 8)]⟩,
        ⟨(some 10), none, .un .not (.tmp 9)⟩])
      (.cond (.tmp 10)
       (.seq
        (.reg [
          ⟨(some 2), none, .mv (.const (.int .i64 60))⟩])
        .ret)
       .skip))
     (.seq
      (.seq
       (.reg [
         ⟨(some 11), none, .load true 4 (.tmp 1)⟩,
         ⟨(some 12), none, .call (.func 55) [(.tmp 11)]⟩,
         ⟨(some 13), none, .un .not (.tmp 12)⟩])
       (.cond (.tmp 13)
        (.seq
         (.reg [
           ⟨(some 2), none, .mv (.const (.int .i64 61))⟩])
         .ret)
        .skip))
      (.seq
       (.seq
        (.reg [
          ⟨(some 14), none, .fad 3 (.tmp 1)⟩,
          ⟨(some 15), none, .load false 1 (.tmp 14)⟩,
          ⟨(some 16), none, .len false (.tmp 15)⟩,
          ⟨(some 17), none, .bin .gtr .other (.tmp 16) (.const (.int .i64 8))⟩])
        (.cond (.tmp 17)
         (.seq
          (.reg [
            ⟨(some 2), none, .mv (.const (.int .i64 62))⟩])
          .ret)
         .skip))
       (.seq
        (.seq
         (.reg [
           ⟨(some 3), none, .mv (.const (.int .i64 0))⟩])
         (.block 0
          (.loop
           (.seq
            (.seq
             (.reg [
               ⟨(some 18), none, .mv (.tmp 3)⟩,
               ⟨(some 19), none, .fad 3 (.tmp 1)⟩,
               ⟨(some 20), none, .load false 1 (.tmp 19)⟩,
               ⟨(some 21), none, .len false (.tmp 20)⟩,
               ⟨(some 22), none, .bin .lss .other (.tmp 18) (.tmp 21)⟩])
             (.cond (.tmp 22)
              .skip
              (.exit 0)))
            (.seq
             (.block 1
              (.seq
               (.dreg 27 [
                 ⟨(some 25), none, .fad 3 (.tmp 1)⟩,
                 ⟨(some 26), none, .load false 1 (.tmp 25)⟩,
                 ⟨(some 27), none, .mv (.tmp 3)⟩,
                 ⟨(some 28), none, .iad 13 (.tmp 26) (.tmp 27)⟩,
                 ⟨(some 29), none, .fad 0 (.tmp 28)⟩,
                 ⟨(some 30), none, .load false 1 (.tmp 29)⟩,
                 ⟨(some 31), none, .call (.func 53) [(.tmp 30)]⟩,
                 ⟨(some 32), none, .un .not (.tmp 31)⟩,
                 ⟨(some 33), none, .mv (.tmp 32)⟩,
                 ⟨(some 34), (some (33, false)), .load true 4 (.tmp 1)⟩,
                 ⟨(some 35), (some (33, false)), .fad 3 (.tmp 1)⟩,
                 ⟨(some 36), (some (33, false)), .load false 1 (.tmp 35)⟩,
                 ⟨(some 37), (some (33, false)), .mv (.tmp 3)⟩,
                 ⟨(some 38), (some (33, false)), .iad 13 (.tmp 36) (.tmp 37)⟩,
                 ⟨(some 39), (some (33, false)), .fad 0 (.tmp 38)⟩,
                 ⟨(some 40), (some (33, false)), .load false 1 (.tmp 39)⟩,
                 ⟨(some 41), (some (33, false)), .call (.func 17) [(.tmp 34), (.tmp 40)]⟩,
                 ⟨(some 42), (some (33, false)), .mv (.tmp 3)⟩,
                 ⟨(some 43), (some (33, false)), .bin .neq .other (.tmp 41) (.tmp 42)⟩,
                 ⟨(some 44), none, .pick (.tmp 33) (.const (.bool true)) (.tmp 43)⟩,
                 ⟨(some 45), none, .mv (.tmp 44)⟩,
                 ⟨(some 46), (some (45, false)), .load true 4 (.tmp 1)⟩,
                 ⟨(some 47), (some (45, false)), .fad 3 (.tmp 1)⟩,
                 ⟨(some 48), (some (45, false)), .load false 1 (.tmp 47)⟩,
                 ⟨(some 49), (some (45, false)), .mv (.tmp 3)⟩,
                 ⟨(some 50), (some (45, false)), .iad 13 (.tmp 48) (.tmp 49)⟩,
                 ⟨(some 51), (some (45, false)), .load true 13 (.tmp 50)⟩,
                 ⟨(some 52), (some (45, false)), .call (.func 56) [(.tmp 46), (.tmp 51)]⟩,
                 ⟨(some 53), (some (45, false)), .un .not (.tmp 52)⟩,
                 ⟨(some 54), none, .pick (.tmp 45) (.const (.bool true)) (.tmp 53)⟩])
               (.cond (.tmp 54)
                (.seq
                 (.reg [
                   ⟨(some 2), none, .mv (.const (.int .i64 62))⟩])
                 .ret)
                .skip)))
             (.reg [
               ⟨(some 23), none, .mv (.tmp 3)⟩,
               ⟨(some 24), none, .bin .add .other (.tmp 23) (.const (.int .i64 1))⟩,
               ⟨(some 3), none, .mv (.tmp 24)⟩]))))))
        (.seq
         (.reg [
           ⟨(some 2), none, .mv (.const (.int .i64 0))⟩])
         .ret)))))))
theorem F10 : compF Try.prog 10 = some ⟨1, 55, [.tmp 2], c10⟩ := by kernel_rfl
theorem B10 : Bod Try.prog 10 := bod_of F10
/-- quaestor/quaestorlaw06.awake -/
def c11 : ACode :=
  (.seq
   (.reg [
     ⟨(some 0), none, .mv (.const (.bool false))⟩])
   (.seq
    (.reg [
      ⟨(some 4), none, .call (.func 57) []⟩,
      ⟨(some 5), none, .call (.func 57) []⟩,
      ⟨(some 6), none, .call (.func 57) []⟩,
      ⟨(some 1), none, .alloc [.string ⟨#[]⟩, .slice none 0 0, .slice none 0 0, .slice none 0 0]⟩,
      ⟨(some 2), none, .alloc [.string ⟨#[]⟩, .slice none 0 0, .slice none 0 0, .slice none 0 0]⟩,
      ⟨(some 3), none, .alloc [.string ⟨#[]⟩, .slice none 0 0, .slice none 0 0, .slice none 0 0]⟩,
      ⟨none, none, .store 4 (.tmp 1) (.tmp 4)⟩,
      ⟨none, none, .store 4 (.tmp 2) (.tmp 5)⟩,
      ⟨none, none, .store 4 (.tmp 3) (.tmp 6)⟩])
    (.seq
     (.reg [
       ⟨(some 7), none, .fad 2 (.tmp 1)⟩,
       ⟨none, none, .store 1 (.tmp 7) (.const (.slice none 0 0))⟩])
     (.seq
      (.reg [
        ⟨(some 8), none, .fad 3 (.tmp 1)⟩,
        ⟨none, none, .store 1 (.tmp 8) (.const (.slice none 0 0))⟩])
      (.seq
       (.reg [
         ⟨(some 9), none, .build [.int .i64 0, .int .i64 0, .bool false, .string ⟨#[]⟩, .float .f64 0] [(0, 1, (.const (.int .i64 1)))]⟩,
         ⟨(some 10), none, .build [.int .i64 0, .slice none 0 0, .string ⟨#[]⟩, .int .i64 0, .int .i64 0, .bool false, .string ⟨#[]⟩, .float .f64 0] [(0, 1, (.const (.int .i64 1))), (3, 5, (.tmp 9))]⟩,
         ⟨(some 11), none, .build [.string ⟨#[]⟩, .int .i64 0, .int .i64 0, .int .i64 0, .slice none 0 0, .string ⟨#[]⟩, .int .i64 0, .int .i64 0, .bool false, .string ⟨#[]⟩, .float .f64 0, .slice none 0 0, .int .i64 0] [(0, 1, (.const (.string ⟨#[109]⟩))), (12, 1, (.const (.int .i64 (-1)))), (3, 8, (.tmp 10))]⟩,
         ⟨(some 12), none, .slit 80 13 [(.tmp 11)]⟩,
         ⟨(some 13), none, .fad 3 (.tmp 2)⟩,
         ⟨none, none, .store 1 (.tmp 13) (.tmp 12)⟩])
       (.seq
        (.dreg 8 [
          ⟨(some 14), none, .fad 1 (.tmp 3)⟩,
          ⟨(some 15), none, .load false 1 (.tmp 14)⟩,
          ⟨(some 16), none, .iad 8 (.tmp 15) (.const (.int .i64 0))⟩,
          ⟨(some 17), none, .load true 8 (.tmp 16)⟩,
          ⟨(some 18), none, .fad 1 (.tmp 3)⟩,
          ⟨(some 19), none, .load false 1 (.tmp 18)⟩,
          ⟨(some 20), none, .iad 8 (.tmp 19) (.const (.int .i64 0))⟩,
          ⟨(some 21), none, .load true 8 (.tmp 20)⟩,
          ⟨(some 22), none, .slit 60 8 [(.tmp 17), (.tmp 21)]⟩,
          ⟨(some 23), none, .fad 1 (.tmp 3)⟩,
          ⟨none, none, .store 1 (.tmp 23) (.tmp 22)⟩])
        (.seq
         (.reg [
           ⟨(some 24), none, .call (.func 57) []⟩,
           ⟨(some 25), none, .call (.func 9) [(.tmp 24)]⟩,
           ⟨(some 26), none, .bin .eql .other (.tmp 25) (.const (.int .i64 0))⟩,
           ⟨(some 27), none, .mv (.tmp 26)⟩,
           ⟨(some 28), (some (27, true)), .call (.func 57) []⟩,
           ⟨(some 29), (some (27, true)), .call (.func 58) [(.const (.slice none 0 0)), (.tmp 28)]⟩,
           ⟨(some 30), (some (27, true)), .len false (.tmp 29)⟩,
           ⟨(some 31), (some (27, true)), .bin .gtr .other (.tmp 30) (.const (.int .i64 20))⟩,
           ⟨(some 32), none, .pick (.tmp 27) (.tmp 31) (.const (.bool false))⟩,
           ⟨(some 33), none, .mv (.tmp 32)⟩,
           ⟨(some 34), (some (33, true)), .load true 4 (.tmp 1)⟩,
           ⟨(some 35), (some (33, true)), .call (.func 9) [(.tmp 34)]⟩,
           ⟨(some 36), (some (33, true)), .bin .eql .other (.tmp 35) (.const (.int .i64 61))⟩,
           ⟨(some 37), none, .pick (.tmp 33) (.tmp 36) (.const (.bool false))⟩,
           ⟨(some 38), none, .mv (.tmp 37)⟩,
           ⟨(some 39), (some (38, true)), .load true 4 (.tmp 2)⟩,
           ⟨(some 40), (some (38, true)), .call (.func 9) [(.tmp 39)]⟩,
           ⟨(some 41), (some (38, true)), .bin .eql .other (.tmp 40) (.const (.int .i64 62))⟩,
           ⟨(some 42), none, .pick (.tmp 38) (.tmp 41) (.const (.bool false))⟩,
           ⟨(some 43), none, .mv (.tmp 42)⟩,
           ⟨(some 44), (some (43, true)), .load true 4 (.tmp 3)⟩,
           ⟨(some 45), (some (43, true)), .call (.func 9) [(.tmp 44)]⟩,
           ⟨(some 46), (some (43, true)), .bin .eql .other (.tmp 45) (.const (.int .i64 60))⟩,
           ⟨(some 47), none, .pick (.tmp 43) (.tmp 46) (.const (.bool false))⟩,
           ⟨(some 48), none, .mv (.tmp 47)⟩,
           ⟨(some 49), (some (48, true)), .call (.func 57) []⟩,
           ⟨(some 50), (some (48, true)), .call (.func 14) [(.tmp 49), (.const (.string ⟨#[116]⟩))]⟩,
           ⟨(some 51), (some (48, true)), .bin .eql .other (.tmp 50) (.const (.int .i64 1))⟩,
           ⟨(some 52), none, .pick (.tmp 48) (.tmp 51) (.const (.bool false))⟩,
           ⟨(some 0), none, .mv (.tmp 52)⟩])
         .ret)))))))
theorem F11 : compF Try.prog 11 = some ⟨0, 53, [.tmp 0], c11⟩ := by kernel_rfl
theorem B11 : Bod Try.prog 11 := bod_of F11
/-- quaestor/contract.Field -/
def c12 : ACode :=
  (.seq
   (.reg [
     ⟨(some 2), none, .box (.tmp 0)⟩,
     ⟨(some 4), none, .mv (.const (.int .i64 0))⟩])
   (.seq
    (.reg [
      ⟨(some 5), none, .fad 1 (.tmp 2)⟩,
      ⟨(some 6), none, .load false 1 (.tmp 5)⟩,
      ⟨(some 7), none, .mv (.tmp 1)⟩,
      ⟨(some 8), none, .call (.func 59) [(.tmp 6), (.tmp 7), (.func 41)]⟩,
      ⟨(some 4), none, .mv (.tmp 8)⟩])
    .ret))
theorem F12 : compF Try.prog 12 = some ⟨2, 9, [.tmp 4], c12⟩ := by kernel_rfl
theorem B12 : Bod Try.prog 12 := bod_of F12
/-- quaestor/quaestorref06.Field -/
def c13 : ACode :=
  (.seq
   (.reg [
     ⟨(some 2), none, .box (.tmp 0)⟩,
     ⟨(some 4), none, .mv (.const (.int .i64 0))⟩])
   (.seq
    (.seq
     (.reg [
       ⟨(some 5), none, .mv (.const (.int .i64 0))⟩])
     (.block 0
      (.loop
       (.seq
        (.seq
         (.reg [
           ⟨(some 6), none, .mv (.tmp 5)⟩,
           ⟨(some 7), none, .fad 1 (.tmp 2)⟩,
           ⟨(some 8), none, .load false 1 (.tmp 7)⟩,
           ⟨(some 9), none, .len false (.tmp 8)⟩,
           ⟨(some 10), none, .bin .lss .other (.tmp 6) (.tmp 9)⟩])
         (.cond (.tmp 10)
          .skip
          (.exit 0)))
        (.seq
         (.block 1
          (.seq
           (.reg [
             ⟨(some 13), none, .fad 1 (.tmp 2)⟩,
             ⟨(some 14), none, .load false 1 (.tmp 13)⟩,
             ⟨(some 15), none, .mv (.tmp 5)⟩,
             ⟨(some 16), none, .iad 8 (.tmp 14) (.tmp 15)⟩,
             ⟨(some 17), none, .fad 0 (.tmp 16)⟩,
             ⟨(some 18), none, .load false 1 (.tmp 17)⟩,
             ⟨(some 19), none, .mv (.tmp 1)⟩,
             ⟨(some 20), none, .bin .eql .other (.tmp 18) (.tmp 19)⟩])
           (.cond (.tmp 20)
            (.seq
             (.reg [
               ⟨(some 21), none, .mv (.tmp 5)⟩,
               ⟨(some 4), none, .mv (.tmp 21)⟩])
             .ret)
            .skip)))
         (.reg [
           ⟨(some 11), none, .mv (.tmp 5)⟩,
           ⟨(some 12), none, .bin .add .other (.tmp 11) (.const (.int .i64 1))⟩,
           ⟨(some 5), none, .mv (.tmp 12)⟩]))))))
    (.seq
     (.reg [
       ⟨(some 4), none, .mv (.const (.int .i64 (-1)))⟩])
     .ret)))
theorem F13 : compF Try.prog 13 = some ⟨2, 22, [.tmp 4], c13⟩ := by kernel_rfl
theorem B13 : Bod Try.prog 13 := bod_of F13
/-- quaestor/contract.Stage -/
def c14 : ACode :=
  (.seq
   (.reg [
     ⟨(some 2), none, .box (.tmp 0)⟩,
     ⟨(some 4), none, .mv (.const (.int .i64 0))⟩])
   (.seq
    (.reg [
      ⟨(some 5), none, .fad 2 (.tmp 2)⟩,
      ⟨(some 6), none, .load false 1 (.tmp 5)⟩,
      ⟨(some 7), none, .mv (.tmp 1)⟩,
      ⟨(some 8), none, .call (.func 60) [(.tmp 6), (.tmp 7), (.func 46)]⟩,
      ⟨(some 4), none, .mv (.tmp 8)⟩])
    .ret))
theorem F14 : compF Try.prog 14 = some ⟨2, 9, [.tmp 4], c14⟩ := by kernel_rfl
theorem B14 : Bod Try.prog 14 := bod_of F14
/-- quaestor/quaestorref06.Stage -/
def c15 : ACode :=
  (.seq
   (.reg [
     ⟨(some 2), none, .box (.tmp 0)⟩,
     ⟨(some 4), none, .mv (.const (.int .i64 0))⟩])
   (.seq
    (.seq
     (.reg [
       ⟨(some 5), none, .mv (.const (.int .i64 0))⟩])
     (.block 0
      (.loop
       (.seq
        (.seq
         (.reg [
           ⟨(some 6), none, .mv (.tmp 5)⟩,
           ⟨(some 7), none, .fad 2 (.tmp 2)⟩,
           ⟨(some 8), none, .load false 1 (.tmp 7)⟩,
           ⟨(some 9), none, .len false (.tmp 8)⟩,
           ⟨(some 10), none, .bin .lss .other (.tmp 6) (.tmp 9)⟩])
         (.cond (.tmp 10)
          .skip
          (.exit 0)))
        (.seq
         (.block 1
          (.seq
           (.reg [
             ⟨(some 13), none, .fad 2 (.tmp 2)⟩,
             ⟨(some 14), none, .load false 1 (.tmp 13)⟩,
             ⟨(some 15), none, .mv (.tmp 5)⟩,
             ⟨(some 16), none, .iad 3 (.tmp 14) (.tmp 15)⟩,
             ⟨(some 17), none, .fad 0 (.tmp 16)⟩,
             ⟨(some 18), none, .load false 1 (.tmp 17)⟩,
             ⟨(some 19), none, .mv (.tmp 1)⟩,
             ⟨(some 20), none, .bin .eql .other (.tmp 18) (.tmp 19)⟩])
           (.cond (.tmp 20)
            (.seq
             (.reg [
               ⟨(some 21), none, .mv (.tmp 5)⟩,
               ⟨(some 4), none, .mv (.tmp 21)⟩])
             .ret)
            .skip)))
         (.reg [
           ⟨(some 11), none, .mv (.tmp 5)⟩,
           ⟨(some 12), none, .bin .add .other (.tmp 11) (.const (.int .i64 1))⟩,
           ⟨(some 5), none, .mv (.tmp 12)⟩]))))))
    (.seq
     (.reg [
       ⟨(some 4), none, .mv (.const (.int .i64 (-1)))⟩])
     .ret)))
theorem F15 : compF Try.prog 15 = some ⟨2, 22, [.tmp 4], c15⟩ := by kernel_rfl
theorem B15 : Bod Try.prog 15 := bod_of F15
/-- quaestor/contract.Move -/
def c16 : ACode :=
  (.seq
   (.reg [
     ⟨(some 2), none, .box (.tmp 0)⟩,
     ⟨(some 4), none, .mv (.const (.int .i64 0))⟩])
   (.seq
    (.reg [
      ⟨(some 5), none, .fad 3 (.tmp 2)⟩,
      ⟨(some 6), none, .load false 1 (.tmp 5)⟩,
      ⟨(some 7), none, .mv (.tmp 1)⟩,
      ⟨(some 8), none, .call (.func 61) [(.tmp 6), (.tmp 7), (.func 51)]⟩,
      ⟨(some 4), none, .mv (.tmp 8)⟩])
    .ret))
theorem F16 : compF Try.prog 16 = some ⟨2, 9, [.tmp 4], c16⟩ := by kernel_rfl
theorem B16 : Bod Try.prog 16 := bod_of F16
/-- quaestor/quaestorref06.Move -/
def c17 : ACode :=
  (.seq
   (.reg [
     ⟨(some 2), none, .box (.tmp 0)⟩,
     ⟨(some 4), none, .mv (.const (.int .i64 0))⟩])
   (.seq
    (.seq
     (.reg [
       ⟨(some 5), none, .mv (.const (.int .i64 0))⟩])
     (.block 0
      (.loop
       (.seq
        (.seq
         (.reg [
           ⟨(some 6), none, .mv (.tmp 5)⟩,
           ⟨(some 7), none, .fad 3 (.tmp 2)⟩,
           ⟨(some 8), none, .load false 1 (.tmp 7)⟩,
           ⟨(some 9), none, .len false (.tmp 8)⟩,
           ⟨(some 10), none, .bin .lss .other (.tmp 6) (.tmp 9)⟩])
         (.cond (.tmp 10)
          .skip
          (.exit 0)))
        (.seq
         (.block 1
          (.seq
           (.reg [
             ⟨(some 13), none, .fad 3 (.tmp 2)⟩,
             ⟨(some 14), none, .load false 1 (.tmp 13)⟩,
             ⟨(some 15), none, .mv (.tmp 5)⟩,
             ⟨(some 16), none, .iad 13 (.tmp 14) (.tmp 15)⟩,
             ⟨(some 17), none, .fad 0 (.tmp 16)⟩,
             ⟨(some 18), none, .load false 1 (.tmp 17)⟩,
             ⟨(some 19), none, .mv (.tmp 1)⟩,
             ⟨(some 20), none, .bin .eql .other (.tmp 18) (.tmp 19)⟩])
           (.cond (.tmp 20)
            (.seq
             (.reg [
               ⟨(some 21), none, .mv (.tmp 5)⟩,
               ⟨(some 4), none, .mv (.tmp 21)⟩])
             .ret)
            .skip)))
         (.reg [
           ⟨(some 11), none, .mv (.tmp 5)⟩,
           ⟨(some 12), none, .bin .add .other (.tmp 11) (.const (.int .i64 1))⟩,
           ⟨(some 5), none, .mv (.tmp 12)⟩]))))))
    (.seq
     (.reg [
       ⟨(some 4), none, .mv (.const (.int .i64 (-1)))⟩])
     .ret)))
theorem F17 : compF Try.prog 17 = some ⟨2, 22, [.tmp 4], c17⟩ := by kernel_rfl
theorem B17 : Bod Try.prog 17 := bod_of F17
/-- quaestor/quaestorref05.Small -/
def c18 : ACode :=
  (.seq
   (.reg [
     ⟨(some 1), none, .box (.tmp 0)⟩,
     ⟨(some 2), none, .mv (.const (.bool false))⟩])
   (.seq
    (.reg [
      ⟨(some 3), none, .load true 8 (.tmp 1)⟩,
      ⟨(some 4), none, .call (.func 62) [(.tmp 3), (.const (.int .i64 6)), (.const (.int .i64 24))]⟩,
      ⟨(some 5), none, .bin .geq .other (.tmp 4) (.const (.int .i64 0))⟩,
      ⟨(some 2), none, .mv (.tmp 5)⟩])
    .ret))
theorem F18 : compF Try.prog 18 = some ⟨1, 6, [.tmp 2], c18⟩ := by kernel_rfl
theorem B18 : Bod Try.prog 18 := bod_of F18
/-- quaestor/expr.Put -/
def c24 : ACode :=
  (.seq
   (.reg [
     ⟨(some 3), none, .box (.tmp 1)⟩,
     ⟨(some 4), none, .mv (.const (.slice none 0 0))⟩])
   (.seq
    (.reg [
      ⟨(some 5), none, .mv (.tmp 0)⟩,
      ⟨(some 6), none, .call (.func 63) [(.tmp 5)]⟩,
      ⟨(some 0), none, .mv (.tmp 6)⟩])
    (.seq
     (.seq
      (.reg [
        ⟨(some 7), none, .load true 8 (.tmp 3)⟩,
        ⟨(some 8), none, .call (.func 69) [(.tmp 7)]⟩])
      (.cond (.tmp 8)
       (.reg [
         ⟨(some 9), none, .mv (.tmp 0)⟩,
         ⟨(some 10), none, .load true 8 (.tmp 3)⟩,
         ⟨(some 11), none, .call (.func 70) [(.tmp 9), (.tmp 10)]⟩,
         ⟨(some 0), none, .mv (.tmp 11)⟩])
       .skip))
     (.seq
      (.reg [
        ⟨(some 12), none, .mv (.tmp 0)⟩,
        ⟨(some 4), none, .mv (.tmp 12)⟩])
      .ret))))
theorem F24 : compF Try.prog 24 = some ⟨2, 13, [.tmp 4], c24⟩ := by kernel_rfl
theorem B24 : Bod Try.prog 24 := bod_of F24
/-- quaestor/quaestorref05.Put -/
def c25 : ACode :=
  (.seq
   (.reg [
     ⟨(some 3), none, .box (.tmp 1)⟩,
     ⟨(some 4), none, .mv (.const (.slice none 0 0))⟩])
   (.seq
    (.seq
     (.reg [
       ⟨(some 5), none, .load true 8 (.tmp 3)⟩,
       ⟨(some 6), none, .call (.func 18) [(.tmp 5)]⟩,
       ⟨(some 7), none, .un .not (.tmp 6)⟩])
     (.cond (.tmp 7)
      (.seq
       (.reg [
         ⟨(some 8), none, .slit 5 1 []⟩,
         ⟨(some 9), none, .mv (.tmp 0)⟩,
         ⟨(some 10), none, .app 1 1 [.int .u8 0] 5 (.tmp 8) (.tmp 9)⟩,
         ⟨(some 4), none, .mv (.tmp 10)⟩])
       .ret)
      .skip))
    (.seq
     (.reg [
       ⟨(some 11), none, .mv (.tmp 0)⟩,
       ⟨(some 12), none, .load true 8 (.tmp 3)⟩,
       ⟨(some 13), none, .call (.func 71) [(.tmp 11), (.tmp 12)]⟩,
       ⟨(some 4), none, .mv (.tmp 13)⟩])
     .ret)))
theorem F25 : compF Try.prog 25 = some ⟨2, 14, [.tmp 4], c25⟩ := by kernel_rfl
theorem B25 : Bod Try.prog 25 := bod_of F25
/-- quaestor/expr.Check -/
def c31 : ACode :=
  (.reg [
    ⟨(some 2), none, .box (.tmp 0)⟩,
    ⟨(some 4), none, .mv (.const (.int .i64 0))⟩,
    ⟨(some 5), none, .alloc [.int .i64 0]⟩])
def d31 : ACode :=
  (.seq
   (.reg [
     ⟨(some 6), none, .load true 8 (.tmp 2)⟩,
     ⟨(some 7), none, .call (.func 69) [(.tmp 6)]⟩,
     ⟨(some 8), none, .call (.func 65) [(.tmp 7), (.const (.int .i64 51))]⟩])
   (.seq
    (.reg [
      ⟨(some 9), none, .load true 8 (.tmp 2)⟩,
      ⟨(some 10), none, .mv (.tmp 1)⟩,
      ⟨(some 11), none, .call (.func 79) [(.tmp 9), (.tmp 10)]⟩,
      ⟨(some 4), none, .mv (.tmp 11)⟩,
      ⟨none, none, .store 1 (.tmp 5) (.const (.int .i64 0))⟩])
    .ret))
theorem F31 : compD Try.prog 31 = some ⟨2, 12, [.tmp 4, .cell 5 false 1], c31, 64, 5, d31⟩ := by kernel_rfl
theorem B31 : Bod Try.prog 31 := bod_of_D F31
/-- quaestor/contract.Check$1 -/
def c37 : ACode :=
  (.seq
   (.reg [
     ⟨(some 2), none, .box (.tmp 0)⟩,
     ⟨(some 3), none, .mv (.const (.bool false))⟩])
   (.seq
    (.reg [
      ⟨(some 4), none, .load true 4 (.tmp 1)⟩,
      ⟨(some 5), none, .load true 13 (.tmp 2)⟩,
      ⟨(some 6), none, .call (.func 38) [(.tmp 4), (.tmp 5)]⟩,
      ⟨(some 7), none, .un .not (.tmp 6)⟩,
      ⟨(some 3), none, .mv (.tmp 7)⟩])
    .ret))
theorem F37 : compF Try.prog 37 = some ⟨2, 8, [.tmp 3], c37⟩ := by kernel_rfl
theorem B37 : Bod Try.prog 37 := bod_of F37
/-- quaestor/contract.goodMove -/
def c38 : ACode :=
  (.seq
   (.reg [
     ⟨(some 2), none, .box (.tmp 0)⟩,
     ⟨(some 3), none, .box (.tmp 1)⟩,
     ⟨(some 4), none, .mv (.const (.bool false))⟩])
   (.seq
    (.reg [
      ⟨(some 10), none, .mkf 84 [] [(.tmp 2)]⟩,
      ⟨(some 5), none, .mv (.tmp 10)⟩])
    (.seq
     (.seq
      (.reg [
        ⟨(some 11), none, .mv (.tmp 5)⟩,
        ⟨(some 12), none, .fad 1 (.tmp 3)⟩,
        ⟨(some 13), none, .load false 1 (.tmp 12)⟩,
        ⟨(some 14), none, .call (.tmp 11) [(.tmp 13)]⟩,
        ⟨(some 15), none, .un .not (.tmp 14)⟩,
        ⟨(some 16), none, .mv (.tmp 15)⟩,
        ⟨(some 17), (some (16, false)), .mv (.tmp 5)⟩,
        ⟨(some 18), (some (16, false)), .fad 2 (.tmp 3)⟩,
        ⟨(some 19), (some (16, false)), .load false 1 (.tmp 18)⟩,
        ⟨(some 20), (some (16, false)), .call (.tmp 17) [(.tmp 19)]⟩,
        ⟨(some 21), (some (16, false)), .un .not (.tmp 20)⟩,
        ⟨(some 22), none, .pick (.tmp 16) (.const (.bool true)) (.tmp 21)⟩,
        ⟨(some 23), none, .mv (.tmp 22)⟩,
        ⟨(some 24), (some (23, false)), .fad 12 (.tmp 3)⟩,
        ⟨(some 25), (some (23, false)), .load false 1 (.tmp 24)⟩,
        ⟨(some 26), (some (23, false)), .bin .lss .other (.tmp 25) (.const (.int .i64 (-1)))⟩,
        ⟨(some 27), none, .pick (.tmp 23) (.const (.bool true)) (.tmp 26)⟩,
        ⟨(some 28), none, .mv (.tmp 27)⟩,
        ⟨(some 29), (some (28, false)), .fad 12 (.tmp 3)⟩,
        ⟨(some 30), (some (28, false)), .load false 1 (.tmp 29)⟩,
        ⟨(some 31), (some (28, false)), .bin .geq .other (.tmp 30) (.const (.int .i64 4))⟩,
        ⟨(some 32), none, .pick (.tmp 28) (.const (.bool true)) (.tmp 31)⟩,
        ⟨(some 33), none, .mv (.tmp 32)⟩,
        ⟨(some 34), (some (33, false)), .fad 11 (.tmp 3)⟩,
        ⟨(some 35), (some (33, false)), .load false 1 (.tmp 34)⟩,
        ⟨(some 36), (some (33, false)), .len false (.tmp 35)⟩,
        ⟨(some 37), (some (33, false)), .bin .gtr .other (.tmp 36) (.const (.int .i64 4))⟩,
        ⟨(some 38), none, .pick (.tmp 33) (.const (.bool true)) (.tmp 37)⟩,
        ⟨(some 39), none, .mv (.tmp 38)⟩,
        ⟨(some 40), (some (39, false)), .fad 3 (.tmp 3)⟩,
        ⟨(some 41), (some (39, false)), .load true 8 (.tmp 40)⟩,
        ⟨(some 42), (some (39, false)), .fad 1 (.tmp 2)⟩,
        ⟨(some 43), (some (39, false)), .load false 1 (.tmp 42)⟩,
        ⟨(some 44), (some (39, false)), .call (.func 85) [(.tmp 41), (.const (.int .i64 2)), (.tmp 43)]⟩,
        ⟨(some 45), (some (39, false)), .un .not (.tmp 44)⟩,
        ⟨(some 46), none, .pick (.tmp 39) (.const (.bool true)) (.tmp 45)⟩])
      (.cond (.tmp 46)
       (.seq
        (.reg [
          ⟨(some 4), none, .mv (.const (.bool false))⟩])
        .ret)
       .skip))
     (.seq
      (.reg [
        ⟨(some 6), none, .mv (.const (.slice none 0 0))⟩])
      (.seq
       (.seq
        (.reg [
          ⟨(some 47), none, .fad 11 (.tmp 3)⟩,
          ⟨(some 48), none, .load false 1 (.tmp 47)⟩,
          ⟨(some 49), none, .len false (.tmp 48)⟩,
          ⟨(some 50), none, .mv (.const (.int .i64 0))⟩])
        (.block 0
         (.loop
          (.seq
           (.reg [
             ⟨(some 51), none, .bin .lss .other (.tmp 50) (.tmp 49)⟩])
           (.seq
            (.cond (.tmp 51)
             .skip
             (.exit 0))
            (.seq
             (.block 1
              (.seq
               (.reg [
                 ⟨(some 52), none, .iad 9 (.tmp 48) (.tmp 50)⟩,
                 ⟨(some 53), none, .load true 9 (.tmp 52)⟩,
                 ⟨(some 8), none, .alloc [.string ⟨#[]⟩, .int .i64 0, .slice none 0 0, .string ⟨#[]⟩, .int .i64 0, .int .i64 0, .bool false, .string ⟨#[]⟩, .float .f64 0]⟩,
                 ⟨none, none, .store 9 (.tmp 8) (.tmp 53)⟩])
               (.seq
                (.reg [
                  ⟨(some 54), none, .load true 4 (.tmp 2)⟩,
                  ⟨(some 55), none, .fad 0 (.tmp 8)⟩,
                  ⟨(some 56), none, .load false 1 (.tmp 55)⟩,
                  ⟨(some 57), none, .call (.func 12) [(.tmp 54), (.tmp 56)]⟩,
                  ⟨(some 9), none, .mv (.tmp 57)⟩])
                (.seq
                 (.seq
                  (.dreg 13 [
                    ⟨(some 58), none, .mv (.tmp 9)⟩,
                    ⟨(some 59), none, .bin .lss .other (.tmp 58) (.const (.int .i64 0))⟩,
                    ⟨(some 60), none, .mv (.tmp 59)⟩,
                    ⟨(some 61), (some (60, false)), .fad 1 (.tmp 8)⟩,
                    ⟨(some 62), (some (60, false)), .load true 8 (.tmp 61)⟩,
                    ⟨(some 63), (some (60, false)), .fad 1 (.tmp 2)⟩,
                    ⟨(some 64), (some (60, false)), .load false 1 (.tmp 63)⟩,
                    ⟨(some 65), (some (60, false)), .mv (.tmp 9)⟩,
                    ⟨(some 66), (some (60, false)), .iad 8 (.tmp 64) (.tmp 65)⟩,
                    ⟨(some 67), (some (60, false)), .fad 1 (.tmp 66)⟩,
                    ⟨(some 68), (some (60, false)), .load false 1 (.tmp 67)⟩,
                    ⟨(some 69), (some (60, false)), .fad 1 (.tmp 2)⟩,
                    ⟨(some 70), (some (60, false)), .load false 1 (.tmp 69)⟩,
                    ⟨(some 71), (some (60, false)), .call (.func 85) [(.tmp 62), (.tmp 68), (.tmp 70)]⟩,
                    ⟨(some 72), (some (60, false)), .un .not (.tmp 71)⟩,
                    ⟨(some 73), none, .pick (.tmp 60) (.const (.bool true)) (.tmp 72)⟩])
                  (.cond (.tmp 73)
                   (.seq
                    (.reg [
                      ⟨(some 4), none, .mv (.const (.bool false))⟩])
                    .ret)
                   .skip))
                 (.reg [
                   ⟨(some 74), none, .mv (.tmp 6)⟩,
                   ⟨(some 75), none, .fad 0 (.tmp 8)⟩,
                   ⟨(some 76), none, .load false 1 (.tmp 75)⟩,
                   ⟨(some 77), none, .slit 9 1 [(.tmp 76)]⟩,
                   ⟨(some 78), none, .app 1 16 [.string ⟨#[]⟩] 9 (.tmp 74) (.tmp 77)⟩,
                   ⟨(some 6), none, .mv (.tmp 78)⟩])))))
             (.reg [
               ⟨(some 79), none, .bin .add .other (.tmp 50) (.const (.int .i64 1))⟩,
               ⟨(some 50), none, .mv (.tmp 79)⟩])))))))
       (.seq
        (.reg [
          ⟨(some 80), none, .mv (.tmp 6)⟩,
          ⟨(some 81), none, .call (.func 86) [(.tmp 80)]⟩,
          ⟨(some 4), none, .mv (.tmp 81)⟩])
        .ret))))))
theorem F38 : compF Try.prog 38 = some ⟨2, 82, [.tmp 4], c38⟩ := by kernel_rfl
theorem B38 : Bod Try.prog 38 := bod_of F38
/-- quaestor/contract.named -/
def c39 : ACode :=
  (.seq
   (.reg [
     ⟨(some 2), none, .mv (.const (.bool false))⟩])
   (.seq
    (.reg [
      ⟨(some 3), none, .mv (.tmp 0)⟩,
      ⟨(some 4), none, .len true (.tmp 3)⟩,
      ⟨(some 5), none, .bin .gtr .other (.tmp 4) (.const (.int .i64 0))⟩,
      ⟨(some 6), none, .mv (.tmp 5)⟩,
      ⟨(some 7), (some (6, true)), .mv (.tmp 0)⟩,
      ⟨(some 8), (some (6, true)), .len true (.tmp 7)⟩,
      ⟨(some 9), (some (6, true)), .bin .leq .other (.tmp 8) (.const (.int .i64 16))⟩,
      ⟨(some 10), none, .pick (.tmp 6) (.tmp 9) (.const (.bool false))⟩,
      ⟨(some 2), none, .mv (.tmp 10)⟩])
    .ret))
theorem F39 : compF Try.prog 39 = some ⟨1, 11, [.tmp 2], c39⟩ := by kernel_rfl
theorem B39 : Bod Try.prog 39 := bod_of F39
/-- quaestor/contract.once(quaestor/api.Field) -/
def c40 : ACode :=
  (.seq
   (.reg [
     ⟨(some 4), none, .mv (.const (.bool false))⟩])
   (.seq
    (.seq
     (.reg [
       ⟨(some 7), none, .mv (.tmp 0)⟩,
       ⟨(some 8), none, .len false (.tmp 7)⟩,
       ⟨(some 9), none, .mv (.const (.int .i64 0))⟩])
     (.block 0
      (.loop
       (.seq
        (.reg [
          ⟨(some 10), none, .bin .lss .other (.tmp 9) (.tmp 8)⟩])
        (.seq
         (.cond (.tmp 10)
          .skip
          (.exit 0))
         (.seq
          (.block 1
           (.seq
            (.reg [
              ⟨(some 11), none, .mv (.tmp 9)⟩,
              ⟨(some 12), none, .iad 8 (.tmp 7) (.tmp 9)⟩,
              ⟨(some 13), none, .load true 8 (.tmp 12)⟩,
              ⟨(some 6), none, .alloc [.string ⟨#[]⟩, .int .i64 0, .slice none 0 0, .int .i64 0, .int .i64 0, .bool false, .string ⟨#[]⟩, .float .f64 0]⟩,
              ⟨(some 5), none, .mv (.tmp 11)⟩,
              ⟨none, none, .store 8 (.tmp 6) (.tmp 13)⟩])
            (.seq
             (.reg [
               ⟨(some 14), none, .mv (.tmp 1)⟩,
               ⟨(some 15), none, .load true 8 (.tmp 6)⟩,
               ⟨(some 16), none, .call (.tmp 14) [(.tmp 15)]⟩,
               ⟨(some 17), none, .call (.func 39) [(.tmp 16)]⟩,
               ⟨(some 18), none, .un .not (.tmp 17)⟩,
               ⟨(some 19), none, .mv (.tmp 18)⟩,
               ⟨(some 20), (some (19, false)), .mv (.tmp 0)⟩,
               ⟨(some 21), (some (19, false)), .mv (.tmp 1)⟩,
               ⟨(some 22), (some (19, false)), .load true 8 (.tmp 6)⟩,
               ⟨(some 23), (some (19, false)), .call (.tmp 21) [(.tmp 22)]⟩,
               ⟨(some 24), (some (19, false)), .mv (.tmp 1)⟩,
               ⟨(some 25), (some (19, false)), .call (.func 59) [(.tmp 20), (.tmp 23), (.tmp 24)]⟩,
               ⟨(some 26), (some (19, false)), .mv (.tmp 5)⟩,
               ⟨(some 27), (some (19, false)), .bin .neq .other (.tmp 25) (.tmp 26)⟩,
               ⟨(some 28), none, .pick (.tmp 19) (.const (.bool true)) (.tmp 27)⟩])
             (.cond (.tmp 28)
              (.seq
               (.reg [
                 ⟨(some 4), none, .mv (.const (.bool false))⟩])
               .ret)
              .skip))))
          (.reg [
            ⟨(some 29), none, .bin .add .other (.tmp 9) (.const (.int .i64 1))⟩,
            ⟨(some 9), none, .mv (.tmp 29)⟩])))))))
    (.seq
     (.reg [
       ⟨(some 4), none, .mv (.const (.bool true))⟩])
     .ret)))
theorem F40 : compF Try.prog 40 = some ⟨2, 30, [.tmp 4], c40⟩ := by kernel_rfl
theorem B40 : Bod Try.prog 40 := bod_of F40
/-- quaestor/contract.fieldName -/
def c41 : ACode :=
  (.seq
   (.reg [
     ⟨(some 1), none, .box (.tmp 0)⟩,
     ⟨(some 2), none, .mv (.const (.string ⟨#[]⟩))⟩])
   (.seq
    (.reg [
      ⟨(some 3), none, .fad 0 (.tmp 1)⟩,
      ⟨(some 4), none, .load false 1 (.tmp 3)⟩,
      ⟨(some 2), none, .mv (.tmp 4)⟩])
    .ret))
theorem F41 : compF Try.prog 41 = some ⟨1, 5, [.tmp 2], c41⟩ := by kernel_rfl
theorem B41 : Bod Try.prog 41 := bod_of F41
/-- slices.ContainsFunc(()quaestor/api.Field,quaestor/api.Field) -/
def c42 : ACode :=
  (.seq
   (.reg [
     ⟨(some 4), none, .mv (.const (.bool false))⟩])
   (.seq
    (.reg [
      ⟨(some 5), none, .mv (.tmp 0)⟩,
      ⟨(some 6), none, .mv (.tmp 1)⟩,
      ⟨(some 7), none, .call (.func 87) [(.tmp 5), (.tmp 6)]⟩,
      ⟨(some 8), none, .bin .geq .other (.tmp 7) (.const (.int .i64 0))⟩,
      ⟨(some 4), none, .mv (.tmp 8)⟩])
    .ret))
theorem F42 : compF Try.prog 42 = some ⟨2, 9, [.tmp 4], c42⟩ := by kernel_rfl
theorem B42 : Bod Try.prog 42 := bod_of F42
/-- quaestor/contract.Check$2 -/
def c43 : ACode :=
  (.seq
   (.reg [
     ⟨(some 1), none, .box (.tmp 0)⟩,
     ⟨(some 2), none, .mv (.const (.bool false))⟩])
   (.seq
    (.reg [
      ⟨(some 3), none, .load true 8 (.tmp 1)⟩,
      ⟨(some 4), none, .call (.func 44) [(.tmp 3)]⟩,
      ⟨(some 5), none, .un .not (.tmp 4)⟩,
      ⟨(some 2), none, .mv (.tmp 5)⟩])
    .ret))
theorem F43 : compF Try.prog 43 = some ⟨1, 6, [.tmp 2], c43⟩ := by kernel_rfl
theorem B43 : Bod Try.prog 43 := bod_of F43
/-- quaestor/contract.goodField -/
def c44 : ACode :=
  (.seq
   (.reg [
     ⟨(some 1), none, .box (.tmp 0)⟩,
     ⟨(some 2), none, .mv (.const (.bool false))⟩])
   (.seq
    (.reg [
      ⟨(some 4), none, .fad 2 (.tmp 1)⟩,
      ⟨(some 5), none, .load false 1 (.tmp 4)⟩,
      ⟨(some 6), none, .call (.func 88) [(.tmp 5), (.func 89)]⟩,
      ⟨(some 3), none, .mv (.tmp 6)⟩])
    (.seq
     (.reg [
       ⟨(some 7), none, .fad 2 (.tmp 1)⟩,
       ⟨(some 8), none, .load false 1 (.tmp 7)⟩,
       ⟨(some 9), none, .len false (.tmp 8)⟩,
       ⟨(some 10), none, .bin .leq .other (.tmp 9) (.const (.int .i64 4))⟩,
       ⟨(some 11), none, .mv (.tmp 10)⟩,
       ⟨(some 12), (some (11, true)), .mv (.tmp 3)⟩,
       ⟨(some 13), (some (11, true)), .un .not (.tmp 12)⟩,
       ⟨(some 14), none, .pick (.tmp 11) (.tmp 13) (.const (.bool false))⟩,
       ⟨(some 15), none, .mv (.tmp 14)⟩,
       ⟨(some 16), (some (15, true)), .fad 2 (.tmp 1)⟩,
       ⟨(some 17), (some (15, true)), .load false 1 (.tmp 16)⟩,
       ⟨(some 18), (some (15, true)), .call (.func 86) [(.tmp 17)]⟩,
       ⟨(some 19), none, .pick (.tmp 15) (.tmp 18) (.const (.bool false))⟩,
       ⟨(some 20), none, .mv (.tmp 19)⟩,
       ⟨(some 21), (some (20, true)), .fad 2 (.tmp 1)⟩,
       ⟨(some 22), (some (20, true)), .load false 1 (.tmp 21)⟩,
       ⟨(some 23), (some (20, true)), .len false (.tmp 22)⟩,
       ⟨(some 24), (some (20, true)), .bin .eql .other (.tmp 23) (.const (.int .i64 0))⟩,
       ⟨(some 25), (some (20, true)), .mv (.tmp 24)⟩,
       ⟨(some 26), (some (25, false)), .fad 1 (.tmp 1)⟩,
       ⟨(some 27), (some (25, false)), .load false 1 (.tmp 26)⟩,
       ⟨(some 28), (some (25, false)), .bin .eql .other (.tmp 27) (.const (.int .i64 3))⟩,
       ⟨(some 29), (some (20, true)), .pick (.tmp 25) (.const (.bool true)) (.tmp 28)⟩,
       ⟨(some 30), none, .pick (.tmp 20) (.tmp 29) (.const (.bool false))⟩,
       ⟨(some 31), none, .mv (.tmp 30)⟩,
       ⟨(some 32), (some (31, true)), .fad 3 (.tmp 1)⟩,
       ⟨(some 33), (some (31, true)), .load true 5 (.tmp 32)⟩,
       ⟨(some 34), (some (31, true)), .load true 8 (.tmp 1)⟩,
       ⟨(some 35), (some (31, true)), .call (.func 90) [(.tmp 33), (.tmp 34)]⟩,
       ⟨(some 36), (some (31, true)), .bin .eql .other (.tmp 35) (.const (.int .i64 0))⟩,
       ⟨(some 37), none, .pick (.tmp 31) (.tmp 36) (.const (.bool false))⟩,
       ⟨(some 2), none, .mv (.tmp 37)⟩])
     .ret)))
theorem F44 : compF Try.prog 44 = some ⟨1, 38, [.tmp 2], c44⟩ := by kernel_rfl
theorem B44 : Bod Try.prog 44 := bod_of F44
/-- quaestor/contract.once(quaestor/api.Stage) -/
def c45 : ACode :=
  (.seq
   (.reg [
     ⟨(some 4), none, .mv (.const (.bool false))⟩])
   (.seq
    (.seq
     (.reg [
       ⟨(some 7), none, .mv (.tmp 0)⟩,
       ⟨(some 8), none, .len false (.tmp 7)⟩,
       ⟨(some 9), none, .mv (.const (.int .i64 0))⟩])
     (.block 0
      (.loop
       (.seq
        (.reg [
          ⟨(some 10), none, .bin .lss .other (.tmp 9) (.tmp 8)⟩])
        (.seq
         (.cond (.tmp 10)
          .skip
          (.exit 0))
         (.seq
          (.block 1
           (.seq
            (.reg [
              ⟨(some 11), none, .mv (.tmp 9)⟩,
              ⟨(some 12), none, .iad 3 (.tmp 7) (.tmp 9)⟩,
              ⟨(some 13), none, .load true 3 (.tmp 12)⟩,
              ⟨(some 6), none, .alloc [.string ⟨#[]⟩, .int .i64 0, .slice none 0 0]⟩,
              ⟨(some 5), none, .mv (.tmp 11)⟩,
              ⟨none, none, .store 3 (.tmp 6) (.tmp 13)⟩])
            (.seq
             (.reg [
               ⟨(some 14), none, .mv (.tmp 1)⟩,
               ⟨(some 15), none, .load true 3 (.tmp 6)⟩,
               ⟨(some 16), none, .call (.tmp 14) [(.tmp 15)]⟩,
               ⟨(some 17), none, .call (.func 39) [(.tmp 16)]⟩,
               ⟨(some 18), none, .un .not (.tmp 17)⟩,
               ⟨(some 19), none, .mv (.tmp 18)⟩,
               ⟨(some 20), (some (19, false)), .mv (.tmp 0)⟩,
               ⟨(some 21), (some (19, false)), .mv (.tmp 1)⟩,
               ⟨(some 22), (some (19, false)), .load true 3 (.tmp 6)⟩,
               ⟨(some 23), (some (19, false)), .call (.tmp 21) [(.tmp 22)]⟩,
               ⟨(some 24), (some (19, false)), .mv (.tmp 1)⟩,
               ⟨(some 25), (some (19, false)), .call (.func 60) [(.tmp 20), (.tmp 23), (.tmp 24)]⟩,
               ⟨(some 26), (some (19, false)), .mv (.tmp 5)⟩,
               ⟨(some 27), (some (19, false)), .bin .neq .other (.tmp 25) (.tmp 26)⟩,
               ⟨(some 28), none, .pick (.tmp 19) (.const (.bool true)) (.tmp 27)⟩])
             (.cond (.tmp 28)
              (.seq
               (.reg [
                 ⟨(some 4), none, .mv (.const (.bool false))⟩])
               .ret)
              .skip))))
          (.reg [
            ⟨(some 29), none, .bin .add .other (.tmp 9) (.const (.int .i64 1))⟩,
            ⟨(some 9), none, .mv (.tmp 29)⟩])))))))
    (.seq
     (.reg [
       ⟨(some 4), none, .mv (.const (.bool true))⟩])
     .ret)))
theorem F45 : compF Try.prog 45 = some ⟨2, 30, [.tmp 4], c45⟩ := by kernel_rfl
theorem B45 : Bod Try.prog 45 := bod_of F45
/-- quaestor/contract.stageName -/
def c46 : ACode :=
  (.seq
   (.reg [
     ⟨(some 1), none, .box (.tmp 0)⟩,
     ⟨(some 2), none, .mv (.const (.string ⟨#[]⟩))⟩])
   (.seq
    (.reg [
      ⟨(some 3), none, .fad 0 (.tmp 1)⟩,
      ⟨(some 4), none, .load false 1 (.tmp 3)⟩,
      ⟨(some 2), none, .mv (.tmp 4)⟩])
    .ret))
theorem F46 : compF Try.prog 46 = some ⟨1, 5, [.tmp 2], c46⟩ := by kernel_rfl
theorem B46 : Bod Try.prog 46 := bod_of F46
/-- slices.ContainsFunc(()quaestor/api.Stage,quaestor/api.Stage) -/
def c47 : ACode :=
  (.seq
   (.reg [
     ⟨(some 4), none, .mv (.const (.bool false))⟩])
   (.seq
    (.reg [
      ⟨(some 5), none, .mv (.tmp 0)⟩,
      ⟨(some 6), none, .mv (.tmp 1)⟩,
      ⟨(some 7), none, .call (.func 91) [(.tmp 5), (.tmp 6)]⟩,
      ⟨(some 8), none, .bin .geq .other (.tmp 7) (.const (.int .i64 0))⟩,
      ⟨(some 4), none, .mv (.tmp 8)⟩])
    .ret))
theorem F47 : compF Try.prog 47 = some ⟨2, 9, [.tmp 4], c47⟩ := by kernel_rfl
theorem B47 : Bod Try.prog 47 := bod_of F47
/-- quaestor/contract.Check$3 -/
def c48 : ACode :=
  (.seq
   (.reg [
     ⟨(some 1), none, .box (.tmp 0)⟩,
     ⟨(some 2), none, .mv (.const (.bool false))⟩])
   (.seq
    (.reg [
      ⟨(some 3), none, .load true 3 (.tmp 1)⟩,
      ⟨(some 4), none, .call (.func 49) [(.tmp 3)]⟩,
      ⟨(some 5), none, .un .not (.tmp 4)⟩,
      ⟨(some 2), none, .mv (.tmp 5)⟩])
    .ret))
theorem F48 : compF Try.prog 48 = some ⟨1, 6, [.tmp 2], c48⟩ := by kernel_rfl
theorem B48 : Bod Try.prog 48 := bod_of F48
/-- quaestor/contract.goodStage -/
def c49 : ACode :=
  (.seq
   (.reg [
     ⟨(some 1), none, .box (.tmp 0)⟩,
     ⟨(some 2), none, .mv (.const (.bool false))⟩])
   (.seq
    (.seq
     (.reg [
       ⟨(some 6), none, .fad 2 (.tmp 1)⟩,
       ⟨(some 7), none, .load false 1 (.tmp 6)⟩,
       ⟨(some 8), none, .len false (.tmp 7)⟩,
       ⟨(some 9), none, .bin .gtr .other (.tmp 8) (.const (.int .i64 4))⟩,
       ⟨(some 10), none, .mv (.tmp 9)⟩,
       ⟨(some 11), (some (10, false)), .fad 1 (.tmp 1)⟩,
       ⟨(some 12), (some (10, false)), .load false 1 (.tmp 11)⟩,
       ⟨(some 13), (some (10, false)), .bin .lss .other (.tmp 12) (.const (.int .i64 0))⟩,
       ⟨(some 14), none, .pick (.tmp 10) (.const (.bool true)) (.tmp 13)⟩,
       ⟨(some 15), none, .mv (.tmp 14)⟩,
       ⟨(some 16), (some (15, false)), .fad 1 (.tmp 1)⟩,
       ⟨(some 17), (some (15, false)), .load false 1 (.tmp 16)⟩,
       ⟨(some 18), (some (15, false)), .fad 2 (.tmp 1)⟩,
       ⟨(some 19), (some (15, false)), .load false 1 (.tmp 18)⟩,
       ⟨(some 20), (some (15, false)), .len false (.tmp 19)⟩,
       ⟨(some 21), (some (15, false)), .bin .gtr .other (.tmp 17) (.tmp 20)⟩,
       ⟨(some 22), none, .pick (.tmp 15) (.const (.bool true)) (.tmp 21)⟩])
     (.cond (.tmp 22)
      (.seq
       (.reg [
         ⟨(some 2), none, .mv (.const (.bool false))⟩])
       .ret)
      .skip))
    (.seq
     (.reg [
       ⟨(some 3), none, .mv (.const (.int .i64 (-1)))⟩])
     (.seq
      (.seq
       (.reg [
         ⟨(some 23), none, .fad 2 (.tmp 1)⟩,
         ⟨(some 24), none, .load false 1 (.tmp 23)⟩,
         ⟨(some 25), none, .len false (.tmp 24)⟩,
         ⟨(some 26), none, .mv (.const (.int .i64 0))⟩])
       (.block 0
        (.loop
         (.seq
          (.reg [
            ⟨(some 27), none, .bin .lss .other (.tmp 26) (.tmp 25)⟩])
          (.seq
           (.cond (.tmp 27)
            .skip
            (.exit 0))
           (.seq
            (.block 1
             (.seq
              (.reg [
                ⟨(some 28), none, .iad 1 (.tmp 24) (.tmp 26)⟩,
                ⟨(some 29), none, .load false 1 (.tmp 28)⟩,
                ⟨(some 5), none, .mv (.tmp 29)⟩])
              (.seq
               (.seq
                (.reg [
                  ⟨(some 30), none, .mv (.tmp 5)⟩,
                  ⟨(some 31), none, .mv (.tmp 3)⟩,
                  ⟨(some 32), none, .bin .leq .other (.tmp 30) (.tmp 31)⟩,
                  ⟨(some 33), none, .mv (.tmp 32)⟩,
                  ⟨(some 34), (some (33, false)), .mv (.tmp 5)⟩,
                  ⟨(some 35), (some (33, false)), .bin .geq .other (.tmp 34) (.const (.int .i64 4))⟩,
                  ⟨(some 36), none, .pick (.tmp 33) (.const (.bool true)) (.tmp 35)⟩])
                (.cond (.tmp 36)
                 (.seq
                  (.reg [
                    ⟨(some 2), none, .mv (.const (.bool false))⟩])
                  .ret)
                 .skip))
               (.reg [
                 ⟨(some 37), none, .mv (.tmp 5)⟩,
                 ⟨(some 3), none, .mv (.tmp 37)⟩]))))
            (.reg [
              ⟨(some 38), none, .bin .add .other (.tmp 26) (.const (.int .i64 1))⟩,
              ⟨(some 26), none, .mv (.tmp 38)⟩])))))))
      (.seq
       (.reg [
         ⟨(some 2), none, .mv (.const (.bool true))⟩])
       .ret)))))
theorem F49 : compF Try.prog 49 = some ⟨1, 39, [.tmp 2], c49⟩ := by kernel_rfl
theorem B49 : Bod Try.prog 49 := bod_of F49
/-- quaestor/contract.once(quaestor/api.Move) -/
def c50 : ACode :=
  (.seq
   (.reg [
     ⟨(some 4), none, .mv (.const (.bool false))⟩])
   (.seq
    (.seq
     (.reg [
       ⟨(some 7), none, .mv (.tmp 0)⟩,
       ⟨(some 8), none, .len false (.tmp 7)⟩,
       ⟨(some 9), none, .mv (.const (.int .i64 0))⟩])
     (.block 0
      (.loop
       (.seq
        (.reg [
          ⟨(some 10), none, .bin .lss .other (.tmp 9) (.tmp 8)⟩])
        (.seq
         (.cond (.tmp 10)
          .skip
          (.exit 0))
         (.seq
          (.block 1
           (.seq
            (.reg [
              ⟨(some 11), none, .mv (.tmp 9)⟩,
              ⟨(some 12), none, .iad 13 (.tmp 7) (.tmp 9)⟩,
              ⟨(some 13), none, .load true 13 (.tmp 12)⟩,
              ⟨(some 6), none, .alloc [.string ⟨#[]⟩, .int .i64 0, .int .i64 0, .int .i64 0, .slice none 0 0, .string ⟨#[]⟩, .int .i64 0, .int .i64 0, .bool false, .string ⟨#[]⟩, .float .f64 0, .slice none 0 0, .int .i64 0]⟩,
              ⟨(some 5), none, .mv (.tmp 11)⟩,
              ⟨none, none, .store 13 (.tmp 6) (.tmp 13)⟩])
            (.seq
             (.reg [
               ⟨(some 14), none, .mv (.tmp 1)⟩,
               ⟨(some 15), none, .load true 13 (.tmp 6)⟩,
               ⟨(some 16), none, .call (.tmp 14) [(.tmp 15)]⟩,
               ⟨(some 17), none, .call (.func 39) [(.tmp 16)]⟩,
               ⟨(some 18), none, .un .not (.tmp 17)⟩,
               ⟨(some 19), none, .mv (.tmp 18)⟩,
               ⟨(some 20), (some (19, false)), .mv (.tmp 0)⟩,
               ⟨(some 21), (some (19, false)), .mv (.tmp 1)⟩,
               ⟨(some 22), (some (19, false)), .load true 13 (.tmp 6)⟩,
               ⟨(some 23), (some (19, false)), .call (.tmp 21) [(.tmp 22)]⟩,
               ⟨(some 24), (some (19, false)), .mv (.tmp 1)⟩,
               ⟨(some 25), (some (19, false)), .call (.func 61) [(.tmp 20), (.tmp 23), (.tmp 24)]⟩,
               ⟨(some 26), (some (19, false)), .mv (.tmp 5)⟩,
               ⟨(some 27), (some (19, false)), .bin .neq .other (.tmp 25) (.tmp 26)⟩,
               ⟨(some 28), none, .pick (.tmp 19) (.const (.bool true)) (.tmp 27)⟩])
             (.cond (.tmp 28)
              (.seq
               (.reg [
                 ⟨(some 4), none, .mv (.const (.bool false))⟩])
               .ret)
              .skip))))
          (.reg [
            ⟨(some 29), none, .bin .add .other (.tmp 9) (.const (.int .i64 1))⟩,
            ⟨(some 9), none, .mv (.tmp 29)⟩])))))))
    (.seq
     (.reg [
       ⟨(some 4), none, .mv (.const (.bool true))⟩])
     .ret)))
theorem F50 : compF Try.prog 50 = some ⟨2, 30, [.tmp 4], c50⟩ := by kernel_rfl
theorem B50 : Bod Try.prog 50 := bod_of F50
/-- quaestor/contract.moveName -/
def c51 : ACode :=
  (.seq
   (.reg [
     ⟨(some 1), none, .box (.tmp 0)⟩,
     ⟨(some 2), none, .mv (.const (.string ⟨#[]⟩))⟩])
   (.seq
    (.reg [
      ⟨(some 3), none, .fad 0 (.tmp 1)⟩,
      ⟨(some 4), none, .load false 1 (.tmp 3)⟩,
      ⟨(some 2), none, .mv (.tmp 4)⟩])
    .ret))
theorem F51 : compF Try.prog 51 = some ⟨1, 5, [.tmp 2], c51⟩ := by kernel_rfl
theorem B51 : Bod Try.prog 51 := bod_of F51
/-- slices.ContainsFunc(()quaestor/api.Move,quaestor/api.Move) -/
def c52 : ACode :=
  (.seq
   (.reg [
     ⟨(some 4), none, .mv (.const (.bool false))⟩])
   (.seq
    (.reg [
      ⟨(some 5), none, .mv (.tmp 0)⟩,
      ⟨(some 6), none, .mv (.tmp 1)⟩,
      ⟨(some 7), none, .call (.func 92) [(.tmp 5), (.tmp 6)]⟩,
      ⟨(some 8), none, .bin .geq .other (.tmp 7) (.const (.int .i64 0))⟩,
      ⟨(some 4), none, .mv (.tmp 8)⟩])
    .ret))
theorem F52 : compF Try.prog 52 = some ⟨2, 9, [.tmp 4], c52⟩ := by kernel_rfl
theorem B52 : Bod Try.prog 52 := bod_of F52
/-- quaestor/quaestorref06.Name -/
def c53 : ACode :=
  (.seq
   (.reg [
     ⟨(some 2), none, .mv (.const (.bool false))⟩])
   (.seq
    (.reg [
      ⟨(some 3), none, .mv (.tmp 0)⟩,
      ⟨(some 4), none, .len true (.tmp 3)⟩,
      ⟨(some 5), none, .bin .geq .other (.tmp 4) (.const (.int .i64 1))⟩,
      ⟨(some 6), none, .mv (.tmp 5)⟩,
      ⟨(some 7), (some (6, true)), .mv (.tmp 0)⟩,
      ⟨(some 8), (some (6, true)), .len true (.tmp 7)⟩,
      ⟨(some 9), (some (6, true)), .bin .leq .other (.tmp 8) (.const (.int .i64 16))⟩,
      ⟨(some 10), none, .pick (.tmp 6) (.tmp 9) (.const (.bool false))⟩,
      ⟨(some 2), none, .mv (.tmp 10)⟩])
    .ret))
theorem F53 : compF Try.prog 53 = some ⟨1, 11, [.tmp 2], c53⟩ := by kernel_rfl
theorem B53 : Bod Try.prog 53 := bod_of F53
/-- quaestor/quaestorref06.fields -/
def c54 : ACode :=
  (.seq
   (.reg [
     ⟨(some 1), none, .box (.tmp 0)⟩,
     ⟨(some 2), none, .mv (.const (.bool false))⟩])
   (.seq
    (.seq
     (.reg [
       ⟨(some 5), none, .fad 1 (.tmp 1)⟩,
       ⟨(some 6), none, .load false 1 (.tmp 5)⟩,
       ⟨(some 7), none, .len false (.tmp 6)⟩,
       ⟨(some 8), none, .bin .gtr .other (.tmp 7) (.const (.int .i64 6))⟩])
     (.cond (.tmp 8)
      (.seq
       (.reg [
         ⟨(some 2), none, .mv (.const (.bool false))⟩])
       .ret)
      .skip))
    (.seq
     (.seq
      (.reg [
        ⟨(some 3), none, .mv (.const (.int .i64 0))⟩])
      (.block 0
       (.loop
        (.seq
         (.seq
          (.reg [
            ⟨(some 9), none, .mv (.tmp 3)⟩,
            ⟨(some 10), none, .fad 1 (.tmp 1)⟩,
            ⟨(some 11), none, .load false 1 (.tmp 10)⟩,
            ⟨(some 12), none, .len false (.tmp 11)⟩,
            ⟨(some 13), none, .bin .lss .other (.tmp 9) (.tmp 12)⟩])
          (.cond (.tmp 13)
           .skip
           (.exit 0)))
         (.seq
          (.block 1
           (.seq
            (.reg [
              ⟨(some 16), none, .fad 1 (.tmp 1)⟩,
              ⟨(some 17), none, .load false 1 (.tmp 16)⟩,
              ⟨(some 18), none, .mv (.tmp 3)⟩,
              ⟨(some 19), none, .iad 8 (.tmp 17) (.tmp 18)⟩,
              ⟨(some 20), none, .load true 8 (.tmp 19)⟩,
              ⟨(some 4), none, .alloc [.string ⟨#[]⟩, .int .i64 0, .slice none 0 0, .int .i64 0, .int .i64 0, .bool false, .string ⟨#[]⟩, .float .f64 0]⟩,
              ⟨none, none, .store 8 (.tmp 4) (.tmp 20)⟩])
            (.seq
             (.reg [
               ⟨(some 21), none, .fad 0 (.tmp 4)⟩,
               ⟨(some 22), none, .load false 1 (.tmp 21)⟩,
               ⟨(some 23), none, .call (.func 53) [(.tmp 22)]⟩,
               ⟨(some 24), none, .un .not (.tmp 23)⟩,
               ⟨(some 25), none, .mv (.tmp 24)⟩,
               ⟨(some 26), (some (25, false)), .load true 4 (.tmp 1)⟩,
               ⟨(some 27), (some (25, false)), .fad 0 (.tmp 4)⟩,
               ⟨(some 28), (some (25, false)), .load false 1 (.tmp 27)⟩,
               ⟨(some 29), (some (25, false)), .call (.func 13) [(.tmp 26), (.tmp 28)]⟩,
               ⟨(some 30), (some (25, false)), .mv (.tmp 3)⟩,
               ⟨(some 31), (some (25, false)), .bin .neq .other (.tmp 29) (.tmp 30)⟩,
               ⟨(some 32), none, .pick (.tmp 25) (.const (.bool true)) (.tmp 31)⟩,
               ⟨(some 33), none, .mv (.tmp 32)⟩,
               ⟨(some 34), (some (33, false)), .fad 1 (.tmp 4)⟩,
               ⟨(some 35), (some (33, false)), .load false 1 (.tmp 34)⟩,
               ⟨(some 36), (some (33, false)), .bin .lss .other (.tmp 35) (.const (.int .i64 1))⟩,
               ⟨(some 37), none, .pick (.tmp 33) (.const (.bool true)) (.tmp 36)⟩,
               ⟨(some 38), none, .mv (.tmp 37)⟩,
               ⟨(some 39), (some (38, false)), .fad 1 (.tmp 4)⟩,
               ⟨(some 40), (some (38, false)), .load false 1 (.tmp 39)⟩,
               ⟨(some 41), (some (38, false)), .bin .gtr .other (.tmp 40) (.const (.int .i64 4))⟩,
               ⟨(some 42), none, .pick (.tmp 38) (.const (.bool true)) (.tmp 41)⟩,
               ⟨(some 43), none, .mv (.tmp 42)⟩,
               ⟨(some 44), (some (43, false)), .load true 8 (.tmp 4)⟩,
               ⟨(some 45), (some (43, false)), .call (.func 93) [(.tmp 44)]⟩,
               ⟨(some 46), (some (43, false)), .un .not (.tmp 45)⟩,
               ⟨(some 47), none, .pick (.tmp 43) (.const (.bool true)) (.tmp 46)⟩,
               ⟨(some 48), none, .mv (.tmp 47)⟩,
               ⟨(some 49), (some (48, false)), .fad 3 (.tmp 4)⟩,
               ⟨(some 50), (some (48, false)), .load true 5 (.tmp 49)⟩,
               ⟨(some 51), (some (48, false)), .load true 8 (.tmp 4)⟩,
               ⟨(some 52), (some (48, false)), .call (.func 94) [(.tmp 50), (.tmp 51)]⟩,
               ⟨(some 53), (some (48, false)), .bin .neq .other (.tmp 52) (.const (.int .i64 0))⟩,
               ⟨(some 54), none, .pick (.tmp 48) (.const (.bool true)) (.tmp 53)⟩])
             (.cond (.tmp 54)
              (.seq
               (.reg [
                 ⟨(some 2), none, .mv (.const (.bool false))⟩])
               .ret)
              .skip))))
          (.reg [
            ⟨(some 14), none, .mv (.tmp 3)⟩,
            ⟨(some 15), none, .bin .add .other (.tmp 14) (.const (.int .i64 1))⟩,
            ⟨(some 3), none, .mv (.tmp 15)⟩]))))))
     (.seq
      (.reg [
        ⟨(some 2), none, .mv (.const (.bool true))⟩])
      .ret))))
theorem F54 : compF Try.prog 54 = some ⟨1, 55, [.tmp 2], c54⟩ := by kernel_rfl
theorem B54 : Bod Try.prog 54 := bod_of F54
/-- quaestor/quaestorref06.stages -/
def c55 : ACode :=
  (.seq
   (.reg [
     ⟨(some 1), none, .box (.tmp 0)⟩,
     ⟨(some 2), none, .mv (.const (.bool false))⟩])
   (.seq
    (.seq
     (.reg [
       ⟨(some 6), none, .fad 2 (.tmp 1)⟩,
       ⟨(some 7), none, .load false 1 (.tmp 6)⟩,
       ⟨(some 8), none, .len false (.tmp 7)⟩,
       ⟨(some 9), none, .bin .lss .other (.tmp 8) (.const (.int .i64 1))⟩,
       ⟨(some 10), none, .mv (.tmp 9)⟩,
       ⟨(some 11), (some (10, false)), .fad 2 (.tmp 1)⟩,
       ⟨(some 12), (some (10, false)), .load false 1 (.tmp 11)⟩,
       ⟨(some 13), (some (10, false)), .len false (.tmp 12)⟩,
       ⟨(some 14), (some (10, false)), .bin .gtr .other (.tmp 13) (.const (.int .i64 6))⟩,
       ⟨(some 15), none, .pick (.tmp 10) (.const (.bool true)) (.tmp 14)⟩])
     (.cond (.tmp 15)
      (.seq
       (.reg [
         ⟨(some 2), none, .mv (.const (.bool false))⟩])
       .ret)
      .skip))
    (.seq
     (.seq
      (.reg [
        ⟨(some 3), none, .mv (.const (.int .i64 0))⟩])
      (.block 0
       (.loop
        (.seq
         (.seq
          (.reg [
            ⟨(some 16), none, .mv (.tmp 3)⟩,
            ⟨(some 17), none, .fad 2 (.tmp 1)⟩,
            ⟨(some 18), none, .load false 1 (.tmp 17)⟩,
            ⟨(some 19), none, .len false (.tmp 18)⟩,
            ⟨(some 20), none, .bin .lss .other (.tmp 16) (.tmp 19)⟩])
          (.cond (.tmp 20)
           .skip
           (.exit 0)))
         (.seq
          (.block 1
           (.seq
            (.reg [
              ⟨(some 23), none, .fad 2 (.tmp 1)⟩,
              ⟨(some 24), none, .load false 1 (.tmp 23)⟩,
              ⟨(some 25), none, .mv (.tmp 3)⟩,
              ⟨(some 26), none, .iad 3 (.tmp 24) (.tmp 25)⟩,
              ⟨(some 27), none, .load true 3 (.tmp 26)⟩,
              ⟨(some 4), none, .alloc [.string ⟨#[]⟩, .int .i64 0, .slice none 0 0]⟩,
              ⟨none, none, .store 3 (.tmp 4) (.tmp 27)⟩])
            (.seq
             (.seq
              (.reg [
                ⟨(some 28), none, .fad 0 (.tmp 4)⟩,
                ⟨(some 29), none, .load false 1 (.tmp 28)⟩,
                ⟨(some 30), none, .call (.func 53) [(.tmp 29)]⟩,
                ⟨(some 31), none, .un .not (.tmp 30)⟩,
                ⟨(some 32), none, .mv (.tmp 31)⟩,
                ⟨(some 33), (some (32, false)), .load true 4 (.tmp 1)⟩,
                ⟨(some 34), (some (32, false)), .fad 0 (.tmp 4)⟩,
                ⟨(some 35), (some (32, false)), .load false 1 (.tmp 34)⟩,
                ⟨(some 36), (some (32, false)), .call (.func 15) [(.tmp 33), (.tmp 35)]⟩,
                ⟨(some 37), (some (32, false)), .mv (.tmp 3)⟩,
                ⟨(some 38), (some (32, false)), .bin .neq .other (.tmp 36) (.tmp 37)⟩,
                ⟨(some 39), none, .pick (.tmp 32) (.const (.bool true)) (.tmp 38)⟩,
                ⟨(some 40), none, .mv (.tmp 39)⟩,
                ⟨(some 41), (some (40, false)), .fad 2 (.tmp 4)⟩,
                ⟨(some 42), (some (40, false)), .load false 1 (.tmp 41)⟩,
                ⟨(some 43), (some (40, false)), .len false (.tmp 42)⟩,
                ⟨(some 44), (some (40, false)), .bin .gtr .other (.tmp 43) (.const (.int .i64 4))⟩,
                ⟨(some 45), none, .pick (.tmp 40) (.const (.bool true)) (.tmp 44)⟩,
                ⟨(some 46), none, .mv (.tmp 45)⟩,
                ⟨(some 47), (some (46, false)), .fad 1 (.tmp 4)⟩,
                ⟨(some 48), (some (46, false)), .load false 1 (.tmp 47)⟩,
                ⟨(some 49), (some (46, false)), .bin .lss .other (.tmp 48) (.const (.int .i64 0))⟩,
                ⟨(some 50), none, .pick (.tmp 46) (.const (.bool true)) (.tmp 49)⟩,
                ⟨(some 51), none, .mv (.tmp 50)⟩,
                ⟨(some 52), (some (51, false)), .fad 1 (.tmp 4)⟩,
                ⟨(some 53), (some (51, false)), .load false 1 (.tmp 52)⟩,
                ⟨(some 54), (some (51, false)), .fad 2 (.tmp 4)⟩,
                ⟨(some 55), (some (51, false)), .load false 1 (.tmp 54)⟩,
                ⟨(some 56), (some (51, false)), .len false (.tmp 55)⟩,
                ⟨(some 57), (some (51, false)), .bin .gtr .other (.tmp 53) (.tmp 56)⟩,
                ⟨(some 58), none, .pick (.tmp 51) (.const (.bool true)) (.tmp 57)⟩])
              (.cond (.tmp 58)
               (.seq
                (.reg [
                  ⟨(some 2), none, .mv (.const (.bool false))⟩])
                .ret)
               .skip))
             (.seq
              (.reg [
                ⟨(some 5), none, .mv (.const (.int .i64 0))⟩])
              (.block 2
               (.loop
                (.seq
                 (.seq
                  (.reg [
                    ⟨(some 59), none, .mv (.tmp 5)⟩,
                    ⟨(some 60), none, .fad 2 (.tmp 4)⟩,
                    ⟨(some 61), none, .load false 1 (.tmp 60)⟩,
                    ⟨(some 62), none, .len false (.tmp 61)⟩,
                    ⟨(some 63), none, .bin .lss .other (.tmp 59) (.tmp 62)⟩])
                  (.cond (.tmp 63)
                   .skip
                   (.exit 2)))
                 (.seq
                  (.block 3
                   (.seq
                    (.dreg 29 [
                      ⟨(some 66), none, .fad 2 (.tmp 4)⟩,
                      ⟨(some 67), none, .load false 1 (.tmp 66)⟩,
                      ⟨(some 68), none, .mv (.tmp 5)⟩,
                      ⟨(some 69), none, .iad 1 (.tmp 67) (.tmp 68)⟩,
                      ⟨(some 70), none, .load false 1 (.tmp 69)⟩,
                      ⟨(some 71), none, .bin .lss .other (.tmp 70) (.const (.int .i64 0))⟩,
                      ⟨(some 72), none, .mv (.tmp 71)⟩,
                      ⟨(some 73), (some (72, false)), .fad 2 (.tmp 4)⟩,
                      ⟨(some 74), (some (72, false)), .load false 1 (.tmp 73)⟩,
                      ⟨(some 75), (some (72, false)), .mv (.tmp 5)⟩,
                      ⟨(some 76), (some (72, false)), .iad 1 (.tmp 74) (.tmp 75)⟩,
                      ⟨(some 77), (some (72, false)), .load false 1 (.tmp 76)⟩,
                      ⟨(some 78), (some (72, false)), .bin .geq .other (.tmp 77) (.const (.int .i64 4))⟩,
                      ⟨(some 79), none, .pick (.tmp 72) (.const (.bool true)) (.tmp 78)⟩,
                      ⟨(some 80), none, .mv (.tmp 79)⟩,
                      ⟨(some 81), (some (80, false)), .mv (.tmp 5)⟩,
                      ⟨(some 82), (some (80, false)), .bin .gtr .other (.tmp 81) (.const (.int .i64 0))⟩,
                      ⟨(some 83), (some (80, false)), .mv (.tmp 82)⟩,
                      ⟨(some 84), (some (83, true)), .fad 2 (.tmp 4)⟩,
                      ⟨(some 85), (some (83, true)), .load false 1 (.tmp 84)⟩,
                      ⟨(some 86), (some (83, true)), .mv (.tmp 5)⟩,
                      ⟨(some 87), (some (83, true)), .iad 1 (.tmp 85) (.tmp 86)⟩,
                      ⟨(some 88), (some (83, true)), .load false 1 (.tmp 87)⟩,
                      ⟨(some 89), (some (83, true)), .fad 2 (.tmp 4)⟩,
                      ⟨(some 90), (some (83, true)), .load false 1 (.tmp 89)⟩,
                      ⟨(some 91), (some (83, true)), .mv (.tmp 5)⟩,
                      ⟨(some 92), (some (83, true)), .bin .sub .other (.tmp 91) (.const (.int .i64 1))⟩,
                      ⟨(some 93), (some (83, true)), .iad 1 (.tmp 90) (.tmp 92)⟩,
                      ⟨(some 94), (some (83, true)), .load false 1 (.tmp 93)⟩,
                      ⟨(some 95), (some (83, true)), .bin .leq .other (.tmp 88) (.tmp 94)⟩,
                      ⟨(some 96), (some (80, false)), .pick (.tmp 83) (.tmp 95) (.const (.bool false))⟩,
                      ⟨(some 97), none, .pick (.tmp 80) (.const (.bool true)) (.tmp 96)⟩])
                    (.cond (.tmp 97)
                     (.seq
                      (.reg [
                        ⟨(some 2), none, .mv (.const (.bool false))⟩])
                      .ret)
                     .skip)))
                  (.reg [
                    ⟨(some 64), none, .mv (.tmp 5)⟩,
                    ⟨(some 65), none, .bin .add .other (.tmp 64) (.const (.int .i64 1))⟩,
                    ⟨(some 5), none, .mv (.tmp 65)⟩])))))))))
          (.reg [
            ⟨(some 21), none, .mv (.tmp 3)⟩,
            ⟨(some 22), none, .bin .add .other (.tmp 21) (.const (.int .i64 1))⟩,
            ⟨(some 3), none, .mv (.tmp 22)⟩]))))))
     (.seq
      (.reg [
        ⟨(some 2), none, .mv (.const (.bool true))⟩])
      .ret))))
theorem F55 : compF Try.prog 55 = some ⟨1, 98, [.tmp 2], c55⟩ := by kernel_rfl
theorem B55 : Bod Try.prog 55 := bod_of F55
/-- quaestor/quaestorref06.move -/
def c56 : ACode :=
  (.seq
   (.reg [
     ⟨(some 2), none, .box (.tmp 0)⟩,
     ⟨(some 3), none, .box (.tmp 1)⟩,
     ⟨(some 4), none, .mv (.const (.bool false))⟩])
   (.seq
    (.seq
     (.reg [
       ⟨(some 12), none, .fad 1 (.tmp 3)⟩,
       ⟨(some 13), none, .load false 1 (.tmp 12)⟩,
       ⟨(some 14), none, .bin .lss .other (.tmp 13) (.const (.int .i64 0))⟩,
       ⟨(some 15), none, .mv (.tmp 14)⟩,
       ⟨(some 16), (some (15, false)), .fad 1 (.tmp 3)⟩,
       ⟨(some 17), (some (15, false)), .load false 1 (.tmp 16)⟩,
       ⟨(some 18), (some (15, false)), .fad 2 (.tmp 2)⟩,
       ⟨(some 19), (some (15, false)), .load false 1 (.tmp 18)⟩,
       ⟨(some 20), (some (15, false)), .len false (.tmp 19)⟩,
       ⟨(some 21), (some (15, false)), .bin .geq .other (.tmp 17) (.tmp 20)⟩,
       ⟨(some 22), none, .pick (.tmp 15) (.const (.bool true)) (.tmp 21)⟩,
       ⟨(some 23), none, .mv (.tmp 22)⟩,
       ⟨(some 24), (some (23, false)), .fad 2 (.tmp 3)⟩,
       ⟨(some 25), (some (23, false)), .load false 1 (.tmp 24)⟩,
       ⟨(some 26), (some (23, false)), .bin .lss .other (.tmp 25) (.const (.int .i64 0))⟩,
       ⟨(some 27), none, .pick (.tmp 23) (.const (.bool true)) (.tmp 26)⟩,
       ⟨(some 28), none, .mv (.tmp 27)⟩,
       ⟨(some 29), (some (28, false)), .fad 2 (.tmp 3)⟩,
       ⟨(some 30), (some (28, false)), .load false 1 (.tmp 29)⟩,
       ⟨(some 31), (some (28, false)), .fad 2 (.tmp 2)⟩,
       ⟨(some 32), (some (28, false)), .load false 1 (.tmp 31)⟩,
       ⟨(some 33), (some (28, false)), .len false (.tmp 32)⟩,
       ⟨(some 34), (some (28, false)), .bin .geq .other (.tmp 30) (.tmp 33)⟩,
       ⟨(some 35), none, .pick (.tmp 28) (.const (.bool true)) (.tmp 34)⟩,
       ⟨(some 36), none, .mv (.tmp 35)⟩,
       ⟨(some 37), (some (36, false)), .fad 12 (.tmp 3)⟩,
       ⟨(some 38), (some (36, false)), .load false 1 (.tmp 37)⟩,
       ⟨(some 39), (some (36, false)), .bin .lss .other (.tmp 38) (.const (.int .i64 (-1)))⟩,
       ⟨(some 40), none, .pick (.tmp 36) (.const (.bool true)) (.tmp 39)⟩,
       ⟨(some 41), none, .mv (.tmp 40)⟩,
       ⟨(some 42), (some (41, false)), .fad 12 (.tmp 3)⟩,
       ⟨(some 43), (some (41, false)), .load false 1 (.tmp 42)⟩,
       ⟨(some 44), (some (41, false)), .bin .geq .other (.tmp 43) (.const (.int .i64 4))⟩,
       ⟨(some 45), none, .pick (.tmp 41) (.const (.bool true)) (.tmp 44)⟩,
       ⟨(some 46), none, .mv (.tmp 45)⟩,
       ⟨(some 47), (some (46, false)), .fad 11 (.tmp 3)⟩,
       ⟨(some 48), (some (46, false)), .load false 1 (.tmp 47)⟩,
       ⟨(some 49), (some (46, false)), .len false (.tmp 48)⟩,
       ⟨(some 50), (some (46, false)), .bin .gtr .other (.tmp 49) (.const (.int .i64 4))⟩,
       ⟨(some 51), none, .pick (.tmp 46) (.const (.bool true)) (.tmp 50)⟩])
     (.cond (.tmp 51)
      (.seq
       (.reg [
         ⟨(some 4), none, .mv (.const (.bool false))⟩])
       .ret)
      .skip))
    (.seq
     (.reg [
       ⟨(some 53), none, .fad 3 (.tmp 3)⟩,
       ⟨(some 54), none, .load true 8 (.tmp 53)⟩,
       ⟨(some 55), none, .fad 1 (.tmp 2)⟩,
       ⟨(some 56), none, .load false 1 (.tmp 55)⟩,
       ⟨(some 57), none, .call (.func 95) [(.tmp 54), (.tmp 56)]⟩,
       ⟨(some 52), none, .mv (.tmp 57)⟩,
       ⟨(some 58), none, .ext (.tmp 52) 0⟩,
       ⟨(some 59), none, .ext (.tmp 52) 1⟩,
       ⟨(some 5), none, .mv (.tmp 58)⟩,
       ⟨(some 6), none, .mv (.tmp 59)⟩])
     (.seq
      (.seq
       (.reg [
         ⟨(some 60), none, .mv (.tmp 6)⟩,
         ⟨(some 61), none, .bin .neq .other (.tmp 60) (.const (.int .i64 0))⟩,
         ⟨(some 62), none, .mv (.tmp 61)⟩,
         ⟨(some 63), (some (62, false)), .mv (.tmp 5)⟩,
         ⟨(some 64), (some (62, false)), .bin .neq .other (.tmp 63) (.const (.int .i64 2))⟩,
         ⟨(some 65), none, .pick (.tmp 62) (.const (.bool true)) (.tmp 64)⟩])
       (.cond (.tmp 65)
        (.seq
         (.reg [
           ⟨(some 4), none, .mv (.const (.bool false))⟩])
         .ret)
        .skip))
      (.seq
       (.seq
        (.reg [
          ⟨(some 7), none, .mv (.const (.int .i64 0))⟩])
        (.block 0
         (.loop
          (.seq
           (.seq
            (.reg [
              ⟨(some 66), none, .mv (.tmp 7)⟩,
              ⟨(some 67), none, .fad 11 (.tmp 3)⟩,
              ⟨(some 68), none, .load false 1 (.tmp 67)⟩,
              ⟨(some 69), none, .len false (.tmp 68)⟩,
              ⟨(some 70), none, .bin .lss .other (.tmp 66) (.tmp 69)⟩])
            (.cond (.tmp 70)
             .skip
             (.exit 0)))
           (.seq
            (.block 1
             (.seq
              (.dreg 7 [
                ⟨(some 73), none, .load true 4 (.tmp 2)⟩,
                ⟨(some 74), none, .fad 11 (.tmp 3)⟩,
                ⟨(some 75), none, .load false 1 (.tmp 74)⟩,
                ⟨(some 76), none, .mv (.tmp 7)⟩,
                ⟨(some 77), none, .iad 9 (.tmp 75) (.tmp 76)⟩,
                ⟨(some 78), none, .fad 0 (.tmp 77)⟩,
                ⟨(some 79), none, .load false 1 (.tmp 78)⟩,
                ⟨(some 80), none, .call (.func 13) [(.tmp 73), (.tmp 79)]⟩,
                ⟨(some 8), none, .mv (.tmp 80)⟩])
              (.seq
               (.seq
                (.reg [
                  ⟨(some 81), none, .mv (.tmp 8)⟩,
                  ⟨(some 82), none, .bin .lss .other (.tmp 81) (.const (.int .i64 0))⟩])
                (.cond (.tmp 82)
                 (.seq
                  (.reg [
                    ⟨(some 4), none, .mv (.const (.bool false))⟩])
                  .ret)
                 .skip))
               (.seq
                (.dreg 13 [
                  ⟨(some 84), none, .fad 11 (.tmp 3)⟩,
                  ⟨(some 85), none, .load false 1 (.tmp 84)⟩,
                  ⟨(some 86), none, .mv (.tmp 7)⟩,
                  ⟨(some 87), none, .iad 9 (.tmp 85) (.tmp 86)⟩,
                  ⟨(some 88), none, .fad 1 (.tmp 87)⟩,
                  ⟨(some 89), none, .load true 8 (.tmp 88)⟩,
                  ⟨(some 90), none, .fad 1 (.tmp 2)⟩,
                  ⟨(some 91), none, .load false 1 (.tmp 90)⟩,
                  ⟨(some 92), none, .call (.func 95) [(.tmp 89), (.tmp 91)]⟩,
                  ⟨(some 83), none, .mv (.tmp 92)⟩,
                  ⟨(some 93), none, .ext (.tmp 83) 0⟩,
                  ⟨(some 94), none, .ext (.tmp 83) 1⟩,
                  ⟨(some 9), none, .mv (.tmp 93)⟩,
                  ⟨(some 10), none, .mv (.tmp 94)⟩])
                (.seq
                 (.seq
                  (.reg [
                    ⟨(some 95), none, .mv (.tmp 10)⟩,
                    ⟨(some 96), none, .bin .neq .other (.tmp 95) (.const (.int .i64 0))⟩,
                    ⟨(some 97), none, .mv (.tmp 96)⟩,
                    ⟨(some 98), (some (97, false)), .mv (.tmp 9)⟩,
                    ⟨(some 99), (some (97, false)), .fad 1 (.tmp 2)⟩,
                    ⟨(some 100), (some (97, false)), .load false 1 (.tmp 99)⟩,
                    ⟨(some 101), (some (97, false)), .mv (.tmp 8)⟩,
                    ⟨(some 102), (some (97, false)), .iad 8 (.tmp 100) (.tmp 101)⟩,
                    ⟨(some 103), (some (97, false)), .fad 1 (.tmp 102)⟩,
                    ⟨(some 104), (some (97, false)), .load false 1 (.tmp 103)⟩,
                    ⟨(some 105), (some (97, false)), .bin .neq .other (.tmp 98) (.tmp 104)⟩,
                    ⟨(some 106), none, .pick (.tmp 97) (.const (.bool true)) (.tmp 105)⟩])
                  (.cond (.tmp 106)
                   (.seq
                    (.reg [
                      ⟨(some 4), none, .mv (.const (.bool false))⟩])
                    .ret)
                   .skip))
                 (.seq
                  (.reg [
                    ⟨(some 11), none, .mv (.const (.int .i64 0))⟩])
                  (.block 2
                   (.loop
                    (.seq
                     (.seq
                      (.reg [
                        ⟨(some 107), none, .mv (.tmp 11)⟩,
                        ⟨(some 108), none, .mv (.tmp 7)⟩,
                        ⟨(some 109), none, .bin .lss .other (.tmp 107) (.tmp 108)⟩])
                      (.cond (.tmp 109)
                       .skip
                       (.exit 2)))
                     (.seq
                      (.block 3
                       (.seq
                        (.dreg 12 [
                          ⟨(some 112), none, .fad 11 (.tmp 3)⟩,
                          ⟨(some 113), none, .load false 1 (.tmp 112)⟩,
                          ⟨(some 114), none, .mv (.tmp 11)⟩,
                          ⟨(some 115), none, .iad 9 (.tmp 113) (.tmp 114)⟩,
                          ⟨(some 116), none, .fad 0 (.tmp 115)⟩,
                          ⟨(some 117), none, .load false 1 (.tmp 116)⟩,
                          ⟨(some 118), none, .fad 11 (.tmp 3)⟩,
                          ⟨(some 119), none, .load false 1 (.tmp 118)⟩,
                          ⟨(some 120), none, .mv (.tmp 7)⟩,
                          ⟨(some 121), none, .iad 9 (.tmp 119) (.tmp 120)⟩,
                          ⟨(some 122), none, .fad 0 (.tmp 121)⟩,
                          ⟨(some 123), none, .load false 1 (.tmp 122)⟩,
                          ⟨(some 124), none, .bin .eql .other (.tmp 117) (.tmp 123)⟩])
                        (.cond (.tmp 124)
                         (.seq
                          (.reg [
                            ⟨(some 4), none, .mv (.const (.bool false))⟩])
                          .ret)
                         .skip)))
                      (.reg [
                        ⟨(some 110), none, .mv (.tmp 11)⟩,
                        ⟨(some 111), none, .bin .add .other (.tmp 110) (.const (.int .i64 1))⟩,
                        ⟨(some 11), none, .mv (.tmp 111)⟩])))))))))))
            (.reg [
              ⟨(some 71), none, .mv (.tmp 7)⟩,
              ⟨(some 72), none, .bin .add .other (.tmp 71) (.const (.int .i64 1))⟩,
              ⟨(some 7), none, .mv (.tmp 72)⟩]))))))
       (.seq
        (.reg [
          ⟨(some 4), none, .mv (.const (.bool true))⟩])
        .ret))))))
theorem F56 : compF Try.prog 56 = some ⟨2, 125, [.tmp 4], c56⟩ := by kernel_rfl
theorem B56 : Bod Try.prog 56 := bod_of F56
/-- quaestor/quaestorlaw06.One -/
def c57 : ACode :=
  (.seq
   (.reg [
     ⟨(some 0), none, .alloc [.string ⟨#[]⟩, .slice none 0 0, .slice none 0 0, .slice none 0 0]⟩])
   (.seq
    (.reg [
      ⟨(some 2), none, .build [.int .i64 0, .int .i64 0, .bool false, .string ⟨#[]⟩, .float .f64 0] [(0, 1, (.const (.int .i64 2))), (2, 1, (.const (.bool true)))]⟩,
      ⟨(some 3), none, .build [.int .i64 0, .slice none 0 0, .string ⟨#[]⟩, .int .i64 0, .int .i64 0, .bool false, .string ⟨#[]⟩, .float .f64 0] [(0, 1, (.const (.int .i64 1))), (3, 5, (.tmp 2))]⟩,
      ⟨(some 1), none, .alloc [.int .i64 0, .slice none 0 0, .string ⟨#[]⟩, .int .i64 0, .int .i64 0, .bool false, .string ⟨#[]⟩, .float .f64 0]⟩,
      ⟨none, none, .store 8 (.tmp 1) (.tmp 3)⟩])
    (.seq
     (.reg [
       ⟨(some 4), none, .build [.int .i64 0, .int .i64 0, .bool false, .string ⟨#[]⟩, .float .f64 0] [(0, 1, (.const (.int .i64 1)))]⟩,
       ⟨(some 5), none, .build [.string ⟨#[]⟩, .int .i64 0, .slice none 0 0, .int .i64 0, .int .i64 0, .bool false, .string ⟨#[]⟩, .float .f64 0] [(0, 1, (.const (.string ⟨#[110]⟩))), (1, 1, (.const (.int .i64 1))), (3, 5, (.tmp 4))]⟩,
       ⟨(some 6), none, .slit 60 8 [(.tmp 5)]⟩,
       ⟨(some 7), none, .build [.string ⟨#[]⟩, .int .i64 0, .slice none 0 0] [(0, 1, (.const (.string ⟨#[115]⟩)))]⟩,
       ⟨(some 8), none, .slit 3 1 [(.const (.int .i64 0)), (.const (.int .i64 2))]⟩,
       ⟨(some 9), none, .build [.string ⟨#[]⟩, .int .i64 0, .slice none 0 0] [(0, 1, (.const (.string ⟨#[116]⟩))), (1, 1, (.const (.int .i64 1))), (2, 1, (.tmp 8))]⟩,
       ⟨(some 10), none, .slit 75 3 [(.tmp 7), (.tmp 9)]⟩,
       ⟨(some 11), none, .load true 8 (.tmp 1)⟩,
       ⟨(some 12), none, .build [.string ⟨#[]⟩, .int .i64 0, .int .i64 0, .int .i64 0, .slice none 0 0, .string ⟨#[]⟩, .int .i64 0, .int .i64 0, .bool false, .string ⟨#[]⟩, .float .f64 0, .slice none 0 0, .int .i64 0] [(0, 1, (.const (.string ⟨#[109]⟩))), (1, 1, (.const (.int .i64 0))), (2, 1, (.const (.int .i64 1))), (12, 1, (.const (.int .i64 (-1)))), (3, 8, (.tmp 11))]⟩,
       ⟨(some 13), none, .slit 80 13 [(.tmp 12)]⟩,
       ⟨(some 14), none, .build [.string ⟨#[]⟩, .slice none 0 0, .slice none 0 0, .slice none 0 0] [(0, 1, (.const (.string ⟨#[99]⟩))), (1, 1, (.tmp 6)), (2, 1, (.tmp 10)), (3, 1, (.tmp 13))]⟩,
       ⟨none, none, .store 4 (.tmp 0) (.tmp 14)⟩])
     .ret)))
theorem F57 : compF Try.prog 57 = some ⟨0, 15, [.cell 0 true 4], c57⟩ := by kernel_rfl
theorem B57 : Bod Try.prog 57 := bod_of F57
/-- quaestor/contract.Put -/
def c58 : ACode :=
  (.seq
   (.reg [
     ⟨(some 3), none, .box (.tmp 1)⟩,
     ⟨(some 4), none, .mv (.const (.slice none 0 0))⟩])
   (.seq
    (.reg [
      ⟨(some 5), none, .mv (.tmp 0)⟩,
      ⟨(some 6), none, .call (.func 63) [(.tmp 5)]⟩,
      ⟨(some 0), none, .mv (.tmp 6)⟩])
    (.seq
     (.seq
      (.reg [
        ⟨(some 7), none, .load true 4 (.tmp 3)⟩,
        ⟨(some 8), none, .call (.func 9) [(.tmp 7)]⟩,
        ⟨(some 9), none, .bin .neq .other (.tmp 8) (.const (.int .i64 0))⟩])
      (.cond (.tmp 9)
       (.seq
        (.reg [
          ⟨(some 10), none, .mv (.tmp 0)⟩,
          ⟨(some 4), none, .mv (.tmp 10)⟩])
        .ret)
       .skip))
     (.seq
      (.dreg 6 [
        ⟨(some 11), none, .mv (.tmp 0)⟩,
        ⟨(some 12), none, .fad 0 (.tmp 3)⟩,
        ⟨(some 13), none, .load false 1 (.tmp 12)⟩,
        ⟨(some 14), none, .call (.func 97) [(.tmp 11), (.tmp 13)]⟩,
        ⟨(some 15), none, .fad 1 (.tmp 3)⟩,
        ⟨(some 16), none, .load false 1 (.tmp 15)⟩,
        ⟨(some 17), none, .call (.func 96) [(.tmp 14), (.tmp 16), (.func 98)]⟩,
        ⟨(some 0), none, .mv (.tmp 17)⟩])
      (.seq
       (.reg [
         ⟨(some 18), none, .mv (.tmp 0)⟩,
         ⟨(some 19), none, .fad 2 (.tmp 3)⟩,
         ⟨(some 20), none, .load false 1 (.tmp 19)⟩,
         ⟨(some 21), none, .call (.func 102) [(.tmp 18), (.tmp 20), (.func 103)]⟩,
         ⟨(some 0), none, .mv (.tmp 21)⟩])
       (.seq
        (.reg [
          ⟨(some 22), none, .mv (.tmp 0)⟩,
          ⟨(some 23), none, .fad 3 (.tmp 3)⟩,
          ⟨(some 24), none, .load false 1 (.tmp 23)⟩,
          ⟨(some 25), none, .call (.func 105) [(.tmp 22), (.tmp 24), (.func 106)]⟩,
          ⟨(some 4), none, .mv (.tmp 25)⟩])
        .ret))))))
theorem F58 : compF Try.prog 58 = some ⟨2, 26, [.tmp 4], c58⟩ := by kernel_rfl
theorem B58 : Bod Try.prog 58 := bod_of F58
/-- quaestor/contract.find(quaestor/api.Field) -/
def c59 : ACode :=
  (.seq
   (.reg [
     ⟨(some 4), none, .box (.tmp 1)⟩,
     ⟨(some 5), none, .box (.tmp 2)⟩,
     ⟨(some 6), none, .mv (.const (.int .i64 0))⟩])
   (.seq
    (.reg [
      ⟨(some 7), none, .mv (.tmp 0)⟩,
      ⟨(some 8), none, .mkf 109 [] [(.tmp 5), (.tmp 4)]⟩,
      ⟨(some 9), none, .call (.func 87) [(.tmp 7), (.tmp 8)]⟩,
      ⟨(some 6), none, .mv (.tmp 9)⟩])
    .ret))
theorem F59 : compF Try.prog 59 = some ⟨3, 10, [.tmp 6], c59⟩ := by kernel_rfl
theorem B59 : Bod Try.prog 59 := bod_of F59
/-- quaestor/contract.find(quaestor/api.Stage) -/
def c60 : ACode :=
  (.seq
   (.reg [
     ⟨(some 4), none, .box (.tmp 1)⟩,
     ⟨(some 5), none, .box (.tmp 2)⟩,
     ⟨(some 6), none, .mv (.const (.int .i64 0))⟩])
   (.seq
    (.reg [
      ⟨(some 7), none, .mv (.tmp 0)⟩,
      ⟨(some 8), none, .mkf 110 [] [(.tmp 5), (.tmp 4)]⟩,
      ⟨(some 9), none, .call (.func 91) [(.tmp 7), (.tmp 8)]⟩,
      ⟨(some 6), none, .mv (.tmp 9)⟩])
    .ret))
theorem F60 : compF Try.prog 60 = some ⟨3, 10, [.tmp 6], c60⟩ := by kernel_rfl
theorem B60 : Bod Try.prog 60 := bod_of F60
/-- quaestor/contract.find(quaestor/api.Move) -/
def c61 : ACode :=
  (.seq
   (.reg [
     ⟨(some 4), none, .box (.tmp 1)⟩,
     ⟨(some 5), none, .box (.tmp 2)⟩,
     ⟨(some 6), none, .mv (.const (.int .i64 0))⟩])
   (.seq
    (.reg [
      ⟨(some 7), none, .mv (.tmp 0)⟩,
      ⟨(some 8), none, .mkf 111 [] [(.tmp 5), (.tmp 4)]⟩,
      ⟨(some 9), none, .call (.func 92) [(.tmp 7), (.tmp 8)]⟩,
      ⟨(some 6), none, .mv (.tmp 9)⟩])
    .ret))
theorem F61 : compF Try.prog 61 = some ⟨3, 10, [.tmp 6], c61⟩ := by kernel_rfl
theorem B61 : Bod Try.prog 61 := bod_of F61
/-- quaestor/quaestorref05.left -/
def c62 : ACode :=
  (.seq
   (.reg [
     ⟨(some 3), none, .box (.tmp 0)⟩,
     ⟨(some 6), none, .mv (.const (.int .i64 0))⟩])
   (.seq
    (.reg [
      ⟨(some 8), none, .mv (.tmp 2)⟩,
      ⟨(some 9), none, .bin .sub .other (.tmp 8) (.const (.int .i64 1))⟩,
      ⟨(some 2), none, .mv (.tmp 9)⟩])
    (.seq
     (.seq
      (.reg [
        ⟨(some 10), none, .mv (.tmp 1)⟩,
        ⟨(some 11), none, .bin .lss .other (.tmp 10) (.const (.int .i64 1))⟩])
      (.cond (.tmp 11)
       (.seq
        (.reg [
          ⟨(some 6), none, .mv (.const (.int .i64 (-1)))⟩])
        .ret)
       .skip))
     (.seq
      (.seq
       (.reg [
         ⟨(some 7), none, .mv (.const (.int .i64 0))⟩])
       (.block 0
        (.loop
         (.seq
          (.seq
           (.reg [
             ⟨(some 12), none, .mv (.tmp 7)⟩,
             ⟨(some 13), none, .fad 1 (.tmp 3)⟩,
             ⟨(some 14), none, .load false 1 (.tmp 13)⟩,
             ⟨(some 15), none, .len false (.tmp 14)⟩,
             ⟨(some 16), none, .bin .lss .other (.tmp 12) (.tmp 15)⟩,
             ⟨(some 17), none, .mv (.tmp 16)⟩,
             ⟨(some 18), (some (17, true)), .mv (.tmp 2)⟩,
             ⟨(some 19), (some (17, true)), .bin .geq .other (.tmp 18) (.const (.int .i64 0))⟩,
             ⟨(some 20), none, .pick (.tmp 17) (.tmp 19) (.const (.bool false))⟩])
           (.cond (.tmp 20)
            .skip
            (.exit 0)))
          (.seq
           (.block 1
            (.reg [
              ⟨(some 23), none, .fad 1 (.tmp 3)⟩,
              ⟨(some 24), none, .load false 1 (.tmp 23)⟩,
              ⟨(some 25), none, .mv (.tmp 7)⟩,
              ⟨(some 26), none, .iad 8 (.tmp 24) (.tmp 25)⟩,
              ⟨(some 27), none, .load true 8 (.tmp 26)⟩,
              ⟨(some 28), none, .mv (.tmp 1)⟩,
              ⟨(some 29), none, .bin .sub .other (.tmp 28) (.const (.int .i64 1))⟩,
              ⟨(some 30), none, .mv (.tmp 2)⟩,
              ⟨(some 31), none, .call (.func 62) [(.tmp 27), (.tmp 29), (.tmp 30)]⟩,
              ⟨(some 2), none, .mv (.tmp 31)⟩]))
           (.reg [
             ⟨(some 21), none, .mv (.tmp 7)⟩,
             ⟨(some 22), none, .bin .add .other (.tmp 21) (.const (.int .i64 1))⟩,
             ⟨(some 7), none, .mv (.tmp 22)⟩]))))))
      (.seq
       (.reg [
         ⟨(some 32), none, .mv (.tmp 2)⟩,
         ⟨(some 6), none, .mv (.tmp 32)⟩])
       .ret)))))
theorem F62 : compF Try.prog 62 = some ⟨3, 33, [.tmp 6], c62⟩ := by kernel_rfl
theorem B62 : Bod Try.prog 62 := bod_of F62
/-- slices.Clone(()byte,byte) -/
def c63 : ACode :=
  (.seq
   (.reg [
     ⟨(some 2), none, .mv (.const (.slice none 0 0))⟩])
   (.seq
    (.seq
     (.reg [
       ⟨(some 3), none, .mv (.tmp 0)⟩,
       ⟨(some 4), none, .bin .eql .slice (.tmp 3) (.const (.slice none 0 0))⟩])
     (.cond (.tmp 4)
      (.seq
       (.reg [
         ⟨(some 2), none, .mv (.const (.slice none 0 0))⟩])
       .ret)
      .skip))
    (.seq
     (.reg [
       ⟨(some 5), none, .slit 5 1 []⟩,
       ⟨(some 6), none, .mv (.tmp 0)⟩,
       ⟨(some 7), none, .app 1 1 [.int .u8 0] 5 (.tmp 5) (.tmp 6)⟩,
       ⟨(some 2), none, .mv (.tmp 7)⟩])
     .ret)))
theorem F63 : compF Try.prog 63 = some ⟨1, 8, [.tmp 2], c63⟩ := by kernel_rfl
theorem B63 : Bod Try.prog 63 := bod_of F63
/-- quaestor/expr.must -/
def c65 : ACode :=
  (.seq
   (.reg [
     ⟨(some 4), none, .mv (.tmp 0)⟩,
     ⟨(some 5), none, .un .not (.tmp 4)⟩])
   (.cond (.tmp 5)
    (.reg [
      ⟨(some 6), none, .mv (.tmp 1)⟩,
      ⟨(some 7), none, .mki 152 (.tmp 6)⟩,
      ⟨none, none, .panic (.tmp 7)⟩])
    .skip))
theorem F65 : compF Try.prog 65 = some ⟨2, 8, [], c65⟩ := by kernel_rfl
theorem B65 : Bod Try.prog 65 := bod_of F65
/-- quaestor/expr.small -/
def c69 : ACode :=
  (.seq
   (.reg [
     ⟨(some 1), none, .box (.tmp 0)⟩,
     ⟨(some 2), none, .mv (.const (.bool false))⟩])
   (.seq
    (.reg [
      ⟨(some 4), none, .build [.int .i64 0] [(0, 1, (.const (.int .i64 24)))]⟩,
      ⟨(some 5), none, .box (.tmp 4)⟩,
      ⟨(some 3), none, .mv (.tmp 5)⟩])
    (.seq
     (.reg [
       ⟨(some 6), none, .mv (.tmp 3)⟩,
       ⟨(some 7), none, .load true 8 (.tmp 1)⟩,
       ⟨(some 8), none, .call (.func 120) [(.tmp 6), (.tmp 7), (.const (.int .i64 6))]⟩,
       ⟨(some 2), none, .mv (.tmp 8)⟩])
     .ret)))
theorem F69 : compF Try.prog 69 = some ⟨1, 9, [.tmp 2], c69⟩ := by kernel_rfl
theorem B69 : Bod Try.prog 69 := bod_of F69
/-- quaestor/expr.put -/
def c70 : ACode :=
  (.seq
   (.reg [
     ⟨(some 3), none, .box (.tmp 1)⟩,
     ⟨(some 4), none, .mv (.const (.slice none 0 0))⟩])
   (.seq
    (.dreg 11 [
      ⟨(some 7), none, .mv (.tmp 0)⟩,
      ⟨(some 8), none, .fad 0 (.tmp 3)⟩,
      ⟨(some 9), none, .load false 1 (.tmp 8)⟩,
      ⟨(some 10), none, .call (.func 123) [(.tmp 7), (.tmp 9)]⟩,
      ⟨(some 11), none, .fad 1 (.tmp 3)⟩,
      ⟨(some 12), none, .load false 1 (.tmp 11)⟩,
      ⟨(some 13), none, .len false (.tmp 12)⟩,
      ⟨(some 14), none, .call (.func 122) [(.tmp 10), (.tmp 13)]⟩,
      ⟨(some 15), none, .fad 2 (.tmp 3)⟩,
      ⟨(some 16), none, .load false 1 (.tmp 15)⟩,
      ⟨(some 17), none, .s2b 5 (.tmp 16)⟩,
      ⟨(some 18), none, .call (.func 121) [(.tmp 14), (.tmp 17)]⟩,
      ⟨(some 0), none, .mv (.tmp 18)⟩])
    (.seq
     (.reg [
       ⟨(some 19), none, .mv (.tmp 0)⟩,
       ⟨(some 20), none, .fad 3 (.tmp 3)⟩,
       ⟨(some 21), none, .load true 5 (.tmp 20)⟩,
       ⟨(some 22), none, .call (.func 101) [(.tmp 19), (.tmp 21)]⟩,
       ⟨(some 0), none, .mv (.tmp 22)⟩])
     (.seq
      (.seq
       (.reg [
         ⟨(some 23), none, .fad 1 (.tmp 3)⟩,
         ⟨(some 24), none, .load false 1 (.tmp 23)⟩,
         ⟨(some 25), none, .len false (.tmp 24)⟩,
         ⟨(some 26), none, .mv (.const (.int .i64 0))⟩])
       (.block 0
        (.loop
         (.seq
          (.reg [
            ⟨(some 27), none, .bin .lss .other (.tmp 26) (.tmp 25)⟩])
          (.seq
           (.cond (.tmp 27)
            .skip
            (.exit 0))
           (.seq
            (.block 1
             (.seq
              (.reg [
                ⟨(some 28), none, .iad 8 (.tmp 24) (.tmp 26)⟩,
                ⟨(some 29), none, .load true 8 (.tmp 28)⟩,
                ⟨(some 6), none, .alloc [.int .i64 0, .slice none 0 0, .string ⟨#[]⟩, .int .i64 0, .int .i64 0, .bool false, .string ⟨#[]⟩, .float .f64 0]⟩,
                ⟨none, none, .store 8 (.tmp 6) (.tmp 29)⟩])
              (.reg [
                ⟨(some 30), none, .mv (.tmp 0)⟩,
                ⟨(some 31), none, .load true 8 (.tmp 6)⟩,
                ⟨(some 32), none, .call (.func 70) [(.tmp 30), (.tmp 31)]⟩,
                ⟨(some 0), none, .mv (.tmp 32)⟩])))
            (.reg [
              ⟨(some 33), none, .bin .add .other (.tmp 26) (.const (.int .i64 1))⟩,
              ⟨(some 26), none, .mv (.tmp 33)⟩])))))))
      (.seq
       (.reg [
         ⟨(some 34), none, .mv (.tmp 0)⟩,
         ⟨(some 4), none, .mv (.tmp 34)⟩])
       .ret)))))
theorem F70 : compF Try.prog 70 = some ⟨2, 35, [.tmp 4], c70⟩ := by kernel_rfl
theorem B70 : Bod Try.prog 70 := bod_of F70
/-- quaestor/quaestorref05.put -/
def c71 : ACode :=
  (.seq
   (.reg [
     ⟨(some 3), none, .box (.tmp 1)⟩,
     ⟨(some 4), none, .mv (.const (.slice none 0 0))⟩])
   (.seq
    (.reg [
      ⟨(some 6), none, .mv (.tmp 0)⟩,
      ⟨(some 7), none, .fad 0 (.tmp 3)⟩,
      ⟨(some 8), none, .load false 1 (.tmp 7)⟩,
      ⟨(some 9), none, .call (.func 124) [(.tmp 6), (.tmp 8)]⟩,
      ⟨(some 0), none, .mv (.tmp 9)⟩])
    (.seq
     (.reg [
       ⟨(some 10), none, .mv (.tmp 0)⟩,
       ⟨(some 11), none, .fad 1 (.tmp 3)⟩,
       ⟨(some 12), none, .load false 1 (.tmp 11)⟩,
       ⟨(some 13), none, .len false (.tmp 12)⟩,
       ⟨(some 14), none, .call (.func 125) [(.tmp 10), (.tmp 13)]⟩,
       ⟨(some 0), none, .mv (.tmp 14)⟩])
     (.seq
      (.reg [
        ⟨(some 15), none, .mv (.tmp 0)⟩,
        ⟨(some 16), none, .fad 2 (.tmp 3)⟩,
        ⟨(some 17), none, .load false 1 (.tmp 16)⟩,
        ⟨(some 18), none, .s2b 5 (.tmp 17)⟩,
        ⟨(some 19), none, .call (.func 126) [(.tmp 15), (.tmp 18)]⟩,
        ⟨(some 0), none, .mv (.tmp 19)⟩])
      (.seq
       (.reg [
         ⟨(some 20), none, .mv (.tmp 0)⟩,
         ⟨(some 21), none, .fad 3 (.tmp 3)⟩,
         ⟨(some 22), none, .load true 5 (.tmp 21)⟩,
         ⟨(some 23), none, .call (.func 127) [(.tmp 20), (.tmp 22)]⟩,
         ⟨(some 0), none, .mv (.tmp 23)⟩])
       (.seq
        (.seq
         (.reg [
           ⟨(some 5), none, .mv (.const (.int .i64 0))⟩])
         (.block 0
          (.loop
           (.seq
            (.seq
             (.reg [
               ⟨(some 24), none, .mv (.tmp 5)⟩,
               ⟨(some 25), none, .fad 1 (.tmp 3)⟩,
               ⟨(some 26), none, .load false 1 (.tmp 25)⟩,
               ⟨(some 27), none, .len false (.tmp 26)⟩,
               ⟨(some 28), none, .bin .lss .other (.tmp 24) (.tmp 27)⟩])
             (.cond (.tmp 28)
              .skip
              (.exit 0)))
            (.seq
             (.block 1
              (.reg [
                ⟨(some 31), none, .mv (.tmp 0)⟩,
                ⟨(some 32), none, .fad 1 (.tmp 3)⟩,
                ⟨(some 33), none, .load false 1 (.tmp 32)⟩,
                ⟨(some 34), none, .mv (.tmp 5)⟩,
                ⟨(some 35), none, .iad 8 (.tmp 33) (.tmp 34)⟩,
                ⟨(some 36), none, .load true 8 (.tmp 35)⟩,
                ⟨(some 37), none, .call (.func 71) [(.tmp 31), (.tmp 36)]⟩,
                ⟨(some 0), none, .mv (.tmp 37)⟩]))
             (.reg [
               ⟨(some 29), none, .mv (.tmp 5)⟩,
               ⟨(some 30), none, .bin .add .other (.tmp 29) (.const (.int .i64 1))⟩,
               ⟨(some 5), none, .mv (.tmp 30)⟩]))))))
        (.seq
         (.reg [
           ⟨(some 38), none, .mv (.tmp 0)⟩,
           ⟨(some 4), none, .mv (.tmp 38)⟩])
         .ret)))))))
theorem F71 : compF Try.prog 71 = some ⟨2, 39, [.tmp 4], c71⟩ := by kernel_rfl
theorem B71 : Bod Try.prog 71 := bod_of F71
/-- quaestor/quaestorref04.Same -/
def c72 : ACode :=
  (.seq
   (.reg [
     ⟨(some 2), none, .box (.tmp 0)⟩,
     ⟨(some 3), none, .box (.tmp 1)⟩,
     ⟨(some 4), none, .mv (.const (.bool false))⟩])
   (.seq
    (.dreg 32 [
      ⟨(some 5), none, .fad 0 (.tmp 2)⟩,
      ⟨(some 6), none, .load false 1 (.tmp 5)⟩,
      ⟨(some 7), none, .fad 0 (.tmp 3)⟩,
      ⟨(some 8), none, .load false 1 (.tmp 7)⟩,
      ⟨(some 9), none, .bin .eql .other (.tmp 6) (.tmp 8)⟩,
      ⟨(some 10), none, .mv (.tmp 9)⟩,
      ⟨(some 11), (some (10, true)), .fad 1 (.tmp 2)⟩,
      ⟨(some 12), (some (10, true)), .load false 1 (.tmp 11)⟩,
      ⟨(some 13), (some (10, true)), .fad 1 (.tmp 3)⟩,
      ⟨(some 14), (some (10, true)), .load false 1 (.tmp 13)⟩,
      ⟨(some 15), (some (10, true)), .bin .eql .other (.tmp 12) (.tmp 14)⟩,
      ⟨(some 16), none, .pick (.tmp 10) (.tmp 15) (.const (.bool false))⟩,
      ⟨(some 17), none, .mv (.tmp 16)⟩,
      ⟨(some 18), (some (17, true)), .fad 2 (.tmp 2)⟩,
      ⟨(some 19), (some (17, true)), .load false 1 (.tmp 18)⟩,
      ⟨(some 20), (some (17, true)), .fad 2 (.tmp 3)⟩,
      ⟨(some 21), (some (17, true)), .load false 1 (.tmp 20)⟩,
      ⟨(some 22), (some (17, true)), .bin .eql .bool (.tmp 19) (.tmp 21)⟩,
      ⟨(some 23), none, .pick (.tmp 17) (.tmp 22) (.const (.bool false))⟩,
      ⟨(some 24), none, .mv (.tmp 23)⟩,
      ⟨(some 25), (some (24, true)), .fad 3 (.tmp 2)⟩,
      ⟨(some 26), (some (24, true)), .load false 1 (.tmp 25)⟩,
      ⟨(some 27), (some (24, true)), .fad 3 (.tmp 3)⟩,
      ⟨(some 28), (some (24, true)), .load false 1 (.tmp 27)⟩,
      ⟨(some 29), (some (24, true)), .bin .eql .other (.tmp 26) (.tmp 28)⟩,
      ⟨(some 30), none, .pick (.tmp 24) (.tmp 29) (.const (.bool false))⟩,
      ⟨(some 31), none, .mv (.tmp 30)⟩,
      ⟨(some 32), (some (31, true)), .fad 4 (.tmp 2)⟩,
      ⟨(some 33), (some (31, true)), .load false 1 (.tmp 32)⟩,
      ⟨(some 34), (some (31, true)), .call (.func 128) [(.tmp 33)]⟩,
      ⟨(some 35), (some (31, true)), .fad 4 (.tmp 3)⟩,
      ⟨(some 36), (some (31, true)), .load false 1 (.tmp 35)⟩,
      ⟨(some 37), (some (31, true)), .call (.func 128) [(.tmp 36)]⟩,
      ⟨(some 38), (some (31, true)), .bin .eql .other (.tmp 34) (.tmp 37)⟩,
      ⟨(some 39), none, .pick (.tmp 31) (.tmp 38) (.const (.bool false))⟩,
      ⟨(some 4), none, .mv (.tmp 39)⟩])
    .ret))
theorem F72 : compF Try.prog 72 = some ⟨2, 40, [.tmp 4], c72⟩ := by kernel_rfl
theorem B72 : Bod Try.prog 72 := bod_of F72
/-- quaestor/expr.kind -/
def c79 : ACode :=
  (.seq
   (.reg [
     ⟨(some 2), none, .box (.tmp 0)⟩,
     ⟨(some 4), none, .mv (.const (.int .i64 0))⟩])
   (.seq
    (.reg [
      ⟨(some 5), none, .alloc [.int .i64 0, .int .i64 0, .int .i64 0]⟩])
    (.seq
     (.seq
      (.reg [
        ⟨(some 10), none, .fad 1 (.tmp 2)⟩,
        ⟨(some 11), none, .load false 1 (.tmp 10)⟩,
        ⟨(some 12), none, .len false (.tmp 11)⟩,
        ⟨(some 13), none, .mv (.const (.int .i64 0))⟩])
      (.block 0
       (.loop
        (.seq
         (.reg [
           ⟨(some 14), none, .bin .lss .other (.tmp 13) (.tmp 12)⟩])
         (.seq
          (.cond (.tmp 14)
           .skip
           (.exit 0))
          (.seq
           (.block 1
            (.seq
             (.reg [
               ⟨(some 15), none, .mv (.tmp 13)⟩,
               ⟨(some 16), none, .iad 8 (.tmp 11) (.tmp 13)⟩,
               ⟨(some 17), none, .load true 8 (.tmp 16)⟩,
               ⟨(some 7), none, .alloc [.int .i64 0, .slice none 0 0, .string ⟨#[]⟩, .int .i64 0, .int .i64 0, .bool false, .string ⟨#[]⟩, .float .f64 0]⟩,
               ⟨(some 6), none, .mv (.tmp 15)⟩,
               ⟨none, none, .store 8 (.tmp 7) (.tmp 17)⟩])
             (.seq
              (.reg [
                ⟨(some 18), none, .load true 8 (.tmp 7)⟩,
                ⟨(some 19), none, .mv (.tmp 1)⟩,
                ⟨(some 20), none, .call (.func 79) [(.tmp 18), (.tmp 19)]⟩,
                ⟨(some 8), none, .mv (.tmp 20)⟩])
              (.seq
               (.reg [
                 ⟨(some 21), none, .mv (.tmp 6)⟩,
                 ⟨(some 22), none, .bin .lss .other (.tmp 21) (.const (.int .i64 3))⟩])
               (.cond (.tmp 22)
                (.reg [
                  ⟨(some 23), none, .mv (.tmp 6)⟩,
                  ⟨(some 24), none, .mv (.tmp 8)⟩,
                  ⟨(some 25), none, .iadA 3 1 (.tmp 5) (.tmp 23)⟩,
                  ⟨none, none, .store 1 (.tmp 25) (.tmp 24)⟩])
                .skip)))))
           (.reg [
             ⟨(some 26), none, .bin .add .other (.tmp 13) (.const (.int .i64 1))⟩,
             ⟨(some 13), none, .mv (.tmp 26)⟩])))))))
     (.seq
      (.dreg 6 [
        ⟨(some 27), none, .fad 0 (.tmp 2)⟩,
        ⟨(some 28), none, .load false 1 (.tmp 27)⟩,
        ⟨(some 29), none, .call (.func 132) [(.tmp 28)]⟩,
        ⟨(some 30), none, .fad 1 (.tmp 2)⟩,
        ⟨(some 31), none, .load false 1 (.tmp 30)⟩,
        ⟨(some 32), none, .len false (.tmp 31)⟩,
        ⟨(some 33), none, .bin .eql .other (.tmp 29) (.tmp 32)⟩,
        ⟨(some 34), none, .call (.func 65) [(.tmp 33), (.const (.int .i64 1))]⟩])
      (.seq
       (.reg [
         ⟨(some 35), none, .fad 0 (.tmp 2)⟩,
         ⟨(some 36), none, .load false 1 (.tmp 35)⟩,
         ⟨(some 37), none, .bin .eql .other (.tmp 36) (.const (.int .i64 2))⟩,
         ⟨(some 38), none, .mv (.tmp 37)⟩,
         ⟨(some 39), (some (38, false)), .fad 2 (.tmp 2)⟩,
         ⟨(some 40), (some (38, false)), .load false 1 (.tmp 39)⟩,
         ⟨(some 41), (some (38, false)), .bin .eql .other (.tmp 40) (.const (.string ⟨#[]⟩))⟩,
         ⟨(some 42), none, .pick (.tmp 38) (.const (.bool true)) (.tmp 41)⟩,
         ⟨(some 43), none, .call (.func 65) [(.tmp 42), (.const (.int .i64 1))]⟩])
       (.seq
        (.reg [
          ⟨(some 44), none, .fad 0 (.tmp 2)⟩,
          ⟨(some 45), none, .load false 1 (.tmp 44)⟩,
          ⟨(some 46), none, .bin .eql .other (.tmp 45) (.const (.int .i64 1))⟩,
          ⟨(some 47), none, .mv (.tmp 46)⟩,
          ⟨(some 48), (some (47, false)), .fad 3 (.tmp 2)⟩,
          ⟨(some 49), (some (47, false)), .load true 5 (.tmp 48)⟩,
          ⟨(some 50), (some (47, false)), .build [.int .i64 0, .int .i64 0, .bool false, .string ⟨#[]⟩, .float .f64 0] []⟩,
          ⟨(some 51), (some (47, false)), .call (.func 133) [(.tmp 49), (.tmp 50)]⟩,
          ⟨(some 52), none, .pick (.tmp 47) (.const (.bool true)) (.tmp 51)⟩,
          ⟨(some 53), none, .call (.func 65) [(.tmp 52), (.const (.int .i64 1))]⟩])
        (.seq
         (.seq
          (.reg [
            ⟨(some 54), none, .fad 0 (.tmp 2)⟩,
            ⟨(some 55), none, .load false 1 (.tmp 54)⟩])
          (.block 2
           (.seq
            (.reg [
              ⟨(some 68), none, .bin .eql .other (.tmp 55) (.const (.int .i64 1))⟩,
              ⟨(some 67), none, .mv (.tmp 68)⟩])
            (.cond (.tmp 67)
             (.seq
              (.reg [
                ⟨(some 69), none, .fad 3 (.tmp 2)⟩,
                ⟨(some 70), none, .load true 5 (.tmp 69)⟩,
                ⟨(some 71), none, .call (.func 129) [(.tmp 70)]⟩,
                ⟨(some 72), none, .call (.func 65) [(.tmp 71), (.const (.int .i64 40))]⟩])
              (.seq
               (.reg [
                 ⟨(some 73), none, .fad 3 (.tmp 2)⟩,
                 ⟨(some 74), none, .fad 0 (.tmp 73)⟩,
                 ⟨(some 75), none, .load false 1 (.tmp 74)⟩,
                 ⟨(some 4), none, .mv (.tmp 75)⟩])
               .ret))
             (.seq
              (.reg [
                ⟨(some 77), none, .bin .eql .other (.tmp 55) (.const (.int .i64 2))⟩,
                ⟨(some 76), none, .mv (.tmp 77)⟩])
              (.cond (.tmp 76)
               (.seq
                (.reg [
                  ⟨(some 78), none, .fad 2 (.tmp 2)⟩,
                  ⟨(some 79), none, .load false 1 (.tmp 78)⟩,
                  ⟨(some 80), none, .mv (.tmp 1)⟩,
                  ⟨(some 81), none, .call (.func 134) [(.tmp 79), (.tmp 80)]⟩,
                  ⟨(some 9), none, .mv (.tmp 81)⟩])
                (.seq
                 (.reg [
                   ⟨(some 82), none, .mv (.tmp 9)⟩,
                   ⟨(some 83), none, .bin .geq .other (.tmp 82) (.const (.int .i64 0))⟩,
                   ⟨(some 84), none, .call (.func 65) [(.tmp 83), (.const (.int .i64 50))]⟩])
                 (.seq
                  (.reg [
                    ⟨(some 85), none, .mv (.tmp 1)⟩,
                    ⟨(some 86), none, .mv (.tmp 9)⟩,
                    ⟨(some 87), none, .iad 8 (.tmp 85) (.tmp 86)⟩,
                    ⟨(some 88), none, .fad 1 (.tmp 87)⟩,
                    ⟨(some 89), none, .load false 1 (.tmp 88)⟩,
                    ⟨(some 4), none, .mv (.tmp 89)⟩])
                  .ret)))
               (.seq
                (.reg [
                  ⟨(some 91), none, .bin .eql .other (.tmp 55) (.const (.int .i64 8))⟩,
                  ⟨(some 90), none, .mv (.tmp 91)⟩])
                (.cond (.tmp 90)
                 (.seq
                  (.reg [
                    ⟨(some 92), none, .iadA 3 1 (.tmp 5) (.const (.int .i64 0))⟩,
                    ⟨(some 93), none, .load false 1 (.tmp 92)⟩,
                    ⟨(some 94), none, .iadA 3 1 (.tmp 5) (.const (.int .i64 1))⟩,
                    ⟨(some 95), none, .load false 1 (.tmp 94)⟩,
                    ⟨(some 96), none, .bin .eql .other (.tmp 93) (.tmp 95)⟩,
                    ⟨(some 97), none, .call (.func 65) [(.tmp 96), (.const (.int .i64 40))]⟩])
                  (.seq
                   (.reg [
                     ⟨(some 4), none, .mv (.const (.int .i64 2))⟩])
                   .ret))
                 (.seq
                  (.reg [
                    ⟨(some 99), none, .bin .eql .other (.tmp 55) (.const (.int .i64 9))⟩,
                    ⟨(some 98), none, .mv (.tmp 99)⟩])
                  (.cond (.tmp 98)
                   (.seq
                    (.reg [
                      ⟨(some 100), none, .iadA 3 1 (.tmp 5) (.const (.int .i64 0))⟩,
                      ⟨(some 101), none, .load false 1 (.tmp 100)⟩,
                      ⟨(some 102), none, .iadA 3 1 (.tmp 5) (.const (.int .i64 1))⟩,
                      ⟨(some 103), none, .load false 1 (.tmp 102)⟩,
                      ⟨(some 104), none, .bin .eql .other (.tmp 101) (.tmp 103)⟩,
                      ⟨(some 105), none, .mv (.tmp 104)⟩,
                      ⟨(some 106), (some (105, true)), .iadA 3 1 (.tmp 5) (.const (.int .i64 0))⟩,
                      ⟨(some 107), (some (105, true)), .load false 1 (.tmp 106)⟩,
                      ⟨(some 108), (some (105, true)), .call (.func 135) [(.tmp 107)]⟩,
                      ⟨(some 109), (some (105, true)), .mv (.tmp 108)⟩,
                      ⟨(some 110), (some (109, false)), .iadA 3 1 (.tmp 5) (.const (.int .i64 0))⟩,
                      ⟨(some 111), (some (109, false)), .load false 1 (.tmp 110)⟩,
                      ⟨(some 112), (some (109, false)), .bin .eql .other (.tmp 111) (.const (.int .i64 3))⟩,
                      ⟨(some 113), (some (105, true)), .pick (.tmp 109) (.const (.bool true)) (.tmp 112)⟩,
                      ⟨(some 114), none, .pick (.tmp 105) (.tmp 113) (.const (.bool false))⟩,
                      ⟨(some 115), none, .call (.func 65) [(.tmp 114), (.const (.int .i64 40))]⟩])
                    (.seq
                     (.reg [
                       ⟨(some 4), none, .mv (.const (.int .i64 2))⟩])
                     .ret))
                   (.seq
                    (.reg [
                      ⟨(some 117), none, .bin .eql .other (.tmp 55) (.const (.int .i64 12))⟩,
                      ⟨(some 116), none, .mv (.tmp 117)⟩])
                    (.cond (.tmp 116)
                     (.reg [
                       ⟨(some 118), none, .iadA 3 1 (.tmp 5) (.const (.int .i64 0))⟩,
                       ⟨(some 119), none, .load false 1 (.tmp 118)⟩,
                       ⟨(some 120), none, .bin .eql .other (.tmp 119) (.const (.int .i64 2))⟩,
                       ⟨(some 121), none, .call (.func 65) [(.tmp 120), (.const (.int .i64 40))]⟩])
                     (.seq
                      (.seq
                       (.reg [
                         ⟨(some 123), none, .bin .eql .other (.tmp 55) (.const (.int .i64 10))⟩,
                         ⟨(some 122), none, .mv (.tmp 123)⟩])
                       (.cond (.tmp 122)
                        .skip
                        (.reg [
                          ⟨(some 124), none, .bin .eql .other (.tmp 55) (.const (.int .i64 11))⟩,
                          ⟨(some 122), none, .mv (.tmp 124)⟩])))
                      (.cond (.tmp 122)
                       (.reg [
                         ⟨(some 125), none, .iadA 3 1 (.tmp 5) (.const (.int .i64 0))⟩,
                         ⟨(some 126), none, .load false 1 (.tmp 125)⟩,
                         ⟨(some 127), none, .bin .eql .other (.tmp 126) (.const (.int .i64 2))⟩,
                         ⟨(some 128), none, .mv (.tmp 127)⟩,
                         ⟨(some 129), (some (128, true)), .iadA 3 1 (.tmp 5) (.const (.int .i64 1))⟩,
                         ⟨(some 130), (some (128, true)), .load false 1 (.tmp 129)⟩,
                         ⟨(some 131), (some (128, true)), .bin .eql .other (.tmp 130) (.const (.int .i64 2))⟩,
                         ⟨(some 132), none, .pick (.tmp 128) (.tmp 131) (.const (.bool false))⟩,
                         ⟨(some 133), none, .call (.func 65) [(.tmp 132), (.const (.int .i64 40))]⟩])
                       (.seq
                        (.reg [
                          ⟨(some 135), none, .bin .eql .other (.tmp 55) (.const (.int .i64 13))⟩,
                          ⟨(some 134), none, .mv (.tmp 135)⟩])
                        (.cond (.tmp 134)
                         (.seq
                          (.reg [
                            ⟨(some 136), none, .iadA 3 1 (.tmp 5) (.const (.int .i64 0))⟩,
                            ⟨(some 137), none, .load false 1 (.tmp 136)⟩,
                            ⟨(some 138), none, .bin .eql .other (.tmp 137) (.const (.int .i64 2))⟩,
                            ⟨(some 139), none, .mv (.tmp 138)⟩,
                            ⟨(some 140), (some (139, true)), .iadA 3 1 (.tmp 5) (.const (.int .i64 1))⟩,
                            ⟨(some 141), (some (139, true)), .load false 1 (.tmp 140)⟩,
                            ⟨(some 142), (some (139, true)), .iadA 3 1 (.tmp 5) (.const (.int .i64 2))⟩,
                            ⟨(some 143), (some (139, true)), .load false 1 (.tmp 142)⟩,
                            ⟨(some 144), (some (139, true)), .bin .eql .other (.tmp 141) (.tmp 143)⟩,
                            ⟨(some 145), none, .pick (.tmp 139) (.tmp 144) (.const (.bool false))⟩,
                            ⟨(some 146), none, .call (.func 65) [(.tmp 145), (.const (.int .i64 40))]⟩])
                          (.seq
                           (.reg [
                             ⟨(some 147), none, .iadA 3 1 (.tmp 5) (.const (.int .i64 1))⟩,
                             ⟨(some 148), none, .load false 1 (.tmp 147)⟩,
                             ⟨(some 4), none, .mv (.tmp 148)⟩])
                           .ret))
                         (.seq
                          (.reg [
                            ⟨(some 150), none, .bin .eql .other (.tmp 55) (.const (.int .i64 16))⟩,
                            ⟨(some 149), none, .mv (.tmp 150)⟩])
                          (.cond (.tmp 149)
                           (.seq
                            (.reg [
                              ⟨(some 151), none, .iadA 3 1 (.tmp 5) (.const (.int .i64 0))⟩,
                              ⟨(some 152), none, .load false 1 (.tmp 151)⟩,
                              ⟨(some 153), none, .bin .eql .other (.tmp 152) (.const (.int .i64 1))⟩,
                              ⟨(some 154), none, .call (.func 65) [(.tmp 153), (.const (.int .i64 40))]⟩])
                            (.seq
                             (.reg [
                               ⟨(some 4), none, .mv (.const (.int .i64 4))⟩])
                             .ret))
                           (.seq
                            (.reg [
                              ⟨(some 156), none, .bin .eql .other (.tmp 55) (.const (.int .i64 3))⟩,
                              ⟨(some 155), none, .mv (.tmp 156)⟩])
                            (.cond (.tmp 155)
                             (.reg [
                               ⟨(some 157), none, .iadA 3 1 (.tmp 5) (.const (.int .i64 0))⟩,
                               ⟨(some 158), none, .load false 1 (.tmp 157)⟩,
                               ⟨(some 159), none, .call (.func 135) [(.tmp 158)]⟩,
                               ⟨(some 160), none, .call (.func 65) [(.tmp 159), (.const (.int .i64 40))]⟩])
                             (.reg [
                               ⟨(some 56), none, .iadA 3 1 (.tmp 5) (.const (.int .i64 0))⟩,
                               ⟨(some 57), none, .load false 1 (.tmp 56)⟩,
                               ⟨(some 58), none, .iadA 3 1 (.tmp 5) (.const (.int .i64 1))⟩,
                               ⟨(some 59), none, .load false 1 (.tmp 58)⟩,
                               ⟨(some 60), none, .bin .eql .other (.tmp 57) (.tmp 59)⟩,
                               ⟨(some 61), none, .mv (.tmp 60)⟩,
                               ⟨(some 62), (some (61, true)), .iadA 3 1 (.tmp 5) (.const (.int .i64 0))⟩,
                               ⟨(some 63), (some (61, true)), .load false 1 (.tmp 62)⟩,
                               ⟨(some 64), (some (61, true)), .call (.func 135) [(.tmp 63)]⟩,
                               ⟨(some 65), none, .pick (.tmp 61) (.tmp 64) (.const (.bool false))⟩,
                               ⟨(some 66), none, .call (.func 65) [(.tmp 65), (.const (.int .i64 40))]⟩])))))))))))))))))))))
         (.seq
          (.reg [
            ⟨(some 161), none, .iadA 3 1 (.tmp 5) (.const (.int .i64 0))⟩,
            ⟨(some 162), none, .load false 1 (.tmp 161)⟩,
            ⟨(some 4), none, .mv (.tmp 162)⟩])
          .ret))))))))
theorem F79 : compF Try.prog 79 = some ⟨2, 163, [.tmp 4], c79⟩ := by kernel_rfl
theorem B79 : Bod Try.prog 79 := bod_of F79
/-- quaestor/contract.goodMove$1 -/
def c84 : ACode :=
  (.seq
   (.reg [
     ⟨(some 3), none, .mv (.const (.bool false))⟩])
   (.seq
    (.reg [
      ⟨(some 4), none, .mv (.tmp 0)⟩,
      ⟨(some 5), none, .bin .geq .other (.tmp 4) (.const (.int .i64 0))⟩,
      ⟨(some 6), none, .mv (.tmp 5)⟩,
      ⟨(some 7), (some (6, true)), .mv (.tmp 0)⟩,
      ⟨(some 8), (some (6, true)), .fad 2 (.tmp 1)⟩,
      ⟨(some 9), (some (6, true)), .load false 1 (.tmp 8)⟩,
      ⟨(some 10), (some (6, true)), .len false (.tmp 9)⟩,
      ⟨(some 11), (some (6, true)), .bin .lss .other (.tmp 7) (.tmp 10)⟩,
      ⟨(some 12), none, .pick (.tmp 6) (.tmp 11) (.const (.bool false))⟩,
      ⟨(some 3), none, .mv (.tmp 12)⟩])
    .ret))
theorem F84 : compF Try.prog 84 = some ⟨2, 13, [.tmp 3], c84⟩ := by kernel_rfl
theorem B84 : Bod Try.prog 84 := bod_of F84
/-- quaestor/contract.is -/
def c85 : ACode :=
  (.seq
   (.reg [
     ⟨(some 3), none, .box (.tmp 0)⟩,
     ⟨(some 6), none, .mv (.const (.bool false))⟩])
   (.seq
    (.reg [
      ⟨(some 10), none, .load true 8 (.tmp 3)⟩,
      ⟨(some 11), none, .mv (.tmp 2)⟩,
      ⟨(some 12), none, .call (.func 31) [(.tmp 10), (.tmp 11)]⟩,
      ⟨(some 9), none, .mv (.tmp 12)⟩,
      ⟨(some 13), none, .ext (.tmp 9) 0⟩,
      ⟨(some 14), none, .ext (.tmp 9) 1⟩,
      ⟨(some 7), none, .mv (.tmp 13)⟩,
      ⟨(some 8), none, .mv (.tmp 14)⟩])
    (.seq
     (.reg [
       ⟨(some 15), none, .mv (.tmp 8)⟩,
       ⟨(some 16), none, .bin .eql .other (.tmp 15) (.const (.int .i64 0))⟩,
       ⟨(some 17), none, .mv (.tmp 16)⟩,
       ⟨(some 18), (some (17, true)), .mv (.tmp 7)⟩,
       ⟨(some 19), (some (17, true)), .mv (.tmp 1)⟩,
       ⟨(some 20), (some (17, true)), .bin .eql .other (.tmp 18) (.tmp 19)⟩,
       ⟨(some 21), none, .pick (.tmp 17) (.tmp 20) (.const (.bool false))⟩,
       ⟨(some 6), none, .mv (.tmp 21)⟩])
     .ret)))
theorem F85 : compF Try.prog 85 = some ⟨3, 22, [.tmp 6], c85⟩ := by kernel_rfl
theorem B85 : Bod Try.prog 85 := bod_of F85
/-- quaestor/contract.apart -/
def c86 : ACode :=
  (.seq
   (.reg [
     ⟨(some 2), none, .mv (.const (.bool false))⟩])
   (.seq
    (.seq
     (.reg [
       ⟨(some 5), none, .mv (.tmp 0)⟩,
       ⟨(some 6), none, .len false (.tmp 5)⟩,
       ⟨(some 7), none, .mv (.const (.int .i64 0))⟩])
     (.block 0
      (.loop
       (.seq
        (.reg [
          ⟨(some 8), none, .bin .lss .other (.tmp 7) (.tmp 6)⟩])
        (.seq
         (.cond (.tmp 8)
          .skip
          (.exit 0))
         (.seq
          (.block 1
           (.seq
            (.reg [
              ⟨(some 9), none, .mv (.tmp 7)⟩,
              ⟨(some 10), none, .iad 1 (.tmp 5) (.tmp 7)⟩,
              ⟨(some 11), none, .load false 1 (.tmp 10)⟩,
              ⟨(some 3), none, .mv (.tmp 9)⟩,
              ⟨(some 4), none, .mv (.tmp 11)⟩])
            (.seq
             (.reg [
               ⟨(some 12), none, .mv (.tmp 0)⟩,
               ⟨(some 13), none, .mv (.tmp 4)⟩,
               ⟨(some 14), none, .call (.func 143) [(.tmp 12), (.tmp 13)]⟩,
               ⟨(some 15), none, .mv (.tmp 3)⟩,
               ⟨(some 16), none, .bin .neq .other (.tmp 14) (.tmp 15)⟩])
             (.cond (.tmp 16)
              (.seq
               (.reg [
                 ⟨(some 2), none, .mv (.const (.bool false))⟩])
               .ret)
              .skip))))
          (.reg [
            ⟨(some 17), none, .bin .add .other (.tmp 7) (.const (.int .i64 1))⟩,
            ⟨(some 7), none, .mv (.tmp 17)⟩])))))))
    (.seq
     (.reg [
       ⟨(some 2), none, .mv (.const (.bool true))⟩])
     .ret)))
theorem F86 : compF Try.prog 86 = some ⟨1, 18, [.tmp 2], c86⟩ := by kernel_rfl
theorem B86 : Bod Try.prog 86 := bod_of F86
/-- slices.IndexFunc(()quaestor/api.Field,quaestor/api.Field) -/
def c87 : ACode :=
  (.seq
   (.reg [
     ⟨(some 4), none, .mv (.const (.int .i64 0))⟩])
   (.seq
    (.seq
     (.reg [
       ⟨(some 6), none, .mv (.tmp 0)⟩,
       ⟨(some 7), none, .len false (.tmp 6)⟩,
       ⟨(some 8), none, .mv (.const (.int .i64 0))⟩])
     (.block 0
      (.loop
       (.seq
        (.reg [
          ⟨(some 9), none, .bin .lss .other (.tmp 8) (.tmp 7)⟩])
        (.seq
         (.cond (.tmp 9)
          .skip
          (.exit 0))
         (.seq
          (.block 1
           (.seq
            (.reg [
              ⟨(some 10), none, .mv (.tmp 8)⟩,
              ⟨(some 5), none, .mv (.tmp 10)⟩])
            (.seq
             (.reg [
               ⟨(some 11), none, .mv (.tmp 1)⟩,
               ⟨(some 12), none, .mv (.tmp 0)⟩,
               ⟨(some 13), none, .mv (.tmp 5)⟩,
               ⟨(some 14), none, .iad 8 (.tmp 12) (.tmp 13)⟩,
               ⟨(some 15), none, .load true 8 (.tmp 14)⟩,
               ⟨(some 16), none, .call (.tmp 11) [(.tmp 15)]⟩])
             (.cond (.tmp 16)
              (.seq
               (.reg [
                 ⟨(some 17), none, .mv (.tmp 5)⟩,
                 ⟨(some 4), none, .mv (.tmp 17)⟩])
               .ret)
              .skip))))
          (.reg [
            ⟨(some 18), none, .bin .add .other (.tmp 8) (.const (.int .i64 1))⟩,
            ⟨(some 8), none, .mv (.tmp 18)⟩])))))))
    (.seq
     (.reg [
       ⟨(some 4), none, .mv (.const (.int .i64 (-1)))⟩])
     .ret)))
theorem F87 : compF Try.prog 87 = some ⟨2, 19, [.tmp 4], c87⟩ := by kernel_rfl
theorem B87 : Bod Try.prog 87 := bod_of F87
/-- slices.ContainsFunc(()string,string) -/
def c88 : ACode :=
  (.seq
   (.reg [
     ⟨(some 4), none, .mv (.const (.bool false))⟩])
   (.seq
    (.reg [
      ⟨(some 5), none, .mv (.tmp 0)⟩,
      ⟨(some 6), none, .mv (.tmp 1)⟩,
      ⟨(some 7), none, .call (.func 144) [(.tmp 5), (.tmp 6)]⟩,
      ⟨(some 8), none, .bin .geq .other (.tmp 7) (.const (.int .i64 0))⟩,
      ⟨(some 4), none, .mv (.tmp 8)⟩])
    .ret))
theorem F88 : compF Try.prog 88 = some ⟨2, 9, [.tmp 4], c88⟩ := by kernel_rfl
theorem B88 : Bod Try.prog 88 := bod_of F88
/-- quaestor/contract.goodField$1 -/
def c89 : ACode :=
  (.seq
   (.reg [
     ⟨(some 2), none, .mv (.const (.bool false))⟩])
   (.seq
    (.reg [
      ⟨(some 3), none, .mv (.tmp 0)⟩,
      ⟨(some 4), none, .len true (.tmp 3)⟩,
      ⟨(some 5), none, .bin .gtr .other (.tmp 4) (.const (.int .i64 32))⟩,
      ⟨(some 2), none, .mv (.tmp 5)⟩])
    .ret))
theorem F89 : compF Try.prog 89 = some ⟨1, 6, [.tmp 2], c89⟩ := by kernel_rfl
theorem B89 : Bod Try.prog 89 := bod_of F89
/-- quaestor/value.Fits -/
def c90 : ACode :=
  (.seq
   (.reg [
     ⟨(some 2), none, .box (.tmp 0)⟩,
     ⟨(some 3), none, .box (.tmp 1)⟩,
     ⟨(some 4), none, .mv (.const (.int .i64 0))⟩])
   (.seq
    (.block 0
     (.seq
      (.reg [
        ⟨(some 6), none, .load true 5 (.tmp 2)⟩,
        ⟨(some 7), none, .call (.func 129) [(.tmp 6)]⟩,
        ⟨(some 8), none, .un .not (.tmp 7)⟩,
        ⟨(some 9), none, .mv (.tmp 8)⟩,
        ⟨(some 10), (some (9, false)), .fad 0 (.tmp 2)⟩,
        ⟨(some 11), (some (9, false)), .load false 1 (.tmp 10)⟩,
        ⟨(some 12), (some (9, false)), .fad 1 (.tmp 3)⟩,
        ⟨(some 13), (some (9, false)), .load false 1 (.tmp 12)⟩,
        ⟨(some 14), (some (9, false)), .bin .neq .other (.tmp 11) (.tmp 13)⟩,
        ⟨(some 15), none, .pick (.tmp 9) (.const (.bool true)) (.tmp 14)⟩,
        ⟨(some 5), none, .mv (.tmp 15)⟩])
      (.cond (.tmp 5)
       (.seq
        (.reg [
          ⟨(some 4), none, .mv (.const (.int .i64 40))⟩])
        .ret)
       (.seq
        (.reg [
          ⟨(some 17), none, .fad 0 (.tmp 2)⟩,
          ⟨(some 18), none, .load false 1 (.tmp 17)⟩,
          ⟨(some 19), none, .bin .eql .other (.tmp 18) (.const (.int .i64 3))⟩,
          ⟨(some 20), none, .mv (.tmp 19)⟩,
          ⟨(some 21), (some (20, true)), .fad 2 (.tmp 3)⟩,
          ⟨(some 22), (some (20, true)), .load false 1 (.tmp 21)⟩,
          ⟨(some 23), (some (20, true)), .len false (.tmp 22)⟩,
          ⟨(some 24), (some (20, true)), .bin .gtr .other (.tmp 23) (.const (.int .i64 0))⟩,
          ⟨(some 25), none, .pick (.tmp 20) (.tmp 24) (.const (.bool false))⟩,
          ⟨(some 26), none, .mv (.tmp 25)⟩,
          ⟨(some 27), (some (26, true)), .fad 2 (.tmp 3)⟩,
          ⟨(some 28), (some (26, true)), .load false 1 (.tmp 27)⟩,
          ⟨(some 29), (some (26, true)), .fad 3 (.tmp 2)⟩,
          ⟨(some 30), (some (26, true)), .load false 1 (.tmp 29)⟩,
          ⟨(some 31), (some (26, true)), .call (.func 145) [(.tmp 28), (.tmp 30)]⟩,
          ⟨(some 32), (some (26, true)), .un .not (.tmp 31)⟩,
          ⟨(some 33), none, .pick (.tmp 26) (.tmp 32) (.const (.bool false))⟩,
          ⟨(some 16), none, .mv (.tmp 33)⟩])
        (.cond (.tmp 16)
         (.seq
          (.reg [
            ⟨(some 4), none, .mv (.const (.int .i64 60))⟩])
          .ret)
         .skip)))))
    (.seq
     (.reg [
       ⟨(some 4), none, .mv (.const (.int .i64 0))⟩])
     .ret)))
theorem F90 : compF Try.prog 90 = some ⟨2, 34, [.tmp 4], c90⟩ := by kernel_rfl
theorem B90 : Bod Try.prog 90 := bod_of F90
/-- slices.IndexFunc(()quaestor/api.Stage,quaestor/api.Stage) -/
def c91 : ACode :=
  (.seq
   (.reg [
     ⟨(some 4), none, .mv (.const (.int .i64 0))⟩])
   (.seq
    (.seq
     (.reg [
       ⟨(some 6), none, .mv (.tmp 0)⟩,
       ⟨(some 7), none, .len false (.tmp 6)⟩,
       ⟨(some 8), none, .mv (.const (.int .i64 0))⟩])
     (.block 0
      (.loop
       (.seq
        (.reg [
          ⟨(some 9), none, .bin .lss .other (.tmp 8) (.tmp 7)⟩])
        (.seq
         (.cond (.tmp 9)
          .skip
          (.exit 0))
         (.seq
          (.block 1
           (.seq
            (.reg [
              ⟨(some 10), none, .mv (.tmp 8)⟩,
              ⟨(some 5), none, .mv (.tmp 10)⟩])
            (.seq
             (.reg [
               ⟨(some 11), none, .mv (.tmp 1)⟩,
               ⟨(some 12), none, .mv (.tmp 0)⟩,
               ⟨(some 13), none, .mv (.tmp 5)⟩,
               ⟨(some 14), none, .iad 3 (.tmp 12) (.tmp 13)⟩,
               ⟨(some 15), none, .load true 3 (.tmp 14)⟩,
               ⟨(some 16), none, .call (.tmp 11) [(.tmp 15)]⟩])
             (.cond (.tmp 16)
              (.seq
               (.reg [
                 ⟨(some 17), none, .mv (.tmp 5)⟩,
                 ⟨(some 4), none, .mv (.tmp 17)⟩])
               .ret)
              .skip))))
          (.reg [
            ⟨(some 18), none, .bin .add .other (.tmp 8) (.const (.int .i64 1))⟩,
            ⟨(some 8), none, .mv (.tmp 18)⟩])))))))
    (.seq
     (.reg [
       ⟨(some 4), none, .mv (.const (.int .i64 (-1)))⟩])
     .ret)))
theorem F91 : compF Try.prog 91 = some ⟨2, 19, [.tmp 4], c91⟩ := by kernel_rfl
theorem B91 : Bod Try.prog 91 := bod_of F91
/-- slices.IndexFunc(()quaestor/api.Move,quaestor/api.Move) -/
def c92 : ACode :=
  (.seq
   (.reg [
     ⟨(some 4), none, .mv (.const (.int .i64 0))⟩])
   (.seq
    (.seq
     (.reg [
       ⟨(some 6), none, .mv (.tmp 0)⟩,
       ⟨(some 7), none, .len false (.tmp 6)⟩,
       ⟨(some 8), none, .mv (.const (.int .i64 0))⟩])
     (.block 0
      (.loop
       (.seq
        (.reg [
          ⟨(some 9), none, .bin .lss .other (.tmp 8) (.tmp 7)⟩])
        (.seq
         (.cond (.tmp 9)
          .skip
          (.exit 0))
         (.seq
          (.block 1
           (.seq
            (.reg [
              ⟨(some 10), none, .mv (.tmp 8)⟩,
              ⟨(some 5), none, .mv (.tmp 10)⟩])
            (.seq
             (.reg [
               ⟨(some 11), none, .mv (.tmp 1)⟩,
               ⟨(some 12), none, .mv (.tmp 0)⟩,
               ⟨(some 13), none, .mv (.tmp 5)⟩,
               ⟨(some 14), none, .iad 13 (.tmp 12) (.tmp 13)⟩,
               ⟨(some 15), none, .load true 13 (.tmp 14)⟩,
               ⟨(some 16), none, .call (.tmp 11) [(.tmp 15)]⟩])
             (.cond (.tmp 16)
              (.seq
               (.reg [
                 ⟨(some 17), none, .mv (.tmp 5)⟩,
                 ⟨(some 4), none, .mv (.tmp 17)⟩])
               .ret)
              .skip))))
          (.reg [
            ⟨(some 18), none, .bin .add .other (.tmp 8) (.const (.int .i64 1))⟩,
            ⟨(some 8), none, .mv (.tmp 18)⟩])))))))
    (.seq
     (.reg [
       ⟨(some 4), none, .mv (.const (.int .i64 (-1)))⟩])
     .ret)))
theorem F92 : compF Try.prog 92 = some ⟨2, 19, [.tmp 4], c92⟩ := by kernel_rfl
theorem B92 : Bod Try.prog 92 := bod_of F92
/-- quaestor/quaestorref06.enum -/
def c93 : ACode :=
  (.seq
   (.reg [
     ⟨(some 1), none, .box (.tmp 0)⟩,
     ⟨(some 2), none, .mv (.const (.bool false))⟩])
   (.seq
    (.seq
     (.reg [
       ⟨(some 5), none, .fad 2 (.tmp 1)⟩,
       ⟨(some 6), none, .load false 1 (.tmp 5)⟩,
       ⟨(some 7), none, .len false (.tmp 6)⟩,
       ⟨(some 8), none, .bin .gtr .other (.tmp 7) (.const (.int .i64 4))⟩,
       ⟨(some 9), none, .mv (.tmp 8)⟩,
       ⟨(some 10), (some (9, false)), .fad 2 (.tmp 1)⟩,
       ⟨(some 11), (some (9, false)), .load false 1 (.tmp 10)⟩,
       ⟨(some 12), (some (9, false)), .len false (.tmp 11)⟩,
       ⟨(some 13), (some (9, false)), .bin .gtr .other (.tmp 12) (.const (.int .i64 0))⟩,
       ⟨(some 14), (some (9, false)), .mv (.tmp 13)⟩,
       ⟨(some 15), (some (14, true)), .fad 1 (.tmp 1)⟩,
       ⟨(some 16), (some (14, true)), .load false 1 (.tmp 15)⟩,
       ⟨(some 17), (some (14, true)), .bin .neq .other (.tmp 16) (.const (.int .i64 3))⟩,
       ⟨(some 18), (some (9, false)), .pick (.tmp 14) (.tmp 17) (.const (.bool false))⟩,
       ⟨(some 19), none, .pick (.tmp 9) (.const (.bool true)) (.tmp 18)⟩])
     (.cond (.tmp 19)
      (.seq
       (.reg [
         ⟨(some 2), none, .mv (.const (.bool false))⟩])
       .ret)
      .skip))
    (.seq
     (.seq
      (.reg [
        ⟨(some 3), none, .mv (.const (.int .i64 0))⟩])
      (.block 0
       (.loop
        (.seq
         (.seq
          (.reg [
            ⟨(some 20), none, .mv (.tmp 3)⟩,
            ⟨(some 21), none, .fad 2 (.tmp 1)⟩,
            ⟨(some 22), none, .load false 1 (.tmp 21)⟩,
            ⟨(some 23), none, .len false (.tmp 22)⟩,
            ⟨(some 24), none, .bin .lss .other (.tmp 20) (.tmp 23)⟩])
          (.cond (.tmp 24)
           .skip
           (.exit 0)))
         (.seq
          (.block 1
           (.seq
            (.seq
             (.reg [
               ⟨(some 27), none, .fad 2 (.tmp 1)⟩,
               ⟨(some 28), none, .load false 1 (.tmp 27)⟩,
               ⟨(some 29), none, .mv (.tmp 3)⟩,
               ⟨(some 30), none, .iad 1 (.tmp 28) (.tmp 29)⟩,
               ⟨(some 31), none, .load false 1 (.tmp 30)⟩,
               ⟨(some 32), none, .len true (.tmp 31)⟩,
               ⟨(some 33), none, .bin .gtr .other (.tmp 32) (.const (.int .i64 32))⟩])
             (.cond (.tmp 33)
              (.seq
               (.reg [
                 ⟨(some 2), none, .mv (.const (.bool false))⟩])
               .ret)
              .skip))
            (.seq
             (.reg [
               ⟨(some 4), none, .mv (.const (.int .i64 0))⟩])
             (.block 2
              (.loop
               (.seq
                (.seq
                 (.reg [
                   ⟨(some 34), none, .mv (.tmp 4)⟩,
                   ⟨(some 35), none, .mv (.tmp 3)⟩,
                   ⟨(some 36), none, .bin .lss .other (.tmp 34) (.tmp 35)⟩])
                 (.cond (.tmp 36)
                  .skip
                  (.exit 2)))
                (.seq
                 (.block 3
                  (.seq
                   (.dreg 10 [
                     ⟨(some 39), none, .fad 2 (.tmp 1)⟩,
                     ⟨(some 40), none, .load false 1 (.tmp 39)⟩,
                     ⟨(some 41), none, .mv (.tmp 3)⟩,
                     ⟨(some 42), none, .iad 1 (.tmp 40) (.tmp 41)⟩,
                     ⟨(some 43), none, .load false 1 (.tmp 42)⟩,
                     ⟨(some 44), none, .fad 2 (.tmp 1)⟩,
                     ⟨(some 45), none, .load false 1 (.tmp 44)⟩,
                     ⟨(some 46), none, .mv (.tmp 4)⟩,
                     ⟨(some 47), none, .iad 1 (.tmp 45) (.tmp 46)⟩,
                     ⟨(some 48), none, .load false 1 (.tmp 47)⟩,
                     ⟨(some 49), none, .bin .eql .other (.tmp 43) (.tmp 48)⟩])
                   (.cond (.tmp 49)
                    (.seq
                     (.reg [
                       ⟨(some 2), none, .mv (.const (.bool false))⟩])
                     .ret)
                    .skip)))
                 (.reg [
                   ⟨(some 37), none, .mv (.tmp 4)⟩,
                   ⟨(some 38), none, .bin .add .other (.tmp 37) (.const (.int .i64 1))⟩,
                   ⟨(some 4), none, .mv (.tmp 38)⟩]))))))))
          (.reg [
            ⟨(some 25), none, .mv (.tmp 3)⟩,
            ⟨(some 26), none, .bin .add .other (.tmp 25) (.const (.int .i64 1))⟩,
            ⟨(some 3), none, .mv (.tmp 26)⟩]))))))
     (.seq
      (.reg [
        ⟨(some 2), none, .mv (.const (.bool true))⟩])
      .ret))))
theorem F93 : compF Try.prog 93 = some ⟨1, 50, [.tmp 2], c93⟩ := by kernel_rfl
theorem B93 : Bod Try.prog 93 := bod_of F93
end Go.Proofs.Ytbnelpgogjbgjaa.Q
