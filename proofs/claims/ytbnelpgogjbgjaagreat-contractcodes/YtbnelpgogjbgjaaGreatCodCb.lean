/- The codes of the functions, and that the program has them. -/
import Derived.Test.YtbnelpgogjbgjaaGreatCodQw
import Derived.KernelRfl
import Derived.Test.YtbnelpgogjbgjaaGreatProg
/- The codes of the functions, and that the program has them. -/
set_option linter.unusedVariables false
namespace Go.Proofs.YtbnelpgogjbgjaaGreat.Q
open Go.RowKit
/-- quaestor/quaestorref06.move -/
def c81 : ACode :=
  (.seq
   (.reg [
     ⟨(some 2), none, .box (.tmp 0)⟩,
     ⟨(some 3), none, .box (.tmp 1)⟩,
     ⟨(some 4), none, .mv (.const (.bool false))⟩])
   (.seq
    (.seq
     (.reg [
       ⟨(some 12), none, .fad 1 (.tmp 3)⟩,
       ⟨(some 13), none, .load false 1 (.tmp 12)⟩,
       ⟨(some 14), none, .bin .lss .other (.tmp 13) (.const (.int .i64 0))⟩,
       ⟨(some 15), none, .mv (.tmp 14)⟩,
       ⟨(some 16), (some (15, false)), .fad 1 (.tmp 3)⟩,
       ⟨(some 17), (some (15, false)), .load false 1 (.tmp 16)⟩,
       ⟨(some 18), (some (15, false)), .fad 2 (.tmp 2)⟩,
       ⟨(some 19), (some (15, false)), .load false 1 (.tmp 18)⟩,
       ⟨(some 20), (some (15, false)), .len false (.tmp 19)⟩,
       ⟨(some 21), (some (15, false)), .bin .geq .other (.tmp 17) (.tmp 20)⟩,
       ⟨(some 22), none, .pick (.tmp 15) (.const (.bool true)) (.tmp 21)⟩,
       ⟨(some 23), none, .mv (.tmp 22)⟩,
       ⟨(some 24), (some (23, false)), .fad 2 (.tmp 3)⟩,
       ⟨(some 25), (some (23, false)), .load false 1 (.tmp 24)⟩,
       ⟨(some 26), (some (23, false)), .bin .lss .other (.tmp 25) (.const (.int .i64 0))⟩,
       ⟨(some 27), none, .pick (.tmp 23) (.const (.bool true)) (.tmp 26)⟩,
       ⟨(some 28), none, .mv (.tmp 27)⟩,
       ⟨(some 29), (some (28, false)), .fad 2 (.tmp 3)⟩,
       ⟨(some 30), (some (28, false)), .load false 1 (.tmp 29)⟩,
       ⟨(some 31), (some (28, false)), .fad 2 (.tmp 2)⟩,
       ⟨(some 32), (some (28, false)), .load false 1 (.tmp 31)⟩,
       ⟨(some 33), (some (28, false)), .len false (.tmp 32)⟩,
       ⟨(some 34), (some (28, false)), .bin .geq .other (.tmp 30) (.tmp 33)⟩,
       ⟨(some 35), none, .pick (.tmp 28) (.const (.bool true)) (.tmp 34)⟩,
       ⟨(some 36), none, .mv (.tmp 35)⟩,
       ⟨(some 37), (some (36, false)), .fad 12 (.tmp 3)⟩,
       ⟨(some 38), (some (36, false)), .load false 1 (.tmp 37)⟩,
       ⟨(some 39), (some (36, false)), .bin .lss .other (.tmp 38) (.const (.int .i64 (-1)))⟩,
       ⟨(some 40), none, .pick (.tmp 36) (.const (.bool true)) (.tmp 39)⟩,
       ⟨(some 41), none, .mv (.tmp 40)⟩,
       ⟨(some 42), (some (41, false)), .fad 12 (.tmp 3)⟩,
       ⟨(some 43), (some (41, false)), .load false 1 (.tmp 42)⟩,
       ⟨(some 44), (some (41, false)), .bin .geq .other (.tmp 43) (.const (.int .i64 4))⟩,
       ⟨(some 45), none, .pick (.tmp 41) (.const (.bool true)) (.tmp 44)⟩,
       ⟨(some 46), none, .mv (.tmp 45)⟩,
       ⟨(some 47), (some (46, false)), .fad 11 (.tmp 3)⟩,
       ⟨(some 48), (some (46, false)), .load false 1 (.tmp 47)⟩,
       ⟨(some 49), (some (46, false)), .len false (.tmp 48)⟩,
       ⟨(some 50), (some (46, false)), .bin .gtr .other (.tmp 49) (.const (.int .i64 4))⟩,
       ⟨(some 51), none, .pick (.tmp 46) (.const (.bool true)) (.tmp 50)⟩])
     (.cond (.tmp 51)
      (.seq
       (.reg [
         ⟨(some 4), none, .mv (.const (.bool false))⟩])
       .ret)
      .skip))
    (.seq
     (.reg [
       ⟨(some 53), none, .fad 3 (.tmp 3)⟩,
       ⟨(some 54), none, .load true 8 (.tmp 53)⟩,
       ⟨(some 55), none, .fad 1 (.tmp 2)⟩,
       ⟨(some 56), none, .load false 1 (.tmp 55)⟩,
       ⟨(some 57), none, .call (.func 133) [(.tmp 54), (.tmp 56)]⟩,
       ⟨(some 52), none, .mv (.tmp 57)⟩,
       ⟨(some 58), none, .ext (.tmp 52) 0⟩,
       ⟨(some 59), none, .ext (.tmp 52) 1⟩,
       ⟨(some 5), none, .mv (.tmp 58)⟩,
       ⟨(some 6), none, .mv (.tmp 59)⟩])
     (.seq
      (.seq
       (.reg [
         ⟨(some 60), none, .mv (.tmp 6)⟩,
         ⟨(some 61), none, .bin .neq .other (.tmp 60) (.const (.int .i64 0))⟩,
         ⟨(some 62), none, .mv (.tmp 61)⟩,
         ⟨(some 63), (some (62, false)), .mv (.tmp 5)⟩,
         ⟨(some 64), (some (62, false)), .bin .neq .other (.tmp 63) (.const (.int .i64 2))⟩,
         ⟨(some 65), none, .pick (.tmp 62) (.const (.bool true)) (.tmp 64)⟩])
       (.cond (.tmp 65)
        (.seq
         (.reg [
           ⟨(some 4), none, .mv (.const (.bool false))⟩])
         .ret)
        .skip))
      (.seq
       (.seq
        (.reg [
          ⟨(some 7), none, .mv (.const (.int .i64 0))⟩])
        (.block 0
         (.loop
          (.seq
           (.seq
            (.reg [
              ⟨(some 66), none, .mv (.tmp 7)⟩,
              ⟨(some 67), none, .fad 11 (.tmp 3)⟩,
              ⟨(some 68), none, .load false 1 (.tmp 67)⟩,
              ⟨(some 69), none, .len false (.tmp 68)⟩,
              ⟨(some 70), none, .bin .lss .other (.tmp 66) (.tmp 69)⟩])
            (.cond (.tmp 70)
             .skip
             (.exit 0)))
           (.seq
            (.block 1
             (.seq
              (.dreg 7 [
                ⟨(some 73), none, .load true 4 (.tmp 2)⟩,
                ⟨(some 74), none, .fad 11 (.tmp 3)⟩,
                ⟨(some 75), none, .load false 1 (.tmp 74)⟩,
                ⟨(some 76), none, .mv (.tmp 7)⟩,
                ⟨(some 77), none, .iad 9 (.tmp 75) (.tmp 76)⟩,
                ⟨(some 78), none, .fad 0 (.tmp 77)⟩,
                ⟨(some 79), none, .load false 1 (.tmp 78)⟩,
                ⟨(some 80), none, .call (.func 130) [(.tmp 73), (.tmp 79)]⟩,
                ⟨(some 8), none, .mv (.tmp 80)⟩])
              (.seq
               (.seq
                (.reg [
                  ⟨(some 81), none, .mv (.tmp 8)⟩,
                  ⟨(some 82), none, .bin .lss .other (.tmp 81) (.const (.int .i64 0))⟩])
                (.cond (.tmp 82)
                 (.seq
                  (.reg [
                    ⟨(some 4), none, .mv (.const (.bool false))⟩])
                  .ret)
                 .skip))
               (.seq
                (.dreg 13 [
                  ⟨(some 84), none, .fad 11 (.tmp 3)⟩,
                  ⟨(some 85), none, .load false 1 (.tmp 84)⟩,
                  ⟨(some 86), none, .mv (.tmp 7)⟩,
                  ⟨(some 87), none, .iad 9 (.tmp 85) (.tmp 86)⟩,
                  ⟨(some 88), none, .fad 1 (.tmp 87)⟩,
                  ⟨(some 89), none, .load true 8 (.tmp 88)⟩,
                  ⟨(some 90), none, .fad 1 (.tmp 2)⟩,
                  ⟨(some 91), none, .load false 1 (.tmp 90)⟩,
                  ⟨(some 92), none, .call (.func 133) [(.tmp 89), (.tmp 91)]⟩,
                  ⟨(some 83), none, .mv (.tmp 92)⟩,
                  ⟨(some 93), none, .ext (.tmp 83) 0⟩,
                  ⟨(some 94), none, .ext (.tmp 83) 1⟩,
                  ⟨(some 9), none, .mv (.tmp 93)⟩,
                  ⟨(some 10), none, .mv (.tmp 94)⟩])
                (.seq
                 (.seq
                  (.reg [
                    ⟨(some 95), none, .mv (.tmp 10)⟩,
                    ⟨(some 96), none, .bin .neq .other (.tmp 95) (.const (.int .i64 0))⟩,
                    ⟨(some 97), none, .mv (.tmp 96)⟩,
                    ⟨(some 98), (some (97, false)), .mv (.tmp 9)⟩,
                    ⟨(some 99), (some (97, false)), .fad 1 (.tmp 2)⟩,
                    ⟨(some 100), (some (97, false)), .load false 1 (.tmp 99)⟩,
                    ⟨(some 101), (some (97, false)), .mv (.tmp 8)⟩,
                    ⟨(some 102), (some (97, false)), .iad 8 (.tmp 100) (.tmp 101)⟩,
                    ⟨(some 103), (some (97, false)), .fad 1 (.tmp 102)⟩,
                    ⟨(some 104), (some (97, false)), .load false 1 (.tmp 103)⟩,
                    ⟨(some 105), (some (97, false)), .bin .neq .other (.tmp 98) (.tmp 104)⟩,
                    ⟨(some 106), none, .pick (.tmp 97) (.const (.bool true)) (.tmp 105)⟩])
                  (.cond (.tmp 106)
                   (.seq
                    (.reg [
                      ⟨(some 4), none, .mv (.const (.bool false))⟩])
                    .ret)
                   .skip))
                 (.seq
                  (.reg [
                    ⟨(some 11), none, .mv (.const (.int .i64 0))⟩])
                  (.block 2
                   (.loop
                    (.seq
                     (.seq
                      (.reg [
                        ⟨(some 107), none, .mv (.tmp 11)⟩,
                        ⟨(some 108), none, .mv (.tmp 7)⟩,
                        ⟨(some 109), none, .bin .lss .other (.tmp 107) (.tmp 108)⟩])
                      (.cond (.tmp 109)
                       .skip
                       (.exit 2)))
                     (.seq
                      (.block 3
                       (.seq
                        (.dreg 12 [
                          ⟨(some 112), none, .fad 11 (.tmp 3)⟩,
                          ⟨(some 113), none, .load false 1 (.tmp 112)⟩,
                          ⟨(some 114), none, .mv (.tmp 11)⟩,
                          ⟨(some 115), none, .iad 9 (.tmp 113) (.tmp 114)⟩,
                          ⟨(some 116), none, .fad 0 (.tmp 115)⟩,
                          ⟨(some 117), none, .load false 1 (.tmp 116)⟩,
                          ⟨(some 118), none, .fad 11 (.tmp 3)⟩,
                          ⟨(some 119), none, .load false 1 (.tmp 118)⟩,
                          ⟨(some 120), none, .mv (.tmp 7)⟩,
                          ⟨(some 121), none, .iad 9 (.tmp 119) (.tmp 120)⟩,
                          ⟨(some 122), none, .fad 0 (.tmp 121)⟩,
                          ⟨(some 123), none, .load false 1 (.tmp 122)⟩,
                          ⟨(some 124), none, .bin .eql .other (.tmp 117) (.tmp 123)⟩])
                        (.cond (.tmp 124)
                         (.seq
                          (.reg [
                            ⟨(some 4), none, .mv (.const (.bool false))⟩])
                          .ret)
                         .skip)))
                      (.reg [
                        ⟨(some 110), none, .mv (.tmp 11)⟩,
                        ⟨(some 111), none, .bin .add .other (.tmp 110) (.const (.int .i64 1))⟩,
                        ⟨(some 11), none, .mv (.tmp 111)⟩])))))))))))
            (.reg [
              ⟨(some 71), none, .mv (.tmp 7)⟩,
              ⟨(some 72), none, .bin .add .other (.tmp 71) (.const (.int .i64 1))⟩,
              ⟨(some 7), none, .mv (.tmp 72)⟩]))))))
       (.seq
        (.reg [
          ⟨(some 4), none, .mv (.const (.bool true))⟩])
        .ret))))))
theorem F81 : compF Tryz.prog 81 = some ⟨2, 125, [.tmp 4], c81⟩ := by kernel_rfl
theorem B81 : Bod Tryz.prog 81 := bod_of F81
/-- quaestor/quaestorref04.Good -/
def c82 : ACode :=
  (.seq
   (.reg [
     ⟨(some 1), none, .box (.tmp 0)⟩,
     ⟨(some 2), none, .mv (.const (.bool false))⟩])
   (.seq
    (.seq
     (.reg [
       ⟨(some 3), none, .fad 0 (.tmp 1)⟩,
       ⟨(some 4), none, .load false 1 (.tmp 3)⟩,
       ⟨(some 5), none, .bin .lss .other (.tmp 4) (.const (.int .i64 1))⟩,
       ⟨(some 6), none, .mv (.tmp 5)⟩,
       ⟨(some 7), (some (6, false)), .fad 0 (.tmp 1)⟩,
       ⟨(some 8), (some (6, false)), .load false 1 (.tmp 7)⟩,
       ⟨(some 9), (some (6, false)), .bin .gtr .other (.tmp 8) (.const (.int .i64 4))⟩,
       ⟨(some 10), none, .pick (.tmp 6) (.const (.bool true)) (.tmp 9)⟩,
       ⟨(some 11), none, .mv (.tmp 10)⟩,
       ⟨(some 12), (some (11, false)), .fad 3 (.tmp 1)⟩,
       ⟨(some 13), (some (11, false)), .load false 1 (.tmp 12)⟩,
       ⟨(some 14), (some (11, false)), .len true (.tmp 13)⟩,
       ⟨(some 15), (some (11, false)), .bin .gtr .other (.tmp 14) (.const (.int .i64 32))⟩,
       ⟨(some 16), none, .pick (.tmp 11) (.const (.bool true)) (.tmp 15)⟩])
     (.cond (.tmp 16)
      (.seq
       (.reg [
         ⟨(some 2), none, .mv (.const (.bool false))⟩])
       .ret)
      .skip))
    (.seq
     (.seq
      (.reg [
        ⟨(some 17), none, .fad 0 (.tmp 1)⟩,
        ⟨(some 18), none, .load false 1 (.tmp 17)⟩,
        ⟨(some 19), none, .bin .neq .other (.tmp 18) (.const (.int .i64 1))⟩,
        ⟨(some 20), none, .mv (.tmp 19)⟩,
        ⟨(some 21), (some (20, true)), .fad 1 (.tmp 1)⟩,
        ⟨(some 22), (some (20, true)), .load false 1 (.tmp 21)⟩,
        ⟨(some 23), (some (20, true)), .bin .neq .other (.tmp 22) (.const (.int .i64 0))⟩,
        ⟨(some 24), none, .pick (.tmp 20) (.tmp 23) (.const (.bool false))⟩,
        ⟨(some 25), none, .mv (.tmp 24)⟩,
        ⟨(some 26), (some (25, false)), .fad 0 (.tmp 1)⟩,
        ⟨(some 27), (some (25, false)), .load false 1 (.tmp 26)⟩,
        ⟨(some 28), (some (25, false)), .bin .neq .other (.tmp 27) (.const (.int .i64 2))⟩,
        ⟨(some 29), (some (25, false)), .mv (.tmp 28)⟩,
        ⟨(some 30), (some (29, true)), .fad 2 (.tmp 1)⟩,
        ⟨(some 31), (some (29, true)), .load false 1 (.tmp 30)⟩,
        ⟨(some 32), (some (25, false)), .pick (.tmp 29) (.tmp 31) (.const (.bool false))⟩,
        ⟨(some 33), none, .pick (.tmp 25) (.const (.bool true)) (.tmp 32)⟩,
        ⟨(some 34), none, .mv (.tmp 33)⟩,
        ⟨(some 35), (some (34, false)), .fad 0 (.tmp 1)⟩,
        ⟨(some 36), (some (34, false)), .load false 1 (.tmp 35)⟩,
        ⟨(some 37), (some (34, false)), .bin .neq .other (.tmp 36) (.const (.int .i64 3))⟩,
        ⟨(some 38), (some (34, false)), .mv (.tmp 37)⟩,
        ⟨(some 39), (some (38, true)), .fad 3 (.tmp 1)⟩,
        ⟨(some 40), (some (38, true)), .load false 1 (.tmp 39)⟩,
        ⟨(some 41), (some (38, true)), .bin .neq .other (.tmp 40) (.const (.string ⟨#[]⟩))⟩,
        ⟨(some 42), (some (34, false)), .pick (.tmp 38) (.tmp 41) (.const (.bool false))⟩,
        ⟨(some 43), none, .pick (.tmp 34) (.const (.bool true)) (.tmp 42)⟩])
      (.cond (.tmp 43)
       (.seq
        (.reg [
          ⟨(some 2), none, .mv (.const (.bool false))⟩])
        .ret)
       .skip))
     (.seq
      (.reg [
        ⟨(some 44), none, .fad 0 (.tmp 1)⟩,
        ⟨(some 45), none, .load false 1 (.tmp 44)⟩,
        ⟨(some 46), none, .bin .eql .other (.tmp 45) (.const (.int .i64 4))⟩,
        ⟨(some 47), none, .mv (.tmp 46)⟩,
        ⟨(some 48), (some (47, false)), .fad 4 (.tmp 1)⟩,
        ⟨(some 49), (some (47, false)), .load false 1 (.tmp 48)⟩,
        ⟨(some 50), (some (47, false)), .call (.func 134) [(.tmp 49)]⟩,
        ⟨(some 51), (some (47, false)), .bin .eql .other (.tmp 50) (.const (.int .u64 0))⟩,
        ⟨(some 52), none, .pick (.tmp 47) (.const (.bool true)) (.tmp 51)⟩,
        ⟨(some 2), none, .mv (.tmp 52)⟩])
      .ret))))
theorem F82 : compF Tryz.prog 82 = some ⟨1, 53, [.tmp 2], c82⟩ := by kernel_rfl
theorem B82 : Bod Tryz.prog 82 := bod_of F82
/-- quaestor/expr.must -/
def c84 : ACode :=
  (.seq
   (.reg [
     ⟨(some 4), none, .mv (.tmp 0)⟩,
     ⟨(some 5), none, .un .not (.tmp 4)⟩])
   (.cond (.tmp 5)
    (.reg [
      ⟨(some 6), none, .mv (.tmp 1)⟩,
      ⟨(some 7), none, .mki 166 (.tmp 6)⟩,
      ⟨none, none, .panic (.tmp 7)⟩])
    .skip))
theorem F84 : compF Tryz.prog 84 = some ⟨2, 8, [], c84⟩ := by kernel_rfl
theorem B84 : Bod Tryz.prog 84 := bod_of F84
/-- quaestor/expr.small -/
def c85 : ACode :=
  (.seq
   (.reg [
     ⟨(some 1), none, .box (.tmp 0)⟩,
     ⟨(some 2), none, .mv (.const (.bool false))⟩])
   (.seq
    (.reg [
      ⟨(some 4), none, .build [.int .i64 0] [(0, 1, (.const (.int .i64 24)))]⟩,
      ⟨(some 5), none, .box (.tmp 4)⟩,
      ⟨(some 3), none, .mv (.tmp 5)⟩])
    (.seq
     (.reg [
       ⟨(some 6), none, .mv (.tmp 3)⟩,
       ⟨(some 7), none, .load true 8 (.tmp 1)⟩,
       ⟨(some 8), none, .call (.func 135) [(.tmp 6), (.tmp 7), (.const (.int .i64 6))]⟩,
       ⟨(some 2), none, .mv (.tmp 8)⟩])
     .ret)))
theorem F85 : compF Tryz.prog 85 = some ⟨1, 9, [.tmp 2], c85⟩ := by kernel_rfl
theorem B85 : Bod Tryz.prog 85 := bod_of F85
/-- quaestor/expr.kind -/
def c86 : ACode :=
  (.seq
   (.reg [
     ⟨(some 2), none, .box (.tmp 0)⟩,
     ⟨(some 4), none, .mv (.const (.int .i64 0))⟩])
   (.seq
    (.reg [
      ⟨(some 5), none, .alloc [.int .i64 0, .int .i64 0, .int .i64 0]⟩])
    (.seq
     (.seq
      (.reg [
        ⟨(some 10), none, .fad 1 (.tmp 2)⟩,
        ⟨(some 11), none, .load false 1 (.tmp 10)⟩,
        ⟨(some 12), none, .len false (.tmp 11)⟩,
        ⟨(some 13), none, .mv (.const (.int .i64 0))⟩])
      (.block 0
       (.loop
        (.seq
         (.reg [
           ⟨(some 14), none, .bin .lss .other (.tmp 13) (.tmp 12)⟩])
         (.seq
          (.cond (.tmp 14)
           .skip
           (.exit 0))
          (.seq
           (.block 1
            (.seq
             (.reg [
               ⟨(some 15), none, .mv (.tmp 13)⟩,
               ⟨(some 16), none, .iad 8 (.tmp 11) (.tmp 13)⟩,
               ⟨(some 17), none, .load true 8 (.tmp 16)⟩,
               ⟨(some 7), none, .alloc [.int .i64 0, .slice none 0 0, .string ⟨#[]⟩, .int .i64 0, .int .i64 0, .bool false, .string ⟨#[]⟩, .float .f64 0]⟩,
               ⟨(some 6), none, .mv (.tmp 15)⟩,
               ⟨none, none, .store 8 (.tmp 7) (.tmp 17)⟩])
             (.seq
              (.reg [
                ⟨(some 18), none, .load true 8 (.tmp 7)⟩,
                ⟨(some 19), none, .mv (.tmp 1)⟩,
                ⟨(some 20), none, .call (.func 86) [(.tmp 18), (.tmp 19)]⟩,
                ⟨(some 8), none, .mv (.tmp 20)⟩])
              (.seq
               (.reg [
                 ⟨(some 21), none, .mv (.tmp 6)⟩,
                 ⟨(some 22), none, .bin .lss .other (.tmp 21) (.const (.int .i64 3))⟩])
               (.cond (.tmp 22)
                (.reg [
                  ⟨(some 23), none, .mv (.tmp 6)⟩,
                  ⟨(some 24), none, .mv (.tmp 8)⟩,
                  ⟨(some 25), none, .iadA 3 1 (.tmp 5) (.tmp 23)⟩,
                  ⟨none, none, .store 1 (.tmp 25) (.tmp 24)⟩])
                .skip)))))
           (.reg [
             ⟨(some 26), none, .bin .add .other (.tmp 13) (.const (.int .i64 1))⟩,
             ⟨(some 13), none, .mv (.tmp 26)⟩])))))))
     (.seq
      (.dreg 6 [
        ⟨(some 27), none, .fad 0 (.tmp 2)⟩,
        ⟨(some 28), none, .load false 1 (.tmp 27)⟩,
        ⟨(some 29), none, .call (.func 136) [(.tmp 28)]⟩,
        ⟨(some 30), none, .fad 1 (.tmp 2)⟩,
        ⟨(some 31), none, .load false 1 (.tmp 30)⟩,
        ⟨(some 32), none, .len false (.tmp 31)⟩,
        ⟨(some 33), none, .bin .eql .other (.tmp 29) (.tmp 32)⟩,
        ⟨(some 34), none, .call (.func 84) [(.tmp 33), (.const (.int .i64 1))]⟩])
      (.seq
       (.reg [
         ⟨(some 35), none, .fad 0 (.tmp 2)⟩,
         ⟨(some 36), none, .load false 1 (.tmp 35)⟩,
         ⟨(some 37), none, .bin .eql .other (.tmp 36) (.const (.int .i64 2))⟩,
         ⟨(some 38), none, .mv (.tmp 37)⟩,
         ⟨(some 39), (some (38, false)), .fad 2 (.tmp 2)⟩,
         ⟨(some 40), (some (38, false)), .load false 1 (.tmp 39)⟩,
         ⟨(some 41), (some (38, false)), .bin .eql .other (.tmp 40) (.const (.string ⟨#[]⟩))⟩,
         ⟨(some 42), none, .pick (.tmp 38) (.const (.bool true)) (.tmp 41)⟩,
         ⟨(some 43), none, .call (.func 84) [(.tmp 42), (.const (.int .i64 1))]⟩])
       (.seq
        (.reg [
          ⟨(some 44), none, .fad 0 (.tmp 2)⟩,
          ⟨(some 45), none, .load false 1 (.tmp 44)⟩,
          ⟨(some 46), none, .bin .eql .other (.tmp 45) (.const (.int .i64 1))⟩,
          ⟨(some 47), none, .mv (.tmp 46)⟩,
          ⟨(some 48), (some (47, false)), .fad 3 (.tmp 2)⟩,
          ⟨(some 49), (some (47, false)), .load true 5 (.tmp 48)⟩,
          ⟨(some 50), (some (47, false)), .build [.int .i64 0, .int .i64 0, .bool false, .string ⟨#[]⟩, .float .f64 0] []⟩,
          ⟨(some 51), (some (47, false)), .call (.func 137) [(.tmp 49), (.tmp 50)]⟩,
          ⟨(some 52), none, .pick (.tmp 47) (.const (.bool true)) (.tmp 51)⟩,
          ⟨(some 53), none, .call (.func 84) [(.tmp 52), (.const (.int .i64 1))]⟩])
        (.seq
         (.seq
          (.reg [
            ⟨(some 54), none, .fad 0 (.tmp 2)⟩,
            ⟨(some 55), none, .load false 1 (.tmp 54)⟩])
          (.block 2
           (.seq
            (.reg [
              ⟨(some 68), none, .bin .eql .other (.tmp 55) (.const (.int .i64 1))⟩,
              ⟨(some 67), none, .mv (.tmp 68)⟩])
            (.cond (.tmp 67)
             (.seq
              (.reg [
                ⟨(some 69), none, .fad 3 (.tmp 2)⟩,
                ⟨(some 70), none, .load true 5 (.tmp 69)⟩,
                ⟨(some 71), none, .call (.func 87) [(.tmp 70)]⟩,
                ⟨(some 72), none, .call (.func 84) [(.tmp 71), (.const (.int .i64 40))]⟩])
              (.seq
               (.reg [
                 ⟨(some 73), none, .fad 3 (.tmp 2)⟩,
                 ⟨(some 74), none, .fad 0 (.tmp 73)⟩,
                 ⟨(some 75), none, .load false 1 (.tmp 74)⟩,
                 ⟨(some 4), none, .mv (.tmp 75)⟩])
               .ret))
             (.seq
              (.reg [
                ⟨(some 77), none, .bin .eql .other (.tmp 55) (.const (.int .i64 2))⟩,
                ⟨(some 76), none, .mv (.tmp 77)⟩])
              (.cond (.tmp 76)
               (.seq
                (.reg [
                  ⟨(some 78), none, .fad 2 (.tmp 2)⟩,
                  ⟨(some 79), none, .load false 1 (.tmp 78)⟩,
                  ⟨(some 80), none, .mv (.tmp 1)⟩,
                  ⟨(some 81), none, .call (.func 138) [(.tmp 79), (.tmp 80)]⟩,
                  ⟨(some 9), none, .mv (.tmp 81)⟩])
                (.seq
                 (.reg [
                   ⟨(some 82), none, .mv (.tmp 9)⟩,
                   ⟨(some 83), none, .bin .geq .other (.tmp 82) (.const (.int .i64 0))⟩,
                   ⟨(some 84), none, .call (.func 84) [(.tmp 83), (.const (.int .i64 50))]⟩])
                 (.seq
                  (.reg [
                    ⟨(some 85), none, .mv (.tmp 1)⟩,
                    ⟨(some 86), none, .mv (.tmp 9)⟩,
                    ⟨(some 87), none, .iad 8 (.tmp 85) (.tmp 86)⟩,
                    ⟨(some 88), none, .fad 1 (.tmp 87)⟩,
                    ⟨(some 89), none, .load false 1 (.tmp 88)⟩,
                    ⟨(some 4), none, .mv (.tmp 89)⟩])
                  .ret)))
               (.seq
                (.reg [
                  ⟨(some 91), none, .bin .eql .other (.tmp 55) (.const (.int .i64 8))⟩,
                  ⟨(some 90), none, .mv (.tmp 91)⟩])
                (.cond (.tmp 90)
                 (.seq
                  (.reg [
                    ⟨(some 92), none, .iadA 3 1 (.tmp 5) (.const (.int .i64 0))⟩,
                    ⟨(some 93), none, .load false 1 (.tmp 92)⟩,
                    ⟨(some 94), none, .iadA 3 1 (.tmp 5) (.const (.int .i64 1))⟩,
                    ⟨(some 95), none, .load false 1 (.tmp 94)⟩,
                    ⟨(some 96), none, .bin .eql .other (.tmp 93) (.tmp 95)⟩,
                    ⟨(some 97), none, .call (.func 84) [(.tmp 96), (.const (.int .i64 40))]⟩])
                  (.seq
                   (.reg [
                     ⟨(some 4), none, .mv (.const (.int .i64 2))⟩])
                   .ret))
                 (.seq
                  (.reg [
                    ⟨(some 99), none, .bin .eql .other (.tmp 55) (.const (.int .i64 9))⟩,
                    ⟨(some 98), none, .mv (.tmp 99)⟩])
                  (.cond (.tmp 98)
                   (.seq
                    (.reg [
                      ⟨(some 100), none, .iadA 3 1 (.tmp 5) (.const (.int .i64 0))⟩,
                      ⟨(some 101), none, .load false 1 (.tmp 100)⟩,
                      ⟨(some 102), none, .iadA 3 1 (.tmp 5) (.const (.int .i64 1))⟩,
                      ⟨(some 103), none, .load false 1 (.tmp 102)⟩,
                      ⟨(some 104), none, .bin .eql .other (.tmp 101) (.tmp 103)⟩,
                      ⟨(some 105), none, .mv (.tmp 104)⟩,
                      ⟨(some 106), (some (105, true)), .iadA 3 1 (.tmp 5) (.const (.int .i64 0))⟩,
                      ⟨(some 107), (some (105, true)), .load false 1 (.tmp 106)⟩,
                      ⟨(some 108), (some (105, true)), .call (.func 139) [(.tmp 107)]⟩,
                      ⟨(some 109), (some (105, true)), .mv (.tmp 108)⟩,
                      ⟨(some 110), (some (109, false)), .iadA 3 1 (.tmp 5) (.const (.int .i64 0))⟩,
                      ⟨(some 111), (some (109, false)), .load false 1 (.tmp 110)⟩,
                      ⟨(some 112), (some (109, false)), .bin .eql .other (.tmp 111) (.const (.int .i64 3))⟩,
                      ⟨(some 113), (some (105, true)), .pick (.tmp 109) (.const (.bool true)) (.tmp 112)⟩,
                      ⟨(some 114), none, .pick (.tmp 105) (.tmp 113) (.const (.bool false))⟩,
                      ⟨(some 115), none, .call (.func 84) [(.tmp 114), (.const (.int .i64 40))]⟩])
                    (.seq
                     (.reg [
                       ⟨(some 4), none, .mv (.const (.int .i64 2))⟩])
                     .ret))
                   (.seq
                    (.reg [
                      ⟨(some 117), none, .bin .eql .other (.tmp 55) (.const (.int .i64 12))⟩,
                      ⟨(some 116), none, .mv (.tmp 117)⟩])
                    (.cond (.tmp 116)
                     (.reg [
                       ⟨(some 118), none, .iadA 3 1 (.tmp 5) (.const (.int .i64 0))⟩,
                       ⟨(some 119), none, .load false 1 (.tmp 118)⟩,
                       ⟨(some 120), none, .bin .eql .other (.tmp 119) (.const (.int .i64 2))⟩,
                       ⟨(some 121), none, .call (.func 84) [(.tmp 120), (.const (.int .i64 40))]⟩])
                     (.seq
                      (.seq
                       (.reg [
                         ⟨(some 123), none, .bin .eql .other (.tmp 55) (.const (.int .i64 10))⟩,
                         ⟨(some 122), none, .mv (.tmp 123)⟩])
                       (.cond (.tmp 122)
                        .skip
                        (.reg [
                          ⟨(some 124), none, .bin .eql .other (.tmp 55) (.const (.int .i64 11))⟩,
                          ⟨(some 122), none, .mv (.tmp 124)⟩])))
                      (.cond (.tmp 122)
                       (.reg [
                         ⟨(some 125), none, .iadA 3 1 (.tmp 5) (.const (.int .i64 0))⟩,
                         ⟨(some 126), none, .load false 1 (.tmp 125)⟩,
                         ⟨(some 127), none, .bin .eql .other (.tmp 126) (.const (.int .i64 2))⟩,
                         ⟨(some 128), none, .mv (.tmp 127)⟩,
                         ⟨(some 129), (some (128, true)), .iadA 3 1 (.tmp 5) (.const (.int .i64 1))⟩,
                         ⟨(some 130), (some (128, true)), .load false 1 (.tmp 129)⟩,
                         ⟨(some 131), (some (128, true)), .bin .eql .other (.tmp 130) (.const (.int .i64 2))⟩,
                         ⟨(some 132), none, .pick (.tmp 128) (.tmp 131) (.const (.bool false))⟩,
                         ⟨(some 133), none, .call (.func 84) [(.tmp 132), (.const (.int .i64 40))]⟩])
                       (.seq
                        (.reg [
                          ⟨(some 135), none, .bin .eql .other (.tmp 55) (.const (.int .i64 13))⟩,
                          ⟨(some 134), none, .mv (.tmp 135)⟩])
                        (.cond (.tmp 134)
                         (.seq
                          (.reg [
                            ⟨(some 136), none, .iadA 3 1 (.tmp 5) (.const (.int .i64 0))⟩,
                            ⟨(some 137), none, .load false 1 (.tmp 136)⟩,
                            ⟨(some 138), none, .bin .eql .other (.tmp 137) (.const (.int .i64 2))⟩,
                            ⟨(some 139), none, .mv (.tmp 138)⟩,
                            ⟨(some 140), (some (139, true)), .iadA 3 1 (.tmp 5) (.const (.int .i64 1))⟩,
                            ⟨(some 141), (some (139, true)), .load false 1 (.tmp 140)⟩,
                            ⟨(some 142), (some (139, true)), .iadA 3 1 (.tmp 5) (.const (.int .i64 2))⟩,
                            ⟨(some 143), (some (139, true)), .load false 1 (.tmp 142)⟩,
                            ⟨(some 144), (some (139, true)), .bin .eql .other (.tmp 141) (.tmp 143)⟩,
                            ⟨(some 145), none, .pick (.tmp 139) (.tmp 144) (.const (.bool false))⟩,
                            ⟨(some 146), none, .call (.func 84) [(.tmp 145), (.const (.int .i64 40))]⟩])
                          (.seq
                           (.reg [
                             ⟨(some 147), none, .iadA 3 1 (.tmp 5) (.const (.int .i64 1))⟩,
                             ⟨(some 148), none, .load false 1 (.tmp 147)⟩,
                             ⟨(some 4), none, .mv (.tmp 148)⟩])
                           .ret))
                         (.seq
                          (.reg [
                            ⟨(some 150), none, .bin .eql .other (.tmp 55) (.const (.int .i64 16))⟩,
                            ⟨(some 149), none, .mv (.tmp 150)⟩])
                          (.cond (.tmp 149)
                           (.seq
                            (.reg [
                              ⟨(some 151), none, .iadA 3 1 (.tmp 5) (.const (.int .i64 0))⟩,
                              ⟨(some 152), none, .load false 1 (.tmp 151)⟩,
                              ⟨(some 153), none, .bin .eql .other (.tmp 152) (.const (.int .i64 1))⟩,
                              ⟨(some 154), none, .call (.func 84) [(.tmp 153), (.const (.int .i64 40))]⟩])
                            (.seq
                             (.reg [
                               ⟨(some 4), none, .mv (.const (.int .i64 4))⟩])
                             .ret))
                           (.seq
                            (.reg [
                              ⟨(some 156), none, .bin .eql .other (.tmp 55) (.const (.int .i64 3))⟩,
                              ⟨(some 155), none, .mv (.tmp 156)⟩])
                            (.cond (.tmp 155)
                             (.reg [
                               ⟨(some 157), none, .iadA 3 1 (.tmp 5) (.const (.int .i64 0))⟩,
                               ⟨(some 158), none, .load false 1 (.tmp 157)⟩,
                               ⟨(some 159), none, .call (.func 139) [(.tmp 158)]⟩,
                               ⟨(some 160), none, .call (.func 84) [(.tmp 159), (.const (.int .i64 40))]⟩])
                             (.reg [
                               ⟨(some 56), none, .iadA 3 1 (.tmp 5) (.const (.int .i64 0))⟩,
                               ⟨(some 57), none, .load false 1 (.tmp 56)⟩,
                               ⟨(some 58), none, .iadA 3 1 (.tmp 5) (.const (.int .i64 1))⟩,
                               ⟨(some 59), none, .load false 1 (.tmp 58)⟩,
                               ⟨(some 60), none, .bin .eql .other (.tmp 57) (.tmp 59)⟩,
                               ⟨(some 61), none, .mv (.tmp 60)⟩,
                               ⟨(some 62), (some (61, true)), .iadA 3 1 (.tmp 5) (.const (.int .i64 0))⟩,
                               ⟨(some 63), (some (61, true)), .load false 1 (.tmp 62)⟩,
                               ⟨(some 64), (some (61, true)), .call (.func 139) [(.tmp 63)]⟩,
                               ⟨(some 65), none, .pick (.tmp 61) (.tmp 64) (.const (.bool false))⟩,
                               ⟨(some 66), none, .call (.func 84) [(.tmp 65), (.const (.int .i64 40))]⟩])))))))))))))))))))))
         (.seq
          (.reg [
            ⟨(some 161), none, .iadA 3 1 (.tmp 5) (.const (.int .i64 0))⟩,
            ⟨(some 162), none, .load false 1 (.tmp 161)⟩,
            ⟨(some 4), none, .mv (.tmp 162)⟩])
          .ret))))))))
theorem F86 : compF Tryz.prog 86 = some ⟨2, 163, [.tmp 4], c86⟩ := by kernel_rfl
theorem B86 : Bod Tryz.prog 86 := bod_of F86
/-- quaestor/value.Good -/
def c87 : ACode :=
  (.seq
   (.reg [
     ⟨(some 1), none, .box (.tmp 0)⟩,
     ⟨(some 2), none, .mv (.const (.bool false))⟩])
   (.seq
    (.reg [
      ⟨(some 6), none, .load true 5 (.tmp 1)⟩,
      ⟨(some 7), none, .call (.func 140) [(.tmp 6)]⟩,
      ⟨(some 5), none, .mv (.tmp 7)⟩,
      ⟨(some 8), none, .ext (.tmp 5) 0⟩,
      ⟨(some 9), none, .ext (.tmp 5) 1⟩,
      ⟨(some 3), none, .alloc [.int .i64 0, .int .i64 0, .bool false, .string ⟨#[]⟩, .float .f64 0]⟩,
      ⟨none, none, .store 5 (.tmp 3) (.tmp 8)⟩,
      ⟨(some 4), none, .mv (.tmp 9)⟩])
    (.seq
     (.reg [
       ⟨(some 10), none, .mv (.tmp 4)⟩,
       ⟨(some 11), none, .mv (.tmp 10)⟩,
       ⟨(some 12), (some (11, true)), .load true 5 (.tmp 1)⟩,
       ⟨(some 13), (some (11, true)), .load true 5 (.tmp 3)⟩,
       ⟨(some 14), (some (11, true)), .call (.func 137) [(.tmp 12), (.tmp 13)]⟩,
       ⟨(some 15), none, .pick (.tmp 11) (.tmp 14) (.const (.bool false))⟩,
       ⟨(some 16), none, .mv (.tmp 15)⟩,
       ⟨(some 17), (some (16, true)), .fad 3 (.tmp 1)⟩,
       ⟨(some 18), (some (16, true)), .load false 1 (.tmp 17)⟩,
       ⟨(some 19), (some (16, true)), .len true (.tmp 18)⟩,
       ⟨(some 20), (some (16, true)), .bin .leq .other (.tmp 19) (.const (.int .i64 32))⟩,
       ⟨(some 21), none, .pick (.tmp 16) (.tmp 20) (.const (.bool false))⟩,
       ⟨(some 2), none, .mv (.tmp 21)⟩])
     .ret)))
theorem F87 : compF Tryz.prog 87 = some ⟨1, 22, [.tmp 2], c87⟩ := by kernel_rfl
theorem B87 : Bod Tryz.prog 87 := bod_of F87
/-- quaestor/contract.find(quaestor/api.Field) -/
def c89 : ACode :=
  (.seq
   (.reg [
     ⟨(some 4), none, .box (.tmp 1)⟩,
     ⟨(some 5), none, .box (.tmp 2)⟩,
     ⟨(some 6), none, .mv (.const (.int .i64 0))⟩])
   (.seq
    (.reg [
      ⟨(some 7), none, .mv (.tmp 0)⟩,
      ⟨(some 8), none, .mkf 148 [] [(.tmp 5), (.tmp 4)]⟩,
      ⟨(some 9), none, .call (.func 124) [(.tmp 7), (.tmp 8)]⟩,
      ⟨(some 6), none, .mv (.tmp 9)⟩])
    .ret))
theorem F89 : compF Tryz.prog 89 = some ⟨3, 10, [.tmp 6], c89⟩ := by kernel_rfl
theorem B89 : Bod Tryz.prog 89 := bod_of F89
/-- quaestor/value.Fits -/
def c100 : ACode :=
  (.seq
   (.reg [
     ⟨(some 2), none, .box (.tmp 0)⟩,
     ⟨(some 3), none, .box (.tmp 1)⟩,
     ⟨(some 4), none, .mv (.const (.int .i64 0))⟩])
   (.seq
    (.block 0
     (.seq
      (.reg [
        ⟨(some 6), none, .load true 5 (.tmp 2)⟩,
        ⟨(some 7), none, .call (.func 87) [(.tmp 6)]⟩,
        ⟨(some 8), none, .un .not (.tmp 7)⟩,
        ⟨(some 9), none, .mv (.tmp 8)⟩,
        ⟨(some 10), (some (9, false)), .fad 0 (.tmp 2)⟩,
        ⟨(some 11), (some (9, false)), .load false 1 (.tmp 10)⟩,
        ⟨(some 12), (some (9, false)), .fad 1 (.tmp 3)⟩,
        ⟨(some 13), (some (9, false)), .load false 1 (.tmp 12)⟩,
        ⟨(some 14), (some (9, false)), .bin .neq .other (.tmp 11) (.tmp 13)⟩,
        ⟨(some 15), none, .pick (.tmp 9) (.const (.bool true)) (.tmp 14)⟩,
        ⟨(some 5), none, .mv (.tmp 15)⟩])
      (.cond (.tmp 5)
       (.seq
        (.reg [
          ⟨(some 4), none, .mv (.const (.int .i64 40))⟩])
        .ret)
       (.seq
        (.reg [
          ⟨(some 17), none, .fad 0 (.tmp 2)⟩,
          ⟨(some 18), none, .load false 1 (.tmp 17)⟩,
          ⟨(some 19), none, .bin .eql .other (.tmp 18) (.const (.int .i64 3))⟩,
          ⟨(some 20), none, .mv (.tmp 19)⟩,
          ⟨(some 21), (some (20, true)), .fad 2 (.tmp 3)⟩,
          ⟨(some 22), (some (20, true)), .load false 1 (.tmp 21)⟩,
          ⟨(some 23), (some (20, true)), .len false (.tmp 22)⟩,
          ⟨(some 24), (some (20, true)), .bin .gtr .other (.tmp 23) (.const (.int .i64 0))⟩,
          ⟨(some 25), none, .pick (.tmp 20) (.tmp 24) (.const (.bool false))⟩,
          ⟨(some 26), none, .mv (.tmp 25)⟩,
          ⟨(some 27), (some (26, true)), .fad 2 (.tmp 3)⟩,
          ⟨(some 28), (some (26, true)), .load false 1 (.tmp 27)⟩,
          ⟨(some 29), (some (26, true)), .fad 3 (.tmp 2)⟩,
          ⟨(some 30), (some (26, true)), .load false 1 (.tmp 29)⟩,
          ⟨(some 31), (some (26, true)), .call (.func 165) [(.tmp 28), (.tmp 30)]⟩,
          ⟨(some 32), (some (26, true)), .un .not (.tmp 31)⟩,
          ⟨(some 33), none, .pick (.tmp 26) (.tmp 32) (.const (.bool false))⟩,
          ⟨(some 16), none, .mv (.tmp 33)⟩])
        (.cond (.tmp 16)
         (.seq
          (.reg [
            ⟨(some 4), none, .mv (.const (.int .i64 60))⟩])
          .ret)
         .skip)))))
    (.seq
     (.reg [
       ⟨(some 4), none, .mv (.const (.int .i64 0))⟩])
     .ret)))
theorem F100 : compF Tryz.prog 100 = some ⟨2, 34, [.tmp 4], c100⟩ := by kernel_rfl
theorem B100 : Bod Tryz.prog 100 := bod_of F100
/-- quaestor/quaestorref04.Fits -/
def c102 : ACode :=
  (.seq
   (.reg [
     ⟨(some 2), none, .box (.tmp 0)⟩,
     ⟨(some 3), none, .box (.tmp 1)⟩,
     ⟨(some 4), none, .mv (.const (.int .i64 0))⟩])
   (.seq
    (.seq
     (.reg [
       ⟨(some 6), none, .load true 5 (.tmp 2)⟩,
       ⟨(some 7), none, .call (.func 82) [(.tmp 6)]⟩,
       ⟨(some 8), none, .un .not (.tmp 7)⟩,
       ⟨(some 9), none, .mv (.tmp 8)⟩,
       ⟨(some 10), (some (9, false)), .fad 0 (.tmp 2)⟩,
       ⟨(some 11), (some (9, false)), .load false 1 (.tmp 10)⟩,
       ⟨(some 12), (some (9, false)), .fad 1 (.tmp 3)⟩,
       ⟨(some 13), (some (9, false)), .load false 1 (.tmp 12)⟩,
       ⟨(some 14), (some (9, false)), .bin .neq .other (.tmp 11) (.tmp 13)⟩,
       ⟨(some 15), none, .pick (.tmp 9) (.const (.bool true)) (.tmp 14)⟩])
     (.cond (.tmp 15)
      (.seq
       (.reg [
         ⟨(some 4), none, .mv (.const (.int .i64 40))⟩])
       .ret)
      .skip))
    (.seq
     (.seq
      (.reg [
        ⟨(some 16), none, .fad 2 (.tmp 3)⟩,
        ⟨(some 17), none, .load false 1 (.tmp 16)⟩,
        ⟨(some 18), none, .len false (.tmp 17)⟩,
        ⟨(some 19), none, .bin .eql .other (.tmp 18) (.const (.int .i64 0))⟩,
        ⟨(some 20), none, .mv (.tmp 19)⟩,
        ⟨(some 21), (some (20, false)), .fad 0 (.tmp 2)⟩,
        ⟨(some 22), (some (20, false)), .load false 1 (.tmp 21)⟩,
        ⟨(some 23), (some (20, false)), .bin .neq .other (.tmp 22) (.const (.int .i64 3))⟩,
        ⟨(some 24), none, .pick (.tmp 20) (.const (.bool true)) (.tmp 23)⟩])
      (.cond (.tmp 24)
       (.seq
        (.reg [
          ⟨(some 4), none, .mv (.const (.int .i64 0))⟩])
        .ret)
       .skip))
     (.seq
      (.seq
       (.reg [
         ⟨(some 5), none, .mv (.const (.int .i64 0))⟩])
       (.block 0
        (.loop
         (.seq
          (.seq
           (.reg [
             ⟨(some 25), none, .mv (.tmp 5)⟩,
             ⟨(some 26), none, .fad 2 (.tmp 3)⟩,
             ⟨(some 27), none, .load false 1 (.tmp 26)⟩,
             ⟨(some 28), none, .len false (.tmp 27)⟩,
             ⟨(some 29), none, .bin .lss .other (.tmp 25) (.tmp 28)⟩])
           (.cond (.tmp 29)
            .skip
            (.exit 0)))
          (.seq
           (.block 1
            (.seq
             (.dreg 7 [
               ⟨(some 32), none, .fad 2 (.tmp 3)⟩,
               ⟨(some 33), none, .load false 1 (.tmp 32)⟩,
               ⟨(some 34), none, .mv (.tmp 5)⟩,
               ⟨(some 35), none, .iad 1 (.tmp 33) (.tmp 34)⟩,
               ⟨(some 36), none, .load false 1 (.tmp 35)⟩,
               ⟨(some 37), none, .fad 3 (.tmp 2)⟩,
               ⟨(some 38), none, .load false 1 (.tmp 37)⟩,
               ⟨(some 39), none, .bin .eql .other (.tmp 36) (.tmp 38)⟩])
             (.cond (.tmp 39)
              (.seq
               (.reg [
                 ⟨(some 4), none, .mv (.const (.int .i64 0))⟩])
               .ret)
              .skip)))
           (.reg [
             ⟨(some 30), none, .mv (.tmp 5)⟩,
             ⟨(some 31), none, .bin .add .other (.tmp 30) (.const (.int .i64 1))⟩,
             ⟨(some 5), none, .mv (.tmp 31)⟩]))))))
      (.seq
       (.reg [
         ⟨(some 4), none, .mv (.const (.int .i64 60))⟩])
       .ret)))))
theorem F102 : compF Tryz.prog 102 = some ⟨2, 40, [.tmp 4], c102⟩ := by kernel_rfl
theorem B102 : Bod Tryz.prog 102 := bod_of F102
/-- quaestor/wire.PutCount -/
def c108 : ACode :=
  (.seq
   (.reg [
     ⟨(some 4), none, .mv (.const (.slice none 0 0))⟩])
   (.seq
    (.reg [
      ⟨(some 5), none, .mv (.tmp 0)⟩,
      ⟨(some 6), none, .mv (.tmp 1)⟩,
      ⟨(some 7), none, .mm true [(.tmp 6), (.const (.int .i64 0))]⟩,
      ⟨(some 8), none, .mm false [(.tmp 7), (.const (.int .i64 4294967295))]⟩,
      ⟨(some 9), none, .cvi .u64 (.tmp 8)⟩,
      ⟨(some 10), none, .call (.func 179) [(.tmp 5), (.tmp 9), (.const (.int .i64 4))]⟩,
      ⟨(some 4), none, .mv (.tmp 10)⟩])
    .ret))
theorem F108 : compF Tryz.prog 108 = some ⟨2, 11, [.tmp 4], c108⟩ := by kernel_rfl
theorem B108 : Bod Tryz.prog 108 := bod_of F108
/-- quaestor/wire.PutBytes -/
def c109 : ACode :=
  (.seq
   (.reg [
     ⟨(some 4), none, .mv (.const (.slice none 0 0))⟩])
   (.seq
    (.reg [
      ⟨(some 5), none, .mv (.tmp 0)⟩,
      ⟨(some 6), none, .mv (.tmp 1)⟩,
      ⟨(some 7), none, .len false (.tmp 6)⟩,
      ⟨(some 8), none, .call (.func 108) [(.tmp 5), (.tmp 7)]⟩,
      ⟨(some 9), none, .mv (.tmp 1)⟩,
      ⟨(some 10), none, .app 1 1 [.int .u8 0] 5 (.tmp 8) (.tmp 9)⟩,
      ⟨(some 4), none, .mv (.tmp 10)⟩])
    .ret))
theorem F109 : compF Tryz.prog 109 = some ⟨2, 11, [.tmp 4], c109⟩ := by kernel_rfl
theorem B109 : Bod Tryz.prog 109 := bod_of F109
/-- quaestor/wire.PutInt -/
def c110 : ACode :=
  (.seq
   (.reg [
     ⟨(some 4), none, .mv (.const (.slice none 0 0))⟩])
   (.seq
    (.reg [
      ⟨(some 5), none, .mv (.tmp 0)⟩,
      ⟨(some 6), none, .mv (.tmp 1)⟩,
      ⟨(some 7), none, .cvi .u64 (.tmp 6)⟩,
      ⟨(some 8), none, .call (.func 179) [(.tmp 5), (.tmp 7), (.const (.int .i64 8))]⟩,
      ⟨(some 4), none, .mv (.tmp 8)⟩])
    .ret))
theorem F110 : compF Tryz.prog 110 = some ⟨2, 9, [.tmp 4], c110⟩ := by kernel_rfl
theorem B110 : Bod Tryz.prog 110 := bod_of F110
/-- quaestor/wire.PutBool -/
def c111 : ACode :=
  (.seq
   (.reg [
     ⟨(some 4), none, .mv (.const (.slice none 0 0))⟩])
   (.seq
    (.reg [
      ⟨(some 5), none, .mv (.const (.int .u8 0))⟩])
    (.seq
     (.seq
      (.reg [
        ⟨(some 6), none, .mv (.tmp 1)⟩])
      (.cond (.tmp 6)
       (.reg [
         ⟨(some 5), none, .mv (.const (.int .u8 1))⟩])
       .skip))
     (.seq
      (.reg [
        ⟨(some 7), none, .mv (.tmp 0)⟩,
        ⟨(some 8), none, .call (.func 180) [(.tmp 7)]⟩,
        ⟨(some 9), none, .mv (.tmp 5)⟩,
        ⟨(some 10), none, .slit 5 1 [(.tmp 9)]⟩,
        ⟨(some 11), none, .app 1 1 [.int .u8 0] 5 (.tmp 8) (.tmp 10)⟩,
        ⟨(some 4), none, .mv (.tmp 11)⟩])
      .ret))))
theorem F111 : compF Tryz.prog 111 = some ⟨2, 12, [.tmp 4], c111⟩ := by kernel_rfl
theorem B111 : Bod Tryz.prog 111 := bod_of F111
/-- quaestor/wire.PutNum -/
def c112 : ACode :=
  (.seq
   (.reg [
     ⟨(some 4), none, .mv (.const (.slice none 0 0))⟩])
   (.seq
    (.reg [
      ⟨(some 6), none, .mv (.tmp 1)⟩,
      ⟨(some 7), none, .call (.func 181) [(.tmp 6)]⟩,
      ⟨(some 5), none, .mv (.tmp 7)⟩])
    (.seq
     (.seq
      (.reg [
        ⟨(some 8), none, .mv (.tmp 1)⟩,
        ⟨(some 9), none, .call (.func 182) [(.tmp 8)]⟩])
      (.cond (.tmp 9)
       (.reg [
         ⟨(some 5), none, .mv (.const (.int .u64 9221120237041090561))⟩])
       .skip))
     (.seq
      (.reg [
        ⟨(some 10), none, .mv (.tmp 0)⟩,
        ⟨(some 11), none, .mv (.tmp 5)⟩,
        ⟨(some 12), none, .call (.func 179) [(.tmp 10), (.tmp 11), (.const (.int .i64 8))]⟩,
        ⟨(some 4), none, .mv (.tmp 12)⟩])
      .ret))))
theorem F112 : compF Tryz.prog 112 = some ⟨2, 13, [.tmp 4], c112⟩ := by kernel_rfl
theorem B112 : Bod Tryz.prog 112 := bod_of F112
/-- quaestor/expr.put -/
def c113 : ACode :=
  (.seq
   (.reg [
     ⟨(some 3), none, .box (.tmp 1)⟩,
     ⟨(some 4), none, .mv (.const (.slice none 0 0))⟩])
   (.seq
    (.dreg 11 [
      ⟨(some 7), none, .mv (.tmp 0)⟩,
      ⟨(some 8), none, .fad 0 (.tmp 3)⟩,
      ⟨(some 9), none, .load false 1 (.tmp 8)⟩,
      ⟨(some 10), none, .call (.func 110) [(.tmp 7), (.tmp 9)]⟩,
      ⟨(some 11), none, .fad 1 (.tmp 3)⟩,
      ⟨(some 12), none, .load false 1 (.tmp 11)⟩,
      ⟨(some 13), none, .len false (.tmp 12)⟩,
      ⟨(some 14), none, .call (.func 108) [(.tmp 10), (.tmp 13)]⟩,
      ⟨(some 15), none, .fad 2 (.tmp 3)⟩,
      ⟨(some 16), none, .load false 1 (.tmp 15)⟩,
      ⟨(some 17), none, .s2b 5 (.tmp 16)⟩,
      ⟨(some 18), none, .call (.func 109) [(.tmp 14), (.tmp 17)]⟩,
      ⟨(some 0), none, .mv (.tmp 18)⟩])
    (.seq
     (.reg [
       ⟨(some 19), none, .mv (.tmp 0)⟩,
       ⟨(some 20), none, .fad 3 (.tmp 3)⟩,
       ⟨(some 21), none, .load true 5 (.tmp 20)⟩,
       ⟨(some 22), none, .call (.func 45) [(.tmp 19), (.tmp 21)]⟩,
       ⟨(some 0), none, .mv (.tmp 22)⟩])
     (.seq
      (.seq
       (.reg [
         ⟨(some 23), none, .fad 1 (.tmp 3)⟩,
         ⟨(some 24), none, .load false 1 (.tmp 23)⟩,
         ⟨(some 25), none, .len false (.tmp 24)⟩,
         ⟨(some 26), none, .mv (.const (.int .i64 0))⟩])
       (.block 0
        (.loop
         (.seq
          (.reg [
            ⟨(some 27), none, .bin .lss .other (.tmp 26) (.tmp 25)⟩])
          (.seq
           (.cond (.tmp 27)
            .skip
            (.exit 0))
           (.seq
            (.block 1
             (.seq
              (.reg [
                ⟨(some 28), none, .iad 8 (.tmp 24) (.tmp 26)⟩,
                ⟨(some 29), none, .load true 8 (.tmp 28)⟩,
                ⟨(some 6), none, .alloc [.int .i64 0, .slice none 0 0, .string ⟨#[]⟩, .int .i64 0, .int .i64 0, .bool false, .string ⟨#[]⟩, .float .f64 0]⟩,
                ⟨none, none, .store 8 (.tmp 6) (.tmp 29)⟩])
              (.reg [
                ⟨(some 30), none, .mv (.tmp 0)⟩,
                ⟨(some 31), none, .load true 8 (.tmp 6)⟩,
                ⟨(some 32), none, .call (.func 113) [(.tmp 30), (.tmp 31)]⟩,
                ⟨(some 0), none, .mv (.tmp 32)⟩])))
            (.reg [
              ⟨(some 33), none, .bin .add .other (.tmp 26) (.const (.int .i64 1))⟩,
              ⟨(some 26), none, .mv (.tmp 33)⟩])))))))
      (.seq
       (.reg [
         ⟨(some 34), none, .mv (.tmp 0)⟩,
         ⟨(some 4), none, .mv (.tmp 34)⟩])
       .ret)))))
theorem F113 : compF Tryz.prog 113 = some ⟨2, 35, [.tmp 4], c113⟩ := by kernel_rfl
theorem B113 : Bod Tryz.prog 113 := bod_of F113
/-- quaestor/quaestorref01.bits -/
def c114 : ACode :=
  (.seq
   (.reg [
     ⟨(some 6), none, .mv (.const (.slice none 0 0))⟩])
   (.seq
    (.reg [
      ⟨(some 9), none, .slit 5 1 []⟩,
      ⟨(some 10), none, .mv (.tmp 0)⟩,
      ⟨(some 11), none, .app 1 1 [.int .u8 0] 5 (.tmp 9) (.tmp 10)⟩,
      ⟨(some 7), none, .mv (.tmp 11)⟩])
    (.seq
     (.seq
      (.reg [
        ⟨(some 12), none, .mv (.tmp 2)⟩,
        ⟨(some 13), none, .bin .sub .other (.tmp 12) (.const (.int .i64 1))⟩,
        ⟨(some 8), none, .mv (.tmp 13)⟩])
      (.block 0
       (.loop
        (.seq
         (.seq
          (.reg [
            ⟨(some 14), none, .mv (.tmp 8)⟩,
            ⟨(some 15), none, .bin .geq .other (.tmp 14) (.const (.int .i64 0))⟩])
          (.cond (.tmp 15)
           .skip
           (.exit 0)))
         (.seq
          (.block 1
           (.reg [
             ⟨(some 18), none, .mv (.tmp 7)⟩,
             ⟨(some 19), none, .mv (.tmp 1)⟩,
             ⟨(some 20), none, .mv (.tmp 8)⟩,
             ⟨(some 21), none, .bin .mul .other (.const (.int .i64 8)) (.tmp 20)⟩,
             ⟨(some 22), none, .bin .shr .other (.tmp 19) (.tmp 21)⟩,
             ⟨(some 23), none, .cvi .u8 (.tmp 22)⟩,
             ⟨(some 24), none, .slit 5 1 [(.tmp 23)]⟩,
             ⟨(some 25), none, .app 1 1 [.int .u8 0] 5 (.tmp 18) (.tmp 24)⟩,
             ⟨(some 7), none, .mv (.tmp 25)⟩]))
          (.reg [
            ⟨(some 16), none, .mv (.tmp 8)⟩,
            ⟨(some 17), none, .bin .sub .other (.tmp 16) (.const (.int .i64 1))⟩,
            ⟨(some 8), none, .mv (.tmp 17)⟩]))))))
     (.seq
      (.reg [
        ⟨(some 26), none, .mv (.tmp 7)⟩,
        ⟨(some 6), none, .mv (.tmp 26)⟩])
      .ret))))
theorem F114 : compF Tryz.prog 114 = some ⟨3, 27, [.tmp 6], c114⟩ := by kernel_rfl
theorem B114 : Bod Tryz.prog 114 := bod_of F114
/-- quaestor/quaestorref01.Bytes -/
def c115 : ACode :=
  (.seq
   (.reg [
     ⟨(some 4), none, .mv (.const (.slice none 0 0))⟩])
   (.seq
    (.reg [
      ⟨(some 6), none, .mv (.tmp 0)⟩,
      ⟨(some 7), none, .mv (.tmp 1)⟩,
      ⟨(some 8), none, .len false (.tmp 7)⟩,
      ⟨(some 9), none, .call (.func 54) [(.tmp 6), (.tmp 8)]⟩,
      ⟨(some 5), none, .mv (.tmp 9)⟩])
    (.seq
     (.reg [
       ⟨(some 10), none, .mv (.tmp 5)⟩,
       ⟨(some 11), none, .mv (.tmp 1)⟩,
       ⟨(some 12), none, .app 1 1 [.int .u8 0] 5 (.tmp 10) (.tmp 11)⟩,
       ⟨(some 4), none, .mv (.tmp 12)⟩])
     .ret)))
theorem F115 : compF Tryz.prog 115 = some ⟨2, 13, [.tmp 4], c115⟩ := by kernel_rfl
theorem B115 : Bod Tryz.prog 115 := bod_of F115
/-- quaestor/quaestorref01.Bool -/
def c116 : ACode :=
  (.seq
   (.reg [
     ⟨(some 4), none, .mv (.const (.slice none 0 0))⟩])
   (.seq
    (.seq
     (.reg [
       ⟨(some 5), none, .mv (.tmp 1)⟩])
     (.cond (.tmp 5)
      (.seq
       (.reg [
         ⟨(some 6), none, .mv (.tmp 0)⟩,
         ⟨(some 7), none, .call (.func 114) [(.tmp 6), (.const (.int .u64 1)), (.const (.int .i64 1))]⟩,
         ⟨(some 4), none, .mv (.tmp 7)⟩])
       .ret)
      .skip))
    (.seq
     (.reg [
       ⟨(some 8), none, .mv (.tmp 0)⟩,
       ⟨(some 9), none, .call (.func 114) [(.tmp 8), (.const (.int .u64 0)), (.const (.int .i64 1))]⟩,
       ⟨(some 4), none, .mv (.tmp 9)⟩])
     .ret)))
theorem F116 : compF Tryz.prog 116 = some ⟨2, 10, [.tmp 4], c116⟩ := by kernel_rfl
theorem B116 : Bod Tryz.prog 116 := bod_of F116
/-- quaestor/quaestorref01.Num -/
def c117 : ACode :=
  (.seq
   (.reg [
     ⟨(some 4), none, .mv (.const (.slice none 0 0))⟩])
   (.seq
    (.reg [
      ⟨(some 5), none, .mv (.tmp 0)⟩,
      ⟨(some 6), none, .mv (.tmp 1)⟩,
      ⟨(some 7), none, .call (.func 134) [(.tmp 6)]⟩,
      ⟨(some 8), none, .call (.func 114) [(.tmp 5), (.tmp 7), (.const (.int .i64 8))]⟩,
      ⟨(some 4), none, .mv (.tmp 8)⟩])
    .ret))
theorem F117 : compF Tryz.prog 117 = some ⟨2, 9, [.tmp 4], c117⟩ := by kernel_rfl
theorem B117 : Bod Tryz.prog 117 := bod_of F117
/-- quaestor/quaestorref05.Small -/
def c118 : ACode :=
  (.seq
   (.reg [
     ⟨(some 1), none, .box (.tmp 0)⟩,
     ⟨(some 2), none, .mv (.const (.bool false))⟩])
   (.seq
    (.reg [
      ⟨(some 3), none, .load true 8 (.tmp 1)⟩,
      ⟨(some 4), none, .call (.func 183) [(.tmp 3), (.const (.int .i64 6)), (.const (.int .i64 24))]⟩,
      ⟨(some 5), none, .bin .geq .other (.tmp 4) (.const (.int .i64 0))⟩,
      ⟨(some 2), none, .mv (.tmp 5)⟩])
    .ret))
theorem F118 : compF Tryz.prog 118 = some ⟨1, 6, [.tmp 2], c118⟩ := by kernel_rfl
theorem B118 : Bod Tryz.prog 118 := bod_of F118
/-- quaestor/quaestorref05.put -/
def c119 : ACode :=
  (.seq
   (.reg [
     ⟨(some 3), none, .box (.tmp 1)⟩,
     ⟨(some 4), none, .mv (.const (.slice none 0 0))⟩])
   (.seq
    (.reg [
      ⟨(some 6), none, .mv (.tmp 0)⟩,
      ⟨(some 7), none, .fad 0 (.tmp 3)⟩,
      ⟨(some 8), none, .load false 1 (.tmp 7)⟩,
      ⟨(some 9), none, .call (.func 56) [(.tmp 6), (.tmp 8)]⟩,
      ⟨(some 0), none, .mv (.tmp 9)⟩])
    (.seq
     (.reg [
       ⟨(some 10), none, .mv (.tmp 0)⟩,
       ⟨(some 11), none, .fad 1 (.tmp 3)⟩,
       ⟨(some 12), none, .load false 1 (.tmp 11)⟩,
       ⟨(some 13), none, .len false (.tmp 12)⟩,
       ⟨(some 14), none, .call (.func 54) [(.tmp 10), (.tmp 13)]⟩,
       ⟨(some 0), none, .mv (.tmp 14)⟩])
     (.seq
      (.reg [
        ⟨(some 15), none, .mv (.tmp 0)⟩,
        ⟨(some 16), none, .fad 2 (.tmp 3)⟩,
        ⟨(some 17), none, .load false 1 (.tmp 16)⟩,
        ⟨(some 18), none, .s2b 5 (.tmp 17)⟩,
        ⟨(some 19), none, .call (.func 115) [(.tmp 15), (.tmp 18)]⟩,
        ⟨(some 0), none, .mv (.tmp 19)⟩])
      (.seq
       (.reg [
         ⟨(some 20), none, .mv (.tmp 0)⟩,
         ⟨(some 21), none, .fad 3 (.tmp 3)⟩,
         ⟨(some 22), none, .load true 5 (.tmp 21)⟩,
         ⟨(some 23), none, .call (.func 57) [(.tmp 20), (.tmp 22)]⟩,
         ⟨(some 0), none, .mv (.tmp 23)⟩])
       (.seq
        (.seq
         (.reg [
           ⟨(some 5), none, .mv (.const (.int .i64 0))⟩])
         (.block 0
          (.loop
           (.seq
            (.seq
             (.reg [
               ⟨(some 24), none, .mv (.tmp 5)⟩,
               ⟨(some 25), none, .fad 1 (.tmp 3)⟩,
               ⟨(some 26), none, .load false 1 (.tmp 25)⟩,
               ⟨(some 27), none, .len false (.tmp 26)⟩,
               ⟨(some 28), none, .bin .lss .other (.tmp 24) (.tmp 27)⟩])
             (.cond (.tmp 28)
              .skip
              (.exit 0)))
            (.seq
             (.block 1
              (.reg [
                ⟨(some 31), none, .mv (.tmp 0)⟩,
                ⟨(some 32), none, .fad 1 (.tmp 3)⟩,
                ⟨(some 33), none, .load false 1 (.tmp 32)⟩,
                ⟨(some 34), none, .mv (.tmp 5)⟩,
                ⟨(some 35), none, .iad 8 (.tmp 33) (.tmp 34)⟩,
                ⟨(some 36), none, .load true 8 (.tmp 35)⟩,
                ⟨(some 37), none, .call (.func 119) [(.tmp 31), (.tmp 36)]⟩,
                ⟨(some 0), none, .mv (.tmp 37)⟩]))
             (.reg [
               ⟨(some 29), none, .mv (.tmp 5)⟩,
               ⟨(some 30), none, .bin .add .other (.tmp 29) (.const (.int .i64 1))⟩,
               ⟨(some 5), none, .mv (.tmp 30)⟩]))))))
        (.seq
         (.reg [
           ⟨(some 38), none, .mv (.tmp 0)⟩,
           ⟨(some 4), none, .mv (.tmp 38)⟩])
         .ret)))))))
theorem F119 : compF Tryz.prog 119 = some ⟨2, 39, [.tmp 4], c119⟩ := by kernel_rfl
theorem B119 : Bod Tryz.prog 119 := bod_of F119
/-- quaestor/contract.find(quaestor/api.Stage) -/
def c120 : ACode :=
  (.seq
   (.reg [
     ⟨(some 4), none, .box (.tmp 1)⟩,
     ⟨(some 5), none, .box (.tmp 2)⟩,
     ⟨(some 6), none, .mv (.const (.int .i64 0))⟩])
   (.seq
    (.reg [
      ⟨(some 7), none, .mv (.tmp 0)⟩,
      ⟨(some 8), none, .mkf 184 [] [(.tmp 5), (.tmp 4)]⟩,
      ⟨(some 9), none, .call (.func 127) [(.tmp 7), (.tmp 8)]⟩,
      ⟨(some 6), none, .mv (.tmp 9)⟩])
    .ret))
theorem F120 : compF Tryz.prog 120 = some ⟨3, 10, [.tmp 6], c120⟩ := by kernel_rfl
theorem B120 : Bod Tryz.prog 120 := bod_of F120
/-- quaestor/contract.goodMove$1 -/
def c121 : ACode :=
  (.seq
   (.reg [
     ⟨(some 3), none, .mv (.const (.bool false))⟩])
   (.seq
    (.reg [
      ⟨(some 4), none, .mv (.tmp 0)⟩,
      ⟨(some 5), none, .bin .geq .other (.tmp 4) (.const (.int .i64 0))⟩,
      ⟨(some 6), none, .mv (.tmp 5)⟩,
      ⟨(some 7), (some (6, true)), .mv (.tmp 0)⟩,
      ⟨(some 8), (some (6, true)), .fad 2 (.tmp 1)⟩,
      ⟨(some 9), (some (6, true)), .load false 1 (.tmp 8)⟩,
      ⟨(some 10), (some (6, true)), .len false (.tmp 9)⟩,
      ⟨(some 11), (some (6, true)), .bin .lss .other (.tmp 7) (.tmp 10)⟩,
      ⟨(some 12), none, .pick (.tmp 6) (.tmp 11) (.const (.bool false))⟩,
      ⟨(some 3), none, .mv (.tmp 12)⟩])
    .ret))
theorem F121 : compF Tryz.prog 121 = some ⟨2, 13, [.tmp 3], c121⟩ := by kernel_rfl
theorem B121 : Bod Tryz.prog 121 := bod_of F121
/-- quaestor/contract.is -/
def c122 : ACode :=
  (.seq
   (.reg [
     ⟨(some 3), none, .box (.tmp 0)⟩,
     ⟨(some 6), none, .mv (.const (.bool false))⟩])
   (.seq
    (.reg [
      ⟨(some 10), none, .load true 8 (.tmp 3)⟩,
      ⟨(some 11), none, .mv (.tmp 2)⟩,
      ⟨(some 12), none, .call (.func 185) [(.tmp 10), (.tmp 11)]⟩,
      ⟨(some 9), none, .mv (.tmp 12)⟩,
      ⟨(some 13), none, .ext (.tmp 9) 0⟩,
      ⟨(some 14), none, .ext (.tmp 9) 1⟩,
      ⟨(some 7), none, .mv (.tmp 13)⟩,
      ⟨(some 8), none, .mv (.tmp 14)⟩])
    (.seq
     (.reg [
       ⟨(some 15), none, .mv (.tmp 8)⟩,
       ⟨(some 16), none, .bin .eql .other (.tmp 15) (.const (.int .i64 0))⟩,
       ⟨(some 17), none, .mv (.tmp 16)⟩,
       ⟨(some 18), (some (17, true)), .mv (.tmp 7)⟩,
       ⟨(some 19), (some (17, true)), .mv (.tmp 1)⟩,
       ⟨(some 20), (some (17, true)), .bin .eql .other (.tmp 18) (.tmp 19)⟩,
       ⟨(some 21), none, .pick (.tmp 17) (.tmp 20) (.const (.bool false))⟩,
       ⟨(some 6), none, .mv (.tmp 21)⟩])
     .ret)))
theorem F122 : compF Tryz.prog 122 = some ⟨3, 22, [.tmp 6], c122⟩ := by kernel_rfl
theorem B122 : Bod Tryz.prog 122 := bod_of F122
/-- quaestor/contract.apart -/
def c123 : ACode :=
  (.seq
   (.reg [
     ⟨(some 2), none, .mv (.const (.bool false))⟩])
   (.seq
    (.seq
     (.reg [
       ⟨(some 5), none, .mv (.tmp 0)⟩,
       ⟨(some 6), none, .len false (.tmp 5)⟩,
       ⟨(some 7), none, .mv (.const (.int .i64 0))⟩])
     (.block 0
      (.loop
       (.seq
        (.reg [
          ⟨(some 8), none, .bin .lss .other (.tmp 7) (.tmp 6)⟩])
        (.seq
         (.cond (.tmp 8)
          .skip
          (.exit 0))
         (.seq
          (.block 1
           (.seq
            (.reg [
              ⟨(some 9), none, .mv (.tmp 7)⟩,
              ⟨(some 10), none, .iad 1 (.tmp 5) (.tmp 7)⟩,
              ⟨(some 11), none, .load false 1 (.tmp 10)⟩,
              ⟨(some 3), none, .mv (.tmp 9)⟩,
              ⟨(some 4), none, .mv (.tmp 11)⟩])
            (.seq
             (.reg [
               ⟨(some 12), none, .mv (.tmp 0)⟩,
               ⟨(some 13), none, .mv (.tmp 4)⟩,
               ⟨(some 14), none, .call (.func 186) [(.tmp 12), (.tmp 13)]⟩,
               ⟨(some 15), none, .mv (.tmp 3)⟩,
               ⟨(some 16), none, .bin .neq .other (.tmp 14) (.tmp 15)⟩])
             (.cond (.tmp 16)
              (.seq
               (.reg [
                 ⟨(some 2), none, .mv (.const (.bool false))⟩])
               .ret)
              .skip))))
          (.reg [
            ⟨(some 17), none, .bin .add .other (.tmp 7) (.const (.int .i64 1))⟩,
            ⟨(some 7), none, .mv (.tmp 17)⟩])))))))
    (.seq
     (.reg [
       ⟨(some 2), none, .mv (.const (.bool true))⟩])
     .ret)))
theorem F123 : compF Tryz.prog 123 = some ⟨1, 18, [.tmp 2], c123⟩ := by kernel_rfl
theorem B123 : Bod Tryz.prog 123 := bod_of F123
/-- slices.IndexFunc(()quaestor/api.Field,quaestor/api.Field) -/
def c124 : ACode :=
  (.seq
   (.reg [
     ⟨(some 4), none, .mv (.const (.int .i64 0))⟩])
   (.seq
    (.seq
     (.reg [
       ⟨(some 6), none, .mv (.tmp 0)⟩,
       ⟨(some 7), none, .len false (.tmp 6)⟩,
       ⟨(some 8), none, .mv (.const (.int .i64 0))⟩])
     (.block 0
      (.loop
       (.seq
        (.reg [
          ⟨(some 9), none, .bin .lss .other (.tmp 8) (.tmp 7)⟩])
        (.seq
         (.cond (.tmp 9)
          .skip
          (.exit 0))
         (.seq
          (.block 1
           (.seq
            (.reg [
              ⟨(some 10), none, .mv (.tmp 8)⟩,
              ⟨(some 5), none, .mv (.tmp 10)⟩])
            (.seq
             (.reg [
               ⟨(some 11), none, .mv (.tmp 1)⟩,
               ⟨(some 12), none, .mv (.tmp 0)⟩,
               ⟨(some 13), none, .mv (.tmp 5)⟩,
               ⟨(some 14), none, .iad 8 (.tmp 12) (.tmp 13)⟩,
               ⟨(some 15), none, .load true 8 (.tmp 14)⟩,
               ⟨(some 16), none, .call (.tmp 11) [(.tmp 15)]⟩])
             (.cond (.tmp 16)
              (.seq
               (.reg [
                 ⟨(some 17), none, .mv (.tmp 5)⟩,
                 ⟨(some 4), none, .mv (.tmp 17)⟩])
               .ret)
              .skip))))
          (.reg [
            ⟨(some 18), none, .bin .add .other (.tmp 8) (.const (.int .i64 1))⟩,
            ⟨(some 8), none, .mv (.tmp 18)⟩])))))))
    (.seq
     (.reg [
       ⟨(some 4), none, .mv (.const (.int .i64 (-1)))⟩])
     .ret)))
theorem F124 : compF Tryz.prog 124 = some ⟨2, 19, [.tmp 4], c124⟩ := by kernel_rfl
theorem B124 : Bod Tryz.prog 124 := bod_of F124
/-- slices.ContainsFunc(()string,string) -/
def c125 : ACode :=
  (.seq
   (.reg [
     ⟨(some 4), none, .mv (.const (.bool false))⟩])
   (.seq
    (.reg [
      ⟨(some 5), none, .mv (.tmp 0)⟩,
      ⟨(some 6), none, .mv (.tmp 1)⟩,
      ⟨(some 7), none, .call (.func 187) [(.tmp 5), (.tmp 6)]⟩,
      ⟨(some 8), none, .bin .geq .other (.tmp 7) (.const (.int .i64 0))⟩,
      ⟨(some 4), none, .mv (.tmp 8)⟩])
    .ret))
theorem F125 : compF Tryz.prog 125 = some ⟨2, 9, [.tmp 4], c125⟩ := by kernel_rfl
theorem B125 : Bod Tryz.prog 125 := bod_of F125
/-- quaestor/contract.goodField$1 -/
def c126 : ACode :=
  (.seq
   (.reg [
     ⟨(some 2), none, .mv (.const (.bool false))⟩])
   (.seq
    (.reg [
      ⟨(some 3), none, .mv (.tmp 0)⟩,
      ⟨(some 4), none, .len true (.tmp 3)⟩,
      ⟨(some 5), none, .bin .gtr .other (.tmp 4) (.const (.int .i64 32))⟩,
      ⟨(some 2), none, .mv (.tmp 5)⟩])
    .ret))
theorem F126 : compF Tryz.prog 126 = some ⟨1, 6, [.tmp 2], c126⟩ := by kernel_rfl
theorem B126 : Bod Tryz.prog 126 := bod_of F126
/-- slices.IndexFunc(()quaestor/api.Stage,quaestor/api.Stage) -/
def c127 : ACode :=
  (.seq
   (.reg [
     ⟨(some 4), none, .mv (.const (.int .i64 0))⟩])
   (.seq
    (.seq
     (.reg [
       ⟨(some 6), none, .mv (.tmp 0)⟩,
       ⟨(some 7), none, .len false (.tmp 6)⟩,
       ⟨(some 8), none, .mv (.const (.int .i64 0))⟩])
     (.block 0
      (.loop
       (.seq
        (.reg [
          ⟨(some 9), none, .bin .lss .other (.tmp 8) (.tmp 7)⟩])
        (.seq
         (.cond (.tmp 9)
          .skip
          (.exit 0))
         (.seq
          (.block 1
           (.seq
            (.reg [
              ⟨(some 10), none, .mv (.tmp 8)⟩,
              ⟨(some 5), none, .mv (.tmp 10)⟩])
            (.seq
             (.reg [
               ⟨(some 11), none, .mv (.tmp 1)⟩,
               ⟨(some 12), none, .mv (.tmp 0)⟩,
               ⟨(some 13), none, .mv (.tmp 5)⟩,
               ⟨(some 14), none, .iad 3 (.tmp 12) (.tmp 13)⟩,
               ⟨(some 15), none, .load true 3 (.tmp 14)⟩,
               ⟨(some 16), none, .call (.tmp 11) [(.tmp 15)]⟩])
             (.cond (.tmp 16)
              (.seq
               (.reg [
                 ⟨(some 17), none, .mv (.tmp 5)⟩,
                 ⟨(some 4), none, .mv (.tmp 17)⟩])
               .ret)
              .skip))))
          (.reg [
            ⟨(some 18), none, .bin .add .other (.tmp 8) (.const (.int .i64 1))⟩,
            ⟨(some 8), none, .mv (.tmp 18)⟩])))))))
    (.seq
     (.reg [
       ⟨(some 4), none, .mv (.const (.int .i64 (-1)))⟩])
     .ret)))
theorem F127 : compF Tryz.prog 127 = some ⟨2, 19, [.tmp 4], c127⟩ := by kernel_rfl
theorem B127 : Bod Tryz.prog 127 := bod_of F127
/-- quaestor/contract.find(quaestor/api.Move) -/
def c128 : ACode :=
  (.seq
   (.reg [
     ⟨(some 4), none, .box (.tmp 1)⟩,
     ⟨(some 5), none, .box (.tmp 2)⟩,
     ⟨(some 6), none, .mv (.const (.int .i64 0))⟩])
   (.seq
    (.reg [
      ⟨(some 7), none, .mv (.tmp 0)⟩,
      ⟨(some 8), none, .mkf 188 [] [(.tmp 5), (.tmp 4)]⟩,
      ⟨(some 9), none, .call (.func 129) [(.tmp 7), (.tmp 8)]⟩,
      ⟨(some 6), none, .mv (.tmp 9)⟩])
    .ret))
theorem F128 : compF Tryz.prog 128 = some ⟨3, 10, [.tmp 6], c128⟩ := by kernel_rfl
theorem B128 : Bod Tryz.prog 128 := bod_of F128
/-- slices.IndexFunc(()quaestor/api.Move,quaestor/api.Move) -/
def c129 : ACode :=
  (.seq
   (.reg [
     ⟨(some 4), none, .mv (.const (.int .i64 0))⟩])
   (.seq
    (.seq
     (.reg [
       ⟨(some 6), none, .mv (.tmp 0)⟩,
       ⟨(some 7), none, .len false (.tmp 6)⟩,
       ⟨(some 8), none, .mv (.const (.int .i64 0))⟩])
     (.block 0
      (.loop
       (.seq
        (.reg [
          ⟨(some 9), none, .bin .lss .other (.tmp 8) (.tmp 7)⟩])
        (.seq
         (.cond (.tmp 9)
          .skip
          (.exit 0))
         (.seq
          (.block 1
           (.seq
            (.reg [
              ⟨(some 10), none, .mv (.tmp 8)⟩,
              ⟨(some 5), none, .mv (.tmp 10)⟩])
            (.seq
             (.reg [
               ⟨(some 11), none, .mv (.tmp 1)⟩,
               ⟨(some 12), none, .mv (.tmp 0)⟩,
               ⟨(some 13), none, .mv (.tmp 5)⟩,
               ⟨(some 14), none, .iad 13 (.tmp 12) (.tmp 13)⟩,
               ⟨(some 15), none, .load true 13 (.tmp 14)⟩,
               ⟨(some 16), none, .call (.tmp 11) [(.tmp 15)]⟩])
             (.cond (.tmp 16)
              (.seq
               (.reg [
                 ⟨(some 17), none, .mv (.tmp 5)⟩,
                 ⟨(some 4), none, .mv (.tmp 17)⟩])
               .ret)
              .skip))))
          (.reg [
            ⟨(some 18), none, .bin .add .other (.tmp 8) (.const (.int .i64 1))⟩,
            ⟨(some 8), none, .mv (.tmp 18)⟩])))))))
    (.seq
     (.reg [
       ⟨(some 4), none, .mv (.const (.int .i64 (-1)))⟩])
     .ret)))
theorem F129 : compF Tryz.prog 129 = some ⟨2, 19, [.tmp 4], c129⟩ := by kernel_rfl
theorem B129 : Bod Tryz.prog 129 := bod_of F129
/-- quaestor/quaestorref06.Field -/
def c130 : ACode :=
  (.seq
   (.reg [
     ⟨(some 2), none, .box (.tmp 0)⟩,
     ⟨(some 4), none, .mv (.const (.int .i64 0))⟩])
   (.seq
    (.seq
     (.reg [
       ⟨(some 5), none, .mv (.const (.int .i64 0))⟩])
     (.block 0
      (.loop
       (.seq
        (.seq
         (.reg [
           ⟨(some 6), none, .mv (.tmp 5)⟩,
           ⟨(some 7), none, .fad 1 (.tmp 2)⟩,
           ⟨(some 8), none, .load false 1 (.tmp 7)⟩,
           ⟨(some 9), none, .len false (.tmp 8)⟩,
           ⟨(some 10), none, .bin .lss .other (.tmp 6) (.tmp 9)⟩])
         (.cond (.tmp 10)
          .skip
          (.exit 0)))
        (.seq
         (.block 1
          (.seq
           (.reg [
             ⟨(some 13), none, .fad 1 (.tmp 2)⟩,
             ⟨(some 14), none, .load false 1 (.tmp 13)⟩,
             ⟨(some 15), none, .mv (.tmp 5)⟩,
             ⟨(some 16), none, .iad 8 (.tmp 14) (.tmp 15)⟩,
             ⟨(some 17), none, .fad 0 (.tmp 16)⟩,
             ⟨(some 18), none, .load false 1 (.tmp 17)⟩,
             ⟨(some 19), none, .mv (.tmp 1)⟩,
             ⟨(some 20), none, .bin .eql .other (.tmp 18) (.tmp 19)⟩])
           (.cond (.tmp 20)
            (.seq
             (.reg [
               ⟨(some 21), none, .mv (.tmp 5)⟩,
               ⟨(some 4), none, .mv (.tmp 21)⟩])
             .ret)
            .skip)))
         (.reg [
           ⟨(some 11), none, .mv (.tmp 5)⟩,
           ⟨(some 12), none, .bin .add .other (.tmp 11) (.const (.int .i64 1))⟩,
           ⟨(some 5), none, .mv (.tmp 12)⟩]))))))
    (.seq
     (.reg [
       ⟨(some 4), none, .mv (.const (.int .i64 (-1)))⟩])
     .ret)))
theorem F130 : compF Tryz.prog 130 = some ⟨2, 22, [.tmp 4], c130⟩ := by kernel_rfl
theorem B130 : Bod Tryz.prog 130 := bod_of F130
/-- quaestor/quaestorref06.enum -/
def c131 : ACode :=
  (.seq
   (.reg [
     ⟨(some 1), none, .box (.tmp 0)⟩,
     ⟨(some 2), none, .mv (.const (.bool false))⟩])
   (.seq
    (.seq
     (.reg [
       ⟨(some 5), none, .fad 2 (.tmp 1)⟩,
       ⟨(some 6), none, .load false 1 (.tmp 5)⟩,
       ⟨(some 7), none, .len false (.tmp 6)⟩,
       ⟨(some 8), none, .bin .gtr .other (.tmp 7) (.const (.int .i64 4))⟩,
       ⟨(some 9), none, .mv (.tmp 8)⟩,
       ⟨(some 10), (some (9, false)), .fad 2 (.tmp 1)⟩,
       ⟨(some 11), (some (9, false)), .load false 1 (.tmp 10)⟩,
       ⟨(some 12), (some (9, false)), .len false (.tmp 11)⟩,
       ⟨(some 13), (some (9, false)), .bin .gtr .other (.tmp 12) (.const (.int .i64 0))⟩,
       ⟨(some 14), (some (9, false)), .mv (.tmp 13)⟩,
       ⟨(some 15), (some (14, true)), .fad 1 (.tmp 1)⟩,
       ⟨(some 16), (some (14, true)), .load false 1 (.tmp 15)⟩,
       ⟨(some 17), (some (14, true)), .bin .neq .other (.tmp 16) (.const (.int .i64 3))⟩,
       ⟨(some 18), (some (9, false)), .pick (.tmp 14) (.tmp 17) (.const (.bool false))⟩,
       ⟨(some 19), none, .pick (.tmp 9) (.const (.bool true)) (.tmp 18)⟩])
     (.cond (.tmp 19)
      (.seq
       (.reg [
         ⟨(some 2), none, .mv (.const (.bool false))⟩])
       .ret)
      .skip))
    (.seq
     (.seq
      (.reg [
        ⟨(some 3), none, .mv (.const (.int .i64 0))⟩])
      (.block 0
       (.loop
        (.seq
         (.seq
          (.reg [
            ⟨(some 20), none, .mv (.tmp 3)⟩,
            ⟨(some 21), none, .fad 2 (.tmp 1)⟩,
            ⟨(some 22), none, .load false 1 (.tmp 21)⟩,
            ⟨(some 23), none, .len false (.tmp 22)⟩,
            ⟨(some 24), none, .bin .lss .other (.tmp 20) (.tmp 23)⟩])
          (.cond (.tmp 24)
           .skip
           (.exit 0)))
         (.seq
          (.block 1
           (.seq
            (.seq
             (.reg [
               ⟨(some 27), none, .fad 2 (.tmp 1)⟩,
               ⟨(some 28), none, .load false 1 (.tmp 27)⟩,
               ⟨(some 29), none, .mv (.tmp 3)⟩,
               ⟨(some 30), none, .iad 1 (.tmp 28) (.tmp 29)⟩,
               ⟨(some 31), none, .load false 1 (.tmp 30)⟩,
               ⟨(some 32), none, .len true (.tmp 31)⟩,
               ⟨(some 33), none, .bin .gtr .other (.tmp 32) (.const (.int .i64 32))⟩])
             (.cond (.tmp 33)
              (.seq
               (.reg [
                 ⟨(some 2), none, .mv (.const (.bool false))⟩])
               .ret)
              .skip))
            (.seq
             (.reg [
               ⟨(some 4), none, .mv (.const (.int .i64 0))⟩])
             (.block 2
              (.loop
               (.seq
                (.seq
                 (.reg [
                   ⟨(some 34), none, .mv (.tmp 4)⟩,
                   ⟨(some 35), none, .mv (.tmp 3)⟩,
                   ⟨(some 36), none, .bin .lss .other (.tmp 34) (.tmp 35)⟩])
                 (.cond (.tmp 36)
                  .skip
                  (.exit 2)))
                (.seq
                 (.block 3
                  (.seq
                   (.dreg 10 [
                     ⟨(some 39), none, .fad 2 (.tmp 1)⟩,
                     ⟨(some 40), none, .load false 1 (.tmp 39)⟩,
                     ⟨(some 41), none, .mv (.tmp 3)⟩,
                     ⟨(some 42), none, .iad 1 (.tmp 40) (.tmp 41)⟩,
                     ⟨(some 43), none, .load false 1 (.tmp 42)⟩,
                     ⟨(some 44), none, .fad 2 (.tmp 1)⟩,
                     ⟨(some 45), none, .load false 1 (.tmp 44)⟩,
                     ⟨(some 46), none, .mv (.tmp 4)⟩,
                     ⟨(some 47), none, .iad 1 (.tmp 45) (.tmp 46)⟩,
                     ⟨(some 48), none, .load false 1 (.tmp 47)⟩,
                     ⟨(some 49), none, .bin .eql .other (.tmp 43) (.tmp 48)⟩])
                   (.cond (.tmp 49)
                    (.seq
                     (.reg [
                       ⟨(some 2), none, .mv (.const (.bool false))⟩])
                     .ret)
                    .skip)))
                 (.reg [
                   ⟨(some 37), none, .mv (.tmp 4)⟩,
                   ⟨(some 38), none, .bin .add .other (.tmp 37) (.const (.int .i64 1))⟩,
                   ⟨(some 4), none, .mv (.tmp 38)⟩]))))))))
          (.reg [
            ⟨(some 25), none, .mv (.tmp 3)⟩,
            ⟨(some 26), none, .bin .add .other (.tmp 25) (.const (.int .i64 1))⟩,
            ⟨(some 3), none, .mv (.tmp 26)⟩]))))))
     (.seq
      (.reg [
        ⟨(some 2), none, .mv (.const (.bool true))⟩])
      .ret))))
theorem F131 : compF Tryz.prog 131 = some ⟨1, 50, [.tmp 2], c131⟩ := by kernel_rfl
theorem B131 : Bod Tryz.prog 131 := bod_of F131
/-- quaestor/quaestorref06.Stage -/
def c132 : ACode :=
  (.seq
   (.reg [
     ⟨(some 2), none, .box (.tmp 0)⟩,
     ⟨(some 4), none, .mv (.const (.int .i64 0))⟩])
   (.seq
    (.seq
     (.reg [
       ⟨(some 5), none, .mv (.const (.int .i64 0))⟩])
     (.block 0
      (.loop
       (.seq
        (.seq
         (.reg [
           ⟨(some 6), none, .mv (.tmp 5)⟩,
           ⟨(some 7), none, .fad 2 (.tmp 2)⟩,
           ⟨(some 8), none, .load false 1 (.tmp 7)⟩,
           ⟨(some 9), none, .len false (.tmp 8)⟩,
           ⟨(some 10), none, .bin .lss .other (.tmp 6) (.tmp 9)⟩])
         (.cond (.tmp 10)
          .skip
          (.exit 0)))
        (.seq
         (.block 1
          (.seq
           (.reg [
             ⟨(some 13), none, .fad 2 (.tmp 2)⟩,
             ⟨(some 14), none, .load false 1 (.tmp 13)⟩,
             ⟨(some 15), none, .mv (.tmp 5)⟩,
             ⟨(some 16), none, .iad 3 (.tmp 14) (.tmp 15)⟩,
             ⟨(some 17), none, .fad 0 (.tmp 16)⟩,
             ⟨(some 18), none, .load false 1 (.tmp 17)⟩,
             ⟨(some 19), none, .mv (.tmp 1)⟩,
             ⟨(some 20), none, .bin .eql .other (.tmp 18) (.tmp 19)⟩])
           (.cond (.tmp 20)
            (.seq
             (.reg [
               ⟨(some 21), none, .mv (.tmp 5)⟩,
               ⟨(some 4), none, .mv (.tmp 21)⟩])
             .ret)
            .skip)))
         (.reg [
           ⟨(some 11), none, .mv (.tmp 5)⟩,
           ⟨(some 12), none, .bin .add .other (.tmp 11) (.const (.int .i64 1))⟩,
           ⟨(some 5), none, .mv (.tmp 12)⟩]))))))
    (.seq
     (.reg [
       ⟨(some 4), none, .mv (.const (.int .i64 (-1)))⟩])
     .ret)))
theorem F132 : compF Tryz.prog 132 = some ⟨2, 22, [.tmp 4], c132⟩ := by kernel_rfl
theorem B132 : Bod Tryz.prog 132 := bod_of F132
/-- quaestor/quaestorref05.Check -/
def c133 : ACode :=
  (.seq
   (.reg [
     ⟨(some 2), none, .box (.tmp 0)⟩,
     ⟨(some 4), none, .mv (.const (.int .i64 0))⟩,
     ⟨(some 5), none, .mv (.const (.int .i64 0))⟩])
   (.seq
    (.seq
     (.reg [
       ⟨(some 6), none, .load true 8 (.tmp 2)⟩,
       ⟨(some 7), none, .call (.func 118) [(.tmp 6)]⟩,
       ⟨(some 8), none, .un .not (.tmp 7)⟩])
     (.cond (.tmp 8)
      (.seq
       (.reg [
         ⟨(some 4), none, .mv (.const (.int .i64 0))⟩,
         ⟨(some 5), none, .mv (.const (.int .i64 51))⟩])
       .ret)
      .skip))
    (.seq
     (.reg [
       ⟨(some 9), none, .load true 8 (.tmp 2)⟩,
       ⟨(some 10), none, .mv (.tmp 1)⟩,
       ⟨(some 11), none, .call (.func 189) [(.tmp 9), (.tmp 10)]⟩,
       ⟨(some 12), none, .ext (.tmp 11) 0⟩,
       ⟨(some 13), none, .ext (.tmp 11) 1⟩,
       ⟨(some 4), none, .mv (.tmp 12)⟩,
       ⟨(some 5), none, .mv (.tmp 13)⟩])
     .ret)))
theorem F133 : compF Tryz.prog 133 = some ⟨2, 14, [.tmp 4, .tmp 5], c133⟩ := by kernel_rfl
theorem B133 : Bod Tryz.prog 133 := bod_of F133
/-- quaestor/quaestorref01.Bits -/
def c134 : ACode :=
  (.seq
   (.reg [
     ⟨(some 2), none, .mv (.const (.int .u64 0))⟩])
   (.seq
    (.seq
     (.reg [
       ⟨(some 3), none, .mv (.tmp 0)⟩,
       ⟨(some 4), none, .mv (.tmp 0)⟩,
       ⟨(some 5), none, .bin .neq .other (.tmp 3) (.tmp 4)⟩])
     (.cond (.tmp 5)
      (.seq
       (.reg [
         ⟨(some 2), none, .mv (.const (.int .u64 9221120237041090561))⟩])
       .ret)
      .skip))
    (.seq
     (.reg [
       ⟨(some 6), none, .mv (.tmp 0)⟩,
       ⟨(some 7), none, .call (.func 181) [(.tmp 6)]⟩,
       ⟨(some 2), none, .mv (.tmp 7)⟩])
     .ret)))
theorem F134 : compF Tryz.prog 134 = some ⟨1, 8, [.tmp 2], c134⟩ := by kernel_rfl
theorem B134 : Bod Tryz.prog 134 := bod_of F134
/-- (*quaestor/expr.budget).spend -/
def c135 : ACode :=
  (.seq
   (.reg [
     ⟨(some 4), none, .box (.tmp 1)⟩,
     ⟨(some 6), none, .mv (.const (.bool false))⟩])
   (.seq
    (.seq
     (.reg [
       ⟨(some 9), none, .mv (.tmp 0)⟩,
       ⟨(some 10), none, .nilc (.tmp 9)⟩,
       ⟨(some 11), none, .fad 0 (.tmp 10)⟩,
       ⟨(some 12), none, .load false 1 (.tmp 11)⟩,
       ⟨(some 13), none, .bin .sub .other (.tmp 12) (.const (.int .i64 1))⟩,
       ⟨(some 14), none, .nilc (.tmp 9)⟩,
       ⟨(some 15), none, .fad 0 (.tmp 14)⟩,
       ⟨none, none, .store 1 (.tmp 15) (.tmp 13)⟩])
     (.seq
      (.reg [
        ⟨(some 16), none, .mv (.tmp 0)⟩,
        ⟨(some 17), none, .nilc (.tmp 16)⟩,
        ⟨(some 18), none, .fad 0 (.tmp 17)⟩,
        ⟨(some 19), none, .load false 1 (.tmp 18)⟩,
        ⟨(some 20), none, .bin .lss .other (.tmp 19) (.const (.int .i64 0))⟩,
        ⟨(some 21), none, .mv (.tmp 20)⟩,
        ⟨(some 22), (some (21, false)), .mv (.tmp 2)⟩,
        ⟨(some 23), (some (21, false)), .bin .eql .other (.tmp 22) (.const (.int .i64 0))⟩,
        ⟨(some 24), none, .pick (.tmp 21) (.const (.bool true)) (.tmp 23)⟩])
      (.cond (.tmp 24)
       (.seq
        (.reg [
          ⟨(some 6), none, .mv (.const (.bool false))⟩])
        .ret)
       .skip)))
    (.seq
     (.seq
      (.reg [
        ⟨(some 25), none, .fad 1 (.tmp 4)⟩,
        ⟨(some 26), none, .load false 1 (.tmp 25)⟩,
        ⟨(some 27), none, .len false (.tmp 26)⟩,
        ⟨(some 28), none, .mv (.const (.int .i64 0))⟩])
      (.block 0
       (.loop
        (.seq
         (.reg [
           ⟨(some 29), none, .bin .lss .other (.tmp 28) (.tmp 27)⟩])
         (.seq
          (.cond (.tmp 29)
           .skip
           (.exit 0))
          (.seq
           (.block 1
            (.seq
             (.reg [
               ⟨(some 30), none, .iad 8 (.tmp 26) (.tmp 28)⟩,
               ⟨(some 31), none, .load true 8 (.tmp 30)⟩,
               ⟨(some 8), none, .alloc [.int .i64 0, .slice none 0 0, .string ⟨#[]⟩, .int .i64 0, .int .i64 0, .bool false, .string ⟨#[]⟩, .float .f64 0]⟩,
               ⟨none, none, .store 8 (.tmp 8) (.tmp 31)⟩])
             (.seq
              (.reg [
                ⟨(some 32), none, .mv (.tmp 0)⟩,
                ⟨(some 33), none, .load true 8 (.tmp 8)⟩,
                ⟨(some 34), none, .mv (.tmp 2)⟩,
                ⟨(some 35), none, .bin .sub .other (.tmp 34) (.const (.int .i64 1))⟩,
                ⟨(some 36), none, .call (.func 135) [(.tmp 32), (.tmp 33), (.tmp 35)]⟩,
                ⟨(some 37), none, .un .not (.tmp 36)⟩])
              (.cond (.tmp 37)
               (.seq
                (.reg [
                  ⟨(some 6), none, .mv (.const (.bool false))⟩])
                .ret)
               .skip))))
           (.reg [
             ⟨(some 38), none, .bin .add .other (.tmp 28) (.const (.int .i64 1))⟩,
             ⟨(some 28), none, .mv (.tmp 38)⟩])))))))
     (.seq
      (.reg [
        ⟨(some 6), none, .mv (.const (.bool true))⟩])
      .ret))))
theorem F135 : compF Tryz.prog 135 = some ⟨3, 39, [.tmp 6], c135⟩ := by kernel_rfl
theorem B135 : Bod Tryz.prog 135 := bod_of F135
/-- quaestor/expr.arity -/
def c136 : ACode :=
  (.seq
   (.reg [
     ⟨(some 2), none, .mv (.const (.int .i64 0))⟩])
   (.seq
    (.seq
     (.reg [
       ⟨(some 3), none, .mv (.tmp 0)⟩])
     (.block 0
      (.seq
       (.seq
        (.reg [
          ⟨(some 5), none, .bin .eql .other (.tmp 3) (.const (.int .i64 1))⟩,
          ⟨(some 4), none, .mv (.tmp 5)⟩])
        (.cond (.tmp 4)
         .skip
         (.reg [
           ⟨(some 6), none, .bin .eql .other (.tmp 3) (.const (.int .i64 2))⟩,
           ⟨(some 4), none, .mv (.tmp 6)⟩])))
       (.cond (.tmp 4)
        (.seq
         (.reg [
           ⟨(some 2), none, .mv (.const (.int .i64 0))⟩])
         .ret)
        (.seq
         (.seq
          (.reg [
            ⟨(some 8), none, .bin .eql .other (.tmp 3) (.const (.int .i64 3))⟩,
            ⟨(some 7), none, .mv (.tmp 8)⟩])
          (.cond (.tmp 7)
           .skip
           (.seq
            (.reg [
              ⟨(some 9), none, .bin .eql .other (.tmp 3) (.const (.int .i64 12))⟩,
              ⟨(some 7), none, .mv (.tmp 9)⟩])
            (.cond (.tmp 7)
             .skip
             (.reg [
               ⟨(some 10), none, .bin .eql .other (.tmp 3) (.const (.int .i64 16))⟩,
               ⟨(some 7), none, .mv (.tmp 10)⟩])))))
         (.cond (.tmp 7)
          (.seq
           (.reg [
             ⟨(some 2), none, .mv (.const (.int .i64 1))⟩])
           .ret)
          (.seq
           (.reg [
             ⟨(some 12), none, .bin .eql .other (.tmp 3) (.const (.int .i64 13))⟩,
             ⟨(some 11), none, .mv (.tmp 12)⟩])
           (.cond (.tmp 11)
            (.seq
             (.reg [
               ⟨(some 2), none, .mv (.const (.int .i64 3))⟩])
             .ret)
            .skip))))))))
    (.seq
     (.seq
      (.reg [
        ⟨(some 13), none, .mv (.tmp 0)⟩,
        ⟨(some 14), none, .bin .geq .other (.tmp 13) (.const (.int .i64 4))⟩,
        ⟨(some 15), none, .mv (.tmp 14)⟩,
        ⟨(some 16), (some (15, true)), .mv (.tmp 0)⟩,
        ⟨(some 17), (some (15, true)), .bin .leq .other (.tmp 16) (.const (.int .i64 16))⟩,
        ⟨(some 18), none, .pick (.tmp 15) (.tmp 17) (.const (.bool false))⟩])
      (.cond (.tmp 18)
       (.seq
        (.reg [
          ⟨(some 2), none, .mv (.const (.int .i64 2))⟩])
        .ret)
       .skip))
     (.seq
      (.reg [
        ⟨(some 2), none, .mv (.const (.int .i64 (-1)))⟩])
      .ret))))
theorem F136 : compF Tryz.prog 136 = some ⟨1, 19, [.tmp 2], c136⟩ := by kernel_rfl
theorem B136 : Bod Tryz.prog 136 := bod_of F136
/-- quaestor/value.Same -/
def c137 : ACode :=
  (.seq
   (.reg [
     ⟨(some 2), none, .box (.tmp 0)⟩,
     ⟨(some 3), none, .box (.tmp 1)⟩,
     ⟨(some 4), none, .mv (.const (.bool false))⟩])
   (.seq
    (.dreg 5 [
      ⟨(some 7), none, .fad 4 (.tmp 2)⟩,
      ⟨(some 8), none, .load false 1 (.tmp 7)⟩,
      ⟨(some 9), none, .call (.func 190) [(.tmp 8)]⟩,
      ⟨(some 10), none, .fad 4 (.tmp 3)⟩,
      ⟨(some 11), none, .load false 1 (.tmp 10)⟩,
      ⟨(some 12), none, .call (.func 190) [(.tmp 11)]⟩,
      ⟨(some 5), none, .mv (.tmp 9)⟩,
      ⟨(some 6), none, .mv (.tmp 12)⟩])
    (.seq
     (.reg [
       ⟨(some 13), none, .fad 4 (.tmp 2)⟩,
       ⟨none, none, .store 1 (.tmp 13) (.const (.float .f64 0))⟩,
       ⟨(some 14), none, .fad 4 (.tmp 3)⟩,
       ⟨none, none, .store 1 (.tmp 14) (.const (.float .f64 0))⟩])
     (.seq
      (.reg [
        ⟨(some 15), none, .load true 5 (.tmp 2)⟩,
        ⟨(some 16), none, .load true 5 (.tmp 3)⟩,
        ⟨(some 17), none, .eqs false [0, 0, 1, 2, 3] (.tmp 15) (.tmp 16)⟩,
        ⟨(some 18), none, .mv (.tmp 17)⟩,
        ⟨(some 19), (some (18, true)), .mv (.tmp 5)⟩,
        ⟨(some 20), (some (18, true)), .mv (.tmp 6)⟩,
        ⟨(some 21), (some (18, true)), .bin .eql .other (.tmp 19) (.tmp 20)⟩,
        ⟨(some 22), none, .pick (.tmp 18) (.tmp 21) (.const (.bool false))⟩,
        ⟨(some 4), none, .mv (.tmp 22)⟩])
      .ret))))
theorem F137 : compF Tryz.prog 137 = some ⟨2, 23, [.tmp 4], c137⟩ := by kernel_rfl
theorem B137 : Bod Tryz.prog 137 := bod_of F137
/-- quaestor/expr.find -/
def c138 : ACode :=
  (.seq
   (.reg [
     ⟨(some 2), none, .box (.tmp 0)⟩,
     ⟨(some 4), none, .mv (.const (.int .i64 0))⟩])
   (.seq
    (.reg [
      ⟨(some 5), none, .mv (.tmp 1)⟩,
      ⟨(some 6), none, .mkf 191 [] [(.tmp 2)]⟩,
      ⟨(some 7), none, .call (.func 124) [(.tmp 5), (.tmp 6)]⟩,
      ⟨(some 4), none, .mv (.tmp 7)⟩])
    .ret))
theorem F138 : compF Tryz.prog 138 = some ⟨2, 8, [.tmp 4], c138⟩ := by kernel_rfl
theorem B138 : Bod Tryz.prog 138 := bod_of F138
/-- quaestor/expr.numeric -/
def c139 : ACode :=
  (.seq
   (.reg [
     ⟨(some 2), none, .mv (.const (.bool false))⟩])
   (.seq
    (.reg [
      ⟨(some 3), none, .mv (.tmp 0)⟩,
      ⟨(some 4), none, .bin .eql .other (.tmp 3) (.const (.int .i64 1))⟩,
      ⟨(some 5), none, .mv (.tmp 4)⟩,
      ⟨(some 6), (some (5, false)), .mv (.tmp 0)⟩,
      ⟨(some 7), (some (5, false)), .bin .eql .other (.tmp 6) (.const (.int .i64 4))⟩,
      ⟨(some 8), none, .pick (.tmp 5) (.const (.bool true)) (.tmp 7)⟩,
      ⟨(some 2), none, .mv (.tmp 8)⟩])
    .ret))
theorem F139 : compF Tryz.prog 139 = some ⟨1, 9, [.tmp 2], c139⟩ := by kernel_rfl
theorem B139 : Bod Tryz.prog 139 := bod_of F139
/-- quaestor/value.part -/
def c140 : ACode :=
  (.seq
   (.reg [
     ⟨(some 1), none, .box (.tmp 0)⟩,
     ⟨(some 2), none, .alloc [.int .i64 0, .int .i64 0, .bool false, .string ⟨#[]⟩, .float .f64 0]⟩,
     ⟨(some 3), none, .mv (.const (.bool false))⟩])
   (.seq
    (.reg [
      ⟨(some 5), none, .fad 0 (.tmp 1)⟩,
      ⟨(some 6), none, .load false 1 (.tmp 5)⟩,
      ⟨(some 7), none, .build [.int .i64 0, .int .i64 0, .bool false, .string ⟨#[]⟩, .float .f64 0] [(0, 1, (.tmp 6))]⟩,
      ⟨(some 4), none, .alloc [.int .i64 0, .int .i64 0, .bool false, .string ⟨#[]⟩, .float .f64 0]⟩,
      ⟨none, none, .store 5 (.tmp 4) (.tmp 7)⟩])
    (.seq
     (.seq
      (.reg [
        ⟨(some 8), none, .fad 0 (.tmp 1)⟩,
        ⟨(some 9), none, .load false 1 (.tmp 8)⟩])
      (.block 0
       (.seq
        (.reg [
          ⟨(some 12), none, .bin .eql .other (.tmp 9) (.const (.int .i64 1))⟩,
          ⟨(some 11), none, .mv (.tmp 12)⟩])
        (.cond (.tmp 11)
         (.reg [
           ⟨(some 13), none, .fad 1 (.tmp 1)⟩,
           ⟨(some 14), none, .load false 1 (.tmp 13)⟩,
           ⟨(some 15), none, .fad 1 (.tmp 4)⟩,
           ⟨none, none, .store 1 (.tmp 15) (.tmp 14)⟩])
         (.seq
          (.reg [
            ⟨(some 17), none, .bin .eql .other (.tmp 9) (.const (.int .i64 2))⟩,
            ⟨(some 16), none, .mv (.tmp 17)⟩])
          (.cond (.tmp 16)
           (.reg [
             ⟨(some 18), none, .fad 2 (.tmp 1)⟩,
             ⟨(some 19), none, .load false 1 (.tmp 18)⟩,
             ⟨(some 20), none, .fad 2 (.tmp 4)⟩,
             ⟨none, none, .store 1 (.tmp 20) (.tmp 19)⟩])
           (.seq
            (.reg [
              ⟨(some 22), none, .bin .eql .other (.tmp 9) (.const (.int .i64 3))⟩,
              ⟨(some 21), none, .mv (.tmp 22)⟩])
            (.cond (.tmp 21)
             (.reg [
               ⟨(some 23), none, .fad 3 (.tmp 1)⟩,
               ⟨(some 24), none, .load false 1 (.tmp 23)⟩,
               ⟨(some 25), none, .fad 3 (.tmp 4)⟩,
               ⟨none, none, .store 1 (.tmp 25) (.tmp 24)⟩])
             (.seq
              (.reg [
                ⟨(some 27), none, .bin .eql .other (.tmp 9) (.const (.int .i64 4))⟩,
                ⟨(some 26), none, .mv (.tmp 27)⟩])
              (.cond (.tmp 26)
               (.reg [
                 ⟨(some 28), none, .fad 4 (.tmp 1)⟩,
                 ⟨(some 29), none, .load false 1 (.tmp 28)⟩,
                 ⟨(some 30), none, .fad 4 (.tmp 4)⟩,
                 ⟨none, none, .store 1 (.tmp 30) (.tmp 29)⟩])
               (.seq
                (.reg [
                  ⟨(some 10), none, .load true 5 (.tmp 4)⟩,
                  ⟨none, none, .store 5 (.tmp 2) (.tmp 10)⟩,
                  ⟨(some 3), none, .mv (.const (.bool false))⟩])
                .ret)))))))))))
     (.seq
      (.reg [
        ⟨(some 31), none, .load true 5 (.tmp 4)⟩,
        ⟨none, none, .store 5 (.tmp 2) (.tmp 31)⟩,
        ⟨(some 3), none, .mv (.const (.bool true))⟩])
      .ret))))
theorem F140 : compF Tryz.prog 140 = some ⟨1, 32, [.cell 2 true 5, .tmp 3], c140⟩ := by kernel_rfl
theorem B140 : Bod Tryz.prog 140 := bod_of F140
/-- quaestor/contract.find(quaestor/api.Field)$1 -/
def c148 : ACode :=
  (.seq
   (.reg [
     ⟨(some 3), none, .box (.tmp 0)⟩,
     ⟨(some 4), none, .mv (.const (.bool false))⟩])
   (.seq
    (.dreg 4 [
      ⟨(some 5), none, .load false 1 (.tmp 1)⟩,
      ⟨(some 6), none, .load true 8 (.tmp 3)⟩,
      ⟨(some 7), none, .call (.tmp 5) [(.tmp 6)]⟩,
      ⟨(some 8), none, .load false 1 (.tmp 2)⟩,
      ⟨(some 9), none, .bin .eql .other (.tmp 7) (.tmp 8)⟩,
      ⟨(some 4), none, .mv (.tmp 9)⟩])
    .ret))
theorem F148 : compF Tryz.prog 148 = some ⟨3, 10, [.tmp 4], c148⟩ := by kernel_rfl
theorem B148 : Bod Tryz.prog 148 := bod_of F148
/-- slices.Contains(()string,string) -/
def c165 : ACode :=
  (.seq
   (.reg [
     ⟨(some 4), none, .mv (.const (.bool false))⟩])
   (.seq
    (.reg [
      ⟨(some 5), none, .mv (.tmp 0)⟩,
      ⟨(some 6), none, .mv (.tmp 1)⟩,
      ⟨(some 7), none, .call (.func 186) [(.tmp 5), (.tmp 6)]⟩,
      ⟨(some 8), none, .bin .geq .other (.tmp 7) (.const (.int .i64 0))⟩,
      ⟨(some 4), none, .mv (.tmp 8)⟩])
    .ret))
theorem F165 : compF Tryz.prog 165 = some ⟨2, 9, [.tmp 4], c165⟩ := by kernel_rfl
theorem B165 : Bod Tryz.prog 165 := bod_of F165
/-- quaestor/quaestorref04.Same -/
def c167 : ACode :=
  (.seq
   (.reg [
     ⟨(some 2), none, .box (.tmp 0)⟩,
     ⟨(some 3), none, .box (.tmp 1)⟩,
     ⟨(some 4), none, .mv (.const (.bool false))⟩])
   (.seq
    (.dreg 32 [
      ⟨(some 5), none, .fad 0 (.tmp 2)⟩,
      ⟨(some 6), none, .load false 1 (.tmp 5)⟩,
      ⟨(some 7), none, .fad 0 (.tmp 3)⟩,
      ⟨(some 8), none, .load false 1 (.tmp 7)⟩,
      ⟨(some 9), none, .bin .eql .other (.tmp 6) (.tmp 8)⟩,
      ⟨(some 10), none, .mv (.tmp 9)⟩,
      ⟨(some 11), (some (10, true)), .fad 1 (.tmp 2)⟩,
      ⟨(some 12), (some (10, true)), .load false 1 (.tmp 11)⟩,
      ⟨(some 13), (some (10, true)), .fad 1 (.tmp 3)⟩,
      ⟨(some 14), (some (10, true)), .load false 1 (.tmp 13)⟩,
      ⟨(some 15), (some (10, true)), .bin .eql .other (.tmp 12) (.tmp 14)⟩,
      ⟨(some 16), none, .pick (.tmp 10) (.tmp 15) (.const (.bool false))⟩,
      ⟨(some 17), none, .mv (.tmp 16)⟩,
      ⟨(some 18), (some (17, true)), .fad 2 (.tmp 2)⟩,
      ⟨(some 19), (some (17, true)), .load false 1 (.tmp 18)⟩,
      ⟨(some 20), (some (17, true)), .fad 2 (.tmp 3)⟩,
      ⟨(some 21), (some (17, true)), .load false 1 (.tmp 20)⟩,
      ⟨(some 22), (some (17, true)), .bin .eql .bool (.tmp 19) (.tmp 21)⟩,
      ⟨(some 23), none, .pick (.tmp 17) (.tmp 22) (.const (.bool false))⟩,
      ⟨(some 24), none, .mv (.tmp 23)⟩,
      ⟨(some 25), (some (24, true)), .fad 3 (.tmp 2)⟩,
      ⟨(some 26), (some (24, true)), .load false 1 (.tmp 25)⟩,
      ⟨(some 27), (some (24, true)), .fad 3 (.tmp 3)⟩,
      ⟨(some 28), (some (24, true)), .load false 1 (.tmp 27)⟩,
      ⟨(some 29), (some (24, true)), .bin .eql .other (.tmp 26) (.tmp 28)⟩,
      ⟨(some 30), none, .pick (.tmp 24) (.tmp 29) (.const (.bool false))⟩,
      ⟨(some 31), none, .mv (.tmp 30)⟩,
      ⟨(some 32), (some (31, true)), .fad 4 (.tmp 2)⟩,
      ⟨(some 33), (some (31, true)), .load false 1 (.tmp 32)⟩,
      ⟨(some 34), (some (31, true)), .call (.func 134) [(.tmp 33)]⟩,
      ⟨(some 35), (some (31, true)), .fad 4 (.tmp 3)⟩,
      ⟨(some 36), (some (31, true)), .load false 1 (.tmp 35)⟩,
      ⟨(some 37), (some (31, true)), .call (.func 134) [(.tmp 36)]⟩,
      ⟨(some 38), (some (31, true)), .bin .eql .other (.tmp 34) (.tmp 37)⟩,
      ⟨(some 39), none, .pick (.tmp 31) (.tmp 38) (.const (.bool false))⟩,
      ⟨(some 4), none, .mv (.tmp 39)⟩])
    .ret))
theorem F167 : compF Tryz.prog 167 = some ⟨2, 40, [.tmp 4], c167⟩ := by kernel_rfl
theorem B167 : Bod Tryz.prog 167 := bod_of F167
end Go.Proofs.YtbnelpgogjbgjaaGreat.Q
