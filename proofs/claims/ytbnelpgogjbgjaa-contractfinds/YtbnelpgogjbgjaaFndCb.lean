/- The codes of the functions, and that the program has them. -/
import Derived.Test.YtbnelpgogjbgjaaFndQw
import Derived.KernelRfl
import Derived.Test.YtbnelpgogjbgjaaProg
/- The codes of the functions, and that the program has them. -/
set_option linter.unusedVariables false
namespace Go.Proofs.Ytbnelpgogjbgjaa.Q
open Go.RowKit
/-- quaestor/quaestorref04.Fits -/
def c94 : ACode :=
  (.seq
   (.reg [
     ⟨(some 2), none, .box (.tmp 0)⟩,
     ⟨(some 3), none, .box (.tmp 1)⟩,
     ⟨(some 4), none, .mv (.const (.int .i64 0))⟩])
   (.seq
    (.seq
     (.reg [
       ⟨(some 6), none, .load true 5 (.tmp 2)⟩,
       ⟨(some 7), none, .call (.func 146) [(.tmp 6)]⟩,
       ⟨(some 8), none, .un .not (.tmp 7)⟩,
       ⟨(some 9), none, .mv (.tmp 8)⟩,
       ⟨(some 10), (some (9, false)), .fad 0 (.tmp 2)⟩,
       ⟨(some 11), (some (9, false)), .load false 1 (.tmp 10)⟩,
       ⟨(some 12), (some (9, false)), .fad 1 (.tmp 3)⟩,
       ⟨(some 13), (some (9, false)), .load false 1 (.tmp 12)⟩,
       ⟨(some 14), (some (9, false)), .bin .neq .other (.tmp 11) (.tmp 13)⟩,
       ⟨(some 15), none, .pick (.tmp 9) (.const (.bool true)) (.tmp 14)⟩])
     (.cond (.tmp 15)
      (.seq
       (.reg [
         ⟨(some 4), none, .mv (.const (.int .i64 40))⟩])
       .ret)
      .skip))
    (.seq
     (.seq
      (.reg [
        ⟨(some 16), none, .fad 2 (.tmp 3)⟩,
        ⟨(some 17), none, .load false 1 (.tmp 16)⟩,
        ⟨(some 18), none, .len false (.tmp 17)⟩,
        ⟨(some 19), none, .bin .eql .other (.tmp 18) (.const (.int .i64 0))⟩,
        ⟨(some 20), none, .mv (.tmp 19)⟩,
        ⟨(some 21), (some (20, false)), .fad 0 (.tmp 2)⟩,
        ⟨(some 22), (some (20, false)), .load false 1 (.tmp 21)⟩,
        ⟨(some 23), (some (20, false)), .bin .neq .other (.tmp 22) (.const (.int .i64 3))⟩,
        ⟨(some 24), none, .pick (.tmp 20) (.const (.bool true)) (.tmp 23)⟩])
      (.cond (.tmp 24)
       (.seq
        (.reg [
          ⟨(some 4), none, .mv (.const (.int .i64 0))⟩])
        .ret)
       .skip))
     (.seq
      (.seq
       (.reg [
         ⟨(some 5), none, .mv (.const (.int .i64 0))⟩])
       (.block 0
        (.loop
         (.seq
          (.seq
           (.reg [
             ⟨(some 25), none, .mv (.tmp 5)⟩,
             ⟨(some 26), none, .fad 2 (.tmp 3)⟩,
             ⟨(some 27), none, .load false 1 (.tmp 26)⟩,
             ⟨(some 28), none, .len false (.tmp 27)⟩,
             ⟨(some 29), none, .bin .lss .other (.tmp 25) (.tmp 28)⟩])
           (.cond (.tmp 29)
            .skip
            (.exit 0)))
          (.seq
           (.block 1
            (.seq
             (.dreg 7 [
               ⟨(some 32), none, .fad 2 (.tmp 3)⟩,
               ⟨(some 33), none, .load false 1 (.tmp 32)⟩,
               ⟨(some 34), none, .mv (.tmp 5)⟩,
               ⟨(some 35), none, .iad 1 (.tmp 33) (.tmp 34)⟩,
               ⟨(some 36), none, .load false 1 (.tmp 35)⟩,
               ⟨(some 37), none, .fad 3 (.tmp 2)⟩,
               ⟨(some 38), none, .load false 1 (.tmp 37)⟩,
               ⟨(some 39), none, .bin .eql .other (.tmp 36) (.tmp 38)⟩])
             (.cond (.tmp 39)
              (.seq
               (.reg [
                 ⟨(some 4), none, .mv (.const (.int .i64 0))⟩])
               .ret)
              .skip)))
           (.reg [
             ⟨(some 30), none, .mv (.tmp 5)⟩,
             ⟨(some 31), none, .bin .add .other (.tmp 30) (.const (.int .i64 1))⟩,
             ⟨(some 5), none, .mv (.tmp 31)⟩]))))))
      (.seq
       (.reg [
         ⟨(some 4), none, .mv (.const (.int .i64 60))⟩])
       .ret)))))
theorem F94 : compF Try.prog 94 = some ⟨2, 40, [.tmp 4], c94⟩ := by kernel_rfl
theorem B94 : Bod Try.prog 94 := bod_of F94
/-- quaestor/quaestorref05.Check -/
def c95 : ACode :=
  (.seq
   (.reg [
     ⟨(some 2), none, .box (.tmp 0)⟩,
     ⟨(some 4), none, .mv (.const (.int .i64 0))⟩,
     ⟨(some 5), none, .mv (.const (.int .i64 0))⟩])
   (.seq
    (.seq
     (.reg [
       ⟨(some 6), none, .load true 8 (.tmp 2)⟩,
       ⟨(some 7), none, .call (.func 18) [(.tmp 6)]⟩,
       ⟨(some 8), none, .un .not (.tmp 7)⟩])
     (.cond (.tmp 8)
      (.seq
       (.reg [
         ⟨(some 4), none, .mv (.const (.int .i64 0))⟩,
         ⟨(some 5), none, .mv (.const (.int .i64 51))⟩])
       .ret)
      .skip))
    (.seq
     (.reg [
       ⟨(some 9), none, .load true 8 (.tmp 2)⟩,
       ⟨(some 10), none, .mv (.tmp 1)⟩,
       ⟨(some 11), none, .call (.func 147) [(.tmp 9), (.tmp 10)]⟩,
       ⟨(some 12), none, .ext (.tmp 11) 0⟩,
       ⟨(some 13), none, .ext (.tmp 11) 1⟩,
       ⟨(some 4), none, .mv (.tmp 12)⟩,
       ⟨(some 5), none, .mv (.tmp 13)⟩])
     .ret)))
theorem F95 : compF Try.prog 95 = some ⟨2, 14, [.tmp 4, .tmp 5], c95⟩ := by kernel_rfl
theorem B95 : Bod Try.prog 95 := bod_of F95
/-- quaestor/contract.list(quaestor/api.Field) -/
def c96 : ACode :=
  (.seq
   (.reg [
     ⟨(some 6), none, .mv (.const (.slice none 0 0))⟩])
   (.seq
    (.reg [
      ⟨(some 9), none, .mv (.tmp 0)⟩,
      ⟨(some 10), none, .mv (.tmp 1)⟩,
      ⟨(some 11), none, .len false (.tmp 10)⟩,
      ⟨(some 12), none, .call (.func 122) [(.tmp 9), (.tmp 11)]⟩,
      ⟨(some 0), none, .mv (.tmp 12)⟩])
    (.seq
     (.seq
      (.reg [
        ⟨(some 13), none, .mv (.tmp 1)⟩,
        ⟨(some 14), none, .len false (.tmp 13)⟩,
        ⟨(some 15), none, .mv (.const (.int .i64 0))⟩])
      (.block 0
       (.loop
        (.seq
         (.reg [
           ⟨(some 16), none, .bin .lss .other (.tmp 15) (.tmp 14)⟩])
         (.seq
          (.cond (.tmp 16)
           .skip
           (.exit 0))
          (.seq
           (.block 1
            (.seq
             (.reg [
               ⟨(some 17), none, .iad 8 (.tmp 13) (.tmp 15)⟩,
               ⟨(some 18), none, .load true 8 (.tmp 17)⟩,
               ⟨(some 8), none, .alloc [.string ⟨#[]⟩, .int .i64 0, .slice none 0 0, .int .i64 0, .int .i64 0, .bool false, .string ⟨#[]⟩, .float .f64 0]⟩,
               ⟨none, none, .store 8 (.tmp 8) (.tmp 18)⟩])
             (.reg [
               ⟨(some 19), none, .mv (.tmp 2)⟩,
               ⟨(some 20), none, .mv (.tmp 0)⟩,
               ⟨(some 21), none, .load true 8 (.tmp 8)⟩,
               ⟨(some 22), none, .call (.tmp 19) [(.tmp 20), (.tmp 21)]⟩,
               ⟨(some 0), none, .mv (.tmp 22)⟩])))
           (.reg [
             ⟨(some 23), none, .bin .add .other (.tmp 15) (.const (.int .i64 1))⟩,
             ⟨(some 15), none, .mv (.tmp 23)⟩])))))))
     (.seq
      (.reg [
        ⟨(some 24), none, .mv (.tmp 0)⟩,
        ⟨(some 6), none, .mv (.tmp 24)⟩])
      .ret))))
theorem F96 : compF Try.prog 96 = some ⟨3, 25, [.tmp 6], c96⟩ := by kernel_rfl
theorem B96 : Bod Try.prog 96 := bod_of F96
/-- quaestor/contract.text -/
def c97 : ACode :=
  (.seq
   (.reg [
     ⟨(some 4), none, .mv (.const (.slice none 0 0))⟩])
   (.seq
    (.reg [
      ⟨(some 5), none, .mv (.tmp 0)⟩,
      ⟨(some 6), none, .mv (.tmp 1)⟩,
      ⟨(some 7), none, .s2b 5 (.tmp 6)⟩,
      ⟨(some 8), none, .call (.func 121) [(.tmp 5), (.tmp 7)]⟩,
      ⟨(some 4), none, .mv (.tmp 8)⟩])
    .ret))
theorem F97 : compF Try.prog 97 = some ⟨2, 9, [.tmp 4], c97⟩ := by kernel_rfl
theorem B97 : Bod Try.prog 97 := bod_of F97
/-- quaestor/contract.Put$1 -/
def c98 : ACode :=
  (.seq
   (.reg [
     ⟨(some 3), none, .box (.tmp 1)⟩,
     ⟨(some 4), none, .mv (.const (.slice none 0 0))⟩])
   (.seq
    (.dreg 9 [
      ⟨(some 5), none, .mv (.tmp 0)⟩,
      ⟨(some 6), none, .fad 0 (.tmp 3)⟩,
      ⟨(some 7), none, .load false 1 (.tmp 6)⟩,
      ⟨(some 8), none, .call (.func 97) [(.tmp 5), (.tmp 7)]⟩,
      ⟨(some 9), none, .fad 1 (.tmp 3)⟩,
      ⟨(some 10), none, .load false 1 (.tmp 9)⟩,
      ⟨(some 11), none, .call (.func 100) [(.tmp 8), (.tmp 10)]⟩,
      ⟨(some 12), none, .fad 2 (.tmp 3)⟩,
      ⟨(some 13), none, .load false 1 (.tmp 12)⟩,
      ⟨(some 14), none, .call (.func 99) [(.tmp 11), (.tmp 13), (.func 97)]⟩,
      ⟨(some 0), none, .mv (.tmp 14)⟩])
    (.seq
     (.reg [
       ⟨(some 15), none, .mv (.tmp 0)⟩,
       ⟨(some 16), none, .fad 3 (.tmp 3)⟩,
       ⟨(some 17), none, .load true 5 (.tmp 16)⟩,
       ⟨(some 18), none, .call (.func 101) [(.tmp 15), (.tmp 17)]⟩,
       ⟨(some 4), none, .mv (.tmp 18)⟩])
     .ret)))
theorem F98 : compF Try.prog 98 = some ⟨2, 19, [.tmp 4], c98⟩ := by kernel_rfl
theorem B98 : Bod Try.prog 98 := bod_of F98
/-- quaestor/contract.list(string) -/
def c99 : ACode :=
  (.seq
   (.reg [
     ⟨(some 6), none, .mv (.const (.slice none 0 0))⟩])
   (.seq
    (.reg [
      ⟨(some 9), none, .mv (.tmp 0)⟩,
      ⟨(some 10), none, .mv (.tmp 1)⟩,
      ⟨(some 11), none, .len false (.tmp 10)⟩,
      ⟨(some 12), none, .call (.func 122) [(.tmp 9), (.tmp 11)]⟩,
      ⟨(some 0), none, .mv (.tmp 12)⟩])
    (.seq
     (.seq
      (.reg [
        ⟨(some 13), none, .mv (.tmp 1)⟩,
        ⟨(some 14), none, .len false (.tmp 13)⟩,
        ⟨(some 15), none, .mv (.const (.int .i64 0))⟩])
      (.block 0
       (.loop
        (.seq
         (.reg [
           ⟨(some 16), none, .bin .lss .other (.tmp 15) (.tmp 14)⟩])
         (.seq
          (.cond (.tmp 16)
           .skip
           (.exit 0))
          (.seq
           (.block 1
            (.seq
             (.reg [
               ⟨(some 17), none, .iad 1 (.tmp 13) (.tmp 15)⟩,
               ⟨(some 18), none, .load false 1 (.tmp 17)⟩,
               ⟨(some 8), none, .mv (.tmp 18)⟩])
             (.reg [
               ⟨(some 19), none, .mv (.tmp 2)⟩,
               ⟨(some 20), none, .mv (.tmp 0)⟩,
               ⟨(some 21), none, .mv (.tmp 8)⟩,
               ⟨(some 22), none, .call (.tmp 19) [(.tmp 20), (.tmp 21)]⟩,
               ⟨(some 0), none, .mv (.tmp 22)⟩])))
           (.reg [
             ⟨(some 23), none, .bin .add .other (.tmp 15) (.const (.int .i64 1))⟩,
             ⟨(some 15), none, .mv (.tmp 23)⟩])))))))
     (.seq
      (.reg [
        ⟨(some 24), none, .mv (.tmp 0)⟩,
        ⟨(some 6), none, .mv (.tmp 24)⟩])
      .ret))))
theorem F99 : compF Try.prog 99 = some ⟨3, 25, [.tmp 6], c99⟩ := by kernel_rfl
theorem B99 : Bod Try.prog 99 := bod_of F99
/-- quaestor/contract.number -/
def c100 : ACode :=
  (.seq
   (.reg [
     ⟨(some 4), none, .mv (.const (.slice none 0 0))⟩])
   (.seq
    (.reg [
      ⟨(some 5), none, .mv (.tmp 0)⟩,
      ⟨(some 6), none, .mv (.tmp 1)⟩,
      ⟨(some 7), none, .call (.func 123) [(.tmp 5), (.tmp 6)]⟩,
      ⟨(some 4), none, .mv (.tmp 7)⟩])
    .ret))
theorem F100 : compF Try.prog 100 = some ⟨2, 8, [.tmp 4], c100⟩ := by kernel_rfl
theorem B100 : Bod Try.prog 100 := bod_of F100
/-- quaestor/value.Put -/
def c101 : ACode :=
  (.seq
   (.reg [
     ⟨(some 3), none, .box (.tmp 1)⟩,
     ⟨(some 4), none, .mv (.const (.slice none 0 0))⟩])
   (.seq
    (.reg [
      ⟨(some 5), none, .mv (.tmp 0)⟩,
      ⟨(some 6), none, .fad 0 (.tmp 3)⟩,
      ⟨(some 7), none, .load false 1 (.tmp 6)⟩,
      ⟨(some 8), none, .call (.func 123) [(.tmp 5), (.tmp 7)]⟩,
      ⟨(some 0), none, .mv (.tmp 8)⟩])
    (.seq
     (.seq
      (.reg [
        ⟨(some 9), none, .fad 0 (.tmp 3)⟩,
        ⟨(some 10), none, .load false 1 (.tmp 9)⟩])
      (.block 0
       (.seq
        (.reg [
          ⟨(some 12), none, .bin .eql .other (.tmp 10) (.const (.int .i64 1))⟩,
          ⟨(some 11), none, .mv (.tmp 12)⟩])
        (.cond (.tmp 11)
         (.reg [
           ⟨(some 13), none, .mv (.tmp 0)⟩,
           ⟨(some 14), none, .fad 1 (.tmp 3)⟩,
           ⟨(some 15), none, .load false 1 (.tmp 14)⟩,
           ⟨(some 16), none, .call (.func 123) [(.tmp 13), (.tmp 15)]⟩,
           ⟨(some 0), none, .mv (.tmp 16)⟩])
         (.seq
          (.reg [
            ⟨(some 18), none, .bin .eql .other (.tmp 10) (.const (.int .i64 2))⟩,
            ⟨(some 17), none, .mv (.tmp 18)⟩])
          (.cond (.tmp 17)
           (.reg [
             ⟨(some 19), none, .mv (.tmp 0)⟩,
             ⟨(some 20), none, .fad 2 (.tmp 3)⟩,
             ⟨(some 21), none, .load false 1 (.tmp 20)⟩,
             ⟨(some 22), none, .call (.func 148) [(.tmp 19), (.tmp 21)]⟩,
             ⟨(some 0), none, .mv (.tmp 22)⟩])
           (.seq
            (.reg [
              ⟨(some 24), none, .bin .eql .other (.tmp 10) (.const (.int .i64 3))⟩,
              ⟨(some 23), none, .mv (.tmp 24)⟩])
            (.cond (.tmp 23)
             (.reg [
               ⟨(some 25), none, .mv (.tmp 0)⟩,
               ⟨(some 26), none, .fad 3 (.tmp 3)⟩,
               ⟨(some 27), none, .load false 1 (.tmp 26)⟩,
               ⟨(some 28), none, .s2b 5 (.tmp 27)⟩,
               ⟨(some 29), none, .call (.func 121) [(.tmp 25), (.tmp 28)]⟩,
               ⟨(some 0), none, .mv (.tmp 29)⟩])
             (.seq
              (.reg [
                ⟨(some 31), none, .bin .eql .other (.tmp 10) (.const (.int .i64 4))⟩,
                ⟨(some 30), none, .mv (.tmp 31)⟩])
              (.cond (.tmp 30)
               (.reg [
                 ⟨(some 32), none, .mv (.tmp 0)⟩,
                 ⟨(some 33), none, .fad 4 (.tmp 3)⟩,
                 ⟨(some 34), none, .load false 1 (.tmp 33)⟩,
                 ⟨(some 35), none, .call (.func 149) [(.tmp 32), (.tmp 34)]⟩,
                 ⟨(some 0), none, .mv (.tmp 35)⟩])
               .skip))))))))))
     (.seq
      (.reg [
        ⟨(some 36), none, .mv (.tmp 0)⟩,
        ⟨(some 4), none, .mv (.tmp 36)⟩])
      .ret))))
theorem F101 : compF Try.prog 101 = some ⟨2, 37, [.tmp 4], c101⟩ := by kernel_rfl
theorem B101 : Bod Try.prog 101 := bod_of F101
/-- quaestor/contract.list(quaestor/api.Stage) -/
def c102 : ACode :=
  (.seq
   (.reg [
     ⟨(some 6), none, .mv (.const (.slice none 0 0))⟩])
   (.seq
    (.reg [
      ⟨(some 9), none, .mv (.tmp 0)⟩,
      ⟨(some 10), none, .mv (.tmp 1)⟩,
      ⟨(some 11), none, .len false (.tmp 10)⟩,
      ⟨(some 12), none, .call (.func 122) [(.tmp 9), (.tmp 11)]⟩,
      ⟨(some 0), none, .mv (.tmp 12)⟩])
    (.seq
     (.seq
      (.reg [
        ⟨(some 13), none, .mv (.tmp 1)⟩,
        ⟨(some 14), none, .len false (.tmp 13)⟩,
        ⟨(some 15), none, .mv (.const (.int .i64 0))⟩])
      (.block 0
       (.loop
        (.seq
         (.reg [
           ⟨(some 16), none, .bin .lss .other (.tmp 15) (.tmp 14)⟩])
         (.seq
          (.cond (.tmp 16)
           .skip
           (.exit 0))
          (.seq
           (.block 1
            (.seq
             (.reg [
               ⟨(some 17), none, .iad 3 (.tmp 13) (.tmp 15)⟩,
               ⟨(some 18), none, .load true 3 (.tmp 17)⟩,
               ⟨(some 8), none, .alloc [.string ⟨#[]⟩, .int .i64 0, .slice none 0 0]⟩,
               ⟨none, none, .store 3 (.tmp 8) (.tmp 18)⟩])
             (.reg [
               ⟨(some 19), none, .mv (.tmp 2)⟩,
               ⟨(some 20), none, .mv (.tmp 0)⟩,
               ⟨(some 21), none, .load true 3 (.tmp 8)⟩,
               ⟨(some 22), none, .call (.tmp 19) [(.tmp 20), (.tmp 21)]⟩,
               ⟨(some 0), none, .mv (.tmp 22)⟩])))
           (.reg [
             ⟨(some 23), none, .bin .add .other (.tmp 15) (.const (.int .i64 1))⟩,
             ⟨(some 15), none, .mv (.tmp 23)⟩])))))))
     (.seq
      (.reg [
        ⟨(some 24), none, .mv (.tmp 0)⟩,
        ⟨(some 6), none, .mv (.tmp 24)⟩])
      .ret))))
theorem F102 : compF Try.prog 102 = some ⟨3, 25, [.tmp 6], c102⟩ := by kernel_rfl
theorem B102 : Bod Try.prog 102 := bod_of F102
/-- quaestor/contract.Put$2 -/
def c103 : ACode :=
  (.seq
   (.reg [
     ⟨(some 3), none, .box (.tmp 1)⟩,
     ⟨(some 4), none, .mv (.const (.slice none 0 0))⟩])
   (.seq
    (.dreg 9 [
      ⟨(some 5), none, .mv (.tmp 0)⟩,
      ⟨(some 6), none, .fad 0 (.tmp 3)⟩,
      ⟨(some 7), none, .load false 1 (.tmp 6)⟩,
      ⟨(some 8), none, .call (.func 97) [(.tmp 5), (.tmp 7)]⟩,
      ⟨(some 9), none, .fad 1 (.tmp 3)⟩,
      ⟨(some 10), none, .load false 1 (.tmp 9)⟩,
      ⟨(some 11), none, .call (.func 100) [(.tmp 8), (.tmp 10)]⟩,
      ⟨(some 12), none, .fad 2 (.tmp 3)⟩,
      ⟨(some 13), none, .load false 1 (.tmp 12)⟩,
      ⟨(some 14), none, .call (.func 104) [(.tmp 11), (.tmp 13), (.func 100)]⟩,
      ⟨(some 4), none, .mv (.tmp 14)⟩])
    .ret))
theorem F103 : compF Try.prog 103 = some ⟨2, 15, [.tmp 4], c103⟩ := by kernel_rfl
theorem B103 : Bod Try.prog 103 := bod_of F103
/-- quaestor/contract.list(int) -/
def c104 : ACode :=
  (.seq
   (.reg [
     ⟨(some 6), none, .mv (.const (.slice none 0 0))⟩])
   (.seq
    (.reg [
      ⟨(some 9), none, .mv (.tmp 0)⟩,
      ⟨(some 10), none, .mv (.tmp 1)⟩,
      ⟨(some 11), none, .len false (.tmp 10)⟩,
      ⟨(some 12), none, .call (.func 122) [(.tmp 9), (.tmp 11)]⟩,
      ⟨(some 0), none, .mv (.tmp 12)⟩])
    (.seq
     (.seq
      (.reg [
        ⟨(some 13), none, .mv (.tmp 1)⟩,
        ⟨(some 14), none, .len false (.tmp 13)⟩,
        ⟨(some 15), none, .mv (.const (.int .i64 0))⟩])
      (.block 0
       (.loop
        (.seq
         (.reg [
           ⟨(some 16), none, .bin .lss .other (.tmp 15) (.tmp 14)⟩])
         (.seq
          (.cond (.tmp 16)
           .skip
           (.exit 0))
          (.seq
           (.block 1
            (.seq
             (.reg [
               ⟨(some 17), none, .iad 1 (.tmp 13) (.tmp 15)⟩,
               ⟨(some 18), none, .load false 1 (.tmp 17)⟩,
               ⟨(some 8), none, .mv (.tmp 18)⟩])
             (.reg [
               ⟨(some 19), none, .mv (.tmp 2)⟩,
               ⟨(some 20), none, .mv (.tmp 0)⟩,
               ⟨(some 21), none, .mv (.tmp 8)⟩,
               ⟨(some 22), none, .call (.tmp 19) [(.tmp 20), (.tmp 21)]⟩,
               ⟨(some 0), none, .mv (.tmp 22)⟩])))
           (.reg [
             ⟨(some 23), none, .bin .add .other (.tmp 15) (.const (.int .i64 1))⟩,
             ⟨(some 15), none, .mv (.tmp 23)⟩])))))))
     (.seq
      (.reg [
        ⟨(some 24), none, .mv (.tmp 0)⟩,
        ⟨(some 6), none, .mv (.tmp 24)⟩])
      .ret))))
theorem F104 : compF Try.prog 104 = some ⟨3, 25, [.tmp 6], c104⟩ := by kernel_rfl
theorem B104 : Bod Try.prog 104 := bod_of F104
/-- quaestor/contract.list(quaestor/api.Move) -/
def c105 : ACode :=
  (.seq
   (.reg [
     ⟨(some 6), none, .mv (.const (.slice none 0 0))⟩])
   (.seq
    (.reg [
      ⟨(some 9), none, .mv (.tmp 0)⟩,
      ⟨(some 10), none, .mv (.tmp 1)⟩,
      ⟨(some 11), none, .len false (.tmp 10)⟩,
      ⟨(some 12), none, .call (.func 122) [(.tmp 9), (.tmp 11)]⟩,
      ⟨(some 0), none, .mv (.tmp 12)⟩])
    (.seq
     (.seq
      (.reg [
        ⟨(some 13), none, .mv (.tmp 1)⟩,
        ⟨(some 14), none, .len false (.tmp 13)⟩,
        ⟨(some 15), none, .mv (.const (.int .i64 0))⟩])
      (.block 0
       (.loop
        (.seq
         (.reg [
           ⟨(some 16), none, .bin .lss .other (.tmp 15) (.tmp 14)⟩])
         (.seq
          (.cond (.tmp 16)
           .skip
           (.exit 0))
          (.seq
           (.block 1
            (.seq
             (.reg [
               ⟨(some 17), none, .iad 13 (.tmp 13) (.tmp 15)⟩,
               ⟨(some 18), none, .load true 13 (.tmp 17)⟩,
               ⟨(some 8), none, .alloc [.string ⟨#[]⟩, .int .i64 0, .int .i64 0, .int .i64 0, .slice none 0 0, .string ⟨#[]⟩, .int .i64 0, .int .i64 0, .bool false, .string ⟨#[]⟩, .float .f64 0, .slice none 0 0, .int .i64 0]⟩,
               ⟨none, none, .store 13 (.tmp 8) (.tmp 18)⟩])
             (.reg [
               ⟨(some 19), none, .mv (.tmp 2)⟩,
               ⟨(some 20), none, .mv (.tmp 0)⟩,
               ⟨(some 21), none, .load true 13 (.tmp 8)⟩,
               ⟨(some 22), none, .call (.tmp 19) [(.tmp 20), (.tmp 21)]⟩,
               ⟨(some 0), none, .mv (.tmp 22)⟩])))
           (.reg [
             ⟨(some 23), none, .bin .add .other (.tmp 15) (.const (.int .i64 1))⟩,
             ⟨(some 15), none, .mv (.tmp 23)⟩])))))))
     (.seq
      (.reg [
        ⟨(some 24), none, .mv (.tmp 0)⟩,
        ⟨(some 6), none, .mv (.tmp 24)⟩])
      .ret))))
theorem F105 : compF Try.prog 105 = some ⟨3, 25, [.tmp 6], c105⟩ := by kernel_rfl
theorem B105 : Bod Try.prog 105 := bod_of F105
/-- quaestor/contract.Put$3 -/
def c106 : ACode :=
  (.seq
   (.reg [
     ⟨(some 3), none, .box (.tmp 1)⟩,
     ⟨(some 4), none, .mv (.const (.slice none 0 0))⟩])
   (.seq
    (.dreg 12 [
      ⟨(some 5), none, .mv (.tmp 0)⟩,
      ⟨(some 6), none, .fad 0 (.tmp 3)⟩,
      ⟨(some 7), none, .load false 1 (.tmp 6)⟩,
      ⟨(some 8), none, .call (.func 97) [(.tmp 5), (.tmp 7)]⟩,
      ⟨(some 9), none, .fad 1 (.tmp 3)⟩,
      ⟨(some 10), none, .load false 1 (.tmp 9)⟩,
      ⟨(some 11), none, .call (.func 100) [(.tmp 8), (.tmp 10)]⟩,
      ⟨(some 12), none, .fad 2 (.tmp 3)⟩,
      ⟨(some 13), none, .load false 1 (.tmp 12)⟩,
      ⟨(some 14), none, .call (.func 100) [(.tmp 11), (.tmp 13)]⟩,
      ⟨(some 15), none, .fad 12 (.tmp 3)⟩,
      ⟨(some 16), none, .load false 1 (.tmp 15)⟩,
      ⟨(some 17), none, .call (.func 100) [(.tmp 14), (.tmp 16)]⟩,
      ⟨(some 0), none, .mv (.tmp 17)⟩])
    (.seq
     (.dreg 6 [
       ⟨(some 18), none, .mv (.tmp 0)⟩,
       ⟨(some 19), none, .fad 3 (.tmp 3)⟩,
       ⟨(some 20), none, .load true 8 (.tmp 19)⟩,
       ⟨(some 21), none, .call (.func 24) [(.tmp 18), (.tmp 20)]⟩,
       ⟨(some 22), none, .fad 11 (.tmp 3)⟩,
       ⟨(some 23), none, .load false 1 (.tmp 22)⟩,
       ⟨(some 24), none, .call (.func 107) [(.tmp 21), (.tmp 23), (.func 108)]⟩,
       ⟨(some 4), none, .mv (.tmp 24)⟩])
     .ret)))
theorem F106 : compF Try.prog 106 = some ⟨2, 25, [.tmp 4], c106⟩ := by kernel_rfl
theorem B106 : Bod Try.prog 106 := bod_of F106
/-- quaestor/contract.list(quaestor/api.Effect) -/
def c107 : ACode :=
  (.seq
   (.reg [
     ⟨(some 6), none, .mv (.const (.slice none 0 0))⟩])
   (.seq
    (.reg [
      ⟨(some 9), none, .mv (.tmp 0)⟩,
      ⟨(some 10), none, .mv (.tmp 1)⟩,
      ⟨(some 11), none, .len false (.tmp 10)⟩,
      ⟨(some 12), none, .call (.func 122) [(.tmp 9), (.tmp 11)]⟩,
      ⟨(some 0), none, .mv (.tmp 12)⟩])
    (.seq
     (.seq
      (.reg [
        ⟨(some 13), none, .mv (.tmp 1)⟩,
        ⟨(some 14), none, .len false (.tmp 13)⟩,
        ⟨(some 15), none, .mv (.const (.int .i64 0))⟩])
      (.block 0
       (.loop
        (.seq
         (.reg [
           ⟨(some 16), none, .bin .lss .other (.tmp 15) (.tmp 14)⟩])
         (.seq
          (.cond (.tmp 16)
           .skip
           (.exit 0))
          (.seq
           (.block 1
            (.seq
             (.reg [
               ⟨(some 17), none, .iad 9 (.tmp 13) (.tmp 15)⟩,
               ⟨(some 18), none, .load true 9 (.tmp 17)⟩,
               ⟨(some 8), none, .alloc [.string ⟨#[]⟩, .int .i64 0, .slice none 0 0, .string ⟨#[]⟩, .int .i64 0, .int .i64 0, .bool false, .string ⟨#[]⟩, .float .f64 0]⟩,
               ⟨none, none, .store 9 (.tmp 8) (.tmp 18)⟩])
             (.reg [
               ⟨(some 19), none, .mv (.tmp 2)⟩,
               ⟨(some 20), none, .mv (.tmp 0)⟩,
               ⟨(some 21), none, .load true 9 (.tmp 8)⟩,
               ⟨(some 22), none, .call (.tmp 19) [(.tmp 20), (.tmp 21)]⟩,
               ⟨(some 0), none, .mv (.tmp 22)⟩])))
           (.reg [
             ⟨(some 23), none, .bin .add .other (.tmp 15) (.const (.int .i64 1))⟩,
             ⟨(some 15), none, .mv (.tmp 23)⟩])))))))
     (.seq
      (.reg [
        ⟨(some 24), none, .mv (.tmp 0)⟩,
        ⟨(some 6), none, .mv (.tmp 24)⟩])
      .ret))))
theorem F107 : compF Try.prog 107 = some ⟨3, 25, [.tmp 6], c107⟩ := by kernel_rfl
theorem B107 : Bod Try.prog 107 := bod_of F107
/-- quaestor/contract.Put$3$1 -/
def c108 : ACode :=
  (.seq
   (.reg [
     ⟨(some 3), none, .box (.tmp 1)⟩,
     ⟨(some 4), none, .mv (.const (.slice none 0 0))⟩])
   (.seq
    (.dreg 6 [
      ⟨(some 5), none, .mv (.tmp 0)⟩,
      ⟨(some 6), none, .fad 0 (.tmp 3)⟩,
      ⟨(some 7), none, .load false 1 (.tmp 6)⟩,
      ⟨(some 8), none, .call (.func 97) [(.tmp 5), (.tmp 7)]⟩,
      ⟨(some 9), none, .fad 1 (.tmp 3)⟩,
      ⟨(some 10), none, .load true 8 (.tmp 9)⟩,
      ⟨(some 11), none, .call (.func 24) [(.tmp 8), (.tmp 10)]⟩,
      ⟨(some 4), none, .mv (.tmp 11)⟩])
    .ret))
theorem F108 : compF Try.prog 108 = some ⟨2, 12, [.tmp 4], c108⟩ := by kernel_rfl
theorem B108 : Bod Try.prog 108 := bod_of F108
/-- quaestor/contract.find(quaestor/api.Field)$1 -/
def c109 : ACode :=
  (.seq
   (.reg [
     ⟨(some 3), none, .box (.tmp 0)⟩,
     ⟨(some 4), none, .mv (.const (.bool false))⟩])
   (.seq
    (.dreg 4 [
      ⟨(some 5), none, .load false 1 (.tmp 1)⟩,
      ⟨(some 6), none, .load true 8 (.tmp 3)⟩,
      ⟨(some 7), none, .call (.tmp 5) [(.tmp 6)]⟩,
      ⟨(some 8), none, .load false 1 (.tmp 2)⟩,
      ⟨(some 9), none, .bin .eql .other (.tmp 7) (.tmp 8)⟩,
      ⟨(some 4), none, .mv (.tmp 9)⟩])
    .ret))
theorem F109 : compF Try.prog 109 = some ⟨3, 10, [.tmp 4], c109⟩ := by kernel_rfl
theorem B109 : Bod Try.prog 109 := bod_of F109
/-- quaestor/contract.find(quaestor/api.Stage)$1 -/
def c110 : ACode :=
  (.seq
   (.reg [
     ⟨(some 3), none, .box (.tmp 0)⟩,
     ⟨(some 4), none, .mv (.const (.bool false))⟩])
   (.seq
    (.dreg 4 [
      ⟨(some 5), none, .load false 1 (.tmp 1)⟩,
      ⟨(some 6), none, .load true 3 (.tmp 3)⟩,
      ⟨(some 7), none, .call (.tmp 5) [(.tmp 6)]⟩,
      ⟨(some 8), none, .load false 1 (.tmp 2)⟩,
      ⟨(some 9), none, .bin .eql .other (.tmp 7) (.tmp 8)⟩,
      ⟨(some 4), none, .mv (.tmp 9)⟩])
    .ret))
theorem F110 : compF Try.prog 110 = some ⟨3, 10, [.tmp 4], c110⟩ := by kernel_rfl
theorem B110 : Bod Try.prog 110 := bod_of F110
/-- quaestor/contract.find(quaestor/api.Move)$1 -/
def c111 : ACode :=
  (.seq
   (.reg [
     ⟨(some 3), none, .box (.tmp 0)⟩,
     ⟨(some 4), none, .mv (.const (.bool false))⟩])
   (.seq
    (.dreg 4 [
      ⟨(some 5), none, .load false 1 (.tmp 1)⟩,
      ⟨(some 6), none, .load true 13 (.tmp 3)⟩,
      ⟨(some 7), none, .call (.tmp 5) [(.tmp 6)]⟩,
      ⟨(some 8), none, .load false 1 (.tmp 2)⟩,
      ⟨(some 9), none, .bin .eql .other (.tmp 7) (.tmp 8)⟩,
      ⟨(some 4), none, .mv (.tmp 9)⟩])
    .ret))
theorem F111 : compF Try.prog 111 = some ⟨3, 10, [.tmp 4], c111⟩ := by kernel_rfl
theorem B111 : Bod Try.prog 111 := bod_of F111
/-- (*quaestor/expr.budget).spend -/
def c120 : ACode :=
  (.seq
   (.reg [
     ⟨(some 4), none, .box (.tmp 1)⟩,
     ⟨(some 6), none, .mv (.const (.bool false))⟩])
   (.seq
    (.seq
     (.reg [
       ⟨(some 9), none, .mv (.tmp 0)⟩,
       ⟨(some 10), none, .nilc (.tmp 9)⟩,
       ⟨(some 11), none, .fad 0 (.tmp 10)⟩,
       ⟨(some 12), none, .load false 1 (.tmp 11)⟩,
       ⟨(some 13), none, .bin .sub .other (.tmp 12) (.const (.int .i64 1))⟩,
       ⟨(some 14), none, .nilc (.tmp 9)⟩,
       ⟨(some 15), none, .fad 0 (.tmp 14)⟩,
       ⟨none, none, .store 1 (.tmp 15) (.tmp 13)⟩])
     (.seq
      (.reg [
        ⟨(some 16), none, .mv (.tmp 0)⟩,
        ⟨(some 17), none, .nilc (.tmp 16)⟩,
        ⟨(some 18), none, .fad 0 (.tmp 17)⟩,
        ⟨(some 19), none, .load false 1 (.tmp 18)⟩,
        ⟨(some 20), none, .bin .lss .other (.tmp 19) (.const (.int .i64 0))⟩,
        ⟨(some 21), none, .mv (.tmp 20)⟩,
        ⟨(some 22), (some (21, false)), .mv (.tmp 2)⟩,
        ⟨(some 23), (some (21, false)), .bin .eql .other (.tmp 22) (.const (.int .i64 0))⟩,
        ⟨(some 24), none, .pick (.tmp 21) (.const (.bool true)) (.tmp 23)⟩])
      (.cond (.tmp 24)
       (.seq
        (.reg [
          ⟨(some 6), none, .mv (.const (.bool false))⟩])
        .ret)
       .skip)))
    (.seq
     (.seq
      (.reg [
        ⟨(some 25), none, .fad 1 (.tmp 4)⟩,
        ⟨(some 26), none, .load false 1 (.tmp 25)⟩,
        ⟨(some 27), none, .len false (.tmp 26)⟩,
        ⟨(some 28), none, .mv (.const (.int .i64 0))⟩])
      (.block 0
       (.loop
        (.seq
         (.reg [
           ⟨(some 29), none, .bin .lss .other (.tmp 28) (.tmp 27)⟩])
         (.seq
          (.cond (.tmp 29)
           .skip
           (.exit 0))
          (.seq
           (.block 1
            (.seq
             (.reg [
               ⟨(some 30), none, .iad 8 (.tmp 26) (.tmp 28)⟩,
               ⟨(some 31), none, .load true 8 (.tmp 30)⟩,
               ⟨(some 8), none, .alloc [.int .i64 0, .slice none 0 0, .string ⟨#[]⟩, .int .i64 0, .int .i64 0, .bool false, .string ⟨#[]⟩, .float .f64 0]⟩,
               ⟨none, none, .store 8 (.tmp 8) (.tmp 31)⟩])
             (.seq
              (.reg [
                ⟨(some 32), none, .mv (.tmp 0)⟩,
                ⟨(some 33), none, .load true 8 (.tmp 8)⟩,
                ⟨(some 34), none, .mv (.tmp 2)⟩,
                ⟨(some 35), none, .bin .sub .other (.tmp 34) (.const (.int .i64 1))⟩,
                ⟨(some 36), none, .call (.func 120) [(.tmp 32), (.tmp 33), (.tmp 35)]⟩,
                ⟨(some 37), none, .un .not (.tmp 36)⟩])
              (.cond (.tmp 37)
               (.seq
                (.reg [
                  ⟨(some 6), none, .mv (.const (.bool false))⟩])
                .ret)
               .skip))))
           (.reg [
             ⟨(some 38), none, .bin .add .other (.tmp 28) (.const (.int .i64 1))⟩,
             ⟨(some 28), none, .mv (.tmp 38)⟩])))))))
     (.seq
      (.reg [
        ⟨(some 6), none, .mv (.const (.bool true))⟩])
      .ret))))
theorem F120 : compF Try.prog 120 = some ⟨3, 39, [.tmp 6], c120⟩ := by kernel_rfl
theorem B120 : Bod Try.prog 120 := bod_of F120
/-- quaestor/wire.PutBytes -/
def c121 : ACode :=
  (.seq
   (.reg [
     ⟨(some 4), none, .mv (.const (.slice none 0 0))⟩])
   (.seq
    (.reg [
      ⟨(some 5), none, .mv (.tmp 0)⟩,
      ⟨(some 6), none, .mv (.tmp 1)⟩,
      ⟨(some 7), none, .len false (.tmp 6)⟩,
      ⟨(some 8), none, .call (.func 122) [(.tmp 5), (.tmp 7)]⟩,
      ⟨(some 9), none, .mv (.tmp 1)⟩,
      ⟨(some 10), none, .app 1 1 [.int .u8 0] 5 (.tmp 8) (.tmp 9)⟩,
      ⟨(some 4), none, .mv (.tmp 10)⟩])
    .ret))
theorem F121 : compF Try.prog 121 = some ⟨2, 11, [.tmp 4], c121⟩ := by kernel_rfl
theorem B121 : Bod Try.prog 121 := bod_of F121
/-- quaestor/wire.PutCount -/
def c122 : ACode :=
  (.seq
   (.reg [
     ⟨(some 4), none, .mv (.const (.slice none 0 0))⟩])
   (.seq
    (.reg [
      ⟨(some 5), none, .mv (.tmp 0)⟩,
      ⟨(some 6), none, .mv (.tmp 1)⟩,
      ⟨(some 7), none, .mm true [(.tmp 6), (.const (.int .i64 0))]⟩,
      ⟨(some 8), none, .mm false [(.tmp 7), (.const (.int .i64 4294967295))]⟩,
      ⟨(some 9), none, .cvi .u64 (.tmp 8)⟩,
      ⟨(some 10), none, .call (.func 158) [(.tmp 5), (.tmp 9), (.const (.int .i64 4))]⟩,
      ⟨(some 4), none, .mv (.tmp 10)⟩])
    .ret))
theorem F122 : compF Try.prog 122 = some ⟨2, 11, [.tmp 4], c122⟩ := by kernel_rfl
theorem B122 : Bod Try.prog 122 := bod_of F122
/-- quaestor/wire.PutInt -/
def c123 : ACode :=
  (.seq
   (.reg [
     ⟨(some 4), none, .mv (.const (.slice none 0 0))⟩])
   (.seq
    (.reg [
      ⟨(some 5), none, .mv (.tmp 0)⟩,
      ⟨(some 6), none, .mv (.tmp 1)⟩,
      ⟨(some 7), none, .cvi .u64 (.tmp 6)⟩,
      ⟨(some 8), none, .call (.func 158) [(.tmp 5), (.tmp 7), (.const (.int .i64 8))]⟩,
      ⟨(some 4), none, .mv (.tmp 8)⟩])
    .ret))
theorem F123 : compF Try.prog 123 = some ⟨2, 9, [.tmp 4], c123⟩ := by kernel_rfl
theorem B123 : Bod Try.prog 123 := bod_of F123
/-- quaestor/quaestorref01.Int -/
def c124 : ACode :=
  (.seq
   (.reg [
     ⟨(some 4), none, .mv (.const (.slice none 0 0))⟩])
   (.seq
    (.reg [
      ⟨(some 5), none, .mv (.tmp 0)⟩,
      ⟨(some 6), none, .mv (.tmp 1)⟩,
      ⟨(some 7), none, .cvi .u64 (.tmp 6)⟩,
      ⟨(some 8), none, .call (.func 159) [(.tmp 5), (.tmp 7), (.const (.int .i64 8))]⟩,
      ⟨(some 4), none, .mv (.tmp 8)⟩])
    .ret))
theorem F124 : compF Try.prog 124 = some ⟨2, 9, [.tmp 4], c124⟩ := by kernel_rfl
theorem B124 : Bod Try.prog 124 := bod_of F124
/-- quaestor/quaestorref01.Count -/
def c125 : ACode :=
  (.seq
   (.reg [
     ⟨(some 4), none, .mv (.const (.slice none 0 0))⟩])
   (.seq
    (.reg [
      ⟨(some 5), none, .mv (.tmp 0)⟩,
      ⟨(some 6), none, .mv (.tmp 1)⟩,
      ⟨(some 7), none, .mm false [(.tmp 6), (.const (.int .i64 4294967295))]⟩,
      ⟨(some 8), none, .mm true [(.const (.int .i64 0)), (.tmp 7)]⟩,
      ⟨(some 9), none, .cvi .u64 (.tmp 8)⟩,
      ⟨(some 10), none, .call (.func 159) [(.tmp 5), (.tmp 9), (.const (.int .i64 4))]⟩,
      ⟨(some 4), none, .mv (.tmp 10)⟩])
    .ret))
theorem F125 : compF Try.prog 125 = some ⟨2, 11, [.tmp 4], c125⟩ := by kernel_rfl
theorem B125 : Bod Try.prog 125 := bod_of F125
/-- quaestor/quaestorref01.Bytes -/
def c126 : ACode :=
  (.seq
   (.reg [
     ⟨(some 4), none, .mv (.const (.slice none 0 0))⟩])
   (.seq
    (.reg [
      ⟨(some 6), none, .mv (.tmp 0)⟩,
      ⟨(some 7), none, .mv (.tmp 1)⟩,
      ⟨(some 8), none, .len false (.tmp 7)⟩,
      ⟨(some 9), none, .call (.func 125) [(.tmp 6), (.tmp 8)]⟩,
      ⟨(some 5), none, .mv (.tmp 9)⟩])
    (.seq
     (.reg [
       ⟨(some 10), none, .mv (.tmp 5)⟩,
       ⟨(some 11), none, .mv (.tmp 1)⟩,
       ⟨(some 12), none, .app 1 1 [.int .u8 0] 5 (.tmp 10) (.tmp 11)⟩,
       ⟨(some 4), none, .mv (.tmp 12)⟩])
     .ret)))
theorem F126 : compF Try.prog 126 = some ⟨2, 13, [.tmp 4], c126⟩ := by kernel_rfl
theorem B126 : Bod Try.prog 126 := bod_of F126
/-- quaestor/quaestorref04.Put -/
def c127 : ACode :=
  (.seq
   (.reg [
     ⟨(some 3), none, .box (.tmp 1)⟩,
     ⟨(some 4), none, .mv (.const (.slice none 0 0))⟩])
   (.seq
    (.reg [
      ⟨(some 5), none, .mv (.tmp 0)⟩,
      ⟨(some 6), none, .fad 0 (.tmp 3)⟩,
      ⟨(some 7), none, .load false 1 (.tmp 6)⟩,
      ⟨(some 8), none, .call (.func 124) [(.tmp 5), (.tmp 7)]⟩,
      ⟨(some 0), none, .mv (.tmp 8)⟩])
    (.seq
     (.seq
      (.reg [
        ⟨(some 9), none, .fad 0 (.tmp 3)⟩,
        ⟨(some 10), none, .load false 1 (.tmp 9)⟩])
      (.block 0
       (.seq
        (.reg [
          ⟨(some 12), none, .bin .eql .other (.tmp 10) (.const (.int .i64 1))⟩,
          ⟨(some 11), none, .mv (.tmp 12)⟩])
        (.cond (.tmp 11)
         (.seq
          (.reg [
            ⟨(some 13), none, .mv (.tmp 0)⟩,
            ⟨(some 14), none, .fad 1 (.tmp 3)⟩,
            ⟨(some 15), none, .load false 1 (.tmp 14)⟩,
            ⟨(some 16), none, .call (.func 124) [(.tmp 13), (.tmp 15)]⟩,
            ⟨(some 4), none, .mv (.tmp 16)⟩])
          .ret)
         (.seq
          (.reg [
            ⟨(some 18), none, .bin .eql .other (.tmp 10) (.const (.int .i64 2))⟩,
            ⟨(some 17), none, .mv (.tmp 18)⟩])
          (.cond (.tmp 17)
           (.seq
            (.reg [
              ⟨(some 19), none, .mv (.tmp 0)⟩,
              ⟨(some 20), none, .fad 2 (.tmp 3)⟩,
              ⟨(some 21), none, .load false 1 (.tmp 20)⟩,
              ⟨(some 22), none, .call (.func 160) [(.tmp 19), (.tmp 21)]⟩,
              ⟨(some 4), none, .mv (.tmp 22)⟩])
            .ret)
           (.seq
            (.reg [
              ⟨(some 24), none, .bin .eql .other (.tmp 10) (.const (.int .i64 3))⟩,
              ⟨(some 23), none, .mv (.tmp 24)⟩])
            (.cond (.tmp 23)
             (.seq
              (.reg [
                ⟨(some 25), none, .mv (.tmp 0)⟩,
                ⟨(some 26), none, .fad 3 (.tmp 3)⟩,
                ⟨(some 27), none, .load false 1 (.tmp 26)⟩,
                ⟨(some 28), none, .s2b 5 (.tmp 27)⟩,
                ⟨(some 29), none, .call (.func 126) [(.tmp 25), (.tmp 28)]⟩,
                ⟨(some 4), none, .mv (.tmp 29)⟩])
              .ret)
             (.seq
              (.reg [
                ⟨(some 31), none, .bin .eql .other (.tmp 10) (.const (.int .i64 4))⟩,
                ⟨(some 30), none, .mv (.tmp 31)⟩])
              (.cond (.tmp 30)
               (.seq
                (.reg [
                  ⟨(some 32), none, .mv (.tmp 0)⟩,
                  ⟨(some 33), none, .fad 4 (.tmp 3)⟩,
                  ⟨(some 34), none, .load false 1 (.tmp 33)⟩,
                  ⟨(some 35), none, .call (.func 161) [(.tmp 32), (.tmp 34)]⟩,
                  ⟨(some 4), none, .mv (.tmp 35)⟩])
                .ret)
               .skip))))))))))
     (.seq
      (.reg [
        ⟨(some 36), none, .mv (.tmp 0)⟩,
        ⟨(some 4), none, .mv (.tmp 36)⟩])
      .ret))))
theorem F127 : compF Try.prog 127 = some ⟨2, 37, [.tmp 4], c127⟩ := by kernel_rfl
theorem B127 : Bod Try.prog 127 := bod_of F127
/-- quaestor/quaestorref01.Bits -/
def c128 : ACode :=
  (.seq
   (.reg [
     ⟨(some 2), none, .mv (.const (.int .u64 0))⟩])
   (.seq
    (.seq
     (.reg [
       ⟨(some 3), none, .mv (.tmp 0)⟩,
       ⟨(some 4), none, .mv (.tmp 0)⟩,
       ⟨(some 5), none, .bin .neq .other (.tmp 3) (.tmp 4)⟩])
     (.cond (.tmp 5)
      (.seq
       (.reg [
         ⟨(some 2), none, .mv (.const (.int .u64 9221120237041090561))⟩])
       .ret)
      .skip))
    (.seq
     (.reg [
       ⟨(some 6), none, .mv (.tmp 0)⟩,
       ⟨(some 7), none, .call (.func 162) [(.tmp 6)]⟩,
       ⟨(some 2), none, .mv (.tmp 7)⟩])
     .ret)))
theorem F128 : compF Try.prog 128 = some ⟨1, 8, [.tmp 2], c128⟩ := by kernel_rfl
theorem B128 : Bod Try.prog 128 := bod_of F128
/-- quaestor/value.Good -/
def c129 : ACode :=
  (.seq
   (.reg [
     ⟨(some 1), none, .box (.tmp 0)⟩,
     ⟨(some 2), none, .mv (.const (.bool false))⟩])
   (.seq
    (.reg [
      ⟨(some 6), none, .load true 5 (.tmp 1)⟩,
      ⟨(some 7), none, .call (.func 163) [(.tmp 6)]⟩,
      ⟨(some 5), none, .mv (.tmp 7)⟩,
      ⟨(some 8), none, .ext (.tmp 5) 0⟩,
      ⟨(some 9), none, .ext (.tmp 5) 1⟩,
      ⟨(some 3), none, .alloc [.int .i64 0, .int .i64 0, .bool false, .string ⟨#[]⟩, .float .f64 0]⟩,
      ⟨none, none, .store 5 (.tmp 3) (.tmp 8)⟩,
      ⟨(some 4), none, .mv (.tmp 9)⟩])
    (.seq
     (.reg [
       ⟨(some 10), none, .mv (.tmp 4)⟩,
       ⟨(some 11), none, .mv (.tmp 10)⟩,
       ⟨(some 12), (some (11, true)), .load true 5 (.tmp 1)⟩,
       ⟨(some 13), (some (11, true)), .load true 5 (.tmp 3)⟩,
       ⟨(some 14), (some (11, true)), .call (.func 133) [(.tmp 12), (.tmp 13)]⟩,
       ⟨(some 15), none, .pick (.tmp 11) (.tmp 14) (.const (.bool false))⟩,
       ⟨(some 16), none, .mv (.tmp 15)⟩,
       ⟨(some 17), (some (16, true)), .fad 3 (.tmp 1)⟩,
       ⟨(some 18), (some (16, true)), .load false 1 (.tmp 17)⟩,
       ⟨(some 19), (some (16, true)), .len true (.tmp 18)⟩,
       ⟨(some 20), (some (16, true)), .bin .leq .other (.tmp 19) (.const (.int .i64 32))⟩,
       ⟨(some 21), none, .pick (.tmp 16) (.tmp 20) (.const (.bool false))⟩,
       ⟨(some 2), none, .mv (.tmp 21)⟩])
     .ret)))
theorem F129 : compF Try.prog 129 = some ⟨1, 22, [.tmp 2], c129⟩ := by kernel_rfl
theorem B129 : Bod Try.prog 129 := bod_of F129
/-- quaestor/expr.arity -/
def c132 : ACode :=
  (.seq
   (.reg [
     ⟨(some 2), none, .mv (.const (.int .i64 0))⟩])
   (.seq
    (.seq
     (.reg [
       ⟨(some 3), none, .mv (.tmp 0)⟩])
     (.block 0
      (.seq
       (.seq
        (.reg [
          ⟨(some 5), none, .bin .eql .other (.tmp 3) (.const (.int .i64 1))⟩,
          ⟨(some 4), none, .mv (.tmp 5)⟩])
        (.cond (.tmp 4)
         .skip
         (.reg [
           ⟨(some 6), none, .bin .eql .other (.tmp 3) (.const (.int .i64 2))⟩,
           ⟨(some 4), none, .mv (.tmp 6)⟩])))
       (.cond (.tmp 4)
        (.seq
         (.reg [
           ⟨(some 2), none, .mv (.const (.int .i64 0))⟩])
         .ret)
        (.seq
         (.seq
          (.reg [
            ⟨(some 8), none, .bin .eql .other (.tmp 3) (.const (.int .i64 3))⟩,
            ⟨(some 7), none, .mv (.tmp 8)⟩])
          (.cond (.tmp 7)
           .skip
           (.seq
            (.reg [
              ⟨(some 9), none, .bin .eql .other (.tmp 3) (.const (.int .i64 12))⟩,
              ⟨(some 7), none, .mv (.tmp 9)⟩])
            (.cond (.tmp 7)
             .skip
             (.reg [
               ⟨(some 10), none, .bin .eql .other (.tmp 3) (.const (.int .i64 16))⟩,
               ⟨(some 7), none, .mv (.tmp 10)⟩])))))
         (.cond (.tmp 7)
          (.seq
           (.reg [
             ⟨(some 2), none, .mv (.const (.int .i64 1))⟩])
           .ret)
          (.seq
           (.reg [
             ⟨(some 12), none, .bin .eql .other (.tmp 3) (.const (.int .i64 13))⟩,
             ⟨(some 11), none, .mv (.tmp 12)⟩])
           (.cond (.tmp 11)
            (.seq
             (.reg [
               ⟨(some 2), none, .mv (.const (.int .i64 3))⟩])
             .ret)
            .skip))))))))
    (.seq
     (.seq
      (.reg [
        ⟨(some 13), none, .mv (.tmp 0)⟩,
        ⟨(some 14), none, .bin .geq .other (.tmp 13) (.const (.int .i64 4))⟩,
        ⟨(some 15), none, .mv (.tmp 14)⟩,
        ⟨(some 16), (some (15, true)), .mv (.tmp 0)⟩,
        ⟨(some 17), (some (15, true)), .bin .leq .other (.tmp 16) (.const (.int .i64 16))⟩,
        ⟨(some 18), none, .pick (.tmp 15) (.tmp 17) (.const (.bool false))⟩])
      (.cond (.tmp 18)
       (.seq
        (.reg [
          ⟨(some 2), none, .mv (.const (.int .i64 2))⟩])
        .ret)
       .skip))
     (.seq
      (.reg [
        ⟨(some 2), none, .mv (.const (.int .i64 (-1)))⟩])
      .ret))))
theorem F132 : compF Try.prog 132 = some ⟨1, 19, [.tmp 2], c132⟩ := by kernel_rfl
theorem B132 : Bod Try.prog 132 := bod_of F132
/-- quaestor/value.Same -/
def c133 : ACode :=
  (.seq
   (.reg [
     ⟨(some 2), none, .box (.tmp 0)⟩,
     ⟨(some 3), none, .box (.tmp 1)⟩,
     ⟨(some 4), none, .mv (.const (.bool false))⟩])
   (.seq
    (.dreg 5 [
      ⟨(some 7), none, .fad 4 (.tmp 2)⟩,
      ⟨(some 8), none, .load false 1 (.tmp 7)⟩,
      ⟨(some 9), none, .call (.func 171) [(.tmp 8)]⟩,
      ⟨(some 10), none, .fad 4 (.tmp 3)⟩,
      ⟨(some 11), none, .load false 1 (.tmp 10)⟩,
      ⟨(some 12), none, .call (.func 171) [(.tmp 11)]⟩,
      ⟨(some 5), none, .mv (.tmp 9)⟩,
      ⟨(some 6), none, .mv (.tmp 12)⟩])
    (.seq
     (.reg [
       ⟨(some 13), none, .fad 4 (.tmp 2)⟩,
       ⟨none, none, .store 1 (.tmp 13) (.const (.float .f64 0))⟩,
       ⟨(some 14), none, .fad 4 (.tmp 3)⟩,
       ⟨none, none, .store 1 (.tmp 14) (.const (.float .f64 0))⟩])
     (.seq
      (.reg [
        ⟨(some 15), none, .load true 5 (.tmp 2)⟩,
        ⟨(some 16), none, .load true 5 (.tmp 3)⟩,
        ⟨(some 17), none, .eqs false [0, 0, 1, 2, 3] (.tmp 15) (.tmp 16)⟩,
        ⟨(some 18), none, .mv (.tmp 17)⟩,
        ⟨(some 19), (some (18, true)), .mv (.tmp 5)⟩,
        ⟨(some 20), (some (18, true)), .mv (.tmp 6)⟩,
        ⟨(some 21), (some (18, true)), .bin .eql .other (.tmp 19) (.tmp 20)⟩,
        ⟨(some 22), none, .pick (.tmp 18) (.tmp 21) (.const (.bool false))⟩,
        ⟨(some 4), none, .mv (.tmp 22)⟩])
      .ret))))
theorem F133 : compF Try.prog 133 = some ⟨2, 23, [.tmp 4], c133⟩ := by kernel_rfl
theorem B133 : Bod Try.prog 133 := bod_of F133
/-- quaestor/expr.find -/
def c134 : ACode :=
  (.seq
   (.reg [
     ⟨(some 2), none, .box (.tmp 0)⟩,
     ⟨(some 4), none, .mv (.const (.int .i64 0))⟩])
   (.seq
    (.reg [
      ⟨(some 5), none, .mv (.tmp 1)⟩,
      ⟨(some 6), none, .mkf 172 [] [(.tmp 2)]⟩,
      ⟨(some 7), none, .call (.func 87) [(.tmp 5), (.tmp 6)]⟩,
      ⟨(some 4), none, .mv (.tmp 7)⟩])
    .ret))
theorem F134 : compF Try.prog 134 = some ⟨2, 8, [.tmp 4], c134⟩ := by kernel_rfl
theorem B134 : Bod Try.prog 134 := bod_of F134
/-- quaestor/expr.numeric -/
def c135 : ACode :=
  (.seq
   (.reg [
     ⟨(some 2), none, .mv (.const (.bool false))⟩])
   (.seq
    (.reg [
      ⟨(some 3), none, .mv (.tmp 0)⟩,
      ⟨(some 4), none, .bin .eql .other (.tmp 3) (.const (.int .i64 1))⟩,
      ⟨(some 5), none, .mv (.tmp 4)⟩,
      ⟨(some 6), (some (5, false)), .mv (.tmp 0)⟩,
      ⟨(some 7), (some (5, false)), .bin .eql .other (.tmp 6) (.const (.int .i64 4))⟩,
      ⟨(some 8), none, .pick (.tmp 5) (.const (.bool true)) (.tmp 7)⟩,
      ⟨(some 2), none, .mv (.tmp 8)⟩])
    .ret))
theorem F135 : compF Try.prog 135 = some ⟨1, 9, [.tmp 2], c135⟩ := by kernel_rfl
theorem B135 : Bod Try.prog 135 := bod_of F135
/-- slices.Index(()string,string) -/
def c143 : ACode :=
  (.seq
   (.reg [
     ⟨(some 4), none, .mv (.const (.int .i64 0))⟩])
   (.seq
    (.seq
     (.reg [
       ⟨(some 6), none, .mv (.tmp 0)⟩,
       ⟨(some 7), none, .len false (.tmp 6)⟩,
       ⟨(some 8), none, .mv (.const (.int .i64 0))⟩])
     (.block 0
      (.loop
       (.seq
        (.reg [
          ⟨(some 9), none, .bin .lss .other (.tmp 8) (.tmp 7)⟩])
        (.seq
         (.cond (.tmp 9)
          .skip
          (.exit 0))
         (.seq
          (.block 1
           (.seq
            (.reg [
              ⟨(some 10), none, .mv (.tmp 8)⟩,
              ⟨(some 5), none, .mv (.tmp 10)⟩])
            (.seq
             (.reg [
               ⟨(some 11), none, .mv (.tmp 1)⟩,
               ⟨(some 12), none, .mv (.tmp 0)⟩,
               ⟨(some 13), none, .mv (.tmp 5)⟩,
               ⟨(some 14), none, .iad 1 (.tmp 12) (.tmp 13)⟩,
               ⟨(some 15), none, .load false 1 (.tmp 14)⟩,
               ⟨(some 16), none, .bin .eql .other (.tmp 11) (.tmp 15)⟩])
             (.cond (.tmp 16)
              (.seq
               (.reg [
                 ⟨(some 17), none, .mv (.tmp 5)⟩,
                 ⟨(some 4), none, .mv (.tmp 17)⟩])
               .ret)
              .skip))))
          (.reg [
            ⟨(some 18), none, .bin .add .other (.tmp 8) (.const (.int .i64 1))⟩,
            ⟨(some 8), none, .mv (.tmp 18)⟩])))))))
    (.seq
     (.reg [
       ⟨(some 4), none, .mv (.const (.int .i64 (-1)))⟩])
     .ret)))
theorem F143 : compF Try.prog 143 = some ⟨2, 19, [.tmp 4], c143⟩ := by kernel_rfl
theorem B143 : Bod Try.prog 143 := bod_of F143
/-- slices.IndexFunc(()string,string) -/
def c144 : ACode :=
  (.seq
   (.reg [
     ⟨(some 4), none, .mv (.const (.int .i64 0))⟩])
   (.seq
    (.seq
     (.reg [
       ⟨(some 6), none, .mv (.tmp 0)⟩,
       ⟨(some 7), none, .len false (.tmp 6)⟩,
       ⟨(some 8), none, .mv (.const (.int .i64 0))⟩])
     (.block 0
      (.loop
       (.seq
        (.reg [
          ⟨(some 9), none, .bin .lss .other (.tmp 8) (.tmp 7)⟩])
        (.seq
         (.cond (.tmp 9)
          .skip
          (.exit 0))
         (.seq
          (.block 1
           (.seq
            (.reg [
              ⟨(some 10), none, .mv (.tmp 8)⟩,
              ⟨(some 5), none, .mv (.tmp 10)⟩])
            (.seq
             (.reg [
               ⟨(some 11), none, .mv (.tmp 1)⟩,
               ⟨(some 12), none, .mv (.tmp 0)⟩,
               ⟨(some 13), none, .mv (.tmp 5)⟩,
               ⟨(some 14), none, .iad 1 (.tmp 12) (.tmp 13)⟩,
               ⟨(some 15), none, .load false 1 (.tmp 14)⟩,
               ⟨(some 16), none, .call (.tmp 11) [(.tmp 15)]⟩])
             (.cond (.tmp 16)
              (.seq
               (.reg [
                 ⟨(some 17), none, .mv (.tmp 5)⟩,
                 ⟨(some 4), none, .mv (.tmp 17)⟩])
               .ret)
              .skip))))
          (.reg [
            ⟨(some 18), none, .bin .add .other (.tmp 8) (.const (.int .i64 1))⟩,
            ⟨(some 8), none, .mv (.tmp 18)⟩])))))))
    (.seq
     (.reg [
       ⟨(some 4), none, .mv (.const (.int .i64 (-1)))⟩])
     .ret)))
theorem F144 : compF Try.prog 144 = some ⟨2, 19, [.tmp 4], c144⟩ := by kernel_rfl
theorem B144 : Bod Try.prog 144 := bod_of F144
/-- slices.Contains(()string,string) -/
def c145 : ACode :=
  (.seq
   (.reg [
     ⟨(some 4), none, .mv (.const (.bool false))⟩])
   (.seq
    (.reg [
      ⟨(some 5), none, .mv (.tmp 0)⟩,
      ⟨(some 6), none, .mv (.tmp 1)⟩,
      ⟨(some 7), none, .call (.func 143) [(.tmp 5), (.tmp 6)]⟩,
      ⟨(some 8), none, .bin .geq .other (.tmp 7) (.const (.int .i64 0))⟩,
      ⟨(some 4), none, .mv (.tmp 8)⟩])
    .ret))
theorem F145 : compF Try.prog 145 = some ⟨2, 9, [.tmp 4], c145⟩ := by kernel_rfl
theorem B145 : Bod Try.prog 145 := bod_of F145
/-- quaestor/quaestorref04.Good -/
def c146 : ACode :=
  (.seq
   (.reg [
     ⟨(some 1), none, .box (.tmp 0)⟩,
     ⟨(some 2), none, .mv (.const (.bool false))⟩])
   (.seq
    (.seq
     (.reg [
       ⟨(some 3), none, .fad 0 (.tmp 1)⟩,
       ⟨(some 4), none, .load false 1 (.tmp 3)⟩,
       ⟨(some 5), none, .bin .lss .other (.tmp 4) (.const (.int .i64 1))⟩,
       ⟨(some 6), none, .mv (.tmp 5)⟩,
       ⟨(some 7), (some (6, false)), .fad 0 (.tmp 1)⟩,
       ⟨(some 8), (some (6, false)), .load false 1 (.tmp 7)⟩,
       ⟨(some 9), (some (6, false)), .bin .gtr .other (.tmp 8) (.const (.int .i64 4))⟩,
       ⟨(some 10), none, .pick (.tmp 6) (.const (.bool true)) (.tmp 9)⟩,
       ⟨(some 11), none, .mv (.tmp 10)⟩,
       ⟨(some 12), (some (11, false)), .fad 3 (.tmp 1)⟩,
       ⟨(some 13), (some (11, false)), .load false 1 (.tmp 12)⟩,
       ⟨(some 14), (some (11, false)), .len true (.tmp 13)⟩,
       ⟨(some 15), (some (11, false)), .bin .gtr .other (.tmp 14) (.const (.int .i64 32))⟩,
       ⟨(some 16), none, .pick (.tmp 11) (.const (.bool true)) (.tmp 15)⟩])
     (.cond (.tmp 16)
      (.seq
       (.reg [
         ⟨(some 2), none, .mv (.const (.bool false))⟩])
       .ret)
      .skip))
    (.seq
     (.seq
      (.reg [
        ⟨(some 17), none, .fad 0 (.tmp 1)⟩,
        ⟨(some 18), none, .load false 1 (.tmp 17)⟩,
        ⟨(some 19), none, .bin .neq .other (.tmp 18) (.const (.int .i64 1))⟩,
        ⟨(some 20), none, .mv (.tmp 19)⟩,
        ⟨(some 21), (some (20, true)), .fad 1 (.tmp 1)⟩,
        ⟨(some 22), (some (20, true)), .load false 1 (.tmp 21)⟩,
        ⟨(some 23), (some (20, true)), .bin .neq .other (.tmp 22) (.const (.int .i64 0))⟩,
        ⟨(some 24), none, .pick (.tmp 20) (.tmp 23) (.const (.bool false))⟩,
        ⟨(some 25), none, .mv (.tmp 24)⟩,
        ⟨(some 26), (some (25, false)), .fad 0 (.tmp 1)⟩,
        ⟨(some 27), (some (25, false)), .load false 1 (.tmp 26)⟩,
        ⟨(some 28), (some (25, false)), .bin .neq .other (.tmp 27) (.const (.int .i64 2))⟩,
        ⟨(some 29), (some (25, false)), .mv (.tmp 28)⟩,
        ⟨(some 30), (some (29, true)), .fad 2 (.tmp 1)⟩,
        ⟨(some 31), (some (29, true)), .load false 1 (.tmp 30)⟩,
        ⟨(some 32), (some (25, false)), .pick (.tmp 29) (.tmp 31) (.const (.bool false))⟩,
        ⟨(some 33), none, .pick (.tmp 25) (.const (.bool true)) (.tmp 32)⟩,
        ⟨(some 34), none, .mv (.tmp 33)⟩,
        ⟨(some 35), (some (34, false)), .fad 0 (.tmp 1)⟩,
        ⟨(some 36), (some (34, false)), .load false 1 (.tmp 35)⟩,
        ⟨(some 37), (some (34, false)), .bin .neq .other (.tmp 36) (.const (.int .i64 3))⟩,
        ⟨(some 38), (some (34, false)), .mv (.tmp 37)⟩,
        ⟨(some 39), (some (38, true)), .fad 3 (.tmp 1)⟩,
        ⟨(some 40), (some (38, true)), .load false 1 (.tmp 39)⟩,
        ⟨(some 41), (some (38, true)), .bin .neq .other (.tmp 40) (.const (.string ⟨#[]⟩))⟩,
        ⟨(some 42), (some (34, false)), .pick (.tmp 38) (.tmp 41) (.const (.bool false))⟩,
        ⟨(some 43), none, .pick (.tmp 34) (.const (.bool true)) (.tmp 42)⟩])
      (.cond (.tmp 43)
       (.seq
        (.reg [
          ⟨(some 2), none, .mv (.const (.bool false))⟩])
        .ret)
       .skip))
     (.seq
      (.reg [
        ⟨(some 44), none, .fad 0 (.tmp 1)⟩,
        ⟨(some 45), none, .load false 1 (.tmp 44)⟩,
        ⟨(some 46), none, .bin .eql .other (.tmp 45) (.const (.int .i64 4))⟩,
        ⟨(some 47), none, .mv (.tmp 46)⟩,
        ⟨(some 48), (some (47, false)), .fad 4 (.tmp 1)⟩,
        ⟨(some 49), (some (47, false)), .load false 1 (.tmp 48)⟩,
        ⟨(some 50), (some (47, false)), .call (.func 128) [(.tmp 49)]⟩,
        ⟨(some 51), (some (47, false)), .bin .eql .other (.tmp 50) (.const (.int .u64 0))⟩,
        ⟨(some 52), none, .pick (.tmp 47) (.const (.bool true)) (.tmp 51)⟩,
        ⟨(some 2), none, .mv (.tmp 52)⟩])
      .ret))))
theorem F146 : compF Try.prog 146 = some ⟨1, 53, [.tmp 2], c146⟩ := by kernel_rfl
theorem B146 : Bod Try.prog 146 := bod_of F146
/-- quaestor/quaestorref05.check -/
def c147 : ACode :=
  (.seq
   (.reg [
     ⟨(some 2), none, .box (.tmp 0)⟩,
     ⟨(some 4), none, .mv (.const (.int .i64 0))⟩,
     ⟨(some 5), none, .mv (.const (.int .i64 0))⟩])
   (.seq
    (.reg [
      ⟨(some 6), none, .mv (.const (.slice none 0 0))⟩])
    (.seq
     (.seq
      (.reg [
        ⟨(some 7), none, .mv (.const (.int .i64 0))⟩])
      (.block 0
       (.loop
        (.seq
         (.seq
          (.reg [
            ⟨(some 10), none, .mv (.tmp 7)⟩,
            ⟨(some 11), none, .fad 1 (.tmp 2)⟩,
            ⟨(some 12), none, .load false 1 (.tmp 11)⟩,
            ⟨(some 13), none, .len false (.tmp 12)⟩,
            ⟨(some 14), none, .bin .lss .other (.tmp 10) (.tmp 13)⟩])
          (.cond (.tmp 14)
           .skip
           (.exit 0)))
         (.seq
          (.block 1
           (.seq
            (.reg [
              ⟨(some 18), none, .fad 1 (.tmp 2)⟩,
              ⟨(some 19), none, .load false 1 (.tmp 18)⟩,
              ⟨(some 20), none, .mv (.tmp 7)⟩,
              ⟨(some 21), none, .iad 8 (.tmp 19) (.tmp 20)⟩,
              ⟨(some 22), none, .load true 8 (.tmp 21)⟩,
              ⟨(some 23), none, .mv (.tmp 1)⟩,
              ⟨(some 24), none, .call (.func 147) [(.tmp 22), (.tmp 23)]⟩,
              ⟨(some 17), none, .mv (.tmp 24)⟩,
              ⟨(some 25), none, .ext (.tmp 17) 0⟩,
              ⟨(some 26), none, .ext (.tmp 17) 1⟩,
              ⟨(some 8), none, .mv (.tmp 25)⟩,
              ⟨(some 9), none, .mv (.tmp 26)⟩])
            (.seq
             (.seq
              (.reg [
                ⟨(some 27), none, .mv (.tmp 9)⟩,
                ⟨(some 28), none, .bin .neq .other (.tmp 27) (.const (.int .i64 0))⟩])
              (.cond (.tmp 28)
               (.seq
                (.reg [
                  ⟨(some 29), none, .mv (.tmp 9)⟩,
                  ⟨(some 4), none, .mv (.const (.int .i64 0))⟩,
                  ⟨(some 5), none, .mv (.tmp 29)⟩])
                .ret)
               .skip))
             (.reg [
               ⟨(some 30), none, .mv (.tmp 6)⟩,
               ⟨(some 31), none, .mv (.tmp 8)⟩,
               ⟨(some 32), none, .slit 3 1 [(.tmp 31)]⟩,
               ⟨(some 33), none, .app 1 8 [.int .i64 0] 3 (.tmp 30) (.tmp 32)⟩,
               ⟨(some 6), none, .mv (.tmp 33)⟩]))))
          (.reg [
            ⟨(some 15), none, .mv (.tmp 7)⟩,
            ⟨(some 16), none, .bin .add .other (.tmp 15) (.const (.int .i64 1))⟩,
            ⟨(some 7), none, .mv (.tmp 16)⟩]))))))
     (.seq
      (.reg [
        ⟨(some 34), none, .load true 8 (.tmp 2)⟩,
        ⟨(some 35), none, .mv (.tmp 6)⟩,
        ⟨(some 36), none, .mv (.tmp 1)⟩,
        ⟨(some 37), none, .call (.func 177) [(.tmp 34), (.tmp 35), (.tmp 36)]⟩,
        ⟨(some 38), none, .ext (.tmp 37) 0⟩,
        ⟨(some 39), none, .ext (.tmp 37) 1⟩,
        ⟨(some 4), none, .mv (.tmp 38)⟩,
        ⟨(some 5), none, .mv (.tmp 39)⟩])
      .ret))))
theorem F147 : compF Try.prog 147 = some ⟨2, 40, [.tmp 4, .tmp 5], c147⟩ := by kernel_rfl
theorem B147 : Bod Try.prog 147 := bod_of F147
/-- quaestor/wire.PutBool -/
def c148 : ACode :=
  (.seq
   (.reg [
     ⟨(some 4), none, .mv (.const (.slice none 0 0))⟩])
   (.seq
    (.reg [
      ⟨(some 5), none, .mv (.const (.int .u8 0))⟩])
    (.seq
     (.seq
      (.reg [
        ⟨(some 6), none, .mv (.tmp 1)⟩])
      (.cond (.tmp 6)
       (.reg [
         ⟨(some 5), none, .mv (.const (.int .u8 1))⟩])
       .skip))
     (.seq
      (.reg [
        ⟨(some 7), none, .mv (.tmp 0)⟩,
        ⟨(some 8), none, .call (.func 178) [(.tmp 7)]⟩,
        ⟨(some 9), none, .mv (.tmp 5)⟩,
        ⟨(some 10), none, .slit 5 1 [(.tmp 9)]⟩,
        ⟨(some 11), none, .app 1 1 [.int .u8 0] 5 (.tmp 8) (.tmp 10)⟩,
        ⟨(some 4), none, .mv (.tmp 11)⟩])
      .ret))))
theorem F148 : compF Try.prog 148 = some ⟨2, 12, [.tmp 4], c148⟩ := by kernel_rfl
theorem B148 : Bod Try.prog 148 := bod_of F148
/-- quaestor/wire.PutNum -/
def c149 : ACode :=
  (.seq
   (.reg [
     ⟨(some 4), none, .mv (.const (.slice none 0 0))⟩])
   (.seq
    (.reg [
      ⟨(some 6), none, .mv (.tmp 1)⟩,
      ⟨(some 7), none, .call (.func 162) [(.tmp 6)]⟩,
      ⟨(some 5), none, .mv (.tmp 7)⟩])
    (.seq
     (.seq
      (.reg [
        ⟨(some 8), none, .mv (.tmp 1)⟩,
        ⟨(some 9), none, .call (.func 179) [(.tmp 8)]⟩])
      (.cond (.tmp 9)
       (.reg [
         ⟨(some 5), none, .mv (.const (.int .u64 9221120237041090561))⟩])
       .skip))
     (.seq
      (.reg [
        ⟨(some 10), none, .mv (.tmp 0)⟩,
        ⟨(some 11), none, .mv (.tmp 5)⟩,
        ⟨(some 12), none, .call (.func 158) [(.tmp 10), (.tmp 11), (.const (.int .i64 8))]⟩,
        ⟨(some 4), none, .mv (.tmp 12)⟩])
      .ret))))
theorem F149 : compF Try.prog 149 = some ⟨2, 13, [.tmp 4], c149⟩ := by kernel_rfl
theorem B149 : Bod Try.prog 149 := bod_of F149
/-- quaestor/wire.spell -/
def c158 : ACode :=
  (.seq
   (.reg [
     ⟨(some 6), none, .mv (.const (.slice none 0 0))⟩])
   (.seq
    (.reg [
      ⟨(some 7), none, .mv (.tmp 0)⟩,
      ⟨(some 8), none, .call (.func 178) [(.tmp 7)]⟩,
      ⟨(some 0), none, .mv (.tmp 8)⟩])
    (.seq
     (.block 0
      (.loop
       (.seq
        (.seq
         (.reg [
           ⟨(some 9), none, .mv (.tmp 2)⟩,
           ⟨(some 10), none, .bin .gtr .other (.tmp 9) (.const (.int .i64 0))⟩])
         (.cond (.tmp 10)
          .skip
          (.exit 0)))
        (.block 1
         (.seq
          (.reg [
            ⟨(some 11), none, .mv (.tmp 2)⟩,
            ⟨(some 12), none, .bin .sub .other (.tmp 11) (.const (.int .i64 1))⟩,
            ⟨(some 2), none, .mv (.tmp 12)⟩])
          (.reg [
            ⟨(some 13), none, .mv (.tmp 0)⟩,
            ⟨(some 14), none, .mv (.tmp 1)⟩,
            ⟨(some 15), none, .mv (.tmp 2)⟩,
            ⟨(some 16), none, .bin .mul .other (.const (.int .i64 8)) (.tmp 15)⟩,
            ⟨(some 17), none, .bin .shr .other (.tmp 14) (.tmp 16)⟩,
            ⟨(some 18), none, .cvi .u8 (.tmp 17)⟩,
            ⟨(some 19), none, .slit 5 1 [(.tmp 18)]⟩,
            ⟨(some 20), none, .app 1 1 [.int .u8 0] 5 (.tmp 13) (.tmp 19)⟩,
            ⟨(some 0), none, .mv (.tmp 20)⟩]))))))
     (.seq
      (.reg [
        ⟨(some 21), none, .mv (.tmp 0)⟩,
        ⟨(some 6), none, .mv (.tmp 21)⟩])
      .ret))))
theorem F158 : compF Try.prog 158 = some ⟨3, 22, [.tmp 6], c158⟩ := by kernel_rfl
theorem B158 : Bod Try.prog 158 := bod_of F158
/-- quaestor/quaestorref01.bits -/
def c159 : ACode :=
  (.seq
   (.reg [
     ⟨(some 6), none, .mv (.const (.slice none 0 0))⟩])
   (.seq
    (.reg [
      ⟨(some 9), none, .slit 5 1 []⟩,
      ⟨(some 10), none, .mv (.tmp 0)⟩,
      ⟨(some 11), none, .app 1 1 [.int .u8 0] 5 (.tmp 9) (.tmp 10)⟩,
      ⟨(some 7), none, .mv (.tmp 11)⟩])
    (.seq
     (.seq
      (.reg [
        ⟨(some 12), none, .mv (.tmp 2)⟩,
        ⟨(some 13), none, .bin .sub .other (.tmp 12) (.const (.int .i64 1))⟩,
        ⟨(some 8), none, .mv (.tmp 13)⟩])
      (.block 0
       (.loop
        (.seq
         (.seq
          (.reg [
            ⟨(some 14), none, .mv (.tmp 8)⟩,
            ⟨(some 15), none, .bin .geq .other (.tmp 14) (.const (.int .i64 0))⟩])
          (.cond (.tmp 15)
           .skip
           (.exit 0)))
         (.seq
          (.block 1
           (.reg [
             ⟨(some 18), none, .mv (.tmp 7)⟩,
             ⟨(some 19), none, .mv (.tmp 1)⟩,
             ⟨(some 20), none, .mv (.tmp 8)⟩,
             ⟨(some 21), none, .bin .mul .other (.const (.int .i64 8)) (.tmp 20)⟩,
             ⟨(some 22), none, .bin .shr .other (.tmp 19) (.tmp 21)⟩,
             ⟨(some 23), none, .cvi .u8 (.tmp 22)⟩,
             ⟨(some 24), none, .slit 5 1 [(.tmp 23)]⟩,
             ⟨(some 25), none, .app 1 1 [.int .u8 0] 5 (.tmp 18) (.tmp 24)⟩,
             ⟨(some 7), none, .mv (.tmp 25)⟩]))
          (.reg [
            ⟨(some 16), none, .mv (.tmp 8)⟩,
            ⟨(some 17), none, .bin .sub .other (.tmp 16) (.const (.int .i64 1))⟩,
            ⟨(some 8), none, .mv (.tmp 17)⟩]))))))
     (.seq
      (.reg [
        ⟨(some 26), none, .mv (.tmp 7)⟩,
        ⟨(some 6), none, .mv (.tmp 26)⟩])
      .ret))))
theorem F159 : compF Try.prog 159 = some ⟨3, 27, [.tmp 6], c159⟩ := by kernel_rfl
theorem B159 : Bod Try.prog 159 := bod_of F159
/-- quaestor/quaestorref01.Bool -/
def c160 : ACode :=
  (.seq
   (.reg [
     ⟨(some 4), none, .mv (.const (.slice none 0 0))⟩])
   (.seq
    (.seq
     (.reg [
       ⟨(some 5), none, .mv (.tmp 1)⟩])
     (.cond (.tmp 5)
      (.seq
       (.reg [
         ⟨(some 6), none, .mv (.tmp 0)⟩,
         ⟨(some 7), none, .call (.func 159) [(.tmp 6), (.const (.int .u64 1)), (.const (.int .i64 1))]⟩,
         ⟨(some 4), none, .mv (.tmp 7)⟩])
       .ret)
      .skip))
    (.seq
     (.reg [
       ⟨(some 8), none, .mv (.tmp 0)⟩,
       ⟨(some 9), none, .call (.func 159) [(.tmp 8), (.const (.int .u64 0)), (.const (.int .i64 1))]⟩,
       ⟨(some 4), none, .mv (.tmp 9)⟩])
     .ret)))
theorem F160 : compF Try.prog 160 = some ⟨2, 10, [.tmp 4], c160⟩ := by kernel_rfl
theorem B160 : Bod Try.prog 160 := bod_of F160
/-- quaestor/quaestorref01.Num -/
def c161 : ACode :=
  (.seq
   (.reg [
     ⟨(some 4), none, .mv (.const (.slice none 0 0))⟩])
   (.seq
    (.reg [
      ⟨(some 5), none, .mv (.tmp 0)⟩,
      ⟨(some 6), none, .mv (.tmp 1)⟩,
      ⟨(some 7), none, .call (.func 128) [(.tmp 6)]⟩,
      ⟨(some 8), none, .call (.func 159) [(.tmp 5), (.tmp 7), (.const (.int .i64 8))]⟩,
      ⟨(some 4), none, .mv (.tmp 8)⟩])
    .ret))
theorem F161 : compF Try.prog 161 = some ⟨2, 9, [.tmp 4], c161⟩ := by kernel_rfl
theorem B161 : Bod Try.prog 161 := bod_of F161
/-- quaestor/value.part -/
def c163 : ACode :=
  (.seq
   (.reg [
     ⟨(some 1), none, .box (.tmp 0)⟩,
     ⟨(some 2), none, .alloc [.int .i64 0, .int .i64 0, .bool false, .string ⟨#[]⟩, .float .f64 0]⟩,
     ⟨(some 3), none, .mv (.const (.bool false))⟩])
   (.seq
    (.reg [
      ⟨(some 5), none, .fad 0 (.tmp 1)⟩,
      ⟨(some 6), none, .load false 1 (.tmp 5)⟩,
      ⟨(some 7), none, .build [.int .i64 0, .int .i64 0, .bool false, .string ⟨#[]⟩, .float .f64 0] [(0, 1, (.tmp 6))]⟩,
      ⟨(some 4), none, .alloc [.int .i64 0, .int .i64 0, .bool false, .string ⟨#[]⟩, .float .f64 0]⟩,
      ⟨none, none, .store 5 (.tmp 4) (.tmp 7)⟩])
    (.seq
     (.seq
      (.reg [
        ⟨(some 8), none, .fad 0 (.tmp 1)⟩,
        ⟨(some 9), none, .load false 1 (.tmp 8)⟩])
      (.block 0
       (.seq
        (.reg [
          ⟨(some 12), none, .bin .eql .other (.tmp 9) (.const (.int .i64 1))⟩,
          ⟨(some 11), none, .mv (.tmp 12)⟩])
        (.cond (.tmp 11)
         (.reg [
           ⟨(some 13), none, .fad 1 (.tmp 1)⟩,
           ⟨(some 14), none, .load false 1 (.tmp 13)⟩,
           ⟨(some 15), none, .fad 1 (.tmp 4)⟩,
           ⟨none, none, .store 1 (.tmp 15) (.tmp 14)⟩])
         (.seq
          (.reg [
            ⟨(some 17), none, .bin .eql .other (.tmp 9) (.const (.int .i64 2))⟩,
            ⟨(some 16), none, .mv (.tmp 17)⟩])
          (.cond (.tmp 16)
           (.reg [
             ⟨(some 18), none, .fad 2 (.tmp 1)⟩,
             ⟨(some 19), none, .load false 1 (.tmp 18)⟩,
             ⟨(some 20), none, .fad 2 (.tmp 4)⟩,
             ⟨none, none, .store 1 (.tmp 20) (.tmp 19)⟩])
           (.seq
            (.reg [
              ⟨(some 22), none, .bin .eql .other (.tmp 9) (.const (.int .i64 3))⟩,
              ⟨(some 21), none, .mv (.tmp 22)⟩])
            (.cond (.tmp 21)
             (.reg [
               ⟨(some 23), none, .fad 3 (.tmp 1)⟩,
               ⟨(some 24), none, .load false 1 (.tmp 23)⟩,
               ⟨(some 25), none, .fad 3 (.tmp 4)⟩,
               ⟨none, none, .store 1 (.tmp 25) (.tmp 24)⟩])
             (.seq
              (.reg [
                ⟨(some 27), none, .bin .eql .other (.tmp 9) (.const (.int .i64 4))⟩,
                ⟨(some 26), none, .mv (.tmp 27)⟩])
              (.cond (.tmp 26)
               (.reg [
                 ⟨(some 28), none, .fad 4 (.tmp 1)⟩,
                 ⟨(some 29), none, .load false 1 (.tmp 28)⟩,
                 ⟨(some 30), none, .fad 4 (.tmp 4)⟩,
                 ⟨none, none, .store 1 (.tmp 30) (.tmp 29)⟩])
               (.seq
                (.reg [
                  ⟨(some 10), none, .load true 5 (.tmp 4)⟩,
                  ⟨none, none, .store 5 (.tmp 2) (.tmp 10)⟩,
                  ⟨(some 3), none, .mv (.const (.bool false))⟩])
                .ret)))))))))))
     (.seq
      (.reg [
        ⟨(some 31), none, .load true 5 (.tmp 4)⟩,
        ⟨none, none, .store 5 (.tmp 2) (.tmp 31)⟩,
        ⟨(some 3), none, .mv (.const (.bool true))⟩])
      .ret))))
theorem F163 : compF Try.prog 163 = some ⟨1, 32, [.cell 2 true 5, .tmp 3], c163⟩ := by kernel_rfl
theorem B163 : Bod Try.prog 163 := bod_of F163
/-- quaestor/value.code -/
def c171 : ACode :=
  (.seq
   (.reg [
     ⟨(some 2), none, .mv (.const (.int .u64 0))⟩])
   (.seq
    (.seq
     (.reg [
       ⟨(some 3), none, .mv (.tmp 0)⟩,
       ⟨(some 4), none, .call (.func 179) [(.tmp 3)]⟩])
     (.cond (.tmp 4)
      (.seq
       (.reg [
         ⟨(some 2), none, .mv (.const (.int .u64 9221120237041090561))⟩])
       .ret)
      .skip))
    (.seq
     (.reg [
       ⟨(some 5), none, .mv (.tmp 0)⟩,
       ⟨(some 6), none, .call (.func 162) [(.tmp 5)]⟩,
       ⟨(some 2), none, .mv (.tmp 6)⟩])
     .ret)))
theorem F171 : compF Try.prog 171 = some ⟨1, 7, [.tmp 2], c171⟩ := by kernel_rfl
theorem B171 : Bod Try.prog 171 := bod_of F171
/-- quaestor/expr.find$1 -/
def c172 : ACode :=
  (.seq
   (.reg [
     ⟨(some 2), none, .box (.tmp 0)⟩,
     ⟨(some 3), none, .mv (.const (.bool false))⟩])
   (.seq
    (.reg [
      ⟨(some 4), none, .fad 0 (.tmp 2)⟩,
      ⟨(some 5), none, .load false 1 (.tmp 4)⟩,
      ⟨(some 6), none, .load false 1 (.tmp 1)⟩,
      ⟨(some 7), none, .bin .eql .other (.tmp 5) (.tmp 6)⟩,
      ⟨(some 3), none, .mv (.tmp 7)⟩])
    .ret))
theorem F172 : compF Try.prog 172 = some ⟨2, 8, [.tmp 3], c172⟩ := by kernel_rfl
theorem B172 : Bod Try.prog 172 := bod_of F172
/-- quaestor/quaestorref05.kind -/
def c177 : ACode :=
  (.seq
   (.reg [
     ⟨(some 3), none, .box (.tmp 0)⟩,
     ⟨(some 6), none, .mv (.const (.int .i64 0))⟩,
     ⟨(some 7), none, .mv (.const (.int .i64 0))⟩])
   (.seq
    (.seq
     (.dreg 25 [
       ⟨(some 9), none, .fad 0 (.tmp 3)⟩,
       ⟨(some 10), none, .load false 1 (.tmp 9)⟩,
       ⟨(some 11), none, .call (.func 193) [(.tmp 10)]⟩,
       ⟨(some 12), none, .fad 1 (.tmp 3)⟩,
       ⟨(some 13), none, .load false 1 (.tmp 12)⟩,
       ⟨(some 14), none, .len false (.tmp 13)⟩,
       ⟨(some 15), none, .bin .neq .other (.tmp 11) (.tmp 14)⟩,
       ⟨(some 16), none, .mv (.tmp 15)⟩,
       ⟨(some 17), (some (16, false)), .fad 0 (.tmp 3)⟩,
       ⟨(some 18), (some (16, false)), .load false 1 (.tmp 17)⟩,
       ⟨(some 19), (some (16, false)), .bin .neq .other (.tmp 18) (.const (.int .i64 2))⟩,
       ⟨(some 20), (some (16, false)), .mv (.tmp 19)⟩,
       ⟨(some 21), (some (20, true)), .fad 2 (.tmp 3)⟩,
       ⟨(some 22), (some (20, true)), .load false 1 (.tmp 21)⟩,
       ⟨(some 23), (some (20, true)), .bin .neq .other (.tmp 22) (.const (.string ⟨#[]⟩))⟩,
       ⟨(some 24), (some (16, false)), .pick (.tmp 20) (.tmp 23) (.const (.bool false))⟩,
       ⟨(some 25), none, .pick (.tmp 16) (.const (.bool true)) (.tmp 24)⟩,
       ⟨(some 26), none, .mv (.tmp 25)⟩,
       ⟨(some 27), (some (26, false)), .fad 0 (.tmp 3)⟩,
       ⟨(some 28), (some (26, false)), .load false 1 (.tmp 27)⟩,
       ⟨(some 29), (some (26, false)), .bin .neq .other (.tmp 28) (.const (.int .i64 1))⟩,
       ⟨(some 30), (some (26, false)), .mv (.tmp 29)⟩,
       ⟨(some 31), (some (30, true)), .fad 3 (.tmp 3)⟩,
       ⟨(some 32), (some (30, true)), .load true 5 (.tmp 31)⟩,
       ⟨(some 33), (some (30, true)), .build [.int .i64 0, .int .i64 0, .bool false, .string ⟨#[]⟩, .float .f64 0] []⟩,
       ⟨(some 34), (some (30, true)), .call (.func 72) [(.tmp 32), (.tmp 33)]⟩,
       ⟨(some 35), (some (30, true)), .un .not (.tmp 34)⟩,
       ⟨(some 36), (some (26, false)), .pick (.tmp 30) (.tmp 35) (.const (.bool false))⟩,
       ⟨(some 37), none, .pick (.tmp 26) (.const (.bool true)) (.tmp 36)⟩])
     (.cond (.tmp 37)
      (.seq
       (.reg [
         ⟨(some 6), none, .mv (.const (.int .i64 0))⟩,
         ⟨(some 7), none, .mv (.const (.int .i64 1))⟩])
       .ret)
      .skip))
    (.seq
     (.seq
      (.reg [
        ⟨(some 38), none, .fad 0 (.tmp 3)⟩,
        ⟨(some 39), none, .load false 1 (.tmp 38)⟩])
      (.block 0
       (.seq
        (.reg [
          ⟨(some 63), none, .bin .eql .other (.tmp 39) (.const (.int .i64 1))⟩,
          ⟨(some 62), none, .mv (.tmp 63)⟩])
        (.cond (.tmp 62)
         (.seq
          (.reg [
            ⟨(some 64), none, .fad 3 (.tmp 3)⟩,
            ⟨(some 65), none, .load true 5 (.tmp 64)⟩,
            ⟨(some 66), none, .call (.func 146) [(.tmp 65)]⟩])
          (.cond (.tmp 66)
           (.seq
            (.reg [
              ⟨(some 67), none, .fad 3 (.tmp 3)⟩,
              ⟨(some 68), none, .fad 0 (.tmp 67)⟩,
              ⟨(some 69), none, .load false 1 (.tmp 68)⟩,
              ⟨(some 6), none, .mv (.tmp 69)⟩,
              ⟨(some 7), none, .mv (.const (.int .i64 0))⟩])
            .ret)
           .skip))
         (.seq
          (.reg [
            ⟨(some 71), none, .bin .eql .other (.tmp 39) (.const (.int .i64 2))⟩,
            ⟨(some 70), none, .mv (.tmp 71)⟩])
          (.cond (.tmp 70)
           (.seq
            (.reg [
              ⟨(some 72), none, .fad 2 (.tmp 3)⟩,
              ⟨(some 73), none, .load false 1 (.tmp 72)⟩,
              ⟨(some 74), none, .mv (.tmp 2)⟩,
              ⟨(some 75), none, .call (.func 194) [(.tmp 73), (.tmp 74)]⟩,
              ⟨(some 8), none, .mv (.tmp 75)⟩])
            (.seq
             (.seq
              (.reg [
                ⟨(some 76), none, .mv (.tmp 8)⟩,
                ⟨(some 77), none, .bin .lss .other (.tmp 76) (.const (.int .i64 0))⟩])
              (.cond (.tmp 77)
               (.seq
                (.reg [
                  ⟨(some 6), none, .mv (.const (.int .i64 0))⟩,
                  ⟨(some 7), none, .mv (.const (.int .i64 50))⟩])
                .ret)
               .skip))
             (.seq
              (.reg [
                ⟨(some 78), none, .mv (.tmp 2)⟩,
                ⟨(some 79), none, .mv (.tmp 8)⟩,
                ⟨(some 80), none, .iad 8 (.tmp 78) (.tmp 79)⟩,
                ⟨(some 81), none, .fad 1 (.tmp 80)⟩,
                ⟨(some 82), none, .load false 1 (.tmp 81)⟩,
                ⟨(some 6), none, .mv (.tmp 82)⟩,
                ⟨(some 7), none, .mv (.const (.int .i64 0))⟩])
              .ret)))
           (.seq
            (.reg [
              ⟨(some 84), none, .bin .eql .other (.tmp 39) (.const (.int .i64 3))⟩,
              ⟨(some 83), none, .mv (.tmp 84)⟩])
            (.cond (.tmp 83)
             (.seq
              (.reg [
                ⟨(some 85), none, .mv (.tmp 1)⟩,
                ⟨(some 86), none, .iad 1 (.tmp 85) (.const (.int .i64 0))⟩,
                ⟨(some 87), none, .load false 1 (.tmp 86)⟩,
                ⟨(some 88), none, .bin .eql .other (.tmp 87) (.const (.int .i64 1))⟩,
                ⟨(some 89), none, .mv (.tmp 88)⟩,
                ⟨(some 90), (some (89, false)), .mv (.tmp 1)⟩,
                ⟨(some 91), (some (89, false)), .iad 1 (.tmp 90) (.const (.int .i64 0))⟩,
                ⟨(some 92), (some (89, false)), .load false 1 (.tmp 91)⟩,
                ⟨(some 93), (some (89, false)), .bin .eql .other (.tmp 92) (.const (.int .i64 4))⟩,
                ⟨(some 94), none, .pick (.tmp 89) (.const (.bool true)) (.tmp 93)⟩])
              (.cond (.tmp 94)
               (.seq
                (.reg [
                  ⟨(some 95), none, .mv (.tmp 1)⟩,
                  ⟨(some 96), none, .iad 1 (.tmp 95) (.const (.int .i64 0))⟩,
                  ⟨(some 97), none, .load false 1 (.tmp 96)⟩,
                  ⟨(some 6), none, .mv (.tmp 97)⟩,
                  ⟨(some 7), none, .mv (.const (.int .i64 0))⟩])
                .ret)
               .skip))
             (.seq
              (.reg [
                ⟨(some 99), none, .bin .eql .other (.tmp 39) (.const (.int .i64 16))⟩,
                ⟨(some 98), none, .mv (.tmp 99)⟩])
              (.cond (.tmp 98)
               (.seq
                (.reg [
                  ⟨(some 100), none, .mv (.tmp 1)⟩,
                  ⟨(some 101), none, .iad 1 (.tmp 100) (.const (.int .i64 0))⟩,
                  ⟨(some 102), none, .load false 1 (.tmp 101)⟩,
                  ⟨(some 103), none, .bin .eql .other (.tmp 102) (.const (.int .i64 1))⟩])
                (.cond (.tmp 103)
                 (.seq
                  (.reg [
                    ⟨(some 6), none, .mv (.const (.int .i64 4))⟩,
                    ⟨(some 7), none, .mv (.const (.int .i64 0))⟩])
                  .ret)
                 .skip))
               (.seq
                (.reg [
                  ⟨(some 105), none, .bin .eql .other (.tmp 39) (.const (.int .i64 12))⟩,
                  ⟨(some 104), none, .mv (.tmp 105)⟩])
                (.cond (.tmp 104)
                 (.seq
                  (.reg [
                    ⟨(some 106), none, .mv (.tmp 1)⟩,
                    ⟨(some 107), none, .iad 1 (.tmp 106) (.const (.int .i64 0))⟩,
                    ⟨(some 108), none, .load false 1 (.tmp 107)⟩,
                    ⟨(some 109), none, .bin .eql .other (.tmp 108) (.const (.int .i64 2))⟩])
                  (.cond (.tmp 109)
                   (.seq
                    (.reg [
                      ⟨(some 6), none, .mv (.const (.int .i64 2))⟩,
                      ⟨(some 7), none, .mv (.const (.int .i64 0))⟩])
                    .ret)
                   .skip))
                 (.seq
                  (.seq
                   (.reg [
                     ⟨(some 111), none, .bin .eql .other (.tmp 39) (.const (.int .i64 10))⟩,
                     ⟨(some 110), none, .mv (.tmp 111)⟩])
                   (.cond (.tmp 110)
                    .skip
                    (.reg [
                      ⟨(some 112), none, .bin .eql .other (.tmp 39) (.const (.int .i64 11))⟩,
                      ⟨(some 110), none, .mv (.tmp 112)⟩])))
                  (.cond (.tmp 110)
                   (.seq
                    (.reg [
                      ⟨(some 113), none, .mv (.tmp 1)⟩,
                      ⟨(some 114), none, .iad 1 (.tmp 113) (.const (.int .i64 0))⟩,
                      ⟨(some 115), none, .load false 1 (.tmp 114)⟩,
                      ⟨(some 116), none, .bin .eql .other (.tmp 115) (.const (.int .i64 2))⟩,
                      ⟨(some 117), none, .mv (.tmp 116)⟩,
                      ⟨(some 118), (some (117, true)), .mv (.tmp 1)⟩,
                      ⟨(some 119), (some (117, true)), .iad 1 (.tmp 118) (.const (.int .i64 1))⟩,
                      ⟨(some 120), (some (117, true)), .load false 1 (.tmp 119)⟩,
                      ⟨(some 121), (some (117, true)), .bin .eql .other (.tmp 120) (.const (.int .i64 2))⟩,
                      ⟨(some 122), none, .pick (.tmp 117) (.tmp 121) (.const (.bool false))⟩])
                    (.cond (.tmp 122)
                     (.seq
                      (.reg [
                        ⟨(some 6), none, .mv (.const (.int .i64 2))⟩,
                        ⟨(some 7), none, .mv (.const (.int .i64 0))⟩])
                      .ret)
                     .skip))
                   (.seq
                    (.reg [
                      ⟨(some 124), none, .bin .eql .other (.tmp 39) (.const (.int .i64 8))⟩,
                      ⟨(some 123), none, .mv (.tmp 124)⟩])
                    (.cond (.tmp 123)
                     (.seq
                      (.dreg 6 [
                        ⟨(some 125), none, .mv (.tmp 1)⟩,
                        ⟨(some 126), none, .iad 1 (.tmp 125) (.const (.int .i64 0))⟩,
                        ⟨(some 127), none, .load false 1 (.tmp 126)⟩,
                        ⟨(some 128), none, .mv (.tmp 1)⟩,
                        ⟨(some 129), none, .iad 1 (.tmp 128) (.const (.int .i64 1))⟩,
                        ⟨(some 130), none, .load false 1 (.tmp 129)⟩,
                        ⟨(some 131), none, .bin .eql .other (.tmp 127) (.tmp 130)⟩])
                      (.cond (.tmp 131)
                       (.seq
                        (.reg [
                          ⟨(some 6), none, .mv (.const (.int .i64 2))⟩,
                          ⟨(some 7), none, .mv (.const (.int .i64 0))⟩])
                        .ret)
                       .skip))
                     (.seq
                      (.reg [
                        ⟨(some 133), none, .bin .eql .other (.tmp 39) (.const (.int .i64 9))⟩,
                        ⟨(some 132), none, .mv (.tmp 133)⟩])
                      (.cond (.tmp 132)
                       (.seq
                        (.dreg 6 [
                          ⟨(some 134), none, .mv (.tmp 1)⟩,
                          ⟨(some 135), none, .iad 1 (.tmp 134) (.const (.int .i64 0))⟩,
                          ⟨(some 136), none, .load false 1 (.tmp 135)⟩,
                          ⟨(some 137), none, .mv (.tmp 1)⟩,
                          ⟨(some 138), none, .iad 1 (.tmp 137) (.const (.int .i64 1))⟩,
                          ⟨(some 139), none, .load false 1 (.tmp 138)⟩,
                          ⟨(some 140), none, .bin .eql .other (.tmp 136) (.tmp 139)⟩,
                          ⟨(some 141), none, .mv (.tmp 140)⟩,
                          ⟨(some 142), (some (141, true)), .mv (.tmp 1)⟩,
                          ⟨(some 143), (some (141, true)), .iad 1 (.tmp 142) (.const (.int .i64 0))⟩,
                          ⟨(some 144), (some (141, true)), .load false 1 (.tmp 143)⟩,
                          ⟨(some 145), (some (141, true)), .bin .eql .other (.tmp 144) (.const (.int .i64 1))⟩,
                          ⟨(some 146), (some (141, true)), .mv (.tmp 145)⟩,
                          ⟨(some 147), (some (146, false)), .mv (.tmp 1)⟩,
                          ⟨(some 148), (some (146, false)), .iad 1 (.tmp 147) (.const (.int .i64 0))⟩,
                          ⟨(some 149), (some (146, false)), .load false 1 (.tmp 148)⟩,
                          ⟨(some 150), (some (146, false)), .bin .eql .other (.tmp 149) (.const (.int .i64 3))⟩,
                          ⟨(some 151), (some (141, true)), .pick (.tmp 146) (.const (.bool true)) (.tmp 150)⟩,
                          ⟨(some 152), (some (141, true)), .mv (.tmp 151)⟩,
                          ⟨(some 153), (some (152, false)), .mv (.tmp 1)⟩,
                          ⟨(some 154), (some (152, false)), .iad 1 (.tmp 153) (.const (.int .i64 0))⟩,
                          ⟨(some 155), (some (152, false)), .load false 1 (.tmp 154)⟩,
                          ⟨(some 156), (some (152, false)), .bin .eql .other (.tmp 155) (.const (.int .i64 4))⟩,
                          ⟨(some 157), (some (141, true)), .pick (.tmp 152) (.const (.bool true)) (.tmp 156)⟩,
                          ⟨(some 158), none, .pick (.tmp 141) (.tmp 157) (.const (.bool false))⟩])
                        (.cond (.tmp 158)
                         (.seq
                          (.reg [
                            ⟨(some 6), none, .mv (.const (.int .i64 2))⟩,
                            ⟨(some 7), none, .mv (.const (.int .i64 0))⟩])
                          .ret)
                         .skip))
                       (.seq
                        (.reg [
                          ⟨(some 160), none, .bin .eql .other (.tmp 39) (.const (.int .i64 13))⟩,
                          ⟨(some 159), none, .mv (.tmp 160)⟩])
                        (.cond (.tmp 159)
                         (.seq
                          (.dreg 11 [
                            ⟨(some 161), none, .mv (.tmp 1)⟩,
                            ⟨(some 162), none, .iad 1 (.tmp 161) (.const (.int .i64 0))⟩,
                            ⟨(some 163), none, .load false 1 (.tmp 162)⟩,
                            ⟨(some 164), none, .bin .eql .other (.tmp 163) (.const (.int .i64 2))⟩,
                            ⟨(some 165), none, .mv (.tmp 164)⟩,
                            ⟨(some 166), (some (165, true)), .mv (.tmp 1)⟩,
                            ⟨(some 167), (some (165, true)), .iad 1 (.tmp 166) (.const (.int .i64 1))⟩,
                            ⟨(some 168), (some (165, true)), .load false 1 (.tmp 167)⟩,
                            ⟨(some 169), (some (165, true)), .mv (.tmp 1)⟩,
                            ⟨(some 170), (some (165, true)), .iad 1 (.tmp 169) (.const (.int .i64 2))⟩,
                            ⟨(some 171), (some (165, true)), .load false 1 (.tmp 170)⟩,
                            ⟨(some 172), (some (165, true)), .bin .eql .other (.tmp 168) (.tmp 171)⟩,
                            ⟨(some 173), none, .pick (.tmp 165) (.tmp 172) (.const (.bool false))⟩])
                          (.cond (.tmp 173)
                           (.seq
                            (.reg [
                              ⟨(some 174), none, .mv (.tmp 1)⟩,
                              ⟨(some 175), none, .iad 1 (.tmp 174) (.const (.int .i64 1))⟩,
                              ⟨(some 176), none, .load false 1 (.tmp 175)⟩,
                              ⟨(some 6), none, .mv (.tmp 176)⟩,
                              ⟨(some 7), none, .mv (.const (.int .i64 0))⟩])
                            .ret)
                           .skip))
                         (.seq
                          (.dreg 6 [
                            ⟨(some 40), none, .mv (.tmp 1)⟩,
                            ⟨(some 41), none, .iad 1 (.tmp 40) (.const (.int .i64 0))⟩,
                            ⟨(some 42), none, .load false 1 (.tmp 41)⟩,
                            ⟨(some 43), none, .mv (.tmp 1)⟩,
                            ⟨(some 44), none, .iad 1 (.tmp 43) (.const (.int .i64 1))⟩,
                            ⟨(some 45), none, .load false 1 (.tmp 44)⟩,
                            ⟨(some 46), none, .bin .eql .other (.tmp 42) (.tmp 45)⟩,
                            ⟨(some 47), none, .mv (.tmp 46)⟩,
                            ⟨(some 48), (some (47, true)), .mv (.tmp 1)⟩,
                            ⟨(some 49), (some (47, true)), .iad 1 (.tmp 48) (.const (.int .i64 0))⟩,
                            ⟨(some 50), (some (47, true)), .load false 1 (.tmp 49)⟩,
                            ⟨(some 51), (some (47, true)), .bin .eql .other (.tmp 50) (.const (.int .i64 1))⟩,
                            ⟨(some 52), (some (47, true)), .mv (.tmp 51)⟩,
                            ⟨(some 53), (some (52, false)), .mv (.tmp 1)⟩,
                            ⟨(some 54), (some (52, false)), .iad 1 (.tmp 53) (.const (.int .i64 0))⟩,
                            ⟨(some 55), (some (52, false)), .load false 1 (.tmp 54)⟩,
                            ⟨(some 56), (some (52, false)), .bin .eql .other (.tmp 55) (.const (.int .i64 4))⟩,
                            ⟨(some 57), (some (47, true)), .pick (.tmp 52) (.const (.bool true)) (.tmp 56)⟩,
                            ⟨(some 58), none, .pick (.tmp 47) (.tmp 57) (.const (.bool false))⟩])
                          (.cond (.tmp 58)
                           (.seq
                            (.reg [
                              ⟨(some 59), none, .mv (.tmp 1)⟩,
                              ⟨(some 60), none, .iad 1 (.tmp 59) (.const (.int .i64 0))⟩,
                              ⟨(some 61), none, .load false 1 (.tmp 60)⟩,
                              ⟨(some 6), none, .mv (.tmp 61)⟩,
                              ⟨(some 7), none, .mv (.const (.int .i64 0))⟩])
                            .ret)
                           .skip))))))))))))))))))))))
     (.seq
      (.reg [
        ⟨(some 6), none, .mv (.const (.int .i64 0))⟩,
        ⟨(some 7), none, .mv (.const (.int .i64 40))⟩])
      .ret))))
theorem F177 : compF Try.prog 177 = some ⟨3, 177, [.tmp 6, .tmp 7], c177⟩ := by kernel_rfl
theorem B177 : Bod Try.prog 177 := bod_of F177
/-- slices.Clip(()byte,byte) -/
def c178 : ACode :=
  (.seq
   (.reg [
     ⟨(some 2), none, .mv (.const (.slice none 0 0))⟩])
   (.seq
    (.reg [
      ⟨(some 3), none, .mv (.tmp 0)⟩,
      ⟨(some 4), none, .mv (.tmp 0)⟩,
      ⟨(some 5), none, .len false (.tmp 4)⟩,
      ⟨(some 6), none, .mv (.tmp 0)⟩,
      ⟨(some 7), none, .len false (.tmp 6)⟩,
      ⟨(some 8), none, .cut 5 1 (.tmp 3) none (some (.tmp 5)) (some (.tmp 7))⟩,
      ⟨(some 2), none, .mv (.tmp 8)⟩])
    .ret))
theorem F178 : compF Try.prog 178 = some ⟨1, 9, [.tmp 2], c178⟩ := by kernel_rfl
theorem B178 : Bod Try.prog 178 := bod_of F178
/-- math.IsNaN -/
def c179 : ACode :=
  (.seq
   (.reg [
     ⟨(some 2), none, .mv (.const (.bool false))⟩])
   (.seq
    (.reg [
      ⟨(some 3), none, .mv (.tmp 0)⟩,
      ⟨(some 4), none, .mv (.tmp 0)⟩,
      ⟨(some 5), none, .bin .neq .other (.tmp 3) (.tmp 4)⟩,
      ⟨(some 2), none, .mv (.tmp 5)⟩])
    .ret))
theorem F179 : compF Try.prog 179 = some ⟨1, 6, [.tmp 2], c179⟩ := by kernel_rfl
theorem B179 : Bod Try.prog 179 := bod_of F179
/-- quaestor/quaestorref05.kids -/
def c193 : ACode :=
  (.seq
   (.reg [
     ⟨(some 2), none, .mv (.const (.int .i64 0))⟩])
   (.seq
    (.seq
     (.reg [
       ⟨(some 3), none, .mv (.tmp 0)⟩])
     (.block 0
      (.seq
       (.seq
        (.reg [
          ⟨(some 5), none, .bin .eql .other (.tmp 3) (.const (.int .i64 1))⟩,
          ⟨(some 4), none, .mv (.tmp 5)⟩])
        (.cond (.tmp 4)
         .skip
         (.reg [
           ⟨(some 6), none, .bin .eql .other (.tmp 3) (.const (.int .i64 2))⟩,
           ⟨(some 4), none, .mv (.tmp 6)⟩])))
       (.cond (.tmp 4)
        (.seq
         (.reg [
           ⟨(some 2), none, .mv (.const (.int .i64 0))⟩])
         .ret)
        (.seq
         (.seq
          (.reg [
            ⟨(some 8), none, .bin .eql .other (.tmp 3) (.const (.int .i64 3))⟩,
            ⟨(some 7), none, .mv (.tmp 8)⟩])
          (.cond (.tmp 7)
           .skip
           (.seq
            (.reg [
              ⟨(some 9), none, .bin .eql .other (.tmp 3) (.const (.int .i64 12))⟩,
              ⟨(some 7), none, .mv (.tmp 9)⟩])
            (.cond (.tmp 7)
             .skip
             (.reg [
               ⟨(some 10), none, .bin .eql .other (.tmp 3) (.const (.int .i64 16))⟩,
               ⟨(some 7), none, .mv (.tmp 10)⟩])))))
         (.cond (.tmp 7)
          (.seq
           (.reg [
             ⟨(some 2), none, .mv (.const (.int .i64 1))⟩])
           .ret)
          (.seq
           (.seq
            (.reg [
              ⟨(some 12), none, .bin .eql .other (.tmp 3) (.const (.int .i64 4))⟩,
              ⟨(some 11), none, .mv (.tmp 12)⟩])
            (.cond (.tmp 11)
             .skip
             (.seq
              (.reg [
                ⟨(some 13), none, .bin .eql .other (.tmp 3) (.const (.int .i64 5))⟩,
                ⟨(some 11), none, .mv (.tmp 13)⟩])
              (.cond (.tmp 11)
               .skip
               (.seq
                (.reg [
                  ⟨(some 14), none, .bin .eql .other (.tmp 3) (.const (.int .i64 6))⟩,
                  ⟨(some 11), none, .mv (.tmp 14)⟩])
                (.cond (.tmp 11)
                 .skip
                 (.seq
                  (.reg [
                    ⟨(some 15), none, .bin .eql .other (.tmp 3) (.const (.int .i64 7))⟩,
                    ⟨(some 11), none, .mv (.tmp 15)⟩])
                  (.cond (.tmp 11)
                   .skip
                   (.seq
                    (.reg [
                      ⟨(some 16), none, .bin .eql .other (.tmp 3) (.const (.int .i64 14))⟩,
                      ⟨(some 11), none, .mv (.tmp 16)⟩])
                    (.cond (.tmp 11)
                     .skip
                     (.seq
                      (.reg [
                        ⟨(some 17), none, .bin .eql .other (.tmp 3) (.const (.int .i64 15))⟩,
                        ⟨(some 11), none, .mv (.tmp 17)⟩])
                      (.cond (.tmp 11)
                       .skip
                       (.seq
                        (.reg [
                          ⟨(some 18), none, .bin .eql .other (.tmp 3) (.const (.int .i64 8))⟩,
                          ⟨(some 11), none, .mv (.tmp 18)⟩])
                        (.cond (.tmp 11)
                         .skip
                         (.seq
                          (.reg [
                            ⟨(some 19), none, .bin .eql .other (.tmp 3) (.const (.int .i64 9))⟩,
                            ⟨(some 11), none, .mv (.tmp 19)⟩])
                          (.cond (.tmp 11)
                           .skip
                           (.seq
                            (.reg [
                              ⟨(some 20), none, .bin .eql .other (.tmp 3) (.const (.int .i64 10))⟩,
                              ⟨(some 11), none, .mv (.tmp 20)⟩])
                            (.cond (.tmp 11)
                             .skip
                             (.reg [
                               ⟨(some 21), none, .bin .eql .other (.tmp 3) (.const (.int .i64 11))⟩,
                               ⟨(some 11), none, .mv (.tmp 21)⟩])))))))))))))))))))
           (.cond (.tmp 11)
            (.seq
             (.reg [
               ⟨(some 2), none, .mv (.const (.int .i64 2))⟩])
             .ret)
            (.seq
             (.reg [
               ⟨(some 23), none, .bin .eql .other (.tmp 3) (.const (.int .i64 13))⟩,
               ⟨(some 22), none, .mv (.tmp 23)⟩])
             (.cond (.tmp 22)
              (.seq
               (.reg [
                 ⟨(some 2), none, .mv (.const (.int .i64 3))⟩])
               .ret)
              .skip))))))))))
    (.seq
     (.reg [
       ⟨(some 2), none, .mv (.const (.int .i64 (-1)))⟩])
     .ret)))
theorem F193 : compF Try.prog 193 = some ⟨1, 24, [.tmp 2], c193⟩ := by kernel_rfl
theorem B193 : Bod Try.prog 193 := bod_of F193
/-- quaestor/quaestorref05.field -/
def c194 : ACode :=
  (.seq
   (.reg [
     ⟨(some 4), none, .mv (.const (.int .i64 0))⟩])
   (.seq
    (.seq
     (.reg [
       ⟨(some 5), none, .mv (.const (.int .i64 0))⟩])
     (.block 0
      (.loop
       (.seq
        (.seq
         (.reg [
           ⟨(some 6), none, .mv (.tmp 5)⟩,
           ⟨(some 7), none, .mv (.tmp 1)⟩,
           ⟨(some 8), none, .len false (.tmp 7)⟩,
           ⟨(some 9), none, .bin .lss .other (.tmp 6) (.tmp 8)⟩])
         (.cond (.tmp 9)
          .skip
          (.exit 0)))
        (.seq
         (.block 1
          (.seq
           (.reg [
             ⟨(some 12), none, .mv (.tmp 1)⟩,
             ⟨(some 13), none, .mv (.tmp 5)⟩,
             ⟨(some 14), none, .iad 8 (.tmp 12) (.tmp 13)⟩,
             ⟨(some 15), none, .fad 0 (.tmp 14)⟩,
             ⟨(some 16), none, .load false 1 (.tmp 15)⟩,
             ⟨(some 17), none, .mv (.tmp 0)⟩,
             ⟨(some 18), none, .bin .eql .other (.tmp 16) (.tmp 17)⟩])
           (.cond (.tmp 18)
            (.seq
             (.reg [
               ⟨(some 19), none, .mv (.tmp 5)⟩,
               ⟨(some 4), none, .mv (.tmp 19)⟩])
             .ret)
            .skip)))
         (.reg [
           ⟨(some 10), none, .mv (.tmp 5)⟩,
           ⟨(some 11), none, .bin .add .other (.tmp 10) (.const (.int .i64 1))⟩,
           ⟨(some 5), none, .mv (.tmp 11)⟩]))))))
    (.seq
     (.reg [
       ⟨(some 4), none, .mv (.const (.int .i64 (-1)))⟩])
     .ret)))
theorem F194 : compF Try.prog 194 = some ⟨2, 20, [.tmp 4], c194⟩ := by kernel_rfl
theorem B194 : Bod Try.prog 194 := bod_of F194
end Go.Proofs.Ytbnelpgogjbgjaa.Q
