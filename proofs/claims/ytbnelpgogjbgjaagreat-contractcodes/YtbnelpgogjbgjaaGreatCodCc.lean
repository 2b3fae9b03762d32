/- The codes of the functions, and that the program has them. -/
import Derived.Test.YtbnelpgogjbgjaaGreatCodQw
import Derived.KernelRfl
import Derived.Test.YtbnelpgogjbgjaaGreatProg
/- The codes of the functions, and that the program has them. -/
set_option linter.unusedVariables false
namespace Go.Proofs.YtbnelpgogjbgjaaGreat.Q
open Go.RowKit
/-- quaestor/wire.spell -/
def c179 : ACode :=
  (.seq
   (.reg [
     ⟨(some 6), none, .mv (.const (.slice none 0 0))⟩])
   (.seq
    (.reg [
      ⟨(some 7), none, .mv (.tmp 0)⟩,
      ⟨(some 8), none, .call (.func 180) [(.tmp 7)]⟩,
      ⟨(some 0), none, .mv (.tmp 8)⟩])
    (.seq
     (.block 0
      (.loop
       (.seq
        (.seq
         (.reg [
           ⟨(some 9), none, .mv (.tmp 2)⟩,
           ⟨(some 10), none, .bin .gtr .other (.tmp 9) (.const (.int .i64 0))⟩])
         (.cond (.tmp 10)
          .skip
          (.exit 0)))
        (.block 1
         (.seq
          (.reg [
            ⟨(some 11), none, .mv (.tmp 2)⟩,
            ⟨(some 12), none, .bin .sub .other (.tmp 11) (.const (.int .i64 1))⟩,
            ⟨(some 2), none, .mv (.tmp 12)⟩])
          (.reg [
            ⟨(some 13), none, .mv (.tmp 0)⟩,
            ⟨(some 14), none, .mv (.tmp 1)⟩,
            ⟨(some 15), none, .mv (.tmp 2)⟩,
            ⟨(some 16), none, .bin .mul .other (.const (.int .i64 8)) (.tmp 15)⟩,
            ⟨(some 17), none, .bin .shr .other (.tmp 14) (.tmp 16)⟩,
            ⟨(some 18), none, .cvi .u8 (.tmp 17)⟩,
            ⟨(some 19), none, .slit 5 1 [(.tmp 18)]⟩,
            ⟨(some 20), none, .app 1 1 [.int .u8 0] 5 (.tmp 13) (.tmp 19)⟩,
            ⟨(some 0), none, .mv (.tmp 20)⟩]))))))
     (.seq
      (.reg [
        ⟨(some 21), none, .mv (.tmp 0)⟩,
        ⟨(some 6), none, .mv (.tmp 21)⟩])
      .ret))))
theorem F179 : compF Tryz.prog 179 = some ⟨3, 22, [.tmp 6], c179⟩ := by kernel_rfl
theorem B179 : Bod Tryz.prog 179 := bod_of F179
/-- slices.Clip(()byte,byte) -/
def c180 : ACode :=
  (.seq
   (.reg [
     ⟨(some 2), none, .mv (.const (.slice none 0 0))⟩])
   (.seq
    (.reg [
      ⟨(some 3), none, .mv (.tmp 0)⟩,
      ⟨(some 4), none, .mv (.tmp 0)⟩,
      ⟨(some 5), none, .len false (.tmp 4)⟩,
      ⟨(some 6), none, .mv (.tmp 0)⟩,
      ⟨(some 7), none, .len false (.tmp 6)⟩,
      ⟨(some 8), none, .cut 5 1 (.tmp 3) none (some (.tmp 5)) (some (.tmp 7))⟩,
      ⟨(some 2), none, .mv (.tmp 8)⟩])
    .ret))
theorem F180 : compF Tryz.prog 180 = some ⟨1, 9, [.tmp 2], c180⟩ := by kernel_rfl
theorem B180 : Bod Tryz.prog 180 := bod_of F180
/-- math.IsNaN -/
def c182 : ACode :=
  (.seq
   (.reg [
     ⟨(some 2), none, .mv (.const (.bool false))⟩])
   (.seq
    (.reg [
      ⟨(some 3), none, .mv (.tmp 0)⟩,
      ⟨(some 4), none, .mv (.tmp 0)⟩,
      ⟨(some 5), none, .bin .neq .other (.tmp 3) (.tmp 4)⟩,
      ⟨(some 2), none, .mv (.tmp 5)⟩])
    .ret))
theorem F182 : compF Tryz.prog 182 = some ⟨1, 6, [.tmp 2], c182⟩ := by kernel_rfl
theorem B182 : Bod Tryz.prog 182 := bod_of F182
/-- quaestor/quaestorref05.left -/
def c183 : ACode :=
  (.seq
   (.reg [
     ⟨(some 3), none, .box (.tmp 0)⟩,
     ⟨(some 6), none, .mv (.const (.int .i64 0))⟩])
   (.seq
    (.reg [
      ⟨(some 8), none, .mv (.tmp 2)⟩,
      ⟨(some 9), none, .bin .sub .other (.tmp 8) (.const (.int .i64 1))⟩,
      ⟨(some 2), none, .mv (.tmp 9)⟩])
    (.seq
     (.seq
      (.reg [
        ⟨(some 10), none, .mv (.tmp 1)⟩,
        ⟨(some 11), none, .bin .lss .other (.tmp 10) (.const (.int .i64 1))⟩])
      (.cond (.tmp 11)
       (.seq
        (.reg [
          ⟨(some 6), none, .mv (.const (.int .i64 (-1)))⟩])
        .ret)
       .skip))
     (.seq
      (.seq
       (.reg [
         ⟨(some 7), none, .mv (.const (.int .i64 0))⟩])
       (.block 0
        (.loop
         (.seq
          (.seq
           (.reg [
             ⟨(some 12), none, .mv (.tmp 7)⟩,
             ⟨(some 13), none, .fad 1 (.tmp 3)⟩,
             ⟨(some 14), none, .load false 1 (.tmp 13)⟩,
             ⟨(some 15), none, .len false (.tmp 14)⟩,
             ⟨(some 16), none, .bin .lss .other (.tmp 12) (.tmp 15)⟩,
             ⟨(some 17), none, .mv (.tmp 16)⟩,
             ⟨(some 18), (some (17, true)), .mv (.tmp 2)⟩,
             ⟨(some 19), (some (17, true)), .bin .geq .other (.tmp 18) (.const (.int .i64 0))⟩,
             ⟨(some 20), none, .pick (.tmp 17) (.tmp 19) (.const (.bool false))⟩])
           (.cond (.tmp 20)
            .skip
            (.exit 0)))
          (.seq
           (.block 1
            (.reg [
              ⟨(some 23), none, .fad 1 (.tmp 3)⟩,
              ⟨(some 24), none, .load false 1 (.tmp 23)⟩,
              ⟨(some 25), none, .mv (.tmp 7)⟩,
              ⟨(some 26), none, .iad 8 (.tmp 24) (.tmp 25)⟩,
              ⟨(some 27), none, .load true 8 (.tmp 26)⟩,
              ⟨(some 28), none, .mv (.tmp 1)⟩,
              ⟨(some 29), none, .bin .sub .other (.tmp 28) (.const (.int .i64 1))⟩,
              ⟨(some 30), none, .mv (.tmp 2)⟩,
              ⟨(some 31), none, .call (.func 183) [(.tmp 27), (.tmp 29), (.tmp 30)]⟩,
              ⟨(some 2), none, .mv (.tmp 31)⟩]))
           (.reg [
             ⟨(some 21), none, .mv (.tmp 7)⟩,
             ⟨(some 22), none, .bin .add .other (.tmp 21) (.const (.int .i64 1))⟩,
             ⟨(some 7), none, .mv (.tmp 22)⟩]))))))
      (.seq
       (.reg [
         ⟨(some 32), none, .mv (.tmp 2)⟩,
         ⟨(some 6), none, .mv (.tmp 32)⟩])
       .ret)))))
theorem F183 : compF Tryz.prog 183 = some ⟨3, 33, [.tmp 6], c183⟩ := by kernel_rfl
theorem B183 : Bod Tryz.prog 183 := bod_of F183
/-- quaestor/contract.find(quaestor/api.Stage)$1 -/
def c184 : ACode :=
  (.seq
   (.reg [
     ⟨(some 3), none, .box (.tmp 0)⟩,
     ⟨(some 4), none, .mv (.const (.bool false))⟩])
   (.seq
    (.dreg 4 [
      ⟨(some 5), none, .load false 1 (.tmp 1)⟩,
      ⟨(some 6), none, .load true 3 (.tmp 3)⟩,
      ⟨(some 7), none, .call (.tmp 5) [(.tmp 6)]⟩,
      ⟨(some 8), none, .load false 1 (.tmp 2)⟩,
      ⟨(some 9), none, .bin .eql .other (.tmp 7) (.tmp 8)⟩,
      ⟨(some 4), none, .mv (.tmp 9)⟩])
    .ret))
theorem F184 : compF Tryz.prog 184 = some ⟨3, 10, [.tmp 4], c184⟩ := by kernel_rfl
theorem B184 : Bod Tryz.prog 184 := bod_of F184
/-- quaestor/expr.Check -/
def c185 : ACode :=
  (.reg [
    ⟨(some 2), none, .box (.tmp 0)⟩,
    ⟨(some 4), none, .mv (.const (.int .i64 0))⟩,
    ⟨(some 5), none, .alloc [.int .i64 0]⟩])
def d185 : ACode :=
  (.seq
   (.reg [
     ⟨(some 6), none, .load true 8 (.tmp 2)⟩,
     ⟨(some 7), none, .call (.func 85) [(.tmp 6)]⟩,
     ⟨(some 8), none, .call (.func 84) [(.tmp 7), (.const (.int .i64 51))]⟩])
   (.seq
    (.reg [
      ⟨(some 9), none, .load true 8 (.tmp 2)⟩,
      ⟨(some 10), none, .mv (.tmp 1)⟩,
      ⟨(some 11), none, .call (.func 86) [(.tmp 9), (.tmp 10)]⟩,
      ⟨(some 4), none, .mv (.tmp 11)⟩,
      ⟨none, none, .store 1 (.tmp 5) (.const (.int .i64 0))⟩])
    .ret))
theorem F185 : compD Tryz.prog 185 = some ⟨2, 12, [.tmp 4, .cell 5 false 1], c185, 83, 5, d185⟩ := by kernel_rfl
theorem B185 : Bod Tryz.prog 185 := bod_of_D F185
/-- slices.Index(()string,string) -/
def c186 : ACode :=
  (.seq
   (.reg [
     ⟨(some 4), none, .mv (.const (.int .i64 0))⟩])
   (.seq
    (.seq
     (.reg [
       ⟨(some 6), none, .mv (.tmp 0)⟩,
       ⟨(some 7), none, .len false (.tmp 6)⟩,
       ⟨(some 8), none, .mv (.const (.int .i64 0))⟩])
     (.block 0
      (.loop
       (.seq
        (.reg [
          ⟨(some 9), none, .bin .lss .other (.tmp 8) (.tmp 7)⟩])
        (.seq
         (.cond (.tmp 9)
          .skip
          (.exit 0))
         (.seq
          (.block 1
           (.seq
            (.reg [
              ⟨(some 10), none, .mv (.tmp 8)⟩,
              ⟨(some 5), none, .mv (.tmp 10)⟩])
            (.seq
             (.reg [
               ⟨(some 11), none, .mv (.tmp 1)⟩,
               ⟨(some 12), none, .mv (.tmp 0)⟩,
               ⟨(some 13), none, .mv (.tmp 5)⟩,
               ⟨(some 14), none, .iad 1 (.tmp 12) (.tmp 13)⟩,
               ⟨(some 15), none, .load false 1 (.tmp 14)⟩,
               ⟨(some 16), none, .bin .eql .other (.tmp 11) (.tmp 15)⟩])
             (.cond (.tmp 16)
              (.seq
               (.reg [
                 ⟨(some 17), none, .mv (.tmp 5)⟩,
                 ⟨(some 4), none, .mv (.tmp 17)⟩])
               .ret)
              .skip))))
          (.reg [
            ⟨(some 18), none, .bin .add .other (.tmp 8) (.const (.int .i64 1))⟩,
            ⟨(some 8), none, .mv (.tmp 18)⟩])))))))
    (.seq
     (.reg [
       ⟨(some 4), none, .mv (.const (.int .i64 (-1)))⟩])
     .ret)))
theorem F186 : compF Tryz.prog 186 = some ⟨2, 19, [.tmp 4], c186⟩ := by kernel_rfl
theorem B186 : Bod Tryz.prog 186 := bod_of F186
/-- slices.IndexFunc(()string,string) -/
def c187 : ACode :=
  (.seq
   (.reg [
     ⟨(some 4), none, .mv (.const (.int .i64 0))⟩])
   (.seq
    (.seq
     (.reg [
       ⟨(some 6), none, .mv (.tmp 0)⟩,
       ⟨(some 7), none, .len false (.tmp 6)⟩,
       ⟨(some 8), none, .mv (.const (.int .i64 0))⟩])
     (.block 0
      (.loop
       (.seq
        (.reg [
          ⟨(some 9), none, .bin .lss .other (.tmp 8) (.tmp 7)⟩])
        (.seq
         (.cond (.tmp 9)
          .skip
          (.exit 0))
         (.seq
          (.block 1
           (.seq
            (.reg [
              ⟨(some 10), none, .mv (.tmp 8)⟩,
              ⟨(some 5), none, .mv (.tmp 10)⟩])
            (.seq
             (.reg [
               ⟨(some 11), none, .mv (.tmp 1)⟩,
               ⟨(some 12), none, .mv (.tmp 0)⟩,
               ⟨(some 13), none, .mv (.tmp 5)⟩,
               ⟨(some 14), none, .iad 1 (.tmp 12) (.tmp 13)⟩,
               ⟨(some 15), none, .load false 1 (.tmp 14)⟩,
               ⟨(some 16), none, .call (.tmp 11) [(.tmp 15)]⟩])
             (.cond (.tmp 16)
              (.seq
               (.reg [
                 ⟨(some 17), none, .mv (.tmp 5)⟩,
                 ⟨(some 4), none, .mv (.tmp 17)⟩])
               .ret)
              .skip))))
          (.reg [
            ⟨(some 18), none, .bin .add .other (.tmp 8) (.const (.int .i64 1))⟩,
            ⟨(some 8), none, .mv (.tmp 18)⟩])))))))
    (.seq
     (.reg [
       ⟨(some 4), none, .mv (.const (.int .i64 (-1)))⟩])
     .ret)))
theorem F187 : compF Tryz.prog 187 = some ⟨2, 19, [.tmp 4], c187⟩ := by kernel_rfl
theorem B187 : Bod Tryz.prog 187 := bod_of F187
/-- quaestor/contract.find(quaestor/api.Move)$1 -/
def c188 : ACode :=
  (.seq
   (.reg [
     ⟨(some 3), none, .box (.tmp 0)⟩,
     ⟨(some 4), none, .mv (.const (.bool false))⟩])
   (.seq
    (.dreg 4 [
      ⟨(some 5), none, .load false 1 (.tmp 1)⟩,
      ⟨(some 6), none, .load true 13 (.tmp 3)⟩,
      ⟨(some 7), none, .call (.tmp 5) [(.tmp 6)]⟩,
      ⟨(some 8), none, .load false 1 (.tmp 2)⟩,
      ⟨(some 9), none, .bin .eql .other (.tmp 7) (.tmp 8)⟩,
      ⟨(some 4), none, .mv (.tmp 9)⟩])
    .ret))
theorem F188 : compF Tryz.prog 188 = some ⟨3, 10, [.tmp 4], c188⟩ := by kernel_rfl
theorem B188 : Bod Tryz.prog 188 := bod_of F188
/-- quaestor/quaestorref05.check -/
def c189 : ACode :=
  (.seq
   (.reg [
     ⟨(some 2), none, .box (.tmp 0)⟩,
     ⟨(some 4), none, .mv (.const (.int .i64 0))⟩,
     ⟨(some 5), none, .mv (.const (.int .i64 0))⟩])
   (.seq
    (.reg [
      ⟨(some 6), none, .mv (.const (.slice none 0 0))⟩])
    (.seq
     (.seq
      (.reg [
        ⟨(some 7), none, .mv (.const (.int .i64 0))⟩])
      (.block 0
       (.loop
        (.seq
         (.seq
          (.reg [
            ⟨(some 10), none, .mv (.tmp 7)⟩,
            ⟨(some 11), none, .fad 1 (.tmp 2)⟩,
            ⟨(some 12), none, .load false 1 (.tmp 11)⟩,
            ⟨(some 13), none, .len false (.tmp 12)⟩,
            ⟨(some 14), none, .bin .lss .other (.tmp 10) (.tmp 13)⟩])
          (.cond (.tmp 14)
           .skip
           (.exit 0)))
         (.seq
          (.block 1
           (.seq
            (.reg [
              ⟨(some 18), none, .fad 1 (.tmp 2)⟩,
              ⟨(some 19), none, .load false 1 (.tmp 18)⟩,
              ⟨(some 20), none, .mv (.tmp 7)⟩,
              ⟨(some 21), none, .iad 8 (.tmp 19) (.tmp 20)⟩,
              ⟨(some 22), none, .load true 8 (.tmp 21)⟩,
              ⟨(some 23), none, .mv (.tmp 1)⟩,
              ⟨(some 24), none, .call (.func 189) [(.tmp 22), (.tmp 23)]⟩,
              ⟨(some 17), none, .mv (.tmp 24)⟩,
              ⟨(some 25), none, .ext (.tmp 17) 0⟩,
              ⟨(some 26), none, .ext (.tmp 17) 1⟩,
              ⟨(some 8), none, .mv (.tmp 25)⟩,
              ⟨(some 9), none, .mv (.tmp 26)⟩])
            (.seq
             (.seq
              (.reg [
                ⟨(some 27), none, .mv (.tmp 9)⟩,
                ⟨(some 28), none, .bin .neq .other (.tmp 27) (.const (.int .i64 0))⟩])
              (.cond (.tmp 28)
               (.seq
                (.reg [
                  ⟨(some 29), none, .mv (.tmp 9)⟩,
                  ⟨(some 4), none, .mv (.const (.int .i64 0))⟩,
                  ⟨(some 5), none, .mv (.tmp 29)⟩])
                .ret)
               .skip))
             (.reg [
               ⟨(some 30), none, .mv (.tmp 6)⟩,
               ⟨(some 31), none, .mv (.tmp 8)⟩,
               ⟨(some 32), none, .slit 3 1 [(.tmp 31)]⟩,
               ⟨(some 33), none, .app 1 8 [.int .i64 0] 3 (.tmp 30) (.tmp 32)⟩,
               ⟨(some 6), none, .mv (.tmp 33)⟩]))))
          (.reg [
            ⟨(some 15), none, .mv (.tmp 7)⟩,
            ⟨(some 16), none, .bin .add .other (.tmp 15) (.const (.int .i64 1))⟩,
            ⟨(some 7), none, .mv (.tmp 16)⟩]))))))
     (.seq
      (.reg [
        ⟨(some 34), none, .load true 8 (.tmp 2)⟩,
        ⟨(some 35), none, .mv (.tmp 6)⟩,
        ⟨(some 36), none, .mv (.tmp 1)⟩,
        ⟨(some 37), none, .call (.func 213) [(.tmp 34), (.tmp 35), (.tmp 36)]⟩,
        ⟨(some 38), none, .ext (.tmp 37) 0⟩,
        ⟨(some 39), none, .ext (.tmp 37) 1⟩,
        ⟨(some 4), none, .mv (.tmp 38)⟩,
        ⟨(some 5), none, .mv (.tmp 39)⟩])
      .ret))))
theorem F189 : compF Tryz.prog 189 = some ⟨2, 40, [.tmp 4, .tmp 5], c189⟩ := by kernel_rfl
theorem B189 : Bod Tryz.prog 189 := bod_of F189
/-- quaestor/value.code -/
def c190 : ACode :=
  (.seq
   (.reg [
     ⟨(some 2), none, .mv (.const (.int .u64 0))⟩])
   (.seq
    (.seq
     (.reg [
       ⟨(some 3), none, .mv (.tmp 0)⟩,
       ⟨(some 4), none, .call (.func 182) [(.tmp 3)]⟩])
     (.cond (.tmp 4)
      (.seq
       (.reg [
         ⟨(some 2), none, .mv (.const (.int .u64 9221120237041090561))⟩])
       .ret)
      .skip))
    (.seq
     (.reg [
       ⟨(some 5), none, .mv (.tmp 0)⟩,
       ⟨(some 6), none, .call (.func 181) [(.tmp 5)]⟩,
       ⟨(some 2), none, .mv (.tmp 6)⟩])
     .ret)))
theorem F190 : compF Tryz.prog 190 = some ⟨1, 7, [.tmp 2], c190⟩ := by kernel_rfl
theorem B190 : Bod Tryz.prog 190 := bod_of F190
/-- quaestor/expr.find$1 -/
def c191 : ACode :=
  (.seq
   (.reg [
     ⟨(some 2), none, .box (.tmp 0)⟩,
     ⟨(some 3), none, .mv (.const (.bool false))⟩])
   (.seq
    (.reg [
      ⟨(some 4), none, .fad 0 (.tmp 2)⟩,
      ⟨(some 5), none, .load false 1 (.tmp 4)⟩,
      ⟨(some 6), none, .load false 1 (.tmp 1)⟩,
      ⟨(some 7), none, .bin .eql .other (.tmp 5) (.tmp 6)⟩,
      ⟨(some 3), none, .mv (.tmp 7)⟩])
    .ret))
theorem F191 : compF Tryz.prog 191 = some ⟨2, 8, [.tmp 3], c191⟩ := by kernel_rfl
theorem B191 : Bod Tryz.prog 191 := bod_of F191
/-- quaestor/contract.Move -/
def c210 : ACode :=
  (.seq
   (.reg [
     ⟨(some 2), none, .box (.tmp 0)⟩,
     ⟨(some 4), none, .mv (.const (.int .i64 0))⟩])
   (.seq
    (.reg [
      ⟨(some 5), none, .fad 3 (.tmp 2)⟩,
      ⟨(some 6), none, .load false 1 (.tmp 5)⟩,
      ⟨(some 7), none, .mv (.tmp 1)⟩,
      ⟨(some 8), none, .call (.func 128) [(.tmp 6), (.tmp 7), (.func 75)]⟩,
      ⟨(some 4), none, .mv (.tmp 8)⟩])
    .ret))
theorem F210 : compF Tryz.prog 210 = some ⟨2, 9, [.tmp 4], c210⟩ := by kernel_rfl
theorem B210 : Bod Tryz.prog 210 := bod_of F210
/-- quaestor/quaestorref05.kind -/
def c213 : ACode :=
  (.seq
   (.reg [
     ⟨(some 3), none, .box (.tmp 0)⟩,
     ⟨(some 6), none, .mv (.const (.int .i64 0))⟩,
     ⟨(some 7), none, .mv (.const (.int .i64 0))⟩])
   (.seq
    (.seq
     (.dreg 25 [
       ⟨(some 9), none, .fad 0 (.tmp 3)⟩,
       ⟨(some 10), none, .load false 1 (.tmp 9)⟩,
       ⟨(some 11), none, .call (.func 231) [(.tmp 10)]⟩,
       ⟨(some 12), none, .fad 1 (.tmp 3)⟩,
       ⟨(some 13), none, .load false 1 (.tmp 12)⟩,
       ⟨(some 14), none, .len false (.tmp 13)⟩,
       ⟨(some 15), none, .bin .neq .other (.tmp 11) (.tmp 14)⟩,
       ⟨(some 16), none, .mv (.tmp 15)⟩,
       ⟨(some 17), (some (16, false)), .fad 0 (.tmp 3)⟩,
       ⟨(some 18), (some (16, false)), .load false 1 (.tmp 17)⟩,
       ⟨(some 19), (some (16, false)), .bin .neq .other (.tmp 18) (.const (.int .i64 2))⟩,
       ⟨(some 20), (some (16, false)), .mv (.tmp 19)⟩,
       ⟨(some 21), (some (20, true)), .fad 2 (.tmp 3)⟩,
       ⟨(some 22), (some (20, true)), .load false 1 (.tmp 21)⟩,
       ⟨(some 23), (some (20, true)), .bin .neq .other (.tmp 22) (.const (.string ⟨#[]⟩))⟩,
       ⟨(some 24), (some (16, false)), .pick (.tmp 20) (.tmp 23) (.const (.bool false))⟩,
       ⟨(some 25), none, .pick (.tmp 16) (.const (.bool true)) (.tmp 24)⟩,
       ⟨(some 26), none, .mv (.tmp 25)⟩,
       ⟨(some 27), (some (26, false)), .fad 0 (.tmp 3)⟩,
       ⟨(some 28), (some (26, false)), .load false 1 (.tmp 27)⟩,
       ⟨(some 29), (some (26, false)), .bin .neq .other (.tmp 28) (.const (.int .i64 1))⟩,
       ⟨(some 30), (some (26, false)), .mv (.tmp 29)⟩,
       ⟨(some 31), (some (30, true)), .fad 3 (.tmp 3)⟩,
       ⟨(some 32), (some (30, true)), .load true 5 (.tmp 31)⟩,
       ⟨(some 33), (some (30, true)), .build [.int .i64 0, .int .i64 0, .bool false, .string ⟨#[]⟩, .float .f64 0] []⟩,
       ⟨(some 34), (some (30, true)), .call (.func 167) [(.tmp 32), (.tmp 33)]⟩,
       ⟨(some 35), (some (30, true)), .un .not (.tmp 34)⟩,
       ⟨(some 36), (some (26, false)), .pick (.tmp 30) (.tmp 35) (.const (.bool false))⟩,
       ⟨(some 37), none, .pick (.tmp 26) (.const (.bool true)) (.tmp 36)⟩])
     (.cond (.tmp 37)
      (.seq
       (.reg [
         ⟨(some 6), none, .mv (.const (.int .i64 0))⟩,
         ⟨(some 7), none, .mv (.const (.int .i64 1))⟩])
       .ret)
      .skip))
    (.seq
     (.seq
      (.reg [
        ⟨(some 38), none, .fad 0 (.tmp 3)⟩,
        ⟨(some 39), none, .load false 1 (.tmp 38)⟩])
      (.block 0
       (.seq
        (.reg [
          ⟨(some 63), none, .bin .eql .other (.tmp 39) (.const (.int .i64 1))⟩,
          ⟨(some 62), none, .mv (.tmp 63)⟩])
        (.cond (.tmp 62)
         (.seq
          (.reg [
            ⟨(some 64), none, .fad 3 (.tmp 3)⟩,
            ⟨(some 65), none, .load true 5 (.tmp 64)⟩,
            ⟨(some 66), none, .call (.func 82) [(.tmp 65)]⟩])
          (.cond (.tmp 66)
           (.seq
            (.reg [
              ⟨(some 67), none, .fad 3 (.tmp 3)⟩,
              ⟨(some 68), none, .fad 0 (.tmp 67)⟩,
              ⟨(some 69), none, .load false 1 (.tmp 68)⟩,
              ⟨(some 6), none, .mv (.tmp 69)⟩,
              ⟨(some 7), none, .mv (.const (.int .i64 0))⟩])
            .ret)
           .skip))
         (.seq
          (.reg [
            ⟨(some 71), none, .bin .eql .other (.tmp 39) (.const (.int .i64 2))⟩,
            ⟨(some 70), none, .mv (.tmp 71)⟩])
          (.cond (.tmp 70)
           (.seq
            (.reg [
              ⟨(some 72), none, .fad 2 (.tmp 3)⟩,
              ⟨(some 73), none, .load false 1 (.tmp 72)⟩,
              ⟨(some 74), none, .mv (.tmp 2)⟩,
              ⟨(some 75), none, .call (.func 232) [(.tmp 73), (.tmp 74)]⟩,
              ⟨(some 8), none, .mv (.tmp 75)⟩])
            (.seq
             (.seq
              (.reg [
                ⟨(some 76), none, .mv (.tmp 8)⟩,
                ⟨(some 77), none, .bin .lss .other (.tmp 76) (.const (.int .i64 0))⟩])
              (.cond (.tmp 77)
               (.seq
                (.reg [
                  ⟨(some 6), none, .mv (.const (.int .i64 0))⟩,
                  ⟨(some 7), none, .mv (.const (.int .i64 50))⟩])
                .ret)
               .skip))
             (.seq
              (.reg [
                ⟨(some 78), none, .mv (.tmp 2)⟩,
                ⟨(some 79), none, .mv (.tmp 8)⟩,
                ⟨(some 80), none, .iad 8 (.tmp 78) (.tmp 79)⟩,
                ⟨(some 81), none, .fad 1 (.tmp 80)⟩,
                ⟨(some 82), none, .load false 1 (.tmp 81)⟩,
                ⟨(some 6), none, .mv (.tmp 82)⟩,
                ⟨(some 7), none, .mv (.const (.int .i64 0))⟩])
              .ret)))
           (.seq
            (.reg [
              ⟨(some 84), none, .bin .eql .other (.tmp 39) (.const (.int .i64 3))⟩,
              ⟨(some 83), none, .mv (.tmp 84)⟩])
            (.cond (.tmp 83)
             (.seq
              (.reg [
                ⟨(some 85), none, .mv (.tmp 1)⟩,
                ⟨(some 86), none, .iad 1 (.tmp 85) (.const (.int .i64 0))⟩,
                ⟨(some 87), none, .load false 1 (.tmp 86)⟩,
                ⟨(some 88), none, .bin .eql .other (.tmp 87) (.const (.int .i64 1))⟩,
                ⟨(some 89), none, .mv (.tmp 88)⟩,
                ⟨(some 90), (some (89, false)), .mv (.tmp 1)⟩,
                ⟨(some 91), (some (89, false)), .iad 1 (.tmp 90) (.const (.int .i64 0))⟩,
                ⟨(some 92), (some (89, false)), .load false 1 (.tmp 91)⟩,
                ⟨(some 93), (some (89, false)), .bin .eql .other (.tmp 92) (.const (.int .i64 4))⟩,
                ⟨(some 94), none, .pick (.tmp 89) (.const (.bool true)) (.tmp 93)⟩])
              (.cond (.tmp 94)
               (.seq
                (.reg [
                  ⟨(some 95), none, .mv (.tmp 1)⟩,
                  ⟨(some 96), none, .iad 1 (.tmp 95) (.const (.int .i64 0))⟩,
                  ⟨(some 97), none, .load false 1 (.tmp 96)⟩,
                  ⟨(some 6), none, .mv (.tmp 97)⟩,
                  ⟨(some 7), none, .mv (.const (.int .i64 0))⟩])
                .ret)
               .skip))
             (.seq
              (.reg [
                ⟨(some 99), none, .bin .eql .other (.tmp 39) (.const (.int .i64 16))⟩,
                ⟨(some 98), none, .mv (.tmp 99)⟩])
              (.cond (.tmp 98)
               (.seq
                (.reg [
                  ⟨(some 100), none, .mv (.tmp 1)⟩,
                  ⟨(some 101), none, .iad 1 (.tmp 100) (.const (.int .i64 0))⟩,
                  ⟨(some 102), none, .load false 1 (.tmp 101)⟩,
                  ⟨(some 103), none, .bin .eql .other (.tmp 102) (.const (.int .i64 1))⟩])
                (.cond (.tmp 103)
                 (.seq
                  (.reg [
                    ⟨(some 6), none, .mv (.const (.int .i64 4))⟩,
                    ⟨(some 7), none, .mv (.const (.int .i64 0))⟩])
                  .ret)
                 .skip))
               (.seq
                (.reg [
                  ⟨(some 105), none, .bin .eql .other (.tmp 39) (.const (.int .i64 12))⟩,
                  ⟨(some 104), none, .mv (.tmp 105)⟩])
                (.cond (.tmp 104)
                 (.seq
                  (.reg [
                    ⟨(some 106), none, .mv (.tmp 1)⟩,
                    ⟨(some 107), none, .iad 1 (.tmp 106) (.const (.int .i64 0))⟩,
                    ⟨(some 108), none, .load false 1 (.tmp 107)⟩,
                    ⟨(some 109), none, .bin .eql .other (.tmp 108) (.const (.int .i64 2))⟩])
                  (.cond (.tmp 109)
                   (.seq
                    (.reg [
                      ⟨(some 6), none, .mv (.const (.int .i64 2))⟩,
                      ⟨(some 7), none, .mv (.const (.int .i64 0))⟩])
                    .ret)
                   .skip))
                 (.seq
                  (.seq
                   (.reg [
                     ⟨(some 111), none, .bin .eql .other (.tmp 39) (.const (.int .i64 10))⟩,
                     ⟨(some 110), none, .mv (.tmp 111)⟩])
                   (.cond (.tmp 110)
                    .skip
                    (.reg [
                      ⟨(some 112), none, .bin .eql .other (.tmp 39) (.const (.int .i64 11))⟩,
                      ⟨(some 110), none, .mv (.tmp 112)⟩])))
                  (.cond (.tmp 110)
                   (.seq
                    (.reg [
                      ⟨(some 113), none, .mv (.tmp 1)⟩,
                      ⟨(some 114), none, .iad 1 (.tmp 113) (.const (.int .i64 0))⟩,
                      ⟨(some 115), none, .load false 1 (.tmp 114)⟩,
                      ⟨(some 116), none, .bin .eql .other (.tmp 115) (.const (.int .i64 2))⟩,
                      ⟨(some 117), none, .mv (.tmp 116)⟩,
                      ⟨(some 118), (some (117, true)), .mv (.tmp 1)⟩,
                      ⟨(some 119), (some (117, true)), .iad 1 (.tmp 118) (.const (.int .i64 1))⟩,
                      ⟨(some 120), (some (117, true)), .load false 1 (.tmp 119)⟩,
                      ⟨(some 121), (some (117, true)), .bin .eql .other (.tmp 120) (.const (.int .i64 2))⟩,
                      ⟨(some 122), none, .pick (.tmp 117) (.tmp 121) (.const (.bool false))⟩])
                    (.cond (.tmp 122)
                     (.seq
                      (.reg [
                        ⟨(some 6), none, .mv (.const (.int .i64 2))⟩,
                        ⟨(some 7), none, .mv (.const (.int .i64 0))⟩])
                      .ret)
                     .skip))
                   (.seq
                    (.reg [
                      ⟨(some 124), none, .bin .eql .other (.tmp 39) (.const (.int .i64 8))⟩,
                      ⟨(some 123), none, .mv (.tmp 124)⟩])
                    (.cond (.tmp 123)
                     (.seq
                      (.dreg 6 [
                        ⟨(some 125), none, .mv (.tmp 1)⟩,
                        ⟨(some 126), none, .iad 1 (.tmp 125) (.const (.int .i64 0))⟩,
                        ⟨(some 127), none, .load false 1 (.tmp 126)⟩,
                        ⟨(some 128), none, .mv (.tmp 1)⟩,
                        ⟨(some 129), none, .iad 1 (.tmp 128) (.const (.int .i64 1))⟩,
                        ⟨(some 130), none, .load false 1 (.tmp 129)⟩,
                        ⟨(some 131), none, .bin .eql .other (.tmp 127) (.tmp 130)⟩])
                      (.cond (.tmp 131)
                       (.seq
                        (.reg [
                          ⟨(some 6), none, .mv (.const (.int .i64 2))⟩,
                          ⟨(some 7), none, .mv (.const (.int .i64 0))⟩])
                        .ret)
                       .skip))
                     (.seq
                      (.reg [
                        ⟨(some 133), none, .bin .eql .other (.tmp 39) (.const (.int .i64 9))⟩,
                        ⟨(some 132), none, .mv (.tmp 133)⟩])
                      (.cond (.tmp 132)
                       (.seq
                        (.dreg 6 [
                          ⟨(some 134), none, .mv (.tmp 1)⟩,
                          ⟨(some 135), none, .iad 1 (.tmp 134) (.const (.int .i64 0))⟩,
                          ⟨(some 136), none, .load false 1 (.tmp 135)⟩,
                          ⟨(some 137), none, .mv (.tmp 1)⟩,
                          ⟨(some 138), none, .iad 1 (.tmp 137) (.const (.int .i64 1))⟩,
                          ⟨(some 139), none, .load false 1 (.tmp 138)⟩,
                          ⟨(some 140), none, .bin .eql .other (.tmp 136) (.tmp 139)⟩,
                          ⟨(some 141), none, .mv (.tmp 140)⟩,
                          ⟨(some 142), (some (141, true)), .mv (.tmp 1)⟩,
                          ⟨(some 143), (some (141, true)), .iad 1 (.tmp 142) (.const (.int .i64 0))⟩,
                          ⟨(some 144), (some (141, true)), .load false 1 (.tmp 143)⟩,
                          ⟨(some 145), (some (141, true)), .bin .eql .other (.tmp 144) (.const (.int .i64 1))⟩,
                          ⟨(some 146), (some (141, true)), .mv (.tmp 145)⟩,
                          ⟨(some 147), (some (146, false)), .mv (.tmp 1)⟩,
                          ⟨(some 148), (some (146, false)), .iad 1 (.tmp 147) (.const (.int .i64 0))⟩,
                          ⟨(some 149), (some (146, false)), .load false 1 (.tmp 148)⟩,
                          ⟨(some 150), (some (146, false)), .bin .eql .other (.tmp 149) (.const (.int .i64 3))⟩,
                          ⟨(some 151), (some (141, true)), .pick (.tmp 146) (.const (.bool true)) (.tmp 150)⟩,
                          ⟨(some 152), (some (141, true)), .mv (.tmp 151)⟩,
                          ⟨(some 153), (some (152, false)), .mv (.tmp 1)⟩,
                          ⟨(some 154), (some (152, false)), .iad 1 (.tmp 153) (.const (.int .i64 0))⟩,
                          ⟨(some 155), (some (152, false)), .load false 1 (.tmp 154)⟩,
                          ⟨(some 156), (some (152, false)), .bin .eql .other (.tmp 155) (.const (.int .i64 4))⟩,
                          ⟨(some 157), (some (141, true)), .pick (.tmp 152) (.const (.bool true)) (.tmp 156)⟩,
                          ⟨(some 158), none, .pick (.tmp 141) (.tmp 157) (.const (.bool false))⟩])
                        (.cond (.tmp 158)
                         (.seq
                          (.reg [
                            ⟨(some 6), none, .mv (.const (.int .i64 2))⟩,
                            ⟨(some 7), none, .mv (.const (.int .i64 0))⟩])
                          .ret)
                         .skip))
                       (.seq
                        (.reg [
                          ⟨(some 160), none, .bin .eql .other (.tmp 39) (.const (.int .i64 13))⟩,
                          ⟨(some 159), none, .mv (.tmp 160)⟩])
                        (.cond (.tmp 159)
                         (.seq
                          (.dreg 11 [
                            ⟨(some 161), none, .mv (.tmp 1)⟩,
                            ⟨(some 162), none, .iad 1 (.tmp 161) (.const (.int .i64 0))⟩,
                            ⟨(some 163), none, .load false 1 (.tmp 162)⟩,
                            ⟨(some 164), none, .bin .eql .other (.tmp 163) (.const (.int .i64 2))⟩,
                            ⟨(some 165), none, .mv (.tmp 164)⟩,
                            ⟨(some 166), (some (165, true)), .mv (.tmp 1)⟩,
                            ⟨(some 167), (some (165, true)), .iad 1 (.tmp 166) (.const (.int .i64 1))⟩,
                            ⟨(some 168), (some (165, true)), .load false 1 (.tmp 167)⟩,
                            ⟨(some 169), (some (165, true)), .mv (.tmp 1)⟩,
                            ⟨(some 170), (some (165, true)), .iad 1 (.tmp 169) (.const (.int .i64 2))⟩,
                            ⟨(some 171), (some (165, true)), .load false 1 (.tmp 170)⟩,
                            ⟨(some 172), (some (165, true)), .bin .eql .other (.tmp 168) (.tmp 171)⟩,
                            ⟨(some 173), none, .pick (.tmp 165) (.tmp 172) (.const (.bool false))⟩])
                          (.cond (.tmp 173)
                           (.seq
                            (.reg [
                              ⟨(some 174), none, .mv (.tmp 1)⟩,
                              ⟨(some 175), none, .iad 1 (.tmp 174) (.const (.int .i64 1))⟩,
                              ⟨(some 176), none, .load false 1 (.tmp 175)⟩,
                              ⟨(some 6), none, .mv (.tmp 176)⟩,
                              ⟨(some 7), none, .mv (.const (.int .i64 0))⟩])
                            .ret)
                           .skip))
                         (.seq
                          (.dreg 6 [
                            ⟨(some 40), none, .mv (.tmp 1)⟩,
                            ⟨(some 41), none, .iad 1 (.tmp 40) (.const (.int .i64 0))⟩,
                            ⟨(some 42), none, .load false 1 (.tmp 41)⟩,
                            ⟨(some 43), none, .mv (.tmp 1)⟩,
                            ⟨(some 44), none, .iad 1 (.tmp 43) (.const (.int .i64 1))⟩,
                            ⟨(some 45), none, .load false 1 (.tmp 44)⟩,
                            ⟨(some 46), none, .bin .eql .other (.tmp 42) (.tmp 45)⟩,
                            ⟨(some 47), none, .mv (.tmp 46)⟩,
                            ⟨(some 48), (some (47, true)), .mv (.tmp 1)⟩,
                            ⟨(some 49), (some (47, true)), .iad 1 (.tmp 48) (.const (.int .i64 0))⟩,
                            ⟨(some 50), (some (47, true)), .load false 1 (.tmp 49)⟩,
                            ⟨(some 51), (some (47, true)), .bin .eql .other (.tmp 50) (.const (.int .i64 1))⟩,
                            ⟨(some 52), (some (47, true)), .mv (.tmp 51)⟩,
                            ⟨(some 53), (some (52, false)), .mv (.tmp 1)⟩,
                            ⟨(some 54), (some (52, false)), .iad 1 (.tmp 53) (.const (.int .i64 0))⟩,
                            ⟨(some 55), (some (52, false)), .load false 1 (.tmp 54)⟩,
                            ⟨(some 56), (some (52, false)), .bin .eql .other (.tmp 55) (.const (.int .i64 4))⟩,
                            ⟨(some 57), (some (47, true)), .pick (.tmp 52) (.const (.bool true)) (.tmp 56)⟩,
                            ⟨(some 58), none, .pick (.tmp 47) (.tmp 57) (.const (.bool false))⟩])
                          (.cond (.tmp 58)
                           (.seq
                            (.reg [
                              ⟨(some 59), none, .mv (.tmp 1)⟩,
                              ⟨(some 60), none, .iad 1 (.tmp 59) (.const (.int .i64 0))⟩,
                              ⟨(some 61), none, .load false 1 (.tmp 60)⟩,
                              ⟨(some 6), none, .mv (.tmp 61)⟩,
                              ⟨(some 7), none, .mv (.const (.int .i64 0))⟩])
                            .ret)
                           .skip))))))))))))))))))))))
     (.seq
      (.reg [
        ⟨(some 6), none, .mv (.const (.int .i64 0))⟩,
        ⟨(some 7), none, .mv (.const (.int .i64 40))⟩])
      .ret))))
theorem F213 : compF Tryz.prog 213 = some ⟨3, 177, [.tmp 6, .tmp 7], c213⟩ := by kernel_rfl
theorem B213 : Bod Tryz.prog 213 := bod_of F213
/-- quaestor/quaestorref05.kids -/
def c231 : ACode :=
  (.seq
   (.reg [
     ⟨(some 2), none, .mv (.const (.int .i64 0))⟩])
   (.seq
    (.seq
     (.reg [
       ⟨(some 3), none, .mv (.tmp 0)⟩])
     (.block 0
      (.seq
       (.seq
        (.reg [
          ⟨(some 5), none, .bin .eql .other (.tmp 3) (.const (.int .i64 1))⟩,
          ⟨(some 4), none, .mv (.tmp 5)⟩])
        (.cond (.tmp 4)
         .skip
         (.reg [
           ⟨(some 6), none, .bin .eql .other (.tmp 3) (.const (.int .i64 2))⟩,
           ⟨(some 4), none, .mv (.tmp 6)⟩])))
       (.cond (.tmp 4)
        (.seq
         (.reg [
           ⟨(some 2), none, .mv (.const (.int .i64 0))⟩])
         .ret)
        (.seq
         (.seq
          (.reg [
            ⟨(some 8), none, .bin .eql .other (.tmp 3) (.const (.int .i64 3))⟩,
            ⟨(some 7), none, .mv (.tmp 8)⟩])
          (.cond (.tmp 7)
           .skip
           (.seq
            (.reg [
              ⟨(some 9), none, .bin .eql .other (.tmp 3) (.const (.int .i64 12))⟩,
              ⟨(some 7), none, .mv (.tmp 9)⟩])
            (.cond (.tmp 7)
             .skip
             (.reg [
               ⟨(some 10), none, .bin .eql .other (.tmp 3) (.const (.int .i64 16))⟩,
               ⟨(some 7), none, .mv (.tmp 10)⟩])))))
         (.cond (.tmp 7)
          (.seq
           (.reg [
             ⟨(some 2), none, .mv (.const (.int .i64 1))⟩])
           .ret)
          (.seq
           (.seq
            (.reg [
              ⟨(some 12), none, .bin .eql .other (.tmp 3) (.const (.int .i64 4))⟩,
              ⟨(some 11), none, .mv (.tmp 12)⟩])
            (.cond (.tmp 11)
             .skip
             (.seq
              (.reg [
                ⟨(some 13), none, .bin .eql .other (.tmp 3) (.const (.int .i64 5))⟩,
                ⟨(some 11), none, .mv (.tmp 13)⟩])
              (.cond (.tmp 11)
               .skip
               (.seq
                (.reg [
                  ⟨(some 14), none, .bin .eql .other (.tmp 3) (.const (.int .i64 6))⟩,
                  ⟨(some 11), none, .mv (.tmp 14)⟩])
                (.cond (.tmp 11)
                 .skip
                 (.seq
                  (.reg [
                    ⟨(some 15), none, .bin .eql .other (.tmp 3) (.const (.int .i64 7))⟩,
                    ⟨(some 11), none, .mv (.tmp 15)⟩])
                  (.cond (.tmp 11)
                   .skip
                   (.seq
                    (.reg [
                      ⟨(some 16), none, .bin .eql .other (.tmp 3) (.const (.int .i64 14))⟩,
                      ⟨(some 11), none, .mv (.tmp 16)⟩])
                    (.cond (.tmp 11)
                     .skip
                     (.seq
                      (.reg [
                        ⟨(some 17), none, .bin .eql .other (.tmp 3) (.const (.int .i64 15))⟩,
                        ⟨(some 11), none, .mv (.tmp 17)⟩])
                      (.cond (.tmp 11)
                       .skip
                       (.seq
                        (.reg [
                          ⟨(some 18), none, .bin .eql .other (.tmp 3) (.const (.int .i64 8))⟩,
                          ⟨(some 11), none, .mv (.tmp 18)⟩])
                        (.cond (.tmp 11)
                         .skip
                         (.seq
                          (.reg [
                            ⟨(some 19), none, .bin .eql .other (.tmp 3) (.const (.int .i64 9))⟩,
                            ⟨(some 11), none, .mv (.tmp 19)⟩])
                          (.cond (.tmp 11)
                           .skip
                           (.seq
                            (.reg [
                              ⟨(some 20), none, .bin .eql .other (.tmp 3) (.const (.int .i64 10))⟩,
                              ⟨(some 11), none, .mv (.tmp 20)⟩])
                            (.cond (.tmp 11)
                             .skip
                             (.reg [
                               ⟨(some 21), none, .bin .eql .other (.tmp 3) (.const (.int .i64 11))⟩,
                               ⟨(some 11), none, .mv (.tmp 21)⟩])))))))))))))))))))
           (.cond (.tmp 11)
            (.seq
             (.reg [
               ⟨(some 2), none, .mv (.const (.int .i64 2))⟩])
             .ret)
            (.seq
             (.reg [
               ⟨(some 23), none, .bin .eql .other (.tmp 3) (.const (.int .i64 13))⟩,
               ⟨(some 22), none, .mv (.tmp 23)⟩])
             (.cond (.tmp 22)
              (.seq
               (.reg [
                 ⟨(some 2), none, .mv (.const (.int .i64 3))⟩])
               .ret)
              .skip))))))))))
    (.seq
     (.reg [
       ⟨(some 2), none, .mv (.const (.int .i64 (-1)))⟩])
     .ret)))
theorem F231 : compF Tryz.prog 231 = some ⟨1, 24, [.tmp 2], c231⟩ := by kernel_rfl
theorem B231 : Bod Tryz.prog 231 := bod_of F231
/-- quaestor/quaestorref05.field -/
def c232 : ACode :=
  (.seq
   (.reg [
     ⟨(some 4), none, .mv (.const (.int .i64 0))⟩])
   (.seq
    (.seq
     (.reg [
       ⟨(some 5), none, .mv (.const (.int .i64 0))⟩])
     (.block 0
      (.loop
       (.seq
        (.seq
         (.reg [
           ⟨(some 6), none, .mv (.tmp 5)⟩,
           ⟨(some 7), none, .mv (.tmp 1)⟩,
           ⟨(some 8), none, .len false (.tmp 7)⟩,
           ⟨(some 9), none, .bin .lss .other (.tmp 6) (.tmp 8)⟩])
         (.cond (.tmp 9)
          .skip
          (.exit 0)))
        (.seq
         (.block 1
          (.seq
           (.reg [
             ⟨(some 12), none, .mv (.tmp 1)⟩,
             ⟨(some 13), none, .mv (.tmp 5)⟩,
             ⟨(some 14), none, .iad 8 (.tmp 12) (.tmp 13)⟩,
             ⟨(some 15), none, .fad 0 (.tmp 14)⟩,
             ⟨(some 16), none, .load false 1 (.tmp 15)⟩,
             ⟨(some 17), none, .mv (.tmp 0)⟩,
             ⟨(some 18), none, .bin .eql .other (.tmp 16) (.tmp 17)⟩])
           (.cond (.tmp 18)
            (.seq
             (.reg [
               ⟨(some 19), none, .mv (.tmp 5)⟩,
               ⟨(some 4), none, .mv (.tmp 19)⟩])
             .ret)
            .skip)))
         (.reg [
           ⟨(some 10), none, .mv (.tmp 5)⟩,
           ⟨(some 11), none, .bin .add .other (.tmp 10) (.const (.int .i64 1))⟩,
           ⟨(some 5), none, .mv (.tmp 11)⟩]))))))
    (.seq
     (.reg [
       ⟨(some 4), none, .mv (.const (.int .i64 (-1)))⟩])
     .ret)))
theorem F232 : compF Tryz.prog 232 = some ⟨2, 20, [.tmp 4], c232⟩ := by kernel_rfl
theorem B232 : Bod Tryz.prog 232 := bod_of F232
end Go.Proofs.YtbnelpgogjbgjaaGreat.Q
