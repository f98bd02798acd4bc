/- A helper of the claim: - (*gabelle/valid.checker).exports$1 -/
import Derived.Test.YtmpmagcepgjcdaaGreatSxGlue
import Derived.Test.YtmpmagcepgjcdaaGreatTabA
import Derived.Test.YtmpmagcepgjcdaaGreatProg
import Derived.KernelRfl
set_option linter.all false
set_option maxRecDepth 100000
namespace Go.Sx.Rule
open Go Go.Sx

/-- (*gabelle/valid.checker).exports$1 -/
def ir66 : IR :=
  (.seq (.ops [⟨some 3, none, .box 52 (.tm 0)⟩])
  (.seq (.ops [⟨some 7, none, .load none (.tm 1)⟩,
    ⟨some 8, none, .fieldAddr 0 (.tm 3)⟩,
    ⟨some 9, none, .load none (.tm 8)⟩,
    ⟨some 10, none, .lookup .str (.agg #[]) true (.tm 7) (.tm 9)⟩,
    ⟨some 6, none, .mv (.tm 10)⟩,
    ⟨some 11, none, .extract (.tm 6) 0⟩,
    ⟨some 12, none, .extract (.tm 6) 1⟩,
    ⟨some 4, none, .newv 138 []⟩,
    ⟨none, none, .store 0 (.tm 4) (.tm 11)⟩,
    ⟨some 5, none, .mv (.tm 12)⟩])
  (.seq (.ops [⟨some 13, none, .load none (.tm 1)⟩,
    ⟨some 14, none, .fieldAddr 0 (.tm 3)⟩,
    ⟨some 15, none, .load none (.tm 14)⟩,
    ⟨some 16, none, .build [] []⟩,
    ⟨none, none, .mapUpd .str (.tm 13) (.tm 15) (.tm 16)⟩])
  (.seq (.draw (some [(some true, ⟨some 17, none, .load none (.tm 2)⟩),
    (some false, ⟨some 18, none, .load none (.tm 2)⟩),
    (some false, ⟨some 19, none, .fieldAddr 1 (.tm 3)⟩),
    (some false, ⟨some 20, none, .load none (.tm 19)⟩),
    (some false, ⟨some 21, none, .fieldAddr 2 (.tm 3)⟩),
    (some false, ⟨some 22, none, .load none (.tm 21)⟩),
    (none, ⟨some 23, none, .call (.cn (.func (.func 42) #[] #[])) [.tm 18, .tm 20, .tm 22]⟩),
    (none, ⟨some 24, none, .call (.cn (.func (.func 21) #[] #[])) [.tm 17, .tm 23, .cn (.int .i64 (80))]⟩)])
   [([], ⟨some 17, none, .load none (.tm 2)⟩),
    ([], ⟨some 18, none, .load none (.tm 2)⟩),
    ([], ⟨some 19, none, .fieldAddr 1 (.tm 3)⟩),
    ([2], ⟨some 20, none, .load none (.tm 19)⟩),
    ([], ⟨some 21, none, .fieldAddr 2 (.tm 3)⟩),
    ([4], ⟨some 22, none, .load none (.tm 21)⟩),
    ([1, 2, 3, 4, 5], ⟨some 23, none, .call (.cn (.func (.func 42) #[] #[])) [.tm 18, .tm 20, .tm 22]⟩),
    ([0, 1, 2, 3, 4, 5, 6], ⟨some 24, none, .call (.cn (.func (.func 21) #[] #[])) [.tm 17, .tm 23, .cn (.int .i64 (80))]⟩)])
  (.ops [⟨some 25, none, .load none (.tm 2)⟩,
    ⟨some 26, none, .mv (.tm 5)⟩,
    ⟨some 27, none, .un .not (.tm 26)⟩,
    ⟨some 28, none, .call (.cn (.func (.func 21) #[] #[])) [.tm 25, .tm 27, .cn (.int .i64 (111))]⟩])))))
def rt66 : List IRet := []
theorem ci66 : (Go.Proofs.Tryz.f66.body).bind (compile Go.Proofs.Tryz.prog Go.Proofs.Tryz.f66.ntmps) = some ir66 := by kernel_rfl
theorem cr66 : compileRets Go.Proofs.Tryz.prog Go.Proofs.Tryz.f66.results.toList = some rt66 := by kernel_rfl
def fn66 : XFn := ⟨ir66, rt66, 29⟩
theorem fk66 : FnOK Go.Proofs.Tryz.prog 66 fn66 := ⟨⟨_, _, Go.Proofs.Tryz.func66, rfl, by kernel_rfl, ci66, cr66, Go.Proofs.Tryz.ntmps66.symm⟩⟩

/-- gabelle/space.at[gabelle/space.typed] -/
def ir67 : IR :=
  (.seq (.ops [⟨some 4, none, .newv 127 [.slice none 0 0, .slice none 0 0, .bool false]⟩,
    ⟨some 5, none, .mv (.cn (.bool false))⟩])
  (.seq (.seq (.ops [⟨some 7, none, .mv (.tm 1)⟩,
    ⟨some 8, none, .conv (.int .u64) (.tm 7)⟩,
    ⟨some 9, none, .mv (.tm 0)⟩,
    ⟨some 10, none, .len .sl (.tm 9)⟩,
    ⟨some 11, none, .conv (.int .u64) (.tm 10)⟩,
    ⟨some 12, none, .bin .geq .int (.tm 8) (.tm 11)⟩])
  (.cond (.tm 12)
   (.seq (.ops [⟨some 6, none, .newv 127 [.slice none 0 0, .slice none 0 0, .bool false]⟩])
   (.seq (.ops [⟨some 13, none, .load (some 3) (.tm 6)⟩,
     ⟨none, none, .store 3 (.tm 4) (.tm 13)⟩,
     ⟨some 5, none, .mv (.cn (.bool false))⟩])
   .ret))
   .skip))
  (.seq (.ops [⟨some 14, none, .mv (.tm 0)⟩,
    ⟨some 15, none, .mv (.tm 1)⟩,
    ⟨some 16, none, .idxAddr 3 none (.tm 14) (.tm 15)⟩,
    ⟨some 17, none, .load (some 3) (.tm 16)⟩,
    ⟨none, none, .store 3 (.tm 4) (.tm 17)⟩,
    ⟨some 5, none, .mv (.cn (.bool true))⟩])
  .ret)))
def rt67 : List IRet := [.cell 4 (some 3), .tm 5]
theorem ci67 : (Go.Proofs.Tryz.f67.body).bind (compile Go.Proofs.Tryz.prog Go.Proofs.Tryz.f67.ntmps) = some ir67 := by kernel_rfl
theorem cr67 : compileRets Go.Proofs.Tryz.prog Go.Proofs.Tryz.f67.results.toList = some rt67 := by kernel_rfl
def fn67 : XFn := ⟨ir67, rt67, 18⟩
theorem fk67 : FnOK Go.Proofs.Tryz.prog 67 fn67 := ⟨⟨_, _, Go.Proofs.Tryz.func67, rfl, by kernel_rfl, ci67, cr67, Go.Proofs.Tryz.ntmps67.symm⟩⟩

/-- slices.Equal[[]uint8,uint8] -/
def ir68 : IR :=
  (.seq (.ops [⟨some 4, none, .mv (.cn (.bool false))⟩])
  (.seq (.seq (.ops [⟨some 6, none, .mv (.tm 0)⟩,
    ⟨some 7, none, .len .sl (.tm 6)⟩,
    ⟨some 8, none, .mv (.tm 1)⟩,
    ⟨some 9, none, .len .sl (.tm 8)⟩,
    ⟨some 10, none, .bin .neq .int (.tm 7) (.tm 9)⟩])
  (.cond (.tm 10)
   (.seq (.ops [⟨some 4, none, .mv (.cn (.bool false))⟩])
   .ret)
   .skip))
  (.seq (.seq (.ops [⟨some 11, none, .mv (.tm 0)⟩,
    ⟨some 12, none, .len .sl (.tm 11)⟩,
    ⟨some 13, none, .mv (.cn (.int .i64 (0)))⟩])
  (.block 0
   (.loop
    (.seq (.ops [⟨some 14, none, .bin .lss .int (.tm 13) (.tm 12)⟩])
    (.seq (.cond (.tm 14)
     .skip
     (.exit 0))
    (.seq (.block 1
     (.seq (.ops [⟨some 15, none, .mv (.tm 13)⟩,
       ⟨some 5, none, .mv (.tm 15)⟩])
     (.seq (.draw (some [(some false, ⟨some 16, none, .mv (.tm 0)⟩),
       (some false, ⟨some 17, none, .mv (.tm 5)⟩),
       (some false, ⟨some 18, none, .idxAddr 1 none (.tm 16) (.tm 17)⟩),
       (some false, ⟨some 19, none, .load none (.tm 18)⟩),
       (some false, ⟨some 20, none, .mv (.tm 1)⟩),
       (some false, ⟨some 21, none, .mv (.tm 5)⟩),
       (some false, ⟨some 22, none, .idxAddr 1 none (.tm 20) (.tm 21)⟩),
       (some false, ⟨some 23, none, .load none (.tm 22)⟩),
       (some false, ⟨some 24, none, .bin .neq .int (.tm 19) (.tm 23)⟩)])
      [([], ⟨some 16, none, .mv (.tm 0)⟩),
       ([], ⟨some 17, none, .mv (.tm 5)⟩),
       ([0, 1], ⟨some 18, none, .idxAddr 1 none (.tm 16) (.tm 17)⟩),
       ([0, 1, 2], ⟨some 19, none, .load none (.tm 18)⟩),
       ([], ⟨some 20, none, .mv (.tm 1)⟩),
       ([], ⟨some 21, none, .mv (.tm 5)⟩),
       ([4, 5], ⟨some 22, none, .idxAddr 1 none (.tm 20) (.tm 21)⟩),
       ([4, 5, 6], ⟨some 23, none, .load none (.tm 22)⟩),
       ([0, 1, 2, 3, 4, 5, 6, 7], ⟨some 24, none, .bin .neq .int (.tm 19) (.tm 23)⟩)])
     (.cond (.tm 24)
      (.seq (.ops [⟨some 4, none, .mv (.cn (.bool false))⟩])
      .ret)
      .skip))))
    (.ops [⟨some 25, none, .bin .add .int (.tm 13) (.cn (.int .i64 (1)))⟩,
      ⟨some 13, none, .mv (.tm 25)⟩])))))))
  (.seq (.ops [⟨some 4, none, .mv (.cn (.bool true))⟩])
  .ret))))
def rt68 : List IRet := [.tm 4]
theorem ci68 : (Go.Proofs.Tryz.f68.body).bind (compile Go.Proofs.Tryz.prog Go.Proofs.Tryz.f68.ntmps) = some ir68 := by kernel_rfl
theorem cr68 : compileRets Go.Proofs.Tryz.prog Go.Proofs.Tryz.f68.results.toList = some rt68 := by kernel_rfl
def fn68 : XFn := ⟨ir68, rt68, 26⟩
theorem fk68 : FnOK Go.Proofs.Tryz.prog 68 fn68 := ⟨⟨_, _, Go.Proofs.Tryz.func68, rfl, by kernel_rfl, ci68, cr68, Go.Proofs.Tryz.ntmps68.symm⟩⟩

/-- gabelle/instr.AppendExpr -/
def ir69 : IR :=
  (.seq (.ops [⟨some 4, none, .mv (.cn (.slice none 0 0))⟩,
    ⟨some 5, none, .mv (.cn (.int .i64 (0)))⟩])
  (.seq (.ops [⟨some 12, none, .mv (.tm 0)⟩,
    ⟨some 13, none, .append 5 1 1 [.int .u8 (0)] (.cn (.slice none 0 0)) (.tm 12)⟩,
    ⟨some 6, none, .mv (.tm 13)⟩])
  (.seq (.ops [⟨some 7, none, .newv 164 [.slice none 0 0]⟩])
  (.seq (.seq (.ops [⟨some 14, none, .mv (.tm 1)⟩,
    ⟨some 15, none, .len .sl (.tm 14)⟩,
    ⟨some 16, none, .mv (.cn (.int .i64 (0)))⟩])
  (.block 0
   (.loop
    (.seq (.ops [⟨some 17, none, .bin .lss .int (.tm 16) (.tm 15)⟩])
    (.seq (.cond (.tm 17)
     .skip
     (.exit 0))
    (.seq (.block 1
     (.seq (.ops [⟨some 18, none, .idxAddr 5 none (.tm 14) (.tm 16)⟩,
       ⟨some 19, none, .load (some 5) (.tm 18)⟩,
       ⟨some 9, none, .newv 56 [.int .u8 (0), .int .u32 (0), .int .u32 (0), .int .i64 (0), .slice none 0 0]⟩,
       ⟨none, none, .store 5 (.tm 9) (.tm 19)⟩])
     (.seq (.ops [⟨some 21, none, .fieldAddr 0 (.tm 9)⟩,
       ⟨some 22, none, .load none (.tm 21)⟩,
       ⟨some 23, none, .call (.cn (.func (.func 83) #[] #[])) [.tm 7, .tm 22]⟩,
       ⟨some 20, none, .mv (.tm 23)⟩,
       ⟨some 24, none, .extract (.tm 20) 0⟩,
       ⟨some 25, none, .extract (.tm 20) 1⟩,
       ⟨some 10, none, .mv (.tm 24)⟩,
       ⟨some 11, none, .mv (.tm 25)⟩])
     (.seq (.seq (.ops [⟨some 26, none, .mv (.tm 10)⟩,
       ⟨some 27, none, .mv (.tm 26)⟩,
       ⟨some 28, (some (27, false)), .mv (.tm 11)⟩,
       ⟨some 29, none, .pick (.tm 27) (.cn (.bool true)) (.tm 28)⟩,
       ⟨some 30, none, .mv (.tm 29)⟩,
       ⟨some 31, (some (30, false)), .load (some 5) (.tm 9)⟩,
       ⟨some 32, (some (30, false)), .call (.cn (.func (.func 84) #[] #[])) [.tm 31]⟩,
       ⟨some 33, (some (30, false)), .un .not (.tm 32)⟩,
       ⟨some 34, none, .pick (.tm 30) (.cn (.bool true)) (.tm 33)⟩])
     (.cond (.tm 34)
      (.seq (.ops [⟨some 4, none, .mv (.cn (.slice none 0 0))⟩,
        ⟨some 5, none, .mv (.cn (.int .i64 (2)))⟩])
      .ret)
      .skip))
     (.ops [⟨some 35, none, .mv (.tm 6)⟩,
       ⟨some 36, none, .load (some 5) (.tm 9)⟩,
       ⟨some 37, none, .call (.cn (.func (.func 85) #[] #[])) [.tm 35, .tm 36]⟩,
       ⟨some 6, none, .mv (.tm 37)⟩])))))
    (.ops [⟨some 38, none, .bin .add .int (.tm 16) (.cn (.int .i64 (1)))⟩,
      ⟨some 16, none, .mv (.tm 38)⟩])))))))
  (.seq (.seq (.ops [⟨some 39, none, .load none (.tm 7)⟩,
    ⟨some 40, none, .len .sl (.tm 39)⟩,
    ⟨some 41, none, .bin .gtr .int (.tm 40) (.cn (.int .i64 (0)))⟩])
  (.cond (.tm 41)
   (.seq (.ops [⟨some 4, none, .mv (.cn (.slice none 0 0))⟩,
     ⟨some 5, none, .mv (.cn (.int .i64 (2)))⟩])
   .ret)
   .skip))
  (.seq (.ops [⟨some 42, none, .mv (.tm 6)⟩,
    ⟨some 43, none, .bslice 5 1 [.int .u8 (0)] [(0, 1, (.cn (.int .u8 (11))))]⟩,
    ⟨some 44, none, .append 5 1 1 [.int .u8 (0)] (.tm 42) (.tm 43)⟩,
    ⟨some 4, none, .mv (.tm 44)⟩,
    ⟨some 5, none, .mv (.cn (.int .i64 (0)))⟩])
  .ret))))))
def rt69 : List IRet := [.tm 4, .tm 5]
theorem ci69 : (Go.Proofs.Tryz.f69.body).bind (compile Go.Proofs.Tryz.prog Go.Proofs.Tryz.f69.ntmps) = some ir69 := by kernel_rfl
theorem cr69 : compileRets Go.Proofs.Tryz.prog Go.Proofs.Tryz.f69.results.toList = some rt69 := by kernel_rfl
def fn69 : XFn := ⟨ir69, rt69, 45⟩
theorem fk69 : FnOK Go.Proofs.Tryz.prog 69 fn69 := ⟨⟨_, _, Go.Proofs.Tryz.func69, rfl, by kernel_rfl, ci69, cr69, Go.Proofs.Tryz.ntmps69.symm⟩⟩

/-- slices.ContainsFunc[[]gabelle/api.Local,gabelle/api.Local] -/
def ir70 : IR :=
  (.seq (.ops [⟨some 4, none, .mv (.cn (.bool false))⟩])
  (.seq (.ops [⟨some 5, none, .mv (.tm 0)⟩,
    ⟨some 6, none, .mv (.tm 1)⟩,
    ⟨some 7, none, .call (.cn (.func (.func 86) #[] #[])) [.tm 5, .tm 6]⟩,
    ⟨some 8, none, .bin .geq .int (.tm 7) (.cn (.int .i64 (0)))⟩,
    ⟨some 4, none, .mv (.tm 8)⟩])
  .ret))
def rt70 : List IRet := [.tm 4]
theorem ci70 : (Go.Proofs.Tryz.f70.body).bind (compile Go.Proofs.Tryz.prog Go.Proofs.Tryz.f70.ntmps) = some ir70 := by kernel_rfl
theorem cr70 : compileRets Go.Proofs.Tryz.prog Go.Proofs.Tryz.f70.results.toList = some rt70 := by kernel_rfl
def fn70 : XFn := ⟨ir70, rt70, 9⟩
theorem fk70 : FnOK Go.Proofs.Tryz.prog 70 fn70 := ⟨⟨_, _, Go.Proofs.Tryz.func70, rfl, by kernel_rfl, ci70, cr70, Go.Proofs.Tryz.ntmps70.symm⟩⟩

/-- gabelle/body.Check$1 -/
def ir71 : IR :=
  (.seq (.ops [⟨some 1, none, .box 61 (.tm 0)⟩,
    ⟨some 2, none, .mv (.cn (.bool false))⟩])
  (.seq (.ops [⟨some 3, none, .fieldAddr 1 (.tm 1)⟩,
    ⟨some 4, none, .load none (.tm 3)⟩,
    ⟨some 5, none, .bin .neq .int (.tm 4) (.cn (.int .u8 (127)))⟩,
    ⟨some 6, none, .mv (.tm 5)⟩,
    ⟨some 7, (some (6, true)), .fieldAddr 1 (.tm 1)⟩,
    ⟨some 8, (some (6, true)), .load none (.tm 7)⟩,
    ⟨some 9, (some (6, true)), .bin .neq .int (.tm 8) (.cn (.int .u8 (126)))⟩,
    ⟨some 10, none, .pick (.tm 6) (.tm 9) (.cn (.bool false))⟩,
    ⟨some 2, none, .mv (.tm 10)⟩])
  .ret))
def rt71 : List IRet := [.tm 2]
theorem ci71 : (Go.Proofs.Tryz.f71.body).bind (compile Go.Proofs.Tryz.prog Go.Proofs.Tryz.f71.ntmps) = some ir71 := by kernel_rfl
theorem cr71 : compileRets Go.Proofs.Tryz.prog Go.Proofs.Tryz.f71.results.toList = some rt71 := by kernel_rfl
def fn71 : XFn := ⟨ir71, rt71, 11⟩
theorem fk71 : FnOK Go.Proofs.Tryz.prog 71 fn71 := ⟨⟨_, _, Go.Proofs.Tryz.func71, rfl, by kernel_rfl, ci71, cr71, Go.Proofs.Tryz.ntmps71.symm⟩⟩

/-- gabelle/typing.New -/
def ir72 : IR :=
  (.seq (.ops [⟨some 2, none, .mv (.cn (.pointer none))⟩])
  (.seq (.ops [⟨some 4, none, .build [.slice none 0 0, .slice none 0 0, .int .i64 (0)] []⟩,
    ⟨some 5, none, .box 172 (.tm 4)⟩,
    ⟨some 3, none, .mv (.tm 5)⟩])
  (.seq (.ops [⟨some 6, none, .mv (.tm 3)⟩,
    ⟨some 7, none, .mv (.tm 0)⟩,
    ⟨some 8, none, .mv (.tm 0)⟩,
    ⟨some 9, none, .call (.cn (.func (.func 87) #[] #[])) [.tm 6, .tm 7, .tm 8]⟩])
  (.seq (.ops [⟨some 10, none, .mv (.tm 3)⟩,
    ⟨some 2, none, .mv (.tm 10)⟩])
  .ret))))
def rt72 : List IRet := [.tm 2]
theorem ci72 : (Go.Proofs.Tryz.f72.body).bind (compile Go.Proofs.Tryz.prog Go.Proofs.Tryz.f72.ntmps) = some ir72 := by kernel_rfl
theorem cr72 : compileRets Go.Proofs.Tryz.prog Go.Proofs.Tryz.f72.results.toList = some rt72 := by kernel_rfl
def fn72 : XFn := ⟨ir72, rt72, 11⟩
theorem fk72 : FnOK Go.Proofs.Tryz.prog 72 fn72 := ⟨⟨_, _, Go.Proofs.Tryz.func72, rfl, by kernel_rfl, ci72, cr72, Go.Proofs.Tryz.ntmps72.symm⟩⟩

/-- (*gabelle/body.checker).of -/
def ir73 : IR :=
  (.seq (.ops [⟨some 4, none, .mv (.cn (.nilFunc))⟩])
  (.seq (.seq (.ops [⟨some 5, none, .mv (.tm 1)⟩])
  (.block 0
   (.seq (.seq (.ops [⟨some 7, none, .bin .eql .int (.tm 5) (.cn (.int .u8 (2)))⟩,
     ⟨some 6, none, .mv (.tm 7)⟩])
   (.cond (.tm 6)
    .skip
    (.seq (.ops [⟨some 8, none, .bin .eql .int (.tm 5) (.cn (.int .u8 (3)))⟩,
      ⟨some 6, none, .mv (.tm 8)⟩])
    (.cond (.tm 6)
     .skip
     (.ops [⟨some 9, none, .bin .eql .int (.tm 5) (.cn (.int .u8 (4)))⟩,
       ⟨some 6, none, .mv (.tm 9)⟩])))))
   (.cond (.tm 6)
    (.seq (.ops [⟨some 10, none, .mv (.tm 0)⟩,
      ⟨some 11, none, .mkFunc (.func 88) [.tm 10] []⟩,
      ⟨some 4, none, .mv (.tm 11)⟩])
    .ret)
    (.seq (.ops [⟨some 13, none, .bin .eql .int (.tm 5) (.cn (.int .u8 (5)))⟩,
      ⟨some 12, none, .mv (.tm 13)⟩])
    (.cond (.tm 12)
     (.seq (.ops [⟨some 14, none, .mv (.tm 0)⟩,
       ⟨some 15, none, .mkFunc (.func 89) [.tm 14] []⟩,
       ⟨some 4, none, .mv (.tm 15)⟩])
     .ret)
     (.seq (.ops [⟨some 17, none, .bin .eql .int (.tm 5) (.cn (.int .u8 (11)))⟩,
       ⟨some 16, none, .mv (.tm 17)⟩])
     (.cond (.tm 16)
      (.seq (.ops [⟨some 18, none, .mv (.tm 0)⟩,
        ⟨some 19, none, .mkFunc (.func 90) [.tm 18] []⟩,
        ⟨some 4, none, .mv (.tm 19)⟩])
      .ret)
      (.seq (.seq (.ops [⟨some 21, none, .bin .eql .int (.tm 5) (.cn (.int .u8 (12)))⟩,
        ⟨some 20, none, .mv (.tm 21)⟩])
      (.cond (.tm 20)
       .skip
       (.ops [⟨some 22, none, .bin .eql .int (.tm 5) (.cn (.int .u8 (13)))⟩,
         ⟨some 20, none, .mv (.tm 22)⟩])))
      (.cond (.tm 20)
       (.seq (.ops [⟨some 23, none, .mv (.tm 0)⟩,
         ⟨some 24, none, .mkFunc (.func 91) [.tm 23] []⟩,
         ⟨some 4, none, .mv (.tm 24)⟩])
       .ret)
       (.seq (.ops [⟨some 26, none, .bin .eql .int (.tm 5) (.cn (.int .u8 (14)))⟩,
         ⟨some 25, none, .mv (.tm 26)⟩])
       (.cond (.tm 25)
        (.seq (.ops [⟨some 27, none, .mv (.tm 0)⟩,
          ⟨some 28, none, .mkFunc (.func 92) [.tm 27] []⟩,
          ⟨some 4, none, .mv (.tm 28)⟩])
        .ret)
        (.seq (.seq (.ops [⟨some 30, none, .bin .eql .int (.tm 5) (.cn (.int .u8 (15)))⟩,
          ⟨some 29, none, .mv (.tm 30)⟩])
        (.cond (.tm 29)
         .skip
         (.ops [⟨some 31, none, .bin .eql .int (.tm 5) (.cn (.int .u8 (0)))⟩,
           ⟨some 29, none, .mv (.tm 31)⟩])))
        (.cond (.tm 29)
         (.seq (.ops [⟨some 32, none, .mv (.tm 0)⟩,
           ⟨some 33, none, .mkFunc (.func 93) [.tm 32] []⟩,
           ⟨some 4, none, .mv (.tm 33)⟩])
         .ret)
         (.seq (.ops [⟨some 35, none, .bin .eql .int (.tm 5) (.cn (.int .u8 (16)))⟩,
           ⟨some 34, none, .mv (.tm 35)⟩])
         (.cond (.tm 34)
          (.seq (.ops [⟨some 36, none, .mv (.tm 0)⟩,
            ⟨some 37, none, .mkFunc (.func 94) [.tm 36] []⟩,
            ⟨some 4, none, .mv (.tm 37)⟩])
          .ret)
          (.seq (.ops [⟨some 39, none, .bin .eql .int (.tm 5) (.cn (.int .u8 (17)))⟩,
            ⟨some 38, none, .mv (.tm 39)⟩])
          (.cond (.tm 38)
           (.seq (.ops [⟨some 40, none, .mv (.tm 0)⟩,
             ⟨some 41, none, .mkFunc (.func 95) [.tm 40] []⟩,
             ⟨some 4, none, .mv (.tm 41)⟩])
           .ret)
           (.seq (.ops [⟨some 43, none, .bin .eql .int (.tm 5) (.cn (.int .u8 (26)))⟩,
             ⟨some 42, none, .mv (.tm 43)⟩])
           (.cond (.tm 42)
            (.seq (.ops [⟨some 44, none, .mv (.tm 0)⟩,
              ⟨some 45, none, .mkFunc (.func 96) [.tm 44] []⟩,
              ⟨some 4, none, .mv (.tm 45)⟩])
            .ret)
            (.seq (.ops [⟨some 47, none, .bin .eql .int (.tm 5) (.cn (.int .u8 (27)))⟩,
              ⟨some 46, none, .mv (.tm 47)⟩])
            (.cond (.tm 46)
             (.seq (.ops [⟨some 48, none, .mv (.tm 0)⟩,
               ⟨some 49, none, .mkFunc (.func 97) [.tm 48] []⟩,
               ⟨some 4, none, .mv (.tm 49)⟩])
             .ret)
             (.seq (.seq (.ops [⟨some 51, none, .bin .eql .int (.tm 5) (.cn (.int .u8 (32)))⟩,
               ⟨some 50, none, .mv (.tm 51)⟩])
             (.cond (.tm 50)
              .skip
              (.seq (.ops [⟨some 52, none, .bin .eql .int (.tm 5) (.cn (.int .u8 (33)))⟩,
                ⟨some 50, none, .mv (.tm 52)⟩])
              (.cond (.tm 50)
               .skip
               (.ops [⟨some 53, none, .bin .eql .int (.tm 5) (.cn (.int .u8 (34)))⟩,
                 ⟨some 50, none, .mv (.tm 53)⟩])))))
             (.cond (.tm 50)
              (.seq (.ops [⟨some 54, none, .mv (.tm 0)⟩,
                ⟨some 55, none, .mkFunc (.func 98) [.tm 54] []⟩,
                ⟨some 4, none, .mv (.tm 55)⟩])
              .ret)
              (.seq (.seq (.ops [⟨some 57, none, .bin .eql .int (.tm 5) (.cn (.int .u8 (35)))⟩,
                ⟨some 56, none, .mv (.tm 57)⟩])
              (.cond (.tm 56)
               .skip
               (.ops [⟨some 58, none, .bin .eql .int (.tm 5) (.cn (.int .u8 (36)))⟩,
                 ⟨some 56, none, .mv (.tm 58)⟩])))
              (.cond (.tm 56)
               (.seq (.ops [⟨some 59, none, .mv (.tm 0)⟩,
                 ⟨some 60, none, .mkFunc (.func 99) [.tm 59] []⟩,
                 ⟨some 4, none, .mv (.tm 60)⟩])
               .ret)
               .skip))))))))))))))))))))))))))
  (.seq (.ops [⟨some 61, none, .mv (.tm 0)⟩,
    ⟨some 62, none, .mkFunc (.func 100) [.tm 61] []⟩,
    ⟨some 4, none, .mv (.tm 62)⟩])
  .ret)))
def rt73 : List IRet := [.tm 4]
theorem ci73 : (Go.Proofs.Tryz.f73.body).bind (compile Go.Proofs.Tryz.prog Go.Proofs.Tryz.f73.ntmps) = some ir73 := by kernel_rfl
theorem cr73 : compileRets Go.Proofs.Tryz.prog Go.Proofs.Tryz.f73.results.toList = some rt73 := by kernel_rfl
def fn73 : XFn := ⟨ir73, rt73, 63⟩
theorem fk73 : FnOK Go.Proofs.Tryz.prog 73 fn73 := ⟨⟨_, _, Go.Proofs.Tryz.func73, rfl, by kernel_rfl, ci73, cr73, Go.Proofs.Tryz.ntmps73.symm⟩⟩

/-- (*gabelle/typing.Stack).Close -/
def ir74 : IR :=
  (.seq (.ops [⟨some 2, none, .mv (.cn (.slice none 0 0))⟩,
    ⟨some 3, none, .mv (.cn (.bool false))⟩])
  (.seq (.ops [⟨some 5, none, .mv (.tm 0)⟩,
    ⟨some 6, none, .call (.cn (.func (.func 101) #[] #[])) [.tm 5]⟩,
    ⟨some 4, none, .mv (.tm 6)⟩])
  (.seq (.seq (.draw (some [(some false, ⟨some 7, none, .mv (.tm 4)⟩),
    (some false, ⟨some 8, none, .bin .eql .ptr (.tm 7) (.cn (.pointer none))⟩),
    (some false, ⟨some 9, none, .mv (.tm 8)⟩),
    (some false, ⟨some 10, (some (9, false)), .mv (.tm 0)⟩),
    (some false, ⟨some 11, (some (9, false)), .mv (.tm 4)⟩),
    (some false, ⟨some 12, (some (9, false)), .nilCheck (.tm 11)⟩),
    (some false, ⟨some 13, (some (9, false)), .fieldAddr 1 (.tm 12)⟩),
    (some false, ⟨some 14, (some (9, false)), .load none (.tm 13)⟩),
    (some true, ⟨some 16, (some (9, false)), .mv (.tm 4)⟩),
    (some true, ⟨some 17, (some (9, false)), .nilCheck (.tm 16)⟩),
    (some true, ⟨some 18, (some (9, false)), .fieldAddr 2 (.tm 17)⟩),
    (some true, ⟨some 19, (some (9, false)), .load none (.tm 18)⟩),
    (none, ⟨some 15, (some (9, false)), .call (.cn (.func (.func 102) #[] #[])) [.tm 10, .tm 14]⟩),
    (some false, ⟨some 20, (some (9, false)), .bin .neq .int (.tm 15) (.tm 19)⟩),
    (some false, ⟨some 21, none, .pick (.tm 9) (.cn (.bool true)) (.tm 20)⟩)])
   [([], ⟨some 7, none, .mv (.tm 4)⟩),
    ([0], ⟨some 8, none, .bin .eql .ptr (.tm 7) (.cn (.pointer none))⟩),
    ([0, 1], ⟨some 9, none, .mv (.tm 8)⟩),
    ([0, 1, 2], ⟨some 10, (some (9, false)), .mv (.tm 0)⟩),
    ([0, 1, 2], ⟨some 11, (some (9, false)), .mv (.tm 4)⟩),
    ([0, 1, 2, 4], ⟨some 12, (some (9, false)), .nilCheck (.tm 11)⟩),
    ([0, 1, 2, 4, 5], ⟨some 13, (some (9, false)), .fieldAddr 1 (.tm 12)⟩),
    ([0, 1, 2, 4, 5, 6], ⟨some 14, (some (9, false)), .load none (.tm 13)⟩),
    ([0, 1, 2, 3, 4, 5, 6, 7], ⟨some 15, (some (9, false)), .call (.cn (.func (.func 102) #[] #[])) [.tm 10, .tm 14]⟩),
    ([0, 1, 2], ⟨some 16, (some (9, false)), .mv (.tm 4)⟩),
    ([0, 1, 2, 9], ⟨some 17, (some (9, false)), .nilCheck (.tm 16)⟩),
    ([0, 1, 2, 9, 10], ⟨some 18, (some (9, false)), .fieldAddr 2 (.tm 17)⟩),
    ([0, 1, 2, 9, 10, 11], ⟨some 19, (some (9, false)), .load none (.tm 18)⟩),
    ([0, 1, 2, 3, 4, 5, 6, 7, 8, 9, 10, 11, 12], ⟨some 20, (some (9, false)), .bin .neq .int (.tm 15) (.tm 19)⟩),
    ([0, 1, 2, 3, 4, 5, 6, 7, 8, 9, 10, 11, 12, 13], ⟨some 21, none, .pick (.tm 9) (.cn (.bool true)) (.tm 20)⟩)])
  (.cond (.tm 21)
   (.seq (.ops [⟨some 2, none, .mv (.cn (.slice none 0 0))⟩,
     ⟨some 3, none, .mv (.cn (.bool false))⟩])
   .ret)
   .skip))
  (.seq (.ops [⟨some 22, none, .mv (.tm 4)⟩,
    ⟨some 23, none, .nilCheck (.tm 22)⟩,
    ⟨some 24, none, .fieldAddr 1 (.tm 23)⟩,
    ⟨some 25, none, .load none (.tm 24)⟩,
    ⟨some 2, none, .mv (.tm 25)⟩])
  (.seq (.draw (some [(some false, ⟨some 26, none, .mv (.tm 0)⟩),
    (some false, ⟨some 27, none, .mv (.tm 0)⟩),
    (some false, ⟨some 28, none, .nilCheck (.tm 27)⟩),
    (some false, ⟨some 29, none, .fieldAddr 0 (.tm 28)⟩),
    (some false, ⟨some 30, none, .load none (.tm 29)⟩),
    (some false, ⟨some 31, none, .mv (.tm 4)⟩),
    (some false, ⟨some 32, none, .nilCheck (.tm 31)⟩),
    (some false, ⟨some 33, none, .fieldAddr 2 (.tm 32)⟩),
    (some false, ⟨some 34, none, .load none (.tm 33)⟩),
    (some false, ⟨some 35, none, .slc (.sl 1) (.tm 30) none (some (.tm 34)) none⟩),
    (some false, ⟨some 36, none, .nilCheck (.tm 26)⟩),
    (some false, ⟨some 37, none, .fieldAddr 0 (.tm 36)⟩),
    (none, ⟨none, none, .store 1 (.tm 37) (.tm 35)⟩)])
   [([], ⟨some 26, none, .mv (.tm 0)⟩),
    ([], ⟨some 27, none, .mv (.tm 0)⟩),
    ([1], ⟨some 28, none, .nilCheck (.tm 27)⟩),
    ([1, 2], ⟨some 29, none, .fieldAddr 0 (.tm 28)⟩),
    ([1, 2, 3], ⟨some 30, none, .load none (.tm 29)⟩),
    ([], ⟨some 31, none, .mv (.tm 4)⟩),
    ([5], ⟨some 32, none, .nilCheck (.tm 31)⟩),
    ([5, 6], ⟨some 33, none, .fieldAddr 2 (.tm 32)⟩),
    ([5, 6, 7], ⟨some 34, none, .load none (.tm 33)⟩),
    ([1, 2, 3, 4, 5, 6, 7, 8], ⟨some 35, none, .slc (.sl 1) (.tm 30) none (some (.tm 34)) none⟩),
    ([0, 1, 2, 3, 4, 5, 6, 7, 8, 9], ⟨some 36, none, .nilCheck (.tm 26)⟩),
    ([0, 1, 2, 3, 4, 5, 6, 7, 8, 9, 10], ⟨some 37, none, .fieldAddr 0 (.tm 36)⟩),
    ([0, 1, 2, 3, 4, 5, 6, 7, 8, 9, 10, 11], ⟨none, none, .store 1 (.tm 37) (.tm 35)⟩)])
  (.seq (.draw (some [(some false, ⟨some 38, none, .mv (.tm 0)⟩),
    (some false, ⟨some 39, none, .mv (.tm 0)⟩),
    (some false, ⟨some 40, none, .nilCheck (.tm 39)⟩),
    (some false, ⟨some 41, none, .fieldAddr 1 (.tm 40)⟩),
    (some false, ⟨some 42, none, .load none (.tm 41)⟩),
    (some false, ⟨some 43, none, .mv (.tm 0)⟩),
    (some false, ⟨some 44, none, .nilCheck (.tm 43)⟩),
    (some false, ⟨some 45, none, .fieldAddr 1 (.tm 44)⟩),
    (some false, ⟨some 46, none, .load none (.tm 45)⟩),
    (some false, ⟨some 47, none, .len .sl (.tm 46)⟩),
    (some false, ⟨some 48, none, .bin .sub .int (.tm 47) (.cn (.int .i64 (1)))⟩),
    (some false, ⟨some 49, none, .slc (.sl 4) (.tm 42) none (some (.tm 48)) none⟩),
    (some false, ⟨some 50, none, .nilCheck (.tm 38)⟩),
    (some false, ⟨some 51, none, .fieldAddr 1 (.tm 50)⟩),
    (none, ⟨none, none, .store 1 (.tm 51) (.tm 49)⟩)])
   [([], ⟨some 38, none, .mv (.tm 0)⟩),
    ([], ⟨some 39, none, .mv (.tm 0)⟩),
    ([1], ⟨some 40, none, .nilCheck (.tm 39)⟩),
    ([1, 2], ⟨some 41, none, .fieldAddr 1 (.tm 40)⟩),
    ([1, 2, 3], ⟨some 42, none, .load none (.tm 41)⟩),
    ([], ⟨some 43, none, .mv (.tm 0)⟩),
    ([5], ⟨some 44, none, .nilCheck (.tm 43)⟩),
    ([5, 6], ⟨some 45, none, .fieldAddr 1 (.tm 44)⟩),
    ([5, 6, 7], ⟨some 46, none, .load none (.tm 45)⟩),
    ([5, 6, 7, 8], ⟨some 47, none, .len .sl (.tm 46)⟩),
    ([5, 6, 7, 8, 9], ⟨some 48, none, .bin .sub .int (.tm 47) (.cn (.int .i64 (1)))⟩),
    ([1, 2, 3, 4, 5, 6, 7, 8, 9, 10], ⟨some 49, none, .slc (.sl 4) (.tm 42) none (some (.tm 48)) none⟩),
    ([0, 1, 2, 3, 4, 5, 6, 7, 8, 9, 10, 11], ⟨some 50, none, .nilCheck (.tm 38)⟩),
    ([0, 1, 2, 3, 4, 5, 6, 7, 8, 9, 10, 11, 12], ⟨some 51, none, .fieldAddr 1 (.tm 50)⟩),
    ([0, 1, 2, 3, 4, 5, 6, 7, 8, 9, 10, 11, 12, 13], ⟨none, none, .store 1 (.tm 51) (.tm 49)⟩)])
  (.seq (.ops [⟨some 52, none, .mv (.tm 2)⟩,
    ⟨some 2, none, .mv (.tm 52)⟩,
    ⟨some 3, none, .mv (.cn (.bool true))⟩])
  .ret)))))))
def rt74 : List IRet := [.tm 2, .tm 3]
theorem ci74 : (Go.Proofs.Tryz.f74.body).bind (compile Go.Proofs.Tryz.prog Go.Proofs.Tryz.f74.ntmps) = some ir74 := by kernel_rfl
theorem cr74 : compileRets Go.Proofs.Tryz.prog Go.Proofs.Tryz.f74.results.toList = some rt74 := by kernel_rfl
def fn74 : XFn := ⟨ir74, rt74, 53⟩
theorem fk74 : FnOK Go.Proofs.Tryz.prog 74 fn74 := ⟨⟨_, _, Go.Proofs.Tryz.func74, rfl, by kernel_rfl, ci74, cr74, Go.Proofs.Tryz.ntmps74.symm⟩⟩

/-- (*gabelle/typing.Stack).Most -/
def ir75 : IR :=
  (.seq (.ops [⟨some 2, none, .mv (.cn (.int .i64 (0)))⟩])
  (.seq (.seq (.ops [⟨some 3, none, .mv (.tm 0)⟩,
    ⟨some 4, none, .bin .eql .ptr (.tm 3) (.cn (.pointer none))⟩])
  (.cond (.tm 4)
   (.seq (.ops [⟨some 2, none, .mv (.cn (.int .i64 (0)))⟩])
   .ret)
   .skip))
  (.seq (.ops [⟨some 5, none, .mv (.tm 0)⟩,
    ⟨some 6, none, .nilCheck (.tm 5)⟩,
    ⟨some 7, none, .fieldAddr 2 (.tm 6)⟩,
    ⟨some 8, none, .load none (.tm 7)⟩,
    ⟨some 2, none, .mv (.tm 8)⟩])
  .ret)))
def rt75 : List IRet := [.tm 2]
theorem ci75 : (Go.Proofs.Tryz.f75.body).bind (compile Go.Proofs.Tryz.prog Go.Proofs.Tryz.f75.ntmps) = some ir75 := by kernel_rfl
theorem cr75 : compileRets Go.Proofs.Tryz.prog Go.Proofs.Tryz.f75.results.toList = some rt75 := by kernel_rfl
def fn75 : XFn := ⟨ir75, rt75, 9⟩
theorem fk75 : FnOK Go.Proofs.Tryz.prog 75 fn75 := ⟨⟨_, _, Go.Proofs.Tryz.func75, rfl, by kernel_rfl, ci75, cr75, Go.Proofs.Tryz.ntmps75.symm⟩⟩

/-- slices.Clone[[]uint8,uint8] -/
def ir76 : IR :=
  (.seq (.ops [⟨some 2, none, .mv (.cn (.slice none 0 0))⟩])
  (.seq (.seq (.ops [⟨some 3, none, .mv (.tm 0)⟩,
    ⟨some 4, none, .bin .eql .slice (.tm 3) (.cn (.slice none 0 0))⟩])
  (.cond (.tm 4)
   (.seq (.ops [⟨some 2, none, .mv (.cn (.slice none 0 0))⟩])
   .ret)
   .skip))
  (.seq (.ops [⟨some 5, none, .bslice 5 0 [] []⟩,
    ⟨some 6, none, .mv (.tm 0)⟩,
    ⟨some 7, none, .append 5 1 1 [.int .u8 (0)] (.tm 5) (.tm 6)⟩,
    ⟨some 2, none, .mv (.tm 7)⟩])
  .ret)))
def rt76 : List IRet := [.tm 2]
theorem ci76 : (Go.Proofs.Tryz.f76.body).bind (compile Go.Proofs.Tryz.prog Go.Proofs.Tryz.f76.ntmps) = some ir76 := by kernel_rfl
theorem cr76 : compileRets Go.Proofs.Tryz.prog Go.Proofs.Tryz.f76.results.toList = some rt76 := by kernel_rfl
def fn76 : XFn := ⟨ir76, rt76, 8⟩
theorem fk76 : FnOK Go.Proofs.Tryz.prog 76 fn76 := ⟨⟨_, _, Go.Proofs.Tryz.func76, rfl, by kernel_rfl, ci76, cr76, Go.Proofs.Tryz.ntmps76.symm⟩⟩

/-- slices.DeleteFunc[[]gabelle/api.Import,gabelle/api.Import] -/
def ir77 : IR :=
  (.seq (.ops [⟨some 4, none, .mv (.cn (.slice none 0 0))⟩])
  (.seq (.ops [⟨some 8, none, .mv (.tm 0)⟩,
    ⟨some 9, none, .mv (.tm 1)⟩,
    ⟨some 10, none, .call (.cn (.func (.func 103) #[] #[])) [.tm 8, .tm 9]⟩,
    ⟨some 5, none, .mv (.tm 10)⟩])
  (.seq (.seq (.ops [⟨some 11, none, .mv (.tm 5)⟩,
    ⟨some 12, none, .bin .eql .int (.tm 11) (.cn (.int .i64 (-1)))⟩])
  (.cond (.tm 12)
   (.seq (.ops [⟨some 13, none, .mv (.tm 0)⟩,
     ⟨some 4, none, .mv (.tm 13)⟩])
   .ret)
   .skip))
  (.seq (.seq (.ops [⟨some 14, none, .mv (.tm 5)⟩,
    ⟨some 15, none, .bin .add .int (.tm 14) (.cn (.int .i64 (1)))⟩,
    ⟨some 6, none, .mv (.tm 15)⟩])
  (.block 0
   (.loop
    (.seq (.seq (.ops [⟨some 16, none, .mv (.tm 6)⟩,
      ⟨some 17, none, .mv (.tm 0)⟩,
      ⟨some 18, none, .len .sl (.tm 17)⟩,
      ⟨some 19, none, .bin .lss .int (.tm 16) (.tm 18)⟩])
    (.cond (.tm 19)
     .skip
     (.exit 0)))
    (.seq (.block 1
     (.seq (.ops [⟨some 22, none, .mv (.tm 0)⟩,
       ⟨some 23, none, .mv (.tm 6)⟩,
       ⟨some 24, none, .idxAddr 8 none (.tm 22) (.tm 23)⟩,
       ⟨some 25, none, .load (some 8) (.tm 24)⟩,
       ⟨some 7, none, .newv 75 [.string ⟨#[]⟩, .string ⟨#[]⟩, .int .u8 (0), .int .u32 (0), .int .u32 (0), .int .i64 (0), .int .u8 (0), .bool false]⟩,
       ⟨none, none, .store 8 (.tm 7) (.tm 25)⟩])
     (.seq (.ops [⟨some 26, none, .mv (.tm 1)⟩,
       ⟨some 27, none, .load (some 8) (.tm 7)⟩,
       ⟨some 28, none, .call (.tm 26) [.tm 27]⟩,
       ⟨some 29, none, .un .not (.tm 28)⟩])
     (.cond (.tm 29)
      (.seq (.ops [⟨some 30, none, .mv (.tm 0)⟩,
        ⟨some 31, none, .mv (.tm 5)⟩,
        ⟨some 32, none, .load (some 8) (.tm 7)⟩,
        ⟨some 33, none, .idxAddr 8 none (.tm 30) (.tm 31)⟩,
        ⟨none, none, .store 8 (.tm 33) (.tm 32)⟩])
      (.ops [⟨some 34, none, .mv (.tm 5)⟩,
        ⟨some 35, none, .bin .add .int (.tm 34) (.cn (.int .i64 (1)))⟩,
        ⟨some 5, none, .mv (.tm 35)⟩]))
      .skip))))
    (.ops [⟨some 20, none, .mv (.tm 6)⟩,
      ⟨some 21, none, .bin .add .int (.tm 20) (.cn (.int .i64 (1)))⟩,
      ⟨some 6, none, .mv (.tm 21)⟩]))))))
  (.seq (.ops [⟨some 36, none, .mv (.tm 0)⟩,
    ⟨some 37, none, .mv (.tm 5)⟩,
    ⟨some 38, none, .slc (.sl 8) (.tm 36) (some (.tm 37)) none none⟩,
    ⟨none, none, .clearSl [.string ⟨#[]⟩, .string ⟨#[]⟩, .int .u8 (0), .int .u32 (0), .int .u32 (0), .int .i64 (0), .int .u8 (0), .bool false] (.tm 38)⟩])
  (.seq (.ops [⟨some 39, none, .mv (.tm 0)⟩,
    ⟨some 40, none, .mv (.tm 5)⟩,
    ⟨some 41, none, .slc (.sl 8) (.tm 39) none (some (.tm 40)) none⟩,
    ⟨some 4, none, .mv (.tm 41)⟩])
  .ret))))))
def rt77 : List IRet := [.tm 4]
theorem ci77 : (Go.Proofs.Tryz.f77.body).bind (compile Go.Proofs.Tryz.prog Go.Proofs.Tryz.f77.ntmps) = some ir77 := by kernel_rfl
theorem cr77 : compileRets Go.Proofs.Tryz.prog Go.Proofs.Tryz.f77.results.toList = some rt77 := by kernel_rfl
def fn77 : XFn := ⟨ir77, rt77, 42⟩
theorem fk77 : FnOK Go.Proofs.Tryz.prog 77 fn77 := ⟨⟨_, _, Go.Proofs.Tryz.func77, rfl, by kernel_rfl, ci77, cr77, Go.Proofs.Tryz.ntmps77.symm⟩⟩

/-- slices.Clone[[]gabelle/api.Import,gabelle/api.Import] -/
def ir78 : IR :=
  (.seq (.ops [⟨some 2, none, .mv (.cn (.slice none 0 0))⟩])
  (.seq (.seq (.ops [⟨some 3, none, .mv (.tm 0)⟩,
    ⟨some 4, none, .bin .eql .slice (.tm 3) (.cn (.slice none 0 0))⟩])
  (.cond (.tm 4)
   (.seq (.ops [⟨some 2, none, .mv (.cn (.slice none 0 0))⟩])
   .ret)
   .skip))
  (.seq (.ops [⟨some 5, none, .bslice 75 0 [] []⟩,
    ⟨some 6, none, .mv (.tm 0)⟩,
    ⟨some 7, none, .append 75 8 64 [.string ⟨#[]⟩, .string ⟨#[]⟩, .int .u8 (0), .int .u32 (0), .int .u32 (0), .int .i64 (0), .int .u8 (0), .bool false] (.tm 5) (.tm 6)⟩,
    ⟨some 2, none, .mv (.tm 7)⟩])
  .ret)))
def rt78 : List IRet := [.tm 2]
theorem ci78 : (Go.Proofs.Tryz.f78.body).bind (compile Go.Proofs.Tryz.prog Go.Proofs.Tryz.f78.ntmps) = some ir78 := by kernel_rfl
theorem cr78 : compileRets Go.Proofs.Tryz.prog Go.Proofs.Tryz.f78.results.toList = some rt78 := by kernel_rfl
def fn78 : XFn := ⟨ir78, rt78, 8⟩
theorem fk78 : FnOK Go.Proofs.Tryz.prog 78 fn78 := ⟨⟨_, _, Go.Proofs.Tryz.func78, rfl, by kernel_rfl, ci78, cr78, Go.Proofs.Tryz.ntmps78.symm⟩⟩

/-- gabelle/space.of$1 -/
def ir79 : IR :=
  (.seq (.ops [⟨some 2, none, .box 75 (.tm 0)⟩,
    ⟨some 3, none, .mv (.cn (.bool false))⟩])
  (.seq (.ops [⟨some 4, none, .load none (.tm 1)⟩,
    ⟨some 5, none, .load (some 8) (.tm 2)⟩,
    ⟨some 6, none, .call (.tm 4) [.tm 5]⟩,
    ⟨some 7, none, .un .not (.tm 6)⟩,
    ⟨some 3, none, .mv (.tm 7)⟩])
  .ret))
def rt79 : List IRet := [.tm 3]
theorem ci79 : (Go.Proofs.Tryz.f79.body).bind (compile Go.Proofs.Tryz.prog Go.Proofs.Tryz.f79.ntmps) = some ir79 := by kernel_rfl
theorem cr79 : compileRets Go.Proofs.Tryz.prog Go.Proofs.Tryz.f79.results.toList = some rt79 := by kernel_rfl
def fn79 : XFn := ⟨ir79, rt79, 8⟩
theorem fk79 : FnOK Go.Proofs.Tryz.prog 79 fn79 := ⟨⟨_, _, Go.Proofs.Tryz.func79, rfl, by kernel_rfl, ci79, cr79, Go.Proofs.Tryz.ntmps79.symm⟩⟩

/-- gabelle/space.at[gabelle/api.Limits] -/
def ir80 : IR :=
  (.seq (.ops [⟨some 4, none, .newv 66 [.int .u32 (0), .int .i64 (0)]⟩,
    ⟨some 5, none, .mv (.cn (.bool false))⟩])
  (.seq (.seq (.ops [⟨some 7, none, .mv (.tm 1)⟩,
    ⟨some 8, none, .conv (.int .u64) (.tm 7)⟩,
    ⟨some 9, none, .mv (.tm 0)⟩,
    ⟨some 10, none, .len .sl (.tm 9)⟩,
    ⟨some 11, none, .conv (.int .u64) (.tm 10)⟩,
    ⟨some 12, none, .bin .geq .int (.tm 8) (.tm 11)⟩])
  (.cond (.tm 12)
   (.seq (.ops [⟨some 6, none, .newv 66 [.int .u32 (0), .int .i64 (0)]⟩])
   (.seq (.ops [⟨some 13, none, .load (some 2) (.tm 6)⟩,
     ⟨none, none, .store 2 (.tm 4) (.tm 13)⟩,
     ⟨some 5, none, .mv (.cn (.bool false))⟩])
   .ret))
   .skip))
  (.seq (.ops [⟨some 14, none, .mv (.tm 0)⟩,
    ⟨some 15, none, .mv (.tm 1)⟩,
    ⟨some 16, none, .idxAddr 2 none (.tm 14) (.tm 15)⟩,
    ⟨some 17, none, .load (some 2) (.tm 16)⟩,
    ⟨none, none, .store 2 (.tm 4) (.tm 17)⟩,
    ⟨some 5, none, .mv (.cn (.bool true))⟩])
  .ret)))
def rt80 : List IRet := [.cell 4 (some 2), .tm 5]
theorem ci80 : (Go.Proofs.Tryz.f80.body).bind (compile Go.Proofs.Tryz.prog Go.Proofs.Tryz.f80.ntmps) = some ir80 := by kernel_rfl
theorem cr80 : compileRets Go.Proofs.Tryz.prog Go.Proofs.Tryz.f80.results.toList = some rt80 := by kernel_rfl
def fn80 : XFn := ⟨ir80, rt80, 18⟩
theorem fk80 : FnOK Go.Proofs.Tryz.prog 80 fn80 := ⟨⟨_, _, Go.Proofs.Tryz.func80, rfl, by kernel_rfl, ci80, cr80, Go.Proofs.Tryz.ntmps80.symm⟩⟩

/-- slices.IndexFunc[[]uint8,uint8] -/
def ir81 : IR :=
  (.seq (.ops [⟨some 4, none, .mv (.cn (.int .i64 (0)))⟩])
  (.seq (.seq (.ops [⟨some 6, none, .mv (.tm 0)⟩,
    ⟨some 7, none, .len .sl (.tm 6)⟩,
    ⟨some 8, none, .mv (.cn (.int .i64 (0)))⟩])
  (.block 0
   (.loop
    (.seq (.ops [⟨some 9, none, .bin .lss .int (.tm 8) (.tm 7)⟩])
    (.seq (.cond (.tm 9)
     .skip
     (.exit 0))
    (.seq (.block 1
     (.seq (.ops [⟨some 10, none, .mv (.tm 8)⟩,
       ⟨some 5, none, .mv (.tm 10)⟩])
     (.seq (.ops [⟨some 11, none, .mv (.tm 1)⟩,
       ⟨some 12, none, .mv (.tm 0)⟩,
       ⟨some 13, none, .mv (.tm 5)⟩,
       ⟨some 14, none, .idxAddr 1 none (.tm 12) (.tm 13)⟩,
       ⟨some 15, none, .load none (.tm 14)⟩,
       ⟨some 16, none, .call (.tm 11) [.tm 15]⟩])
     (.cond (.tm 16)
      (.seq (.ops [⟨some 17, none, .mv (.tm 5)⟩,
        ⟨some 4, none, .mv (.tm 17)⟩])
      .ret)
      .skip))))
    (.ops [⟨some 18, none, .bin .add .int (.tm 8) (.cn (.int .i64 (1)))⟩,
      ⟨some 8, none, .mv (.tm 18)⟩])))))))
  (.seq (.ops [⟨some 4, none, .mv (.cn (.int .i64 (-1)))⟩])
  .ret)))
def rt81 : List IRet := [.tm 4]
theorem ci81 : (Go.Proofs.Tryz.f81.body).bind (compile Go.Proofs.Tryz.prog Go.Proofs.Tryz.f81.ntmps) = some ir81 := by kernel_rfl
theorem cr81 : compileRets Go.Proofs.Tryz.prog Go.Proofs.Tryz.f81.results.toList = some rt81 := by kernel_rfl
def fn81 : XFn := ⟨ir81, rt81, 19⟩
theorem fk81 : FnOK Go.Proofs.Tryz.prog 81 fn81 := ⟨⟨_, _, Go.Proofs.Tryz.func81, rfl, by kernel_rfl, ci81, cr81, Go.Proofs.Tryz.ntmps81.symm⟩⟩

/-- gabelle/space.at[gabelle/api.GlobalType] -/
def ir82 : IR :=
  (.seq (.ops [⟨some 4, none, .newv 54 [.int .u8 (0), .bool false]⟩,
    ⟨some 5, none, .mv (.cn (.bool false))⟩])
  (.seq (.seq (.ops [⟨some 7, none, .mv (.tm 1)⟩,
    ⟨some 8, none, .conv (.int .u64) (.tm 7)⟩,
    ⟨some 9, none, .mv (.tm 0)⟩,
    ⟨some 10, none, .len .sl (.tm 9)⟩,
    ⟨some 11, none, .conv (.int .u64) (.tm 10)⟩,
    ⟨some 12, none, .bin .geq .int (.tm 8) (.tm 11)⟩])
  (.cond (.tm 12)
   (.seq (.ops [⟨some 6, none, .newv 54 [.int .u8 (0), .bool false]⟩])
   (.seq (.ops [⟨some 13, none, .load (some 2) (.tm 6)⟩,
     ⟨none, none, .store 2 (.tm 4) (.tm 13)⟩,
     ⟨some 5, none, .mv (.cn (.bool false))⟩])
   .ret))
   .skip))
  (.seq (.ops [⟨some 14, none, .mv (.tm 0)⟩,
    ⟨some 15, none, .mv (.tm 1)⟩,
    ⟨some 16, none, .idxAddr 2 none (.tm 14) (.tm 15)⟩,
    ⟨some 17, none, .load (some 2) (.tm 16)⟩,
    ⟨none, none, .store 2 (.tm 4) (.tm 17)⟩,
    ⟨some 5, none, .mv (.cn (.bool true))⟩])
  .ret)))
def rt82 : List IRet := [.cell 4 (some 2), .tm 5]
theorem ci82 : (Go.Proofs.Tryz.f82.body).bind (compile Go.Proofs.Tryz.prog Go.Proofs.Tryz.f82.ntmps) = some ir82 := by kernel_rfl
theorem cr82 : compileRets Go.Proofs.Tryz.prog Go.Proofs.Tryz.f82.results.toList = some rt82 := by kernel_rfl
def fn82 : XFn := ⟨ir82, rt82, 18⟩
theorem fk82 : FnOK Go.Proofs.Tryz.prog 82 fn82 := ⟨⟨_, _, Go.Proofs.Tryz.func82, rfl, by kernel_rfl, ci82, cr82, Go.Proofs.Tryz.ntmps82.symm⟩⟩

/-- (*gabelle/instr.marks).next -/
def ir83 : IR :=
  (.seq (.ops [⟨some 4, none, .mv (.cn (.bool false))⟩,
    ⟨some 5, none, .mv (.cn (.bool false))⟩])
  (.seq (.ops [⟨some 8, none, .mv (.tm 0)⟩,
    ⟨some 9, none, .nilCheck (.tm 8)⟩,
    ⟨some 10, none, .load none (.tm 9)⟩,
    ⟨some 6, none, .mv (.tm 10)⟩])
  (.seq (.ops [⟨some 11, none, .mv (.tm 6)⟩,
    ⟨some 12, none, .len .sl (.tm 11)⟩,
    ⟨some 13, none, .bin .sub .int (.tm 12) (.cn (.int .i64 (1)))⟩,
    ⟨some 7, none, .mv (.tm 13)⟩])
  (.seq (.seq (.ops [⟨some 14, none, .mv (.tm 1)⟩])
  (.block 0
   (.seq (.seq (.ops [⟨some 16, none, .bin .eql .int (.tm 14) (.cn (.int .u8 (2)))⟩,
     ⟨some 15, none, .mv (.tm 16)⟩])
   (.cond (.tm 15)
    .skip
    (.seq (.ops [⟨some 17, none, .bin .eql .int (.tm 14) (.cn (.int .u8 (3)))⟩,
      ⟨some 15, none, .mv (.tm 17)⟩])
    (.cond (.tm 15)
     .skip
     (.ops [⟨some 18, none, .bin .eql .int (.tm 14) (.cn (.int .u8 (4)))⟩,
       ⟨some 15, none, .mv (.tm 18)⟩])))))
   (.cond (.tm 15)
    (.ops [⟨some 19, none, .mv (.tm 0)⟩,
      ⟨some 20, none, .mv (.tm 6)⟩,
      ⟨some 21, none, .mv (.tm 1)⟩,
      ⟨some 22, none, .bslice 5 1 [.int .u8 (0)] [(0, 1, (.tm 21))]⟩,
      ⟨some 23, none, .append 5 1 1 [.int .u8 (0)] (.tm 20) (.tm 22)⟩,
      ⟨some 24, none, .nilCheck (.tm 19)⟩,
      ⟨none, none, .store 1 (.tm 24) (.tm 23)⟩])
    (.seq (.ops [⟨some 26, none, .bin .eql .int (.tm 14) (.cn (.int .u8 (5)))⟩,
      ⟨some 25, none, .mv (.tm 26)⟩])
    (.cond (.tm 25)
     (.seq (.seq (.ops [⟨some 27, none, .mv (.tm 7)⟩,
       ⟨some 28, none, .bin .lss .int (.tm 27) (.cn (.int .i64 (0)))⟩,
       ⟨some 29, none, .mv (.tm 28)⟩,
       ⟨some 30, (some (29, false)), .mv (.tm 6)⟩,
       ⟨some 31, (some (29, false)), .mv (.tm 7)⟩,
       ⟨some 32, (some (29, false)), .idxAddr 1 none (.tm 30) (.tm 31)⟩,
       ⟨some 33, (some (29, false)), .load none (.tm 32)⟩,
       ⟨some 34, (some (29, false)), .bin .neq .int (.tm 33) (.cn (.int .u8 (4)))⟩,
       ⟨some 35, none, .pick (.tm 29) (.cn (.bool true)) (.tm 34)⟩])
     (.cond (.tm 35)
      (.seq (.ops [⟨some 4, none, .mv (.cn (.bool false))⟩,
        ⟨some 5, none, .mv (.cn (.bool true))⟩])
      .ret)
      .skip))
     (.ops [⟨some 36, none, .mv (.tm 6)⟩,
       ⟨some 37, none, .mv (.tm 7)⟩,
       ⟨some 38, none, .idxAddr 1 none (.tm 36) (.tm 37)⟩,
       ⟨none, none, .store 1 (.tm 38) (.cn (.int .u8 (5)))⟩]))
     (.seq (.ops [⟨some 40, none, .bin .eql .int (.tm 14) (.cn (.int .u8 (11)))⟩,
       ⟨some 39, none, .mv (.tm 40)⟩])
     (.cond (.tm 39)
      (.seq (.seq (.ops [⟨some 41, none, .mv (.tm 7)⟩,
        ⟨some 42, none, .bin .lss .int (.tm 41) (.cn (.int .i64 (0)))⟩])
      (.cond (.tm 42)
       (.seq (.ops [⟨some 4, none, .mv (.cn (.bool true))⟩,
         ⟨some 5, none, .mv (.cn (.bool false))⟩])
       .ret)
       .skip))
      (.ops [⟨some 43, none, .mv (.tm 0)⟩,
        ⟨some 44, none, .mv (.tm 6)⟩,
        ⟨some 45, none, .mv (.tm 7)⟩,
        ⟨some 46, none, .slc (.sl 1) (.tm 44) none (some (.tm 45)) none⟩,
        ⟨some 47, none, .nilCheck (.tm 43)⟩,
        ⟨none, none, .store 1 (.tm 47) (.tm 46)⟩]))
      .skip))))))))
  (.seq (.ops [⟨some 4, none, .mv (.cn (.bool false))⟩,
    ⟨some 5, none, .mv (.cn (.bool false))⟩])
  .ret)))))
def rt83 : List IRet := [.tm 4, .tm 5]
theorem ci83 : (Go.Proofs.Tryz.f83.body).bind (compile Go.Proofs.Tryz.prog Go.Proofs.Tryz.f83.ntmps) = some ir83 := by kernel_rfl
theorem cr83 : compileRets Go.Proofs.Tryz.prog Go.Proofs.Tryz.f83.results.toList = some rt83 := by kernel_rfl
def fn83 : XFn := ⟨ir83, rt83, 48⟩
theorem fk83 : FnOK Go.Proofs.Tryz.prog 83 fn83 := ⟨⟨_, _, Go.Proofs.Tryz.func83, rfl, by kernel_rfl, ci83, cr83, Go.Proofs.Tryz.ntmps83.symm⟩⟩

/-- gabelle/instr.may -/
def ir84 : IR :=
  (.seq (.ops [⟨some 1, none, .box 56 (.tm 0)⟩,
    ⟨some 2, none, .mv (.cn (.bool false))⟩])
  (.seq (.seq (.ops [⟨some 5, none, .fieldAddr 0 (.tm 1)⟩,
    ⟨some 6, none, .load none (.tm 5)⟩,
    ⟨some 7, none, .call (.cn (.func (.func 104) #[] #[])) [.tm 6]⟩,
    ⟨some 8, none, .un .not (.tm 7)⟩])
  (.cond (.tm 8)
   (.seq (.ops [⟨some 2, none, .mv (.cn (.bool false))⟩])
   .ret)
   .skip))
  (.seq (.ops [⟨some 9, none, .build [.bool false, .bool false, .bool false, .bool false] [(0, 1, (.cn (.bool false))), (1, 1, (.cn (.bool false))), (2, 1, (.cn (.bool false))), (3, 1, (.cn (.bool false)))]⟩,
    ⟨some 3, none, .newv 181 [.bool false, .bool false, .bool false, .bool false]⟩,
    ⟨none, none, .store 4 (.tm 3) (.tm 9)⟩])
  (.seq (.seq (.ops [⟨some 10, none, .fieldAddr 0 (.tm 1)⟩,
    ⟨some 11, none, .load none (.tm 10)⟩,
    ⟨some 12, none, .call (.cn (.func (.func 105) #[] #[])) [.tm 11]⟩])
  (.block 0
   (.seq (.ops [⟨some 14, none, .bin .eql .int (.tm 12) (.cn (.int .u8 (1)))⟩,
     ⟨some 13, none, .mv (.tm 14)⟩])
   (.cond (.tm 13)
    (.seq (.seq (.ops [⟨some 15, none, .fieldAddr 1 (.tm 1)⟩,
      ⟨some 16, none, .load none (.tm 15)⟩,
      ⟨some 4, none, .mv (.tm 16)⟩])
    (.seq (.ops [⟨some 17, none, .mv (.tm 4)⟩,
      ⟨some 18, none, .bin .neq .int (.tm 17) (.cn (.int .u32 (64)))⟩,
      ⟨some 19, none, .mv (.tm 18)⟩,
      ⟨some 20, (some (19, true)), .mv (.tm 4)⟩,
      ⟨some 21, (some (19, true)), .bin .neq .int (.tm 20) (.cn (.int .u32 (127)))⟩,
      ⟨some 22, none, .pick (.tm 19) (.tm 21) (.cn (.bool false))⟩,
      ⟨some 23, none, .mv (.tm 22)⟩,
      ⟨some 24, (some (23, true)), .mv (.tm 4)⟩,
      ⟨some 25, (some (23, true)), .bin .neq .int (.tm 24) (.cn (.int .u32 (126)))⟩,
      ⟨some 26, none, .pick (.tm 23) (.tm 25) (.cn (.bool false))⟩])
    (.cond (.tm 26)
     (.seq (.ops [⟨some 2, none, .mv (.cn (.bool false))⟩])
     .ret)
     .skip)))
    (.ops [⟨some 27, none, .idxAddr 1 (some 4) (.tm 3) (.cn (.int .i64 (0)))⟩,
      ⟨none, none, .store 1 (.tm 27) (.cn (.bool true))⟩]))
    (.seq (.seq (.ops [⟨some 29, none, .bin .eql .int (.tm 12) (.cn (.int .u8 (2)))⟩,
      ⟨some 28, none, .mv (.tm 29)⟩])
    (.cond (.tm 28)
     .skip
     (.seq (.ops [⟨some 30, none, .bin .eql .int (.tm 12) (.cn (.int .u8 (4)))⟩,
       ⟨some 28, none, .mv (.tm 30)⟩])
     (.cond (.tm 28)
      .skip
      (.ops [⟨some 31, none, .bin .eql .int (.tm 12) (.cn (.int .u8 (5)))⟩,
        ⟨some 28, none, .mv (.tm 31)⟩])))))
    (.cond (.tm 28)
     (.ops [⟨some 32, none, .idxAddr 1 (some 4) (.tm 3) (.cn (.int .i64 (0)))⟩,
       ⟨none, none, .store 1 (.tm 32) (.cn (.bool true))⟩])
     (.seq (.ops [⟨some 34, none, .bin .eql .int (.tm 12) (.cn (.int .u8 (3)))⟩,
       ⟨some 33, none, .mv (.tm 34)⟩])
     (.cond (.tm 33)
      (.ops [⟨some 35, none, .idxAddr 1 (some 4) (.tm 3) (.cn (.int .i64 (0)))⟩,
        ⟨none, none, .store 1 (.tm 35) (.cn (.bool true))⟩,
        ⟨some 36, none, .idxAddr 1 (some 4) (.tm 3) (.cn (.int .i64 (3)))⟩,
        ⟨none, none, .store 1 (.tm 36) (.cn (.bool true))⟩])
      (.seq (.ops [⟨some 38, none, .bin .eql .int (.tm 12) (.cn (.int .u8 (6)))⟩,
        ⟨some 37, none, .mv (.tm 38)⟩])
      (.cond (.tm 37)
       (.ops [⟨some 39, none, .idxAddr 1 (some 4) (.tm 3) (.cn (.int .i64 (0)))⟩,
         ⟨none, none, .store 1 (.tm 39) (.cn (.bool true))⟩,
         ⟨some 40, none, .idxAddr 1 (some 4) (.tm 3) (.cn (.int .i64 (1)))⟩,
         ⟨none, none, .store 1 (.tm 40) (.cn (.bool true))⟩])
       (.seq (.ops [⟨some 42, none, .bin .eql .int (.tm 12) (.cn (.int .u8 (8)))⟩,
         ⟨some 41, none, .mv (.tm 42)⟩])
       (.cond (.tm 41)
        (.seq (.seq (.ops [⟨some 43, none, .fieldAddr 3 (.tm 1)⟩,
          ⟨some 44, none, .load none (.tm 43)⟩,
          ⟨some 45, none, .fieldAddr 3 (.tm 1)⟩,
          ⟨some 46, none, .load none (.tm 45)⟩,
          ⟨some 47, none, .conv (.int .i32) (.tm 46)⟩,
          ⟨some 48, none, .conv (.int .i64) (.tm 47)⟩,
          ⟨some 49, none, .bin .neq .int (.tm 44) (.tm 48)⟩])
        (.cond (.tm 49)
         (.seq (.ops [⟨some 2, none, .mv (.cn (.bool false))⟩])
         .ret)
         .skip))
        (.ops [⟨some 50, none, .idxAddr 1 (some 4) (.tm 3) (.cn (.int .i64 (2)))⟩,
          ⟨none, none, .store 1 (.tm 50) (.cn (.bool true))⟩]))
        (.seq (.ops [⟨some 52, none, .bin .eql .int (.tm 12) (.cn (.int .u8 (9)))⟩,
          ⟨some 51, none, .mv (.tm 52)⟩])
        (.cond (.tm 51)
         (.ops [⟨some 53, none, .idxAddr 1 (some 4) (.tm 3) (.cn (.int .i64 (2)))⟩,
           ⟨none, none, .store 1 (.tm 53) (.cn (.bool true))⟩])
         .skip))))))))))))))
  (.seq (.ops [⟨some 54, none, .idxAddr 1 (some 4) (.tm 3) (.cn (.int .i64 (0)))⟩,
    ⟨some 55, none, .load none (.tm 54)⟩,
    ⟨some 56, none, .mv (.tm 55)⟩,
    ⟨some 57, (some (56, false)), .fieldAddr 1 (.tm 1)⟩,
    ⟨some 58, (some (56, false)), .load none (.tm 57)⟩,
    ⟨some 59, (some (56, false)), .bin .eql .int (.tm 58) (.cn (.int .u32 (0)))⟩,
    ⟨some 60, none, .pick (.tm 56) (.cn (.bool true)) (.tm 59)⟩,
    ⟨some 61, none, .mv (.tm 60)⟩,
    ⟨some 62, (some (61, true)), .idxAddr 1 (some 4) (.tm 3) (.cn (.int .i64 (1)))⟩,
    ⟨some 63, (some (61, true)), .load none (.tm 62)⟩,
    ⟨some 64, (some (61, true)), .mv (.tm 63)⟩,
    ⟨some 65, (some (64, false)), .fieldAddr 2 (.tm 1)⟩,
    ⟨some 66, (some (64, false)), .load none (.tm 65)⟩,
    ⟨some 67, (some (64, false)), .bin .eql .int (.tm 66) (.cn (.int .u32 (0)))⟩,
    ⟨some 68, (some (61, true)), .pick (.tm 64) (.cn (.bool true)) (.tm 67)⟩,
    ⟨some 69, none, .pick (.tm 61) (.tm 68) (.cn (.bool false))⟩,
    ⟨some 70, none, .mv (.tm 69)⟩,
    ⟨some 71, (some (70, true)), .idxAddr 1 (some 4) (.tm 3) (.cn (.int .i64 (2)))⟩,
    ⟨some 72, (some (70, true)), .load none (.tm 71)⟩,
    ⟨some 73, (some (70, true)), .mv (.tm 72)⟩,
    ⟨some 74, (some (73, false)), .fieldAddr 3 (.tm 1)⟩,
    ⟨some 75, (some (73, false)), .load none (.tm 74)⟩,
    ⟨some 76, (some (73, false)), .bin .eql .int (.tm 75) (.cn (.int .i64 (0)))⟩,
    ⟨some 77, (some (70, true)), .pick (.tm 73) (.cn (.bool true)) (.tm 76)⟩,
    ⟨some 78, none, .pick (.tm 70) (.tm 77) (.cn (.bool false))⟩,
    ⟨some 79, none, .mv (.tm 78)⟩,
    ⟨some 80, (some (79, true)), .idxAddr 1 (some 4) (.tm 3) (.cn (.int .i64 (3)))⟩,
    ⟨some 81, (some (79, true)), .load none (.tm 80)⟩,
    ⟨some 82, (some (79, true)), .mv (.tm 81)⟩,
    ⟨some 83, (some (82, false)), .fieldAddr 4 (.tm 1)⟩,
    ⟨some 84, (some (82, false)), .load none (.tm 83)⟩,
    ⟨some 85, (some (82, false)), .len .sl (.tm 84)⟩,
    ⟨some 86, (some (82, false)), .bin .eql .int (.tm 85) (.cn (.int .i64 (0)))⟩,
    ⟨some 87, (some (79, true)), .pick (.tm 82) (.cn (.bool true)) (.tm 86)⟩,
    ⟨some 88, none, .pick (.tm 79) (.tm 87) (.cn (.bool false))⟩,
    ⟨some 2, none, .mv (.tm 88)⟩])
  .ret)))))
def rt84 : List IRet := [.tm 2]
theorem ci84 : (Go.Proofs.Tryz.f84.body).bind (compile Go.Proofs.Tryz.prog Go.Proofs.Tryz.f84.ntmps) = some ir84 := by kernel_rfl
theorem cr84 : compileRets Go.Proofs.Tryz.prog Go.Proofs.Tryz.f84.results.toList = some rt84 := by kernel_rfl
def fn84 : XFn := ⟨ir84, rt84, 89⟩
theorem fk84 : FnOK Go.Proofs.Tryz.prog 84 fn84 := ⟨⟨_, _, Go.Proofs.Tryz.func84, rfl, by kernel_rfl, ci84, cr84, Go.Proofs.Tryz.ntmps84.symm⟩⟩

/-- gabelle/instr.put -/
def ir85 : IR :=
  (.seq (.ops [⟨some 2, none, .box 27 (.tm 0)⟩,
    ⟨some 3, none, .box 56 (.tm 1)⟩,
    ⟨some 4, none, .mv (.cn (.slice none 0 0))⟩])
  (.seq (.ops [⟨some 8, none, .load none (.tm 2)⟩,
    ⟨some 9, none, .fieldAddr 0 (.tm 3)⟩,
    ⟨some 10, none, .load none (.tm 9)⟩,
    ⟨some 11, none, .bslice 5 1 [.int .u8 (0)] [(0, 1, (.tm 10))]⟩,
    ⟨some 12, none, .append 5 1 1 [.int .u8 (0)] (.tm 8) (.tm 11)⟩,
    ⟨none, none, .store 1 (.tm 2) (.tm 12)⟩])
  (.seq (.ops [⟨some 13, none, .mkFunc (.func 106) [] [.tm 2]⟩,
    ⟨some 5, none, .mv (.tm 13)⟩])
  (.seq (.seq (.ops [⟨some 14, none, .fieldAddr 0 (.tm 3)⟩,
    ⟨some 15, none, .load none (.tm 14)⟩,
    ⟨some 16, none, .call (.cn (.func (.func 105) #[] #[])) [.tm 15]⟩])
  (.block 0
   (.seq (.ops [⟨some 18, none, .bin .eql .int (.tm 16) (.cn (.int .u8 (1)))⟩,
     ⟨some 17, none, .mv (.tm 18)⟩])
   (.cond (.tm 17)
    (.ops [⟨some 19, none, .load none (.tm 2)⟩,
      ⟨some 20, none, .fieldAddr 1 (.tm 3)⟩,
      ⟨some 21, none, .load none (.tm 20)⟩,
      ⟨some 22, none, .conv (.int .u8) (.tm 21)⟩,
      ⟨some 23, none, .bslice 5 1 [.int .u8 (0)] [(0, 1, (.tm 22))]⟩,
      ⟨some 24, none, .append 5 1 1 [.int .u8 (0)] (.tm 19) (.tm 23)⟩,
      ⟨none, none, .store 1 (.tm 2) (.tm 24)⟩])
    (.seq (.seq (.ops [⟨some 26, none, .bin .eql .int (.tm 16) (.cn (.int .u8 (2)))⟩,
      ⟨some 25, none, .mv (.tm 26)⟩])
    (.cond (.tm 25)
     .skip
     (.ops [⟨some 27, none, .bin .eql .int (.tm 16) (.cn (.int .u8 (4)))⟩,
       ⟨some 25, none, .mv (.tm 27)⟩])))
    (.cond (.tm 25)
     (.ops [⟨some 28, none, .mv (.tm 5)⟩,
       ⟨some 29, none, .fieldAddr 1 (.tm 3)⟩,
       ⟨some 30, none, .load none (.tm 29)⟩,
       ⟨some 31, none, .call (.tm 28) [.tm 30]⟩])
     (.seq (.ops [⟨some 33, none, .bin .eql .int (.tm 16) (.cn (.int .u8 (3)))⟩,
       ⟨some 32, none, .mv (.tm 33)⟩])
     (.cond (.tm 32)
      (.seq (.ops [⟨some 34, none, .mv (.tm 5)⟩,
        ⟨some 35, none, .fieldAddr 4 (.tm 3)⟩,
        ⟨some 36, none, .load none (.tm 35)⟩,
        ⟨some 37, none, .len .sl (.tm 36)⟩,
        ⟨some 38, none, .conv (.int .u32) (.tm 37)⟩,
        ⟨some 39, none, .call (.tm 34) [.tm 38]⟩])
      (.seq (.seq (.ops [⟨some 40, none, .fieldAddr 4 (.tm 3)⟩,
        ⟨some 41, none, .load none (.tm 40)⟩,
        ⟨some 42, none, .len .sl (.tm 41)⟩,
        ⟨some 43, none, .mv (.cn (.int .i64 (0)))⟩])
      (.block 1
       (.loop
        (.seq (.ops [⟨some 44, none, .bin .lss .int (.tm 43) (.tm 42)⟩])
        (.seq (.cond (.tm 44)
         .skip
         (.exit 1))
        (.seq (.block 2
         (.seq (.ops [⟨some 45, none, .idxAddr 1 none (.tm 41) (.tm 43)⟩,
           ⟨some 46, none, .load none (.tm 45)⟩,
           ⟨some 7, none, .mv (.tm 46)⟩])
         (.ops [⟨some 47, none, .mv (.tm 5)⟩,
           ⟨some 48, none, .mv (.tm 7)⟩,
           ⟨some 49, none, .call (.tm 47) [.tm 48]⟩])))
        (.ops [⟨some 50, none, .bin .add .int (.tm 43) (.cn (.int .i64 (1)))⟩,
          ⟨some 43, none, .mv (.tm 50)⟩])))))))
      (.ops [⟨some 51, none, .mv (.tm 5)⟩,
        ⟨some 52, none, .fieldAddr 1 (.tm 3)⟩,
        ⟨some 53, none, .load none (.tm 52)⟩,
        ⟨some 54, none, .call (.tm 51) [.tm 53]⟩])))
      (.seq (.ops [⟨some 56, none, .bin .eql .int (.tm 16) (.cn (.int .u8 (5)))⟩,
        ⟨some 55, none, .mv (.tm 56)⟩])
      (.cond (.tm 55)
       (.seq (.ops [⟨some 57, none, .mv (.tm 5)⟩,
         ⟨some 58, none, .fieldAddr 1 (.tm 3)⟩,
         ⟨some 59, none, .load none (.tm 58)⟩,
         ⟨some 60, none, .call (.tm 57) [.tm 59]⟩])
       (.ops [⟨some 61, none, .load none (.tm 2)⟩,
         ⟨some 62, none, .bslice 5 1 [.int .u8 (0)] [(0, 1, (.cn (.int .u8 (0))))]⟩,
         ⟨some 63, none, .append 5 1 1 [.int .u8 (0)] (.tm 61) (.tm 62)⟩,
         ⟨none, none, .store 1 (.tm 2) (.tm 63)⟩]))
       (.seq (.ops [⟨some 65, none, .bin .eql .int (.tm 16) (.cn (.int .u8 (6)))⟩,
         ⟨some 64, none, .mv (.tm 65)⟩])
       (.cond (.tm 64)
        (.seq (.ops [⟨some 66, none, .mv (.tm 5)⟩,
          ⟨some 67, none, .fieldAddr 1 (.tm 3)⟩,
          ⟨some 68, none, .load none (.tm 67)⟩,
          ⟨some 69, none, .call (.tm 66) [.tm 68]⟩])
        (.ops [⟨some 70, none, .mv (.tm 5)⟩,
          ⟨some 71, none, .fieldAddr 2 (.tm 3)⟩,
          ⟨some 72, none, .load none (.tm 71)⟩,
          ⟨some 73, none, .call (.tm 70) [.tm 72]⟩]))
        (.seq (.ops [⟨some 75, none, .bin .eql .int (.tm 16) (.cn (.int .u8 (7)))⟩,
          ⟨some 74, none, .mv (.tm 75)⟩])
        (.cond (.tm 74)
         (.ops [⟨some 76, none, .load none (.tm 2)⟩,
           ⟨some 77, none, .bslice 5 1 [.int .u8 (0)] [(0, 1, (.cn (.int .u8 (0))))]⟩,
           ⟨some 78, none, .append 5 1 1 [.int .u8 (0)] (.tm 76) (.tm 77)⟩,
           ⟨none, none, .store 1 (.tm 2) (.tm 78)⟩])
         (.seq (.seq (.ops [⟨some 80, none, .bin .eql .int (.tm 16) (.cn (.int .u8 (8)))⟩,
           ⟨some 79, none, .mv (.tm 80)⟩])
         (.cond (.tm 79)
          .skip
          (.ops [⟨some 81, none, .bin .eql .int (.tm 16) (.cn (.int .u8 (9)))⟩,
            ⟨some 79, none, .mv (.tm 81)⟩])))
         (.cond (.tm 79)
          (.draw (some [(some true, ⟨some 82, none, .load none (.tm 2)⟩),
            (some false, ⟨some 83, none, .fieldAddr 3 (.tm 3)⟩),
            (some false, ⟨some 84, none, .load none (.tm 83)⟩),
            (none, ⟨some 85, none, .call (.cn (.func (.func 108) #[] #[])) [.cn (.slice none 0 0), .tm 84]⟩),
            (none, ⟨some 86, none, .append 5 1 1 [.int .u8 (0)] (.tm 82) (.tm 85)⟩),
            (none, ⟨none, none, .store 1 (.tm 2) (.tm 86)⟩)])
           [([], ⟨some 82, none, .load none (.tm 2)⟩),
            ([], ⟨some 83, none, .fieldAddr 3 (.tm 3)⟩),
            ([1], ⟨some 84, none, .load none (.tm 83)⟩),
            ([1, 2], ⟨some 85, none, .call (.cn (.func (.func 108) #[] #[])) [.cn (.slice none 0 0), .tm 84]⟩),
            ([0, 1, 2, 3], ⟨some 86, none, .append 5 1 1 [.int .u8 (0)] (.tm 82) (.tm 85)⟩),
            ([0, 1, 2, 3, 4], ⟨none, none, .store 1 (.tm 2) (.tm 86)⟩)])
          .skip))))))))))))))))
  (.seq (.ops [⟨some 87, none, .load none (.tm 2)⟩,
    ⟨some 4, none, .mv (.tm 87)⟩])
  .ret)))))
def rt85 : List IRet := [.tm 4]
theorem ci85 : (Go.Proofs.Tryz.f85.body).bind (compile Go.Proofs.Tryz.prog Go.Proofs.Tryz.f85.ntmps) = some ir85 := by kernel_rfl
theorem cr85 : compileRets Go.Proofs.Tryz.prog Go.Proofs.Tryz.f85.results.toList = some rt85 := by kernel_rfl
def fn85 : XFn := ⟨ir85, rt85, 88⟩
theorem fk85 : FnOK Go.Proofs.Tryz.prog 85 fn85 := ⟨⟨_, _, Go.Proofs.Tryz.func85, rfl, by kernel_rfl, ci85, cr85, Go.Proofs.Tryz.ntmps85.symm⟩⟩

/-- slices.IndexFunc[[]gabelle/api.Local,gabelle/api.Local] -/
def ir86 : IR :=
  (.seq (.ops [⟨some 4, none, .mv (.cn (.int .i64 (0)))⟩])
  (.seq (.seq (.ops [⟨some 6, none, .mv (.tm 0)⟩,
    ⟨some 7, none, .len .sl (.tm 6)⟩,
    ⟨some 8, none, .mv (.cn (.int .i64 (0)))⟩])
  (.block 0
   (.loop
    (.seq (.ops [⟨some 9, none, .bin .lss .int (.tm 8) (.tm 7)⟩])
    (.seq (.cond (.tm 9)
     .skip
     (.exit 0))
    (.seq (.block 1
     (.seq (.ops [⟨some 10, none, .mv (.tm 8)⟩,
       ⟨some 5, none, .mv (.tm 10)⟩])
     (.seq (.ops [⟨some 11, none, .mv (.tm 1)⟩,
       ⟨some 12, none, .mv (.tm 0)⟩,
       ⟨some 13, none, .mv (.tm 5)⟩,
       ⟨some 14, none, .idxAddr 2 none (.tm 12) (.tm 13)⟩,
       ⟨some 15, none, .load (some 2) (.tm 14)⟩,
       ⟨some 16, none, .call (.tm 11) [.tm 15]⟩])
     (.cond (.tm 16)
      (.seq (.ops [⟨some 17, none, .mv (.tm 5)⟩,
        ⟨some 4, none, .mv (.tm 17)⟩])
      .ret)
      .skip))))
    (.ops [⟨some 18, none, .bin .add .int (.tm 8) (.cn (.int .i64 (1)))⟩,
      ⟨some 8, none, .mv (.tm 18)⟩])))))))
  (.seq (.ops [⟨some 4, none, .mv (.cn (.int .i64 (-1)))⟩])
  .ret)))
def rt86 : List IRet := [.tm 4]
theorem ci86 : (Go.Proofs.Tryz.f86.body).bind (compile Go.Proofs.Tryz.prog Go.Proofs.Tryz.f86.ntmps) = some ir86 := by kernel_rfl
theorem cr86 : compileRets Go.Proofs.Tryz.prog Go.Proofs.Tryz.f86.results.toList = some rt86 := by kernel_rfl
def fn86 : XFn := ⟨ir86, rt86, 19⟩
theorem fk86 : FnOK Go.Proofs.Tryz.prog 86 fn86 := ⟨⟨_, _, Go.Proofs.Tryz.func86, rfl, by kernel_rfl, ci86, cr86, Go.Proofs.Tryz.ntmps86.symm⟩⟩

/-- (*gabelle/typing.Stack).Open -/
def ir87 : IR :=
  (.seq (.ops [⟨some 6, none, .mv (.tm 0)⟩,
    ⟨some 7, none, .bin .neq .ptr (.tm 6) (.cn (.pointer none))⟩])
  (.cond (.tm 7)
   (.draw (some [(some true, ⟨some 8, none, .mv (.tm 0)⟩),
     (some true, ⟨some 9, none, .mv (.tm 0)⟩),
     (some true, ⟨some 10, none, .nilCheck (.tm 9)⟩),
     (some true, ⟨some 11, none, .fieldAddr 1 (.tm 10)⟩),
     (some true, ⟨some 12, none, .load none (.tm 11)⟩),
     (some false, ⟨some 13, none, .mv (.tm 1)⟩),
     (some true, ⟨some 15, none, .mv (.tm 2)⟩),
     (some true, ⟨some 17, none, .mv (.tm 0)⟩),
     (some true, ⟨some 18, none, .nilCheck (.tm 17)⟩),
     (some true, ⟨some 19, none, .fieldAddr 0 (.tm 18)⟩),
     (some true, ⟨some 20, none, .load none (.tm 19)⟩),
     (some true, ⟨some 21, none, .len .sl (.tm 20)⟩),
     (none, ⟨some 14, none, .call (.cn (.func (.func 76) #[] #[])) [.tm 13]⟩),
     (none, ⟨some 16, none, .call (.cn (.func (.func 76) #[] #[])) [.tm 15]⟩),
     (some false, ⟨some 22, none, .build [.slice none 0 0, .slice none 0 0, .int .i64 (0), .bool false] [(0, 1, (.tm 14)), (1, 1, (.tm 16)), (2, 1, (.tm 21))]⟩),
     (none, ⟨some 23, none, .bslice 178 1 [.slice none 0 0, .slice none 0 0, .int .i64 (0), .bool false] [(0, 4, (.tm 22))]⟩),
     (none, ⟨some 24, none, .append 178 4 64 [.slice none 0 0, .slice none 0 0, .int .i64 (0), .bool false] (.tm 12) (.tm 23)⟩),
     (some false, ⟨some 25, none, .nilCheck (.tm 8)⟩),
     (some false, ⟨some 26, none, .fieldAddr 1 (.tm 25)⟩),
     (none, ⟨none, none, .store 1 (.tm 26) (.tm 24)⟩)])
    [([], ⟨some 8, none, .mv (.tm 0)⟩),
     ([], ⟨some 9, none, .mv (.tm 0)⟩),
     ([1], ⟨some 10, none, .nilCheck (.tm 9)⟩),
     ([1, 2], ⟨some 11, none, .fieldAddr 1 (.tm 10)⟩),
     ([1, 2, 3], ⟨some 12, none, .load none (.tm 11)⟩),
     ([], ⟨some 13, none, .mv (.tm 1)⟩),
     ([5], ⟨some 14, none, .call (.cn (.func (.func 76) #[] #[])) [.tm 13]⟩),
     ([], ⟨some 15, none, .mv (.tm 2)⟩),
     ([5, 6, 7], ⟨some 16, none, .call (.cn (.func (.func 76) #[] #[])) [.tm 15]⟩),
     ([], ⟨some 17, none, .mv (.tm 0)⟩),
     ([9], ⟨some 18, none, .nilCheck (.tm 17)⟩),
     ([9, 10], ⟨some 19, none, .fieldAddr 0 (.tm 18)⟩),
     ([9, 10, 11], ⟨some 20, none, .load none (.tm 19)⟩),
     ([9, 10, 11, 12], ⟨some 21, none, .len .sl (.tm 20)⟩),
     ([5, 6, 7, 8, 9, 10, 11, 12, 13], ⟨some 22, none, .build [.slice none 0 0, .slice none 0 0, .int .i64 (0), .bool false] [(0, 1, (.tm 14)), (1, 1, (.tm 16)), (2, 1, (.tm 21))]⟩),
     ([5, 6, 7, 8, 9, 10, 11, 12, 13, 14], ⟨some 23, none, .bslice 178 1 [.slice none 0 0, .slice none 0 0, .int .i64 (0), .bool false] [(0, 4, (.tm 22))]⟩),
     ([1, 2, 3, 4, 5, 6, 7, 8, 9, 10, 11, 12, 13, 14, 15], ⟨some 24, none, .append 178 4 64 [.slice none 0 0, .slice none 0 0, .int .i64 (0), .bool false] (.tm 12) (.tm 23)⟩),
     ([0, 1, 2, 3, 4, 5, 6, 7, 8, 9, 10, 11, 12, 13, 14, 15, 16], ⟨some 25, none, .nilCheck (.tm 8)⟩),
     ([0, 1, 2, 3, 4, 5, 6, 7, 8, 9, 10, 11, 12, 13, 14, 15, 16, 17], ⟨some 26, none, .fieldAddr 1 (.tm 25)⟩),
     ([0, 1, 2, 3, 4, 5, 6, 7, 8, 9, 10, 11, 12, 13, 14, 15, 16, 17, 18], ⟨none, none, .store 1 (.tm 26) (.tm 24)⟩)])
   .skip))
def rt87 : List IRet := []
theorem ci87 : (Go.Proofs.Tryz.f87.body).bind (compile Go.Proofs.Tryz.prog Go.Proofs.Tryz.f87.ntmps) = some ir87 := by kernel_rfl
theorem cr87 : compileRets Go.Proofs.Tryz.prog Go.Proofs.Tryz.f87.results.toList = some rt87 := by kernel_rfl
def fn87 : XFn := ⟨ir87, rt87, 27⟩
theorem fk87 : FnOK Go.Proofs.Tryz.prog 87 fn87 := ⟨⟨_, _, Go.Proofs.Tryz.func87, rfl, by kernel_rfl, ci87, cr87, Go.Proofs.Tryz.ntmps87.symm⟩⟩

/-- (*gabelle/body.checker).block -/
def ir88 : IR :=
  (.seq (.ops [⟨some 3, none, .box 56 (.tm 1)⟩,
    ⟨some 4, none, .mv (.cn (.int .i64 (0)))⟩])
  (.seq (.seq (.ops [⟨some 7, none, .fieldAddr 0 (.tm 3)⟩,
    ⟨some 8, none, .load none (.tm 7)⟩,
    ⟨some 9, none, .bin .eql .int (.tm 8) (.cn (.int .u8 (4)))⟩,
    ⟨some 10, none, .mv (.tm 9)⟩,
    ⟨some 11, (some (10, true)), .mv (.tm 0)⟩,
    ⟨some 12, (some (10, true)), .nilCheck (.tm 11)⟩,
    ⟨some 13, (some (10, true)), .fieldAddr 5 (.tm 12)⟩,
    ⟨some 14, (some (10, true)), .load none (.tm 13)⟩,
    ⟨some 15, (some (10, true)), .bslice 5 1 [.int .u8 (0)] [(0, 1, (.cn (.int .u8 (127))))]⟩,
    ⟨some 16, (some (10, true)), .call (.cn (.func (.func 109) #[] #[])) [.tm 14, .tm 15]⟩,
    ⟨some 17, (some (10, true)), .un .not (.tm 16)⟩,
    ⟨some 18, none, .pick (.tm 10) (.tm 17) (.cn (.bool false))⟩])
  (.cond (.tm 18)
   (.seq (.ops [⟨some 4, none, .mv (.cn (.int .i64 (100)))⟩])
   .ret)
   .skip))
  (.seq (.ops [⟨some 19, none, .fieldAddr 1 (.tm 3)⟩,
    ⟨some 20, none, .load none (.tm 19)⟩,
    ⟨some 21, none, .call (.cn (.func (.func 110) #[] #[])) [.tm 20]⟩,
    ⟨some 5, none, .mv (.tm 21)⟩])
  (.seq (.ops [⟨some 22, none, .mv (.tm 5)⟩,
    ⟨some 6, none, .mv (.tm 22)⟩])
  (.seq (.seq (.ops [⟨some 23, none, .fieldAddr 0 (.tm 3)⟩,
    ⟨some 24, none, .load none (.tm 23)⟩,
    ⟨some 25, none, .bin .eql .int (.tm 24) (.cn (.int .u8 (3)))⟩])
  (.cond (.tm 25)
   (.ops [⟨some 6, none, .mv (.cn (.slice none 0 0))⟩])
   .skip))
  (.seq (.ops [⟨some 26, none, .mv (.tm 0)⟩,
    ⟨some 27, none, .nilCheck (.tm 26)⟩,
    ⟨some 28, none, .fieldAddr 5 (.tm 27)⟩,
    ⟨some 29, none, .load none (.tm 28)⟩,
    ⟨some 30, none, .mv (.tm 6)⟩,
    ⟨some 31, none, .mv (.tm 5)⟩,
    ⟨some 32, none, .call (.cn (.func (.func 87) #[] #[])) [.tm 29, .tm 30, .tm 31]⟩])
  (.seq (.draw (some [(some true, ⟨some 33, none, .mv (.tm 0)⟩),
    (some true, ⟨some 34, none, .mv (.tm 0)⟩),
    (some true, ⟨some 35, none, .nilCheck (.tm 34)⟩),
    (some true, ⟨some 36, none, .fieldAddr 6 (.tm 35)⟩),
    (some true, ⟨some 37, none, .load none (.tm 36)⟩),
    (some false, ⟨some 38, none, .fieldAddr 0 (.tm 3)⟩),
    (some false, ⟨some 39, none, .load none (.tm 38)⟩),
    (none, ⟨some 40, none, .bslice 5 1 [.int .u8 (0)] [(0, 1, (.tm 39))]⟩),
    (none, ⟨some 41, none, .append 5 1 1 [.int .u8 (0)] (.tm 37) (.tm 40)⟩),
    (some false, ⟨some 42, none, .nilCheck (.tm 33)⟩),
    (some false, ⟨some 43, none, .fieldAddr 6 (.tm 42)⟩),
    (none, ⟨none, none, .store 1 (.tm 43) (.tm 41)⟩)])
   [([], ⟨some 33, none, .mv (.tm 0)⟩),
    ([], ⟨some 34, none, .mv (.tm 0)⟩),
    ([1], ⟨some 35, none, .nilCheck (.tm 34)⟩),
    ([1, 2], ⟨some 36, none, .fieldAddr 6 (.tm 35)⟩),
    ([1, 2, 3], ⟨some 37, none, .load none (.tm 36)⟩),
    ([], ⟨some 38, none, .fieldAddr 0 (.tm 3)⟩),
    ([5], ⟨some 39, none, .load none (.tm 38)⟩),
    ([5, 6], ⟨some 40, none, .bslice 5 1 [.int .u8 (0)] [(0, 1, (.tm 39))]⟩),
    ([1, 2, 3, 4, 5, 6, 7], ⟨some 41, none, .append 5 1 1 [.int .u8 (0)] (.tm 37) (.tm 40)⟩),
    ([0, 1, 2, 3, 4, 5, 6, 7, 8], ⟨some 42, none, .nilCheck (.tm 33)⟩),
    ([0, 1, 2, 3, 4, 5, 6, 7, 8, 9], ⟨some 43, none, .fieldAddr 6 (.tm 42)⟩),
    ([0, 1, 2, 3, 4, 5, 6, 7, 8, 9, 10], ⟨none, none, .store 1 (.tm 43) (.tm 41)⟩)])
  (.seq (.ops [⟨some 4, none, .mv (.cn (.int .i64 (0)))⟩])
  .ret))))))))
def rt88 : List IRet := [.tm 4]
theorem ci88 : (Go.Proofs.Tryz.f88.body).bind (compile Go.Proofs.Tryz.prog Go.Proofs.Tryz.f88.ntmps) = some ir88 := by kernel_rfl
theorem cr88 : compileRets Go.Proofs.Tryz.prog Go.Proofs.Tryz.f88.results.toList = some rt88 := by kernel_rfl
def fn88 : XFn := ⟨ir88, rt88, 44⟩
theorem fk88 : FnOK Go.Proofs.Tryz.prog 88 fn88 := ⟨⟨_, _, Go.Proofs.Tryz.func88, rfl, by kernel_rfl, ci88, cr88, Go.Proofs.Tryz.ntmps88.symm⟩⟩

/-- (*gabelle/body.checker).middle -/
def ir89 : IR :=
  (.seq (.ops [⟨some 3, none, .box 56 (.tm 1)⟩,
    ⟨some 4, none, .mv (.cn (.int .i64 (0)))⟩])
  (.seq (.ops [⟨some 8, none, .mv (.tm 0)⟩,
    ⟨some 9, none, .nilCheck (.tm 8)⟩,
    ⟨some 10, none, .fieldAddr 5 (.tm 9)⟩,
    ⟨some 11, none, .load none (.tm 10)⟩,
    ⟨some 12, none, .call (.cn (.func (.func 74) #[] #[])) [.tm 11]⟩,
    ⟨some 7, none, .mv (.tm 12)⟩,
    ⟨some 13, none, .extract (.tm 7) 0⟩,
    ⟨some 14, none, .extract (.tm 7) 1⟩,
    ⟨some 5, none, .mv (.tm 13)⟩,
    ⟨some 6, none, .mv (.tm 14)⟩])
  (.seq (.seq (.ops [⟨some 15, none, .mv (.tm 6)⟩,
    ⟨some 16, none, .un .not (.tm 15)⟩])
  (.cond (.tm 16)
   (.seq (.ops [⟨some 4, none, .mv (.cn (.int .i64 (100)))⟩])
   .ret)
   .skip))
  (.seq (.ops [⟨some 17, none, .mv (.tm 0)⟩,
    ⟨some 18, none, .nilCheck (.tm 17)⟩,
    ⟨some 19, none, .fieldAddr 5 (.tm 18)⟩,
    ⟨some 20, none, .load none (.tm 19)⟩,
    ⟨some 21, none, .mv (.tm 5)⟩,
    ⟨some 22, none, .mv (.tm 5)⟩,
    ⟨some 23, none, .call (.cn (.func (.func 87) #[] #[])) [.tm 20, .tm 21, .tm 22]⟩])
  (.seq (.draw (some [(some false, ⟨some 24, none, .mv (.tm 0)⟩),
    (some false, ⟨some 25, none, .nilCheck (.tm 24)⟩),
    (some false, ⟨some 26, none, .fieldAddr 6 (.tm 25)⟩),
    (some false, ⟨some 27, none, .load none (.tm 26)⟩),
    (some false, ⟨some 28, none, .mv (.tm 0)⟩),
    (some false, ⟨some 29, none, .nilCheck (.tm 28)⟩),
    (some false, ⟨some 30, none, .fieldAddr 6 (.tm 29)⟩),
    (some false, ⟨some 31, none, .load none (.tm 30)⟩),
    (some false, ⟨some 32, none, .len .sl (.tm 31)⟩),
    (some false, ⟨some 33, none, .bin .sub .int (.tm 32) (.cn (.int .i64 (1)))⟩),
    (some false, ⟨some 34, none, .idxAddr 1 none (.tm 27) (.tm 33)⟩),
    (none, ⟨none, none, .store 1 (.tm 34) (.cn (.int .u8 (5)))⟩)])
   [([], ⟨some 24, none, .mv (.tm 0)⟩),
    ([0], ⟨some 25, none, .nilCheck (.tm 24)⟩),
    ([0, 1], ⟨some 26, none, .fieldAddr 6 (.tm 25)⟩),
    ([0, 1, 2], ⟨some 27, none, .load none (.tm 26)⟩),
    ([], ⟨some 28, none, .mv (.tm 0)⟩),
    ([4], ⟨some 29, none, .nilCheck (.tm 28)⟩),
    ([4, 5], ⟨some 30, none, .fieldAddr 6 (.tm 29)⟩),
    ([4, 5, 6], ⟨some 31, none, .load none (.tm 30)⟩),
    ([4, 5, 6, 7], ⟨some 32, none, .len .sl (.tm 31)⟩),
    ([4, 5, 6, 7, 8], ⟨some 33, none, .bin .sub .int (.tm 32) (.cn (.int .i64 (1)))⟩),
    ([0, 1, 2, 3, 4, 5, 6, 7, 8, 9], ⟨some 34, none, .idxAddr 1 none (.tm 27) (.tm 33)⟩),
    ([0, 1, 2, 3, 4, 5, 6, 7, 8, 9, 10], ⟨none, none, .store 1 (.tm 34) (.cn (.int .u8 (5)))⟩)])
  (.seq (.ops [⟨some 4, none, .mv (.cn (.int .i64 (0)))⟩])
  .ret))))))
def rt89 : List IRet := [.tm 4]
theorem ci89 : (Go.Proofs.Tryz.f89.body).bind (compile Go.Proofs.Tryz.prog Go.Proofs.Tryz.f89.ntmps) = some ir89 := by kernel_rfl
theorem cr89 : compileRets Go.Proofs.Tryz.prog Go.Proofs.Tryz.f89.results.toList = some rt89 := by kernel_rfl
def fn89 : XFn := ⟨ir89, rt89, 35⟩
theorem fk89 : FnOK Go.Proofs.Tryz.prog 89 fn89 := ⟨⟨_, _, Go.Proofs.Tryz.func89, rfl, by kernel_rfl, ci89, cr89, Go.Proofs.Tryz.ntmps89.symm⟩⟩

/-- (*gabelle/body.checker).end -/
def ir90 : IR :=
  (.seq (.ops [⟨some 3, none, .box 56 (.tm 1)⟩,
    ⟨some 4, none, .mv (.cn (.int .i64 (0)))⟩])
  (.seq (.ops [⟨some 8, none, .mv (.tm 0)⟩,
    ⟨some 9, none, .nilCheck (.tm 8)⟩,
    ⟨some 10, none, .fieldAddr 6 (.tm 9)⟩,
    ⟨some 11, none, .load none (.tm 10)⟩,
    ⟨some 12, none, .len .sl (.tm 11)⟩,
    ⟨some 13, none, .bin .sub .int (.tm 12) (.cn (.int .i64 (1)))⟩,
    ⟨some 5, none, .mv (.tm 13)⟩])
  (.seq (.ops [⟨some 15, none, .mv (.tm 0)⟩,
    ⟨some 16, none, .nilCheck (.tm 15)⟩,
    ⟨some 17, none, .fieldAddr 5 (.tm 16)⟩,
    ⟨some 18, none, .load none (.tm 17)⟩,
    ⟨some 19, none, .call (.cn (.func (.func 74) #[] #[])) [.tm 18]⟩,
    ⟨some 14, none, .mv (.tm 19)⟩,
    ⟨some 20, none, .extract (.tm 14) 0⟩,
    ⟨some 21, none, .extract (.tm 14) 1⟩,
    ⟨some 6, none, .mv (.tm 20)⟩,
    ⟨some 7, none, .mv (.tm 21)⟩])
  (.seq (.seq (.ops [⟨some 22, none, .mv (.tm 7)⟩,
    ⟨some 23, none, .un .not (.tm 22)⟩,
    ⟨some 24, none, .mv (.tm 23)⟩,
    ⟨some 25, (some (24, false)), .mv (.tm 0)⟩,
    ⟨some 26, (some (24, false)), .nilCheck (.tm 25)⟩,
    ⟨some 27, (some (24, false)), .fieldAddr 6 (.tm 26)⟩,
    ⟨some 28, (some (24, false)), .load none (.tm 27)⟩,
    ⟨some 29, (some (24, false)), .mv (.tm 5)⟩,
    ⟨some 30, (some (24, false)), .idxAddr 1 none (.tm 28) (.tm 29)⟩,
    ⟨some 31, (some (24, false)), .load none (.tm 30)⟩,
    ⟨some 32, (some (24, false)), .bin .eql .int (.tm 31) (.cn (.int .u8 (4)))⟩,
    ⟨some 33, (some (24, false)), .mv (.tm 32)⟩,
    ⟨some 34, (some (33, true)), .mv (.tm 6)⟩,
    ⟨some 35, (some (33, true)), .len .sl (.tm 34)⟩,
    ⟨some 36, (some (33, true)), .bin .gtr .int (.tm 35) (.cn (.int .i64 (0)))⟩,
    ⟨some 37, (some (24, false)), .pick (.tm 33) (.tm 36) (.cn (.bool false))⟩,
    ⟨some 38, none, .pick (.tm 24) (.cn (.bool true)) (.tm 37)⟩])
  (.cond (.tm 38)
   (.seq (.ops [⟨some 4, none, .mv (.cn (.int .i64 (100)))⟩])
   .ret)
   .skip))
  (.seq (.ops [⟨some 39, none, .mv (.tm 0)⟩,
    ⟨some 40, none, .mv (.tm 0)⟩,
    ⟨some 41, none, .nilCheck (.tm 40)⟩,
    ⟨some 42, none, .fieldAddr 6 (.tm 41)⟩,
    ⟨some 43, none, .load none (.tm 42)⟩,
    ⟨some 44, none, .mv (.tm 5)⟩,
    ⟨some 45, none, .slc (.sl 1) (.tm 43) none (some (.tm 44)) none⟩,
    ⟨some 46, none, .nilCheck (.tm 39)⟩,
    ⟨some 47, none, .fieldAddr 6 (.tm 46)⟩,
    ⟨none, none, .store 1 (.tm 47) (.tm 45)⟩])
  (.seq (.ops [⟨some 48, none, .mv (.tm 0)⟩,
    ⟨some 49, none, .nilCheck (.tm 48)⟩,
    ⟨some 50, none, .fieldAddr 5 (.tm 49)⟩,
    ⟨some 51, none, .load none (.tm 50)⟩,
    ⟨some 52, none, .mv (.tm 6)⟩,
    ⟨some 53, none, .call (.cn (.func (.func 111) #[] #[])) [.tm 51, .tm 52]⟩])
  (.seq (.ops [⟨some 4, none, .mv (.cn (.int .i64 (0)))⟩])
  .ret)))))))
def rt90 : List IRet := [.tm 4]
theorem ci90 : (Go.Proofs.Tryz.f90.body).bind (compile Go.Proofs.Tryz.prog Go.Proofs.Tryz.f90.ntmps) = some ir90 := by kernel_rfl
theorem cr90 : compileRets Go.Proofs.Tryz.prog Go.Proofs.Tryz.f90.results.toList = some rt90 := by kernel_rfl
def fn90 : XFn := ⟨ir90, rt90, 54⟩
theorem fk90 : FnOK Go.Proofs.Tryz.prog 90 fn90 := ⟨⟨_, _, Go.Proofs.Tryz.func90, rfl, by kernel_rfl, ci90, cr90, Go.Proofs.Tryz.ntmps90.symm⟩⟩

/-- (*gabelle/body.checker).branch -/
def ir91 : IR :=
  (.seq (.ops [⟨some 3, none, .box 56 (.tm 1)⟩,
    ⟨some 4, none, .mv (.cn (.int .i64 (0)))⟩])
  (.seq (.draw (some [(some false, ⟨some 8, none, .mv (.tm 0)⟩),
    (some false, ⟨some 9, none, .nilCheck (.tm 8)⟩),
    (some false, ⟨some 10, none, .fieldAddr 5 (.tm 9)⟩),
    (some false, ⟨some 11, none, .load none (.tm 10)⟩),
    (some false, ⟨some 12, none, .fieldAddr 1 (.tm 3)⟩),
    (some false, ⟨some 13, none, .load none (.tm 12)⟩),
    (none, ⟨some 14, none, .call (.cn (.func (.func 112) #[] #[])) [.tm 11, .tm 13]⟩),
    (some false, ⟨some 7, none, .mv (.tm 14)⟩),
    (some false, ⟨some 15, none, .extract (.tm 7) 0⟩),
    (some false, ⟨some 16, none, .extract (.tm 7) 1⟩),
    (some false, ⟨some 5, none, .mv (.tm 15)⟩),
    (some false, ⟨some 6, none, .mv (.tm 16)⟩)])
   [([], ⟨some 8, none, .mv (.tm 0)⟩),
    ([0], ⟨some 9, none, .nilCheck (.tm 8)⟩),
    ([0, 1], ⟨some 10, none, .fieldAddr 5 (.tm 9)⟩),
    ([0, 1, 2], ⟨some 11, none, .load none (.tm 10)⟩),
    ([], ⟨some 12, none, .fieldAddr 1 (.tm 3)⟩),
    ([4], ⟨some 13, none, .load none (.tm 12)⟩),
    ([0, 1, 2, 3, 4, 5], ⟨some 14, none, .call (.cn (.func (.func 112) #[] #[])) [.tm 11, .tm 13]⟩),
    ([0, 1, 2, 3, 4, 5, 6], ⟨some 7, none, .mv (.tm 14)⟩),
    ([0, 1, 2, 3, 4, 5, 6, 7], ⟨some 15, none, .extract (.tm 7) 0⟩),
    ([0, 1, 2, 3, 4, 5, 6, 7], ⟨some 16, none, .extract (.tm 7) 1⟩),
    ([0, 1, 2, 3, 4, 5, 6, 7, 8], ⟨some 5, none, .mv (.tm 15)⟩),
    ([0, 1, 2, 3, 4, 5, 6, 7, 8, 9, 10], ⟨some 6, none, .mv (.tm 16)⟩)])
  (.seq (.seq (.ops [⟨some 17, none, .mv (.tm 6)⟩,
    ⟨some 18, none, .un .not (.tm 17)⟩])
  (.cond (.tm 18)
   (.seq (.ops [⟨some 4, none, .mv (.cn (.int .i64 (101)))⟩])
   .ret)
   .skip))
  (.seq (.seq (.ops [⟨some 19, none, .fieldAddr 0 (.tm 3)⟩,
    ⟨some 20, none, .load none (.tm 19)⟩,
    ⟨some 21, none, .bin .eql .int (.tm 20) (.cn (.int .u8 (13)))⟩])
  (.cond (.tm 21)
   (.seq (.ops [⟨some 22, none, .mv (.tm 0)⟩,
     ⟨some 23, none, .mv (.tm 5)⟩,
     ⟨some 24, none, .call (.cn (.func (.func 76) #[] #[])) [.tm 23]⟩,
     ⟨some 25, none, .bslice 5 1 [.int .u8 (0)] [(0, 1, (.cn (.int .u8 (127))))]⟩,
     ⟨some 26, none, .append 5 1 1 [.int .u8 (0)] (.tm 24) (.tm 25)⟩,
     ⟨some 27, none, .mv (.tm 5)⟩,
     ⟨some 28, none, .call (.cn (.func (.func 113) #[] #[])) [.tm 22, .tm 26, .tm 27]⟩,
     ⟨some 4, none, .mv (.tm 28)⟩])
   .ret)
   .skip))
  (.seq (.ops [⟨some 29, none, .mv (.tm 0)⟩,
    ⟨some 30, none, .nilCheck (.tm 29)⟩,
    ⟨some 31, none, .fieldAddr 5 (.tm 30)⟩,
    ⟨some 32, none, .load none (.tm 31)⟩,
    ⟨some 33, none, .mv (.tm 5)⟩,
    ⟨some 34, none, .call (.cn (.func (.func 109) #[] #[])) [.tm 32, .tm 33]⟩,
    ⟨some 6, none, .mv (.tm 34)⟩])
  (.seq (.ops [⟨some 35, none, .mv (.tm 0)⟩,
    ⟨some 36, none, .nilCheck (.tm 35)⟩,
    ⟨some 37, none, .fieldAddr 5 (.tm 36)⟩,
    ⟨some 38, none, .load none (.tm 37)⟩,
    ⟨some 39, none, .call (.cn (.func (.func 114) #[] #[])) [.tm 38]⟩])
  (.seq (.ops [⟨some 40, none, .mv (.tm 6)⟩,
    ⟨some 41, none, .call (.cn (.func (.func 115) #[] #[])) [.tm 40]⟩,
    ⟨some 4, none, .mv (.tm 41)⟩])
  .ret)))))))
def rt91 : List IRet := [.tm 4]
theorem ci91 : (Go.Proofs.Tryz.f91.body).bind (compile Go.Proofs.Tryz.prog Go.Proofs.Tryz.f91.ntmps) = some ir91 := by kernel_rfl
theorem cr91 : compileRets Go.Proofs.Tryz.prog Go.Proofs.Tryz.f91.results.toList = some rt91 := by kernel_rfl
def fn91 : XFn := ⟨ir91, rt91, 42⟩
theorem fk91 : FnOK Go.Proofs.Tryz.prog 91 fn91 := ⟨⟨_, _, Go.Proofs.Tryz.func91, rfl, by kernel_rfl, ci91, cr91, Go.Proofs.Tryz.ntmps91.symm⟩⟩

/-- (*gabelle/body.checker).table -/
def ir92 : IR :=
  (.seq (.ops [⟨some 3, none, .box 56 (.tm 1)⟩,
    ⟨some 4, none, .mv (.cn (.int .i64 (0)))⟩])
  (.seq (.draw (some [(some false, ⟨some 13, none, .mv (.tm 0)⟩),
    (some false, ⟨some 14, none, .nilCheck (.tm 13)⟩),
    (some false, ⟨some 15, none, .fieldAddr 5 (.tm 14)⟩),
    (some false, ⟨some 16, none, .load none (.tm 15)⟩),
    (some false, ⟨some 17, none, .fieldAddr 1 (.tm 3)⟩),
    (some false, ⟨some 18, none, .load none (.tm 17)⟩),
    (none, ⟨some 19, none, .call (.cn (.func (.func 112) #[] #[])) [.tm 16, .tm 18]⟩),
    (some false, ⟨some 12, none, .mv (.tm 19)⟩),
    (some false, ⟨some 20, none, .extract (.tm 12) 0⟩),
    (some false, ⟨some 21, none, .extract (.tm 12) 1⟩),
    (some false, ⟨some 5, none, .mv (.tm 20)⟩),
    (some false, ⟨some 6, none, .mv (.tm 21)⟩)])
   [([], ⟨some 13, none, .mv (.tm 0)⟩),
    ([0], ⟨some 14, none, .nilCheck (.tm 13)⟩),
    ([0, 1], ⟨some 15, none, .fieldAddr 5 (.tm 14)⟩),
    ([0, 1, 2], ⟨some 16, none, .load none (.tm 15)⟩),
    ([], ⟨some 17, none, .fieldAddr 1 (.tm 3)⟩),
    ([4], ⟨some 18, none, .load none (.tm 17)⟩),
    ([0, 1, 2, 3, 4, 5], ⟨some 19, none, .call (.cn (.func (.func 112) #[] #[])) [.tm 16, .tm 18]⟩),
    ([0, 1, 2, 3, 4, 5, 6], ⟨some 12, none, .mv (.tm 19)⟩),
    ([0, 1, 2, 3, 4, 5, 6, 7], ⟨some 20, none, .extract (.tm 12) 0⟩),
    ([0, 1, 2, 3, 4, 5, 6, 7], ⟨some 21, none, .extract (.tm 12) 1⟩),
    ([0, 1, 2, 3, 4, 5, 6, 7, 8], ⟨some 5, none, .mv (.tm 20)⟩),
    ([0, 1, 2, 3, 4, 5, 6, 7, 8, 9, 10], ⟨some 6, none, .mv (.tm 21)⟩)])
  (.seq (.ops [⟨some 7, none, .mv (.cn (.bool true))⟩])
  (.seq (.seq (.ops [⟨some 22, none, .fieldAddr 4 (.tm 3)⟩,
    ⟨some 23, none, .load none (.tm 22)⟩,
    ⟨some 24, none, .len .sl (.tm 23)⟩,
    ⟨some 25, none, .mv (.cn (.int .i64 (0)))⟩])
  (.block 0
   (.loop
    (.seq (.ops [⟨some 26, none, .bin .lss .int (.tm 25) (.tm 24)⟩])
    (.seq (.cond (.tm 26)
     .skip
     (.exit 0))
    (.seq (.block 1
     (.seq (.ops [⟨some 27, none, .idxAddr 1 none (.tm 23) (.tm 25)⟩,
       ⟨some 28, none, .load none (.tm 27)⟩,
       ⟨some 9, none, .mv (.tm 28)⟩])
     (.seq (.ops [⟨some 30, none, .mv (.tm 0)⟩,
       ⟨some 31, none, .nilCheck (.tm 30)⟩,
       ⟨some 32, none, .fieldAddr 5 (.tm 31)⟩,
       ⟨some 33, none, .load none (.tm 32)⟩,
       ⟨some 34, none, .mv (.tm 9)⟩,
       ⟨some 35, none, .call (.cn (.func (.func 112) #[] #[])) [.tm 33, .tm 34]⟩,
       ⟨some 29, none, .mv (.tm 35)⟩,
       ⟨some 36, none, .extract (.tm 29) 0⟩,
       ⟨some 37, none, .extract (.tm 29) 1⟩,
       ⟨some 10, none, .mv (.tm 36)⟩,
       ⟨some 11, none, .mv (.tm 37)⟩])
     (.seq (.ops [⟨some 38, none, .mv (.tm 6)⟩,
       ⟨some 39, none, .mv (.tm 38)⟩,
       ⟨some 40, (some (39, true)), .mv (.tm 11)⟩,
       ⟨some 41, none, .pick (.tm 39) (.tm 40) (.cn (.bool false))⟩,
       ⟨some 6, none, .mv (.tm 41)⟩])
     (.ops [⟨some 42, none, .mv (.tm 7)⟩,
       ⟨some 43, none, .mv (.tm 42)⟩,
       ⟨some 44, (some (43, true)), .mv (.tm 10)⟩,
       ⟨some 45, (some (43, true)), .mv (.tm 5)⟩,
       ⟨some 46, (some (43, true)), .call (.cn (.func (.func 68) #[] #[])) [.tm 44, .tm 45]⟩,
       ⟨some 47, none, .pick (.tm 43) (.tm 46) (.cn (.bool false))⟩,
       ⟨some 7, none, .mv (.tm 47)⟩])))))
    (.ops [⟨some 48, none, .bin .add .int (.tm 25) (.cn (.int .i64 (1)))⟩,
      ⟨some 25, none, .mv (.tm 48)⟩])))))))
  (.seq (.seq (.ops [⟨some 49, none, .mv (.tm 6)⟩,
    ⟨some 50, none, .un .not (.tm 49)⟩])
  (.cond (.tm 50)
   (.seq (.ops [⟨some 4, none, .mv (.cn (.int .i64 (101)))⟩])
   .ret)
   .skip))
  (.seq (.draw (some [(some false, ⟨some 51, none, .mv (.tm 7)⟩),
    (some false, ⟨some 52, none, .mv (.tm 51)⟩),
    (some true, ⟨some 53, (some (52, true)), .mv (.tm 0)⟩),
    (some true, ⟨some 54, (some (52, true)), .nilCheck (.tm 53)⟩),
    (some true, ⟨some 55, (some (52, true)), .fieldAddr 5 (.tm 54)⟩),
    (some true, ⟨some 56, (some (52, true)), .load none (.tm 55)⟩),
    (some true, ⟨some 57, (some (52, true)), .mv (.tm 5)⟩),
    (none, ⟨some 58, (some (52, true)), .bslice 5 1 [.int .u8 (0)] [(0, 1, (.cn (.int .u8 (127))))]⟩),
    (none, ⟨some 59, (some (52, true)), .append 5 1 1 [.int .u8 (0)] (.tm 57) (.tm 58)⟩),
    (none, ⟨some 60, (some (52, true)), .call (.cn (.func (.func 109) #[] #[])) [.tm 56, .tm 59]⟩),
    (some false, ⟨some 61, none, .pick (.tm 52) (.tm 60) (.cn (.bool false))⟩),
    (some false, ⟨some 6, none, .mv (.tm 61)⟩)])
   [([], ⟨some 51, none, .mv (.tm 7)⟩),
    ([0], ⟨some 52, none, .mv (.tm 51)⟩),
    ([0, 1], ⟨some 53, (some (52, true)), .mv (.tm 0)⟩),
    ([0, 1, 2], ⟨some 54, (some (52, true)), .nilCheck (.tm 53)⟩),
    ([0, 1, 2, 3], ⟨some 55, (some (52, true)), .fieldAddr 5 (.tm 54)⟩),
    ([0, 1, 2, 3, 4], ⟨some 56, (some (52, true)), .load none (.tm 55)⟩),
    ([0, 1], ⟨some 57, (some (52, true)), .mv (.tm 5)⟩),
    ([0, 1], ⟨some 58, (some (52, true)), .bslice 5 1 [.int .u8 (0)] [(0, 1, (.cn (.int .u8 (127))))]⟩),
    ([0, 1, 6, 7], ⟨some 59, (some (52, true)), .append 5 1 1 [.int .u8 (0)] (.tm 57) (.tm 58)⟩),
    ([0, 1, 2, 3, 4, 5, 6, 7, 8], ⟨some 60, (some (52, true)), .call (.cn (.func (.func 109) #[] #[])) [.tm 56, .tm 59]⟩),
    ([0, 1, 2, 3, 4, 5, 6, 7, 8, 9], ⟨some 61, none, .pick (.tm 52) (.tm 60) (.cn (.bool false))⟩),
    ([0, 1, 2, 3, 4, 5, 6, 7, 8, 9, 10], ⟨some 6, none, .mv (.tm 61)⟩)])
  (.seq (.ops [⟨some 62, none, .mv (.tm 0)⟩,
    ⟨some 63, none, .nilCheck (.tm 62)⟩,
    ⟨some 64, none, .fieldAddr 5 (.tm 63)⟩,
    ⟨some 65, none, .load none (.tm 64)⟩,
    ⟨some 66, none, .call (.cn (.func (.func 114) #[] #[])) [.tm 65]⟩])
  (.seq (.ops [⟨some 67, none, .mv (.tm 6)⟩,
    ⟨some 68, none, .call (.cn (.func (.func 115) #[] #[])) [.tm 67]⟩,
    ⟨some 4, none, .mv (.tm 68)⟩])
  .ret))))))))
def rt92 : List IRet := [.tm 4]
theorem ci92 : (Go.Proofs.Tryz.f92.body).bind (compile Go.Proofs.Tryz.prog Go.Proofs.Tryz.f92.ntmps) = some ir92 := by kernel_rfl
theorem cr92 : compileRets Go.Proofs.Tryz.prog Go.Proofs.Tryz.f92.results.toList = some rt92 := by kernel_rfl
def fn92 : XFn := ⟨ir92, rt92, 69⟩
theorem fk92 : FnOK Go.Proofs.Tryz.prog 92 fn92 := ⟨⟨_, _, Go.Proofs.Tryz.func92, rfl, by kernel_rfl, ci92, cr92, Go.Proofs.Tryz.ntmps92.symm⟩⟩

/-- (*gabelle/body.checker).leave -/
def ir93 : IR :=
  (.seq (.ops [⟨some 3, none, .box 56 (.tm 1)⟩,
    ⟨some 4, none, .mv (.cn (.int .i64 (0)))⟩])
  (.seq (.draw (some [(some false, ⟨some 6, none, .fieldAddr 0 (.tm 3)⟩),
    (some false, ⟨some 7, none, .load none (.tm 6)⟩),
    (some false, ⟨some 8, none, .bin .eql .int (.tm 7) (.cn (.int .u8 (0)))⟩),
    (some false, ⟨some 9, none, .mv (.tm 8)⟩),
    (some false, ⟨some 10, (some (9, false)), .mv (.tm 0)⟩),
    (some false, ⟨some 11, (some (9, false)), .nilCheck (.tm 10)⟩),
    (some false, ⟨some 12, (some (9, false)), .fieldAddr 5 (.tm 11)⟩),
    (some false, ⟨some 13, (some (9, false)), .load none (.tm 12)⟩),
    (some false, ⟨some 14, (some (9, false)), .mv (.tm 0)⟩),
    (some false, ⟨some 15, (some (9, false)), .nilCheck (.tm 14)⟩),
    (some false, ⟨some 16, (some (9, false)), .fieldAddr 1 (.tm 15)⟩),
    (some false, ⟨some 17, (some (9, false)), .fieldAddr 1 (.tm 16)⟩),
    (some false, ⟨some 18, (some (9, false)), .load none (.tm 17)⟩),
    (none, ⟨some 19, (some (9, false)), .call (.cn (.func (.func 109) #[] #[])) [.tm 13, .tm 18]⟩),
    (some false, ⟨some 20, none, .pick (.tm 9) (.cn (.bool true)) (.tm 19)⟩),
    (some false, ⟨some 5, none, .mv (.tm 20)⟩)])
   [([], ⟨some 6, none, .fieldAddr 0 (.tm 3)⟩),
    ([0], ⟨some 7, none, .load none (.tm 6)⟩),
    ([0, 1], ⟨some 8, none, .bin .eql .int (.tm 7) (.cn (.int .u8 (0)))⟩),
    ([0, 1, 2], ⟨some 9, none, .mv (.tm 8)⟩),
    ([0, 1, 2, 3], ⟨some 10, (some (9, false)), .mv (.tm 0)⟩),
    ([0, 1, 2, 3, 4], ⟨some 11, (some (9, false)), .nilCheck (.tm 10)⟩),
    ([0, 1, 2, 3, 4, 5], ⟨some 12, (some (9, false)), .fieldAddr 5 (.tm 11)⟩),
    ([0, 1, 2, 3, 4, 5, 6], ⟨some 13, (some (9, false)), .load none (.tm 12)⟩),
    ([0, 1, 2, 3], ⟨some 14, (some (9, false)), .mv (.tm 0)⟩),
    ([0, 1, 2, 3, 8], ⟨some 15, (some (9, false)), .nilCheck (.tm 14)⟩),
    ([0, 1, 2, 3, 8, 9], ⟨some 16, (some (9, false)), .fieldAddr 1 (.tm 15)⟩),
    ([0, 1, 2, 3, 8, 9, 10], ⟨some 17, (some (9, false)), .fieldAddr 1 (.tm 16)⟩),
    ([0, 1, 2, 3, 8, 9, 10, 11], ⟨some 18, (some (9, false)), .load none (.tm 17)⟩),
    ([0, 1, 2, 3, 4, 5, 6, 7, 8, 9, 10, 11, 12], ⟨some 19, (some (9, false)), .call (.cn (.func (.func 109) #[] #[])) [.tm 13, .tm 18]⟩),
    ([0, 1, 2, 3, 4, 5, 6, 7, 8, 9, 10, 11, 12, 13], ⟨some 20, none, .pick (.tm 9) (.cn (.bool true)) (.tm 19)⟩),
    ([0, 1, 2, 3, 4, 5, 6, 7, 8, 9, 10, 11, 12, 13, 14], ⟨some 5, none, .mv (.tm 20)⟩)])
  (.seq (.ops [⟨some 21, none, .mv (.tm 0)⟩,
    ⟨some 22, none, .nilCheck (.tm 21)⟩,
    ⟨some 23, none, .fieldAddr 5 (.tm 22)⟩,
    ⟨some 24, none, .load none (.tm 23)⟩,
    ⟨some 25, none, .call (.cn (.func (.func 114) #[] #[])) [.tm 24]⟩])
  (.seq (.ops [⟨some 26, none, .mv (.tm 5)⟩,
    ⟨some 27, none, .call (.cn (.func (.func 115) #[] #[])) [.tm 26]⟩,
    ⟨some 4, none, .mv (.tm 27)⟩])
  .ret))))
def rt93 : List IRet := [.tm 4]
theorem ci93 : (Go.Proofs.Tryz.f93.body).bind (compile Go.Proofs.Tryz.prog Go.Proofs.Tryz.f93.ntmps) = some ir93 := by kernel_rfl
theorem cr93 : compileRets Go.Proofs.Tryz.prog Go.Proofs.Tryz.f93.results.toList = some rt93 := by kernel_rfl
def fn93 : XFn := ⟨ir93, rt93, 28⟩
theorem fk93 : FnOK Go.Proofs.Tryz.prog 93 fn93 := ⟨⟨_, _, Go.Proofs.Tryz.func93, rfl, by kernel_rfl, ci93, cr93, Go.Proofs.Tryz.ntmps93.symm⟩⟩

/-- (*gabelle/body.checker).call -/
def ir94 : IR :=
  (.seq (.ops [⟨some 3, none, .box 56 (.tm 1)⟩,
    ⟨some 4, none, .mv (.cn (.int .i64 (0)))⟩])
  (.seq (.draw none
   [([], ⟨some 8, none, .mv (.tm 0)⟩),
    ([0], ⟨some 9, none, .nilCheck (.tm 8)⟩),
    ([0, 1], ⟨some 10, none, .fieldAddr 0 (.tm 9)⟩),
    ([0, 1, 2], ⟨some 11, none, .load none (.tm 10)⟩),
    ([], ⟨some 12, none, .fieldAddr 1 (.tm 3)⟩),
    ([4], ⟨some 13, none, .load none (.tm 12)⟩),
    ([0, 1, 2, 3, 4, 5], ⟨some 14, none, .call (.cn (.func (.func 38) #[] #[])) [.tm 11, .tm 13]⟩),
    ([0, 1, 2, 3, 4, 5, 6], ⟨some 7, none, .mv (.tm 14)⟩),
    ([0, 1, 2, 3, 4, 5, 6, 7], ⟨some 15, none, .extract (.tm 7) 0⟩),
    ([0, 1, 2, 3, 4, 5, 6, 7], ⟨some 16, none, .extract (.tm 7) 1⟩),
    ([], ⟨some 5, none, .newv 29 [.slice none 0 0, .slice none 0 0]⟩),
    ([0, 1, 2, 3, 4, 5, 6, 7, 8, 10], ⟨none, none, .store 2 (.tm 5) (.tm 15)⟩),
    ([0, 1, 2, 3, 4, 5, 6, 7, 8, 9, 10, 11], ⟨some 6, none, .mv (.tm 16)⟩)])
  (.seq (.seq (.ops [⟨some 17, none, .mv (.tm 6)⟩,
    ⟨some 18, none, .un .not (.tm 17)⟩])
  (.cond (.tm 18)
   (.seq (.ops [⟨some 4, none, .mv (.cn (.int .i64 (80)))⟩])
   .ret)
   .skip))
  (.seq (.ops [⟨some 19, none, .mv (.tm 0)⟩,
    ⟨some 20, none, .fieldAddr 0 (.tm 5)⟩,
    ⟨some 21, none, .load none (.tm 20)⟩,
    ⟨some 22, none, .fieldAddr 1 (.tm 5)⟩,
    ⟨some 23, none, .load none (.tm 22)⟩,
    ⟨some 24, none, .call (.cn (.func (.func 113) #[] #[])) [.tm 19, .tm 21, .tm 23]⟩,
    ⟨some 4, none, .mv (.tm 24)⟩])
  .ret))))
def rt94 : List IRet := [.tm 4]
theorem ci94 : (Go.Proofs.Tryz.f94.body).bind (compile Go.Proofs.Tryz.prog Go.Proofs.Tryz.f94.ntmps) = some ir94 := by kernel_rfl
theorem cr94 : compileRets Go.Proofs.Tryz.prog Go.Proofs.Tryz.f94.results.toList = some rt94 := by kernel_rfl
def fn94 : XFn := ⟨ir94, rt94, 25⟩
theorem fk94 : FnOK Go.Proofs.Tryz.prog 94 fn94 := ⟨⟨_, _, Go.Proofs.Tryz.func94, rfl, by kernel_rfl, ci94, cr94, Go.Proofs.Tryz.ntmps94.symm⟩⟩

/-- (*gabelle/body.checker).indirect -/
def ir95 : IR :=
  (.seq (.ops [⟨some 3, none, .box 56 (.tm 1)⟩,
    ⟨some 4, none, .mv (.cn (.int .i64 (0)))⟩])
  (.seq (.ops [⟨some 10, none, .mv (.tm 0)⟩,
    ⟨some 11, none, .nilCheck (.tm 10)⟩,
    ⟨some 12, none, .fieldAddr 0 (.tm 11)⟩,
    ⟨some 13, none, .load none (.tm 12)⟩,
    ⟨some 14, none, .call (.cn (.func (.func 60) #[] #[])) [.tm 13, .cn (.int .u32 (0))]⟩,
    ⟨some 9, none, .mv (.tm 14)⟩,
    ⟨some 15, none, .extract (.tm 9) 0⟩,
    ⟨some 16, none, .extract (.tm 9) 1⟩,
    ⟨some 5, none, .newv 66 [.int .u32 (0), .int .i64 (0)]⟩,
    ⟨none, none, .store 2 (.tm 5) (.tm 15)⟩,
    ⟨some 6, none, .mv (.tm 16)⟩])
  (.seq (.draw none
   [([], ⟨some 18, none, .mv (.tm 0)⟩),
    ([0], ⟨some 19, none, .nilCheck (.tm 18)⟩),
    ([0, 1], ⟨some 20, none, .fieldAddr 0 (.tm 19)⟩),
    ([0, 1, 2], ⟨some 21, none, .load none (.tm 20)⟩),
    ([], ⟨some 22, none, .fieldAddr 1 (.tm 3)⟩),
    ([4], ⟨some 23, none, .load none (.tm 22)⟩),
    ([0, 1, 2, 3, 4, 5], ⟨some 24, none, .call (.cn (.func (.func 32) #[] #[])) [.tm 21, .tm 23]⟩),
    ([0, 1, 2, 3, 4, 5, 6], ⟨some 17, none, .mv (.tm 24)⟩),
    ([0, 1, 2, 3, 4, 5, 6, 7], ⟨some 25, none, .extract (.tm 17) 0⟩),
    ([0, 1, 2, 3, 4, 5, 6, 7], ⟨some 26, none, .extract (.tm 17) 1⟩),
    ([], ⟨some 7, none, .newv 29 [.slice none 0 0, .slice none 0 0]⟩),
    ([0, 1, 2, 3, 4, 5, 6, 7, 8, 10], ⟨none, none, .store 2 (.tm 7) (.tm 25)⟩),
    ([0, 1, 2, 3, 4, 5, 6, 7, 8, 9, 10, 11], ⟨some 8, none, .mv (.tm 26)⟩)])
  (.seq (.seq (.ops [⟨some 27, none, .mv (.tm 8)⟩,
    ⟨some 28, none, .un .not (.tm 27)⟩,
    ⟨some 29, none, .mv (.tm 28)⟩,
    ⟨some 30, (some (29, false)), .mv (.tm 6)⟩,
    ⟨some 31, (some (29, false)), .un .not (.tm 30)⟩,
    ⟨some 32, none, .pick (.tm 29) (.cn (.bool true)) (.tm 31)⟩])
  (.cond (.tm 32)
   (.seq (.ops [⟨some 4, none, .mv (.cn (.int .i64 (80)))⟩])
   .ret)
   .skip))
  (.seq (.draw (some [(some true, ⟨some 33, none, .mv (.tm 0)⟩),
    (some true, ⟨some 34, none, .fieldAddr 0 (.tm 7)⟩),
    (some true, ⟨some 35, none, .load none (.tm 34)⟩),
    (some true, ⟨some 38, none, .fieldAddr 1 (.tm 7)⟩),
    (some true, ⟨some 39, none, .load none (.tm 38)⟩),
    (none, ⟨some 36, none, .bslice 5 1 [.int .u8 (0)] [(0, 1, (.cn (.int .u8 (127))))]⟩),
    (none, ⟨some 37, none, .append 5 1 1 [.int .u8 (0)] (.tm 35) (.tm 36)⟩),
    (none, ⟨some 40, none, .call (.cn (.func (.func 113) #[] #[])) [.tm 33, .tm 37, .tm 39]⟩),
    (some false, ⟨some 4, none, .mv (.tm 40)⟩)])
   [([], ⟨some 33, none, .mv (.tm 0)⟩),
    ([], ⟨some 34, none, .fieldAddr 0 (.tm 7)⟩),
    ([1], ⟨some 35, none, .load none (.tm 34)⟩),
    ([], ⟨some 36, none, .bslice 5 1 [.int .u8 (0)] [(0, 1, (.cn (.int .u8 (127))))]⟩),
    ([1, 2, 3], ⟨some 37, none, .append 5 1 1 [.int .u8 (0)] (.tm 35) (.tm 36)⟩),
    ([], ⟨some 38, none, .fieldAddr 1 (.tm 7)⟩),
    ([5], ⟨some 39, none, .load none (.tm 38)⟩),
    ([0, 1, 2, 3, 4, 5, 6], ⟨some 40, none, .call (.cn (.func (.func 113) #[] #[])) [.tm 33, .tm 37, .tm 39]⟩),
    ([0, 1, 2, 3, 4, 5, 6, 7], ⟨some 4, none, .mv (.tm 40)⟩)])
  .ret)))))
def rt95 : List IRet := [.tm 4]
theorem ci95 : (Go.Proofs.Tryz.f95.body).bind (compile Go.Proofs.Tryz.prog Go.Proofs.Tryz.f95.ntmps) = some ir95 := by kernel_rfl
theorem cr95 : compileRets Go.Proofs.Tryz.prog Go.Proofs.Tryz.f95.results.toList = some rt95 := by kernel_rfl
def fn95 : XFn := ⟨ir95, rt95, 41⟩
theorem fk95 : FnOK Go.Proofs.Tryz.prog 95 fn95 := ⟨⟨_, _, Go.Proofs.Tryz.func95, rfl, by kernel_rfl, ci95, cr95, Go.Proofs.Tryz.ntmps95.symm⟩⟩

/-- (*gabelle/body.checker).drop -/
def ir96 : IR :=
  (.seq (.ops [⟨some 3, none, .box 56 (.tm 1)⟩,
    ⟨some 4, none, .mv (.cn (.int .i64 (0)))⟩])
  (.seq (.ops [⟨some 8, none, .mv (.tm 0)⟩,
    ⟨some 9, none, .nilCheck (.tm 8)⟩,
    ⟨some 10, none, .fieldAddr 5 (.tm 9)⟩,
    ⟨some 11, none, .load none (.tm 10)⟩,
    ⟨some 12, none, .call (.cn (.func (.func 116) #[] #[])) [.tm 11]⟩,
    ⟨some 7, none, .mv (.tm 12)⟩,
    ⟨some 13, none, .extract (.tm 7) 0⟩,
    ⟨some 14, none, .extract (.tm 7) 1⟩,
    ⟨some 5, none, .mv (.tm 13)⟩,
    ⟨some 6, none, .mv (.tm 14)⟩])
  (.seq (.ops [⟨some 15, none, .mv (.tm 6)⟩,
    ⟨some 16, none, .call (.cn (.func (.func 115) #[] #[])) [.tm 15]⟩,
    ⟨some 4, none, .mv (.tm 16)⟩])
  .ret)))
def rt96 : List IRet := [.tm 4]
theorem ci96 : (Go.Proofs.Tryz.f96.body).bind (compile Go.Proofs.Tryz.prog Go.Proofs.Tryz.f96.ntmps) = some ir96 := by kernel_rfl
theorem cr96 : compileRets Go.Proofs.Tryz.prog Go.Proofs.Tryz.f96.results.toList = some rt96 := by kernel_rfl
def fn96 : XFn := ⟨ir96, rt96, 17⟩
theorem fk96 : FnOK Go.Proofs.Tryz.prog 96 fn96 := ⟨⟨_, _, Go.Proofs.Tryz.func96, rfl, by kernel_rfl, ci96, cr96, Go.Proofs.Tryz.ntmps96.symm⟩⟩

/-- (*gabelle/body.checker).choose -/
def ir97 : IR :=
  (.seq (.ops [⟨some 3, none, .box 56 (.tm 1)⟩,
    ⟨some 4, none, .mv (.cn (.int .i64 (0)))⟩])
  (.seq (.seq (.ops [⟨some 9, none, .mv (.tm 0)⟩,
    ⟨some 10, none, .nilCheck (.tm 9)⟩,
    ⟨some 11, none, .fieldAddr 5 (.tm 10)⟩,
    ⟨some 12, none, .load none (.tm 11)⟩,
    ⟨some 13, none, .bslice 5 1 [.int .u8 (0)] [(0, 1, (.cn (.int .u8 (127))))]⟩,
    ⟨some 14, none, .call (.cn (.func (.func 109) #[] #[])) [.tm 12, .tm 13]⟩,
    ⟨some 15, none, .un .not (.tm 14)⟩])
  (.cond (.tm 15)
   (.seq (.ops [⟨some 4, none, .mv (.cn (.int .i64 (100)))⟩])
   .ret)
   .skip))
  (.seq (.ops [⟨some 17, none, .mv (.tm 0)⟩,
    ⟨some 18, none, .nilCheck (.tm 17)⟩,
    ⟨some 19, none, .fieldAddr 5 (.tm 18)⟩,
    ⟨some 20, none, .load none (.tm 19)⟩,
    ⟨some 21, none, .call (.cn (.func (.func 116) #[] #[])) [.tm 20]⟩,
    ⟨some 16, none, .mv (.tm 21)⟩,
    ⟨some 22, none, .extract (.tm 16) 0⟩,
    ⟨some 23, none, .extract (.tm 16) 1⟩,
    ⟨some 5, none, .mv (.tm 22)⟩,
    ⟨some 6, none, .mv (.tm 23)⟩])
  (.seq (.ops [⟨some 25, none, .mv (.tm 0)⟩,
    ⟨some 26, none, .nilCheck (.tm 25)⟩,
    ⟨some 27, none, .fieldAddr 5 (.tm 26)⟩,
    ⟨some 28, none, .load none (.tm 27)⟩,
    ⟨some 29, none, .call (.cn (.func (.func 116) #[] #[])) [.tm 28]⟩,
    ⟨some 24, none, .mv (.tm 29)⟩,
    ⟨some 30, none, .extract (.tm 24) 0⟩,
    ⟨some 31, none, .extract (.tm 24) 1⟩,
    ⟨some 7, none, .mv (.tm 30)⟩,
    ⟨some 8, none, .mv (.tm 31)⟩])
  (.seq (.seq (.ops [⟨some 32, none, .mv (.tm 6)⟩,
    ⟨some 33, none, .un .not (.tm 32)⟩,
    ⟨some 34, none, .mv (.tm 33)⟩,
    ⟨some 35, (some (34, false)), .mv (.tm 8)⟩,
    ⟨some 36, (some (34, false)), .un .not (.tm 35)⟩,
    ⟨some 37, none, .pick (.tm 34) (.cn (.bool true)) (.tm 36)⟩,
    ⟨some 38, none, .mv (.tm 37)⟩,
    ⟨some 39, (some (38, false)), .mv (.tm 5)⟩,
    ⟨some 40, (some (38, false)), .mv (.tm 7)⟩,
    ⟨some 41, (some (38, false)), .bin .neq .int (.tm 39) (.tm 40)⟩,
    ⟨some 42, (some (38, false)), .mv (.tm 41)⟩,
    ⟨some 43, (some (42, true)), .mv (.tm 5)⟩,
    ⟨some 44, (some (42, true)), .bin .neq .int (.tm 43) (.cn (.int .u8 (0)))⟩,
    ⟨some 45, (some (38, false)), .pick (.tm 42) (.tm 44) (.cn (.bool false))⟩,
    ⟨some 46, (some (38, false)), .mv (.tm 45)⟩,
    ⟨some 47, (some (46, true)), .mv (.tm 7)⟩,
    ⟨some 48, (some (46, true)), .bin .neq .int (.tm 47) (.cn (.int .u8 (0)))⟩,
    ⟨some 49, (some (38, false)), .pick (.tm 46) (.tm 48) (.cn (.bool false))⟩,
    ⟨some 50, none, .pick (.tm 38) (.cn (.bool true)) (.tm 49)⟩])
  (.cond (.tm 50)
   (.seq (.ops [⟨some 4, none, .mv (.cn (.int .i64 (100)))⟩])
   .ret)
   .skip))
  (.seq (.ops [⟨some 51, none, .mv (.tm 0)⟩,
    ⟨some 52, none, .nilCheck (.tm 51)⟩,
    ⟨some 53, none, .fieldAddr 5 (.tm 52)⟩,
    ⟨some 54, none, .load none (.tm 53)⟩,
    ⟨some 55, none, .mv (.tm 5)⟩,
    ⟨some 56, none, .mv (.tm 7)⟩,
    ⟨some 57, none, .max [.tm 55, .tm 56]⟩,
    ⟨some 58, none, .bslice 5 1 [.int .u8 (0)] [(0, 1, (.tm 57))]⟩,
    ⟨some 59, none, .call (.cn (.func (.func 111) #[] #[])) [.tm 54, .tm 58]⟩])
  (.seq (.ops [⟨some 4, none, .mv (.cn (.int .i64 (0)))⟩])
  .ret)))))))
def rt97 : List IRet := [.tm 4]
theorem ci97 : (Go.Proofs.Tryz.f97.body).bind (compile Go.Proofs.Tryz.prog Go.Proofs.Tryz.f97.ntmps) = some ir97 := by kernel_rfl
theorem cr97 : compileRets Go.Proofs.Tryz.prog Go.Proofs.Tryz.f97.results.toList = some rt97 := by kernel_rfl
def fn97 : XFn := ⟨ir97, rt97, 60⟩
theorem fk97 : FnOK Go.Proofs.Tryz.prog 97 fn97 := ⟨⟨_, _, Go.Proofs.Tryz.func97, rfl, by kernel_rfl, ci97, cr97, Go.Proofs.Tryz.ntmps97.symm⟩⟩

/-- (*gabelle/body.checker).local -/
def ir98 : IR :=
  (.seq (.ops [⟨some 3, none, .box 56 (.tm 1)⟩,
    ⟨some 4, none, .mv (.cn (.int .i64 (0)))⟩])
  (.seq (.draw (some [(some false, ⟨some 9, none, .mv (.tm 0)⟩),
    (some false, ⟨some 10, none, .nilCheck (.tm 9)⟩),
    (some false, ⟨some 11, none, .fieldAddr 1 (.tm 10)⟩),
    (some false, ⟨some 12, none, .load (some 2) (.tm 11)⟩),
    (some false, ⟨some 13, none, .mv (.tm 0)⟩),
    (some false, ⟨some 14, none, .nilCheck (.tm 13)⟩),
    (some false, ⟨some 15, none, .fieldAddr 3 (.tm 14)⟩),
    (some false, ⟨some 16, none, .load (some 2) (.tm 15)⟩),
    (some false, ⟨some 17, none, .fieldAddr 1 (.tm 3)⟩),
    (some false, ⟨some 18, none, .load none (.tm 17)⟩),
    (none, ⟨some 19, none, .call (.cn (.func (.func 117) #[] #[])) [.tm 12, .tm 16, .tm 18]⟩),
    (some false, ⟨some 8, none, .mv (.tm 19)⟩),
    (some false, ⟨some 20, none, .extract (.tm 8) 0⟩),
    (some false, ⟨some 21, none, .extract (.tm 8) 1⟩),
    (some false, ⟨some 5, none, .mv (.tm 20)⟩),
    (some false, ⟨some 6, none, .mv (.tm 21)⟩)])
   [([], ⟨some 9, none, .mv (.tm 0)⟩),
    ([0], ⟨some 10, none, .nilCheck (.tm 9)⟩),
    ([0, 1], ⟨some 11, none, .fieldAddr 1 (.tm 10)⟩),
    ([0, 1, 2], ⟨some 12, none, .load (some 2) (.tm 11)⟩),
    ([], ⟨some 13, none, .mv (.tm 0)⟩),
    ([4], ⟨some 14, none, .nilCheck (.tm 13)⟩),
    ([4, 5], ⟨some 15, none, .fieldAddr 3 (.tm 14)⟩),
    ([4, 5, 6], ⟨some 16, none, .load (some 2) (.tm 15)⟩),
    ([], ⟨some 17, none, .fieldAddr 1 (.tm 3)⟩),
    ([8], ⟨some 18, none, .load none (.tm 17)⟩),
    ([0, 1, 2, 3, 4, 5, 6, 7, 8, 9], ⟨some 19, none, .call (.cn (.func (.func 117) #[] #[])) [.tm 12, .tm 16, .tm 18]⟩),
    ([0, 1, 2, 3, 4, 5, 6, 7, 8, 9, 10], ⟨some 8, none, .mv (.tm 19)⟩),
    ([0, 1, 2, 3, 4, 5, 6, 7, 8, 9, 10, 11], ⟨some 20, none, .extract (.tm 8) 0⟩),
    ([0, 1, 2, 3, 4, 5, 6, 7, 8, 9, 10, 11], ⟨some 21, none, .extract (.tm 8) 1⟩),
    ([0, 1, 2, 3, 4, 5, 6, 7, 8, 9, 10, 11, 12], ⟨some 5, none, .mv (.tm 20)⟩),
    ([0, 1, 2, 3, 4, 5, 6, 7, 8, 9, 10, 11, 12, 13, 14], ⟨some 6, none, .mv (.tm 21)⟩)])
  (.seq (.seq (.ops [⟨some 22, none, .mv (.tm 6)⟩,
    ⟨some 23, none, .un .not (.tm 22)⟩])
  (.cond (.tm 23)
   (.seq (.ops [⟨some 4, none, .mv (.cn (.int .i64 (80)))⟩])
   .ret)
   .skip))
  (.seq (.ops [⟨some 24, none, .mv (.tm 5)⟩,
    ⟨some 25, none, .bslice 5 1 [.int .u8 (0)] [(0, 1, (.tm 24))]⟩,
    ⟨some 7, none, .mv (.tm 25)⟩])
  (.seq (.seq (.ops [⟨some 26, none, .fieldAddr 0 (.tm 3)⟩,
    ⟨some 27, none, .load none (.tm 26)⟩])
  (.block 0
   (.seq (.ops [⟨some 29, none, .bin .eql .int (.tm 27) (.cn (.int .u8 (32)))⟩,
     ⟨some 28, none, .mv (.tm 29)⟩])
   (.cond (.tm 28)
    (.seq (.ops [⟨some 30, none, .mv (.tm 0)⟩,
      ⟨some 31, none, .mv (.tm 7)⟩,
      ⟨some 32, none, .call (.cn (.func (.func 113) #[] #[])) [.tm 30, .cn (.slice none 0 0), .tm 31]⟩,
      ⟨some 4, none, .mv (.tm 32)⟩])
    .ret)
    (.seq (.ops [⟨some 34, none, .bin .eql .int (.tm 27) (.cn (.int .u8 (33)))⟩,
      ⟨some 33, none, .mv (.tm 34)⟩])
    (.cond (.tm 33)
     (.seq (.ops [⟨some 35, none, .mv (.tm 0)⟩,
       ⟨some 36, none, .mv (.tm 7)⟩,
       ⟨some 37, none, .call (.cn (.func (.func 113) #[] #[])) [.tm 35, .tm 36, .cn (.slice none 0 0)]⟩,
       ⟨some 4, none, .mv (.tm 37)⟩])
     .ret)
     .skip))))))
  (.seq (.ops [⟨some 38, none, .mv (.tm 0)⟩,
    ⟨some 39, none, .mv (.tm 7)⟩,
    ⟨some 40, none, .mv (.tm 7)⟩,
    ⟨some 41, none, .call (.cn (.func (.func 113) #[] #[])) [.tm 38, .tm 39, .tm 40]⟩,
    ⟨some 4, none, .mv (.tm 41)⟩])
  .ret))))))
def rt98 : List IRet := [.tm 4]
theorem ci98 : (Go.Proofs.Tryz.f98.body).bind (compile Go.Proofs.Tryz.prog Go.Proofs.Tryz.f98.ntmps) = some ir98 := by kernel_rfl
theorem cr98 : compileRets Go.Proofs.Tryz.prog Go.Proofs.Tryz.f98.results.toList = some rt98 := by kernel_rfl
def fn98 : XFn := ⟨ir98, rt98, 42⟩
theorem fk98 : FnOK Go.Proofs.Tryz.prog 98 fn98 := ⟨⟨_, _, Go.Proofs.Tryz.func98, rfl, by kernel_rfl, ci98, cr98, Go.Proofs.Tryz.ntmps98.symm⟩⟩

/-- (*gabelle/body.checker).global -/
def ir99 : IR :=
  (.seq (.ops [⟨some 3, none, .box 56 (.tm 1)⟩,
    ⟨some 4, none, .mv (.cn (.int .i64 (0)))⟩])
  (.seq (.draw none
   [([], ⟨some 8, none, .mv (.tm 0)⟩),
    ([0], ⟨some 9, none, .nilCheck (.tm 8)⟩),
    ([0, 1], ⟨some 10, none, .fieldAddr 0 (.tm 9)⟩),
    ([0, 1, 2], ⟨some 11, none, .load none (.tm 10)⟩),
    ([], ⟨some 12, none, .fieldAddr 1 (.tm 3)⟩),
    ([4], ⟨some 13, none, .load none (.tm 12)⟩),
    ([0, 1, 2, 3, 4, 5], ⟨some 14, none, .call (.cn (.func (.func 65) #[] #[])) [.tm 11, .tm 13]⟩),
    ([0, 1, 2, 3, 4, 5, 6], ⟨some 7, none, .mv (.tm 14)⟩),
    ([0, 1, 2, 3, 4, 5, 6, 7], ⟨some 15, none, .extract (.tm 7) 0⟩),
    ([0, 1, 2, 3, 4, 5, 6, 7], ⟨some 16, none, .extract (.tm 7) 1⟩),
    ([], ⟨some 5, none, .newv 54 [.int .u8 (0), .bool false]⟩),
    ([0, 1, 2, 3, 4, 5, 6, 7, 8, 10], ⟨none, none, .store 2 (.tm 5) (.tm 15)⟩),
    ([0, 1, 2, 3, 4, 5, 6, 7, 8, 9, 10, 11], ⟨some 6, none, .mv (.tm 16)⟩)])
  (.seq (.block 0
   (.seq (.ops [⟨some 18, none, .mv (.tm 6)⟩,
     ⟨some 19, none, .un .not (.tm 18)⟩,
     ⟨some 17, none, .mv (.tm 19)⟩])
   (.cond (.tm 17)
    (.seq (.ops [⟨some 4, none, .mv (.cn (.int .i64 (80)))⟩])
    .ret)
    (.seq (.ops [⟨some 21, none, .fieldAddr 0 (.tm 3)⟩,
      ⟨some 22, none, .load none (.tm 21)⟩,
      ⟨some 23, none, .bin .eql .int (.tm 22) (.cn (.int .u8 (35)))⟩,
      ⟨some 20, none, .mv (.tm 23)⟩])
    (.cond (.tm 20)
     (.seq (.ops [⟨some 24, none, .mv (.tm 0)⟩,
       ⟨some 25, none, .fieldAddr 0 (.tm 5)⟩,
       ⟨some 26, none, .load none (.tm 25)⟩,
       ⟨some 27, none, .bslice 5 1 [.int .u8 (0)] [(0, 1, (.tm 26))]⟩,
       ⟨some 28, none, .call (.cn (.func (.func 113) #[] #[])) [.tm 24, .cn (.slice none 0 0), .tm 27]⟩,
       ⟨some 4, none, .mv (.tm 28)⟩])
     .ret)
     (.seq (.ops [⟨some 30, none, .fieldAddr 1 (.tm 5)⟩,
       ⟨some 31, none, .load none (.tm 30)⟩,
       ⟨some 32, none, .un .not (.tm 31)⟩,
       ⟨some 29, none, .mv (.tm 32)⟩])
     (.cond (.tm 29)
      (.seq (.ops [⟨some 4, none, .mv (.cn (.int .i64 (100)))⟩])
      .ret)
      .skip)))))))
  (.seq (.ops [⟨some 33, none, .mv (.tm 0)⟩,
    ⟨some 34, none, .fieldAddr 0 (.tm 5)⟩,
    ⟨some 35, none, .load none (.tm 34)⟩,
    ⟨some 36, none, .bslice 5 1 [.int .u8 (0)] [(0, 1, (.tm 35))]⟩,
    ⟨some 37, none, .call (.cn (.func (.func 113) #[] #[])) [.tm 33, .tm 36, .cn (.slice none 0 0)]⟩,
    ⟨some 4, none, .mv (.tm 37)⟩])
  .ret))))
def rt99 : List IRet := [.tm 4]
theorem ci99 : (Go.Proofs.Tryz.f99.body).bind (compile Go.Proofs.Tryz.prog Go.Proofs.Tryz.f99.ntmps) = some ir99 := by kernel_rfl
theorem cr99 : compileRets Go.Proofs.Tryz.prog Go.Proofs.Tryz.f99.results.toList = some rt99 := by kernel_rfl
def fn99 : XFn := ⟨ir99, rt99, 38⟩
theorem fk99 : FnOK Go.Proofs.Tryz.prog 99 fn99 := ⟨⟨_, _, Go.Proofs.Tryz.func99, rfl, by kernel_rfl, ci99, cr99, Go.Proofs.Tryz.ntmps99.symm⟩⟩

/-- (*gabelle/body.checker).plain -/
def ir100 : IR :=
  (.seq (.ops [⟨some 3, none, .box 56 (.tm 1)⟩,
    ⟨some 4, none, .mv (.cn (.int .i64 (0)))⟩])
  (.seq (.ops [⟨some 11, none, .fieldAddr 0 (.tm 3)⟩,
    ⟨some 12, none, .load none (.tm 11)⟩,
    ⟨some 13, none, .call (.cn (.func (.func 105) #[] #[])) [.tm 12]⟩,
    ⟨some 5, none, .mv (.tm 13)⟩])
  (.seq (.ops [⟨some 15, none, .mv (.tm 0)⟩,
    ⟨some 16, none, .nilCheck (.tm 15)⟩,
    ⟨some 17, none, .fieldAddr 0 (.tm 16)⟩,
    ⟨some 18, none, .load none (.tm 17)⟩,
    ⟨some 19, none, .call (.cn (.func (.func 61) #[] #[])) [.tm 18, .cn (.int .u32 (0))]⟩,
    ⟨some 14, none, .mv (.tm 19)⟩,
    ⟨some 20, none, .extract (.tm 14) 0⟩,
    ⟨some 21, none, .extract (.tm 14) 1⟩,
    ⟨some 6, none, .newv 66 [.int .u32 (0), .int .i64 (0)]⟩,
    ⟨none, none, .store 2 (.tm 6) (.tm 20)⟩,
    ⟨some 7, none, .mv (.tm 21)⟩])
  (.seq (.seq (.ops [⟨some 22, none, .mv (.tm 5)⟩,
    ⟨some 23, none, .bin .eql .int (.tm 22) (.cn (.int .u8 (6)))⟩,
    ⟨some 24, none, .mv (.tm 23)⟩,
    ⟨some 25, (some (24, false)), .mv (.tm 5)⟩,
    ⟨some 26, (some (24, false)), .bin .eql .int (.tm 25) (.cn (.int .u8 (7)))⟩,
    ⟨some 27, none, .pick (.tm 24) (.cn (.bool true)) (.tm 26)⟩,
    ⟨some 28, none, .mv (.tm 27)⟩,
    ⟨some 29, (some (28, true)), .mv (.tm 7)⟩,
    ⟨some 30, (some (28, true)), .un .not (.tm 29)⟩,
    ⟨some 31, none, .pick (.tm 28) (.tm 30) (.cn (.bool false))⟩])
  (.cond (.tm 31)
   (.seq (.ops [⟨some 4, none, .mv (.cn (.int .i64 (80)))⟩])
   .ret)
   .skip))
  (.seq (.seq (.draw (some [(some false, ⟨some 32, none, .mv (.tm 5)⟩),
    (some false, ⟨some 33, none, .bin .eql .int (.tm 32) (.cn (.int .u8 (6)))⟩),
    (some false, ⟨some 34, none, .mv (.tm 33)⟩),
    (some false, ⟨some 35, (some (34, true)), .fieldAddr 1 (.tm 3)⟩),
    (some false, ⟨some 36, (some (34, true)), .load none (.tm 35)⟩),
    (some false, ⟨some 37, (some (34, true)), .bin .gtr .int (.tm 36) (.cn (.int .u32 (3)))⟩),
    (some false, ⟨some 38, (some (34, true)), .mv (.tm 37)⟩),
    (some true, ⟨some 39, (some (38, false)), .fieldAddr 1 (.tm 3)⟩),
    (some true, ⟨some 40, (some (38, false)), .load none (.tm 39)⟩),
    (some true, ⟨some 41, (some (38, false)), .bin .shl .int (.cn (.int .i64 (1))) (.tm 40)⟩),
    (some false, ⟨some 42, (some (38, false)), .fieldAddr 0 (.tm 3)⟩),
    (some false, ⟨some 43, (some (38, false)), .load none (.tm 42)⟩),
    (none, ⟨some 44, (some (38, false)), .call (.cn (.func (.func 118) #[] #[])) [.tm 43]⟩),
    (some false, ⟨some 45, (some (38, false)), .bin .gtr .int (.tm 41) (.tm 44)⟩),
    (some false, ⟨some 46, (some (34, true)), .pick (.tm 38) (.cn (.bool true)) (.tm 45)⟩),
    (some false, ⟨some 47, none, .pick (.tm 34) (.tm 46) (.cn (.bool false))⟩)])
   [([], ⟨some 32, none, .mv (.tm 5)⟩),
    ([0], ⟨some 33, none, .bin .eql .int (.tm 32) (.cn (.int .u8 (6)))⟩),
    ([0, 1], ⟨some 34, none, .mv (.tm 33)⟩),
    ([0, 1, 2], ⟨some 35, (some (34, true)), .fieldAddr 1 (.tm 3)⟩),
    ([0, 1, 2, 3], ⟨some 36, (some (34, true)), .load none (.tm 35)⟩),
    ([0, 1, 2, 3, 4], ⟨some 37, (some (34, true)), .bin .gtr .int (.tm 36) (.cn (.int .u32 (3)))⟩),
    ([0, 1, 2, 3, 4, 5], ⟨some 38, (some (34, true)), .mv (.tm 37)⟩),
    ([0, 1, 2, 3, 4, 5, 6], ⟨some 39, (some (38, false)), .fieldAddr 1 (.tm 3)⟩),
    ([0, 1, 2, 3, 4, 5, 6, 7], ⟨some 40, (some (38, false)), .load none (.tm 39)⟩),
    ([0, 1, 2, 3, 4, 5, 6, 7, 8], ⟨some 41, (some (38, false)), .bin .shl .int (.cn (.int .i64 (1))) (.tm 40)⟩),
    ([0, 1, 2, 3, 4, 5, 6], ⟨some 42, (some (38, false)), .fieldAddr 0 (.tm 3)⟩),
    ([0, 1, 2, 3, 4, 5, 6, 10], ⟨some 43, (some (38, false)), .load none (.tm 42)⟩),
    ([0, 1, 2, 3, 4, 5, 6, 10, 11], ⟨some 44, (some (38, false)), .call (.cn (.func (.func 118) #[] #[])) [.tm 43]⟩),
    ([0, 1, 2, 3, 4, 5, 6, 7, 8, 9, 10, 11, 12], ⟨some 45, (some (38, false)), .bin .gtr .int (.tm 41) (.tm 44)⟩),
    ([0, 1, 2, 3, 4, 5, 6, 7, 8, 9, 10, 11, 12, 13], ⟨some 46, (some (34, true)), .pick (.tm 38) (.cn (.bool true)) (.tm 45)⟩),
    ([0, 1, 2, 3, 4, 5, 6, 7, 8, 9, 10, 11, 12, 13, 14], ⟨some 47, none, .pick (.tm 34) (.tm 46) (.cn (.bool false))⟩)])
  (.cond (.tm 47)
   (.seq (.ops [⟨some 4, none, .mv (.cn (.int .i64 (100)))⟩])
   .ret)
   .skip))
  (.seq (.ops [⟨some 49, none, .fieldAddr 0 (.tm 3)⟩,
    ⟨some 50, none, .load none (.tm 49)⟩,
    ⟨some 51, none, .call (.cn (.func (.func 119) #[] #[])) [.tm 50]⟩,
    ⟨some 48, none, .mv (.tm 51)⟩,
    ⟨some 52, none, .extract (.tm 48) 0⟩,
    ⟨some 53, none, .extract (.tm 48) 1⟩,
    ⟨some 54, none, .extract (.tm 48) 2⟩,
    ⟨some 8, none, .mv (.tm 52)⟩,
    ⟨some 9, none, .mv (.tm 53)⟩,
    ⟨some 10, none, .mv (.tm 54)⟩])
  (.seq (.ops [⟨some 55, none, .mv (.tm 0)⟩,
    ⟨some 56, none, .mv (.tm 8)⟩,
    ⟨some 57, none, .mv (.tm 9)⟩,
    ⟨some 58, none, .call (.cn (.func (.func 113) #[] #[])) [.tm 55, .tm 56, .tm 57]⟩,
    ⟨some 4, none, .mv (.tm 58)⟩])
  .ret)))))))
def rt100 : List IRet := [.tm 4]
theorem ci100 : (Go.Proofs.Tryz.f100.body).bind (compile Go.Proofs.Tryz.prog Go.Proofs.Tryz.f100.ntmps) = some ir100 := by kernel_rfl
theorem cr100 : compileRets Go.Proofs.Tryz.prog Go.Proofs.Tryz.f100.results.toList = some rt100 := by kernel_rfl
def fn100 : XFn := ⟨ir100, rt100, 59⟩
theorem fk100 : FnOK Go.Proofs.Tryz.prog 100 fn100 := ⟨⟨_, _, Go.Proofs.Tryz.func100, rfl, by kernel_rfl, ci100, cr100, Go.Proofs.Tryz.ntmps100.symm⟩⟩

/-- (*gabelle/typing.Stack).top -/
def ir101 : IR :=
  (.seq (.ops [⟨some 2, none, .mv (.cn (.pointer none))⟩])
  (.seq (.seq (.ops [⟨some 3, none, .mv (.tm 0)⟩,
    ⟨some 4, none, .bin .eql .ptr (.tm 3) (.cn (.pointer none))⟩,
    ⟨some 5, none, .mv (.tm 4)⟩,
    ⟨some 6, (some (5, false)), .mv (.tm 0)⟩,
    ⟨some 7, (some (5, false)), .nilCheck (.tm 6)⟩,
    ⟨some 8, (some (5, false)), .fieldAddr 1 (.tm 7)⟩,
    ⟨some 9, (some (5, false)), .load none (.tm 8)⟩,
    ⟨some 10, (some (5, false)), .len .sl (.tm 9)⟩,
    ⟨some 11, (some (5, false)), .bin .eql .int (.tm 10) (.cn (.int .i64 (0)))⟩,
    ⟨some 12, none, .pick (.tm 5) (.cn (.bool true)) (.tm 11)⟩])
  (.cond (.tm 12)
   (.seq (.ops [⟨some 2, none, .mv (.cn (.pointer none))⟩])
   .ret)
   .skip))
  (.seq (.draw (some [(some false, ⟨some 13, none, .mv (.tm 0)⟩),
    (some false, ⟨some 14, none, .nilCheck (.tm 13)⟩),
    (some false, ⟨some 15, none, .fieldAddr 1 (.tm 14)⟩),
    (some false, ⟨some 16, none, .load none (.tm 15)⟩),
    (some false, ⟨some 17, none, .mv (.tm 0)⟩),
    (some false, ⟨some 18, none, .nilCheck (.tm 17)⟩),
    (some false, ⟨some 19, none, .fieldAddr 1 (.tm 18)⟩),
    (some false, ⟨some 20, none, .load none (.tm 19)⟩),
    (some false, ⟨some 21, none, .len .sl (.tm 20)⟩),
    (some false, ⟨some 22, none, .bin .sub .int (.tm 21) (.cn (.int .i64 (1)))⟩),
    (some false, ⟨some 23, none, .idxAddr 4 none (.tm 16) (.tm 22)⟩),
    (some false, ⟨some 2, none, .mv (.tm 23)⟩)])
   [([], ⟨some 13, none, .mv (.tm 0)⟩),
    ([0], ⟨some 14, none, .nilCheck (.tm 13)⟩),
    ([0, 1], ⟨some 15, none, .fieldAddr 1 (.tm 14)⟩),
    ([0, 1, 2], ⟨some 16, none, .load none (.tm 15)⟩),
    ([], ⟨some 17, none, .mv (.tm 0)⟩),
    ([4], ⟨some 18, none, .nilCheck (.tm 17)⟩),
    ([4, 5], ⟨some 19, none, .fieldAddr 1 (.tm 18)⟩),
    ([4, 5, 6], ⟨some 20, none, .load none (.tm 19)⟩),
    ([4, 5, 6, 7], ⟨some 21, none, .len .sl (.tm 20)⟩),
    ([4, 5, 6, 7, 8], ⟨some 22, none, .bin .sub .int (.tm 21) (.cn (.int .i64 (1)))⟩),
    ([0, 1, 2, 3, 4, 5, 6, 7, 8, 9], ⟨some 23, none, .idxAddr 4 none (.tm 16) (.tm 22)⟩),
    ([0, 1, 2, 3, 4, 5, 6, 7, 8, 9, 10], ⟨some 2, none, .mv (.tm 23)⟩)])
  .ret)))
def rt101 : List IRet := [.tm 2]
theorem ci101 : (Go.Proofs.Tryz.f101.body).bind (compile Go.Proofs.Tryz.prog Go.Proofs.Tryz.f101.ntmps) = some ir101 := by kernel_rfl
theorem cr101 : compileRets Go.Proofs.Tryz.prog Go.Proofs.Tryz.f101.results.toList = some rt101 := by kernel_rfl
def fn101 : XFn := ⟨ir101, rt101, 24⟩
theorem fk101 : FnOK Go.Proofs.Tryz.prog 101 fn101 := ⟨⟨_, _, Go.Proofs.Tryz.func101, rfl, by kernel_rfl, ci101, cr101, Go.Proofs.Tryz.ntmps101.symm⟩⟩

/-- (*gabelle/typing.Stack).left -/
def ir102 : IR :=
  (.seq (.ops [⟨some 2, none, .box 148 (.tm 0)⟩,
    ⟨some 4, none, .newv 3 [.int .i64 (0)]⟩])
  (.seq (.ops [⟨some 10, none, .load none (.tm 2)⟩,
    ⟨some 11, none, .call (.cn (.func (.func 101) #[] #[])) [.tm 10]⟩,
    ⟨some 5, none, .newv 174 [.pointer none]⟩,
    ⟨none, none, .store 1 (.tm 5) (.tm 11)⟩])
  (.seq (.seq (.ops [⟨some 12, none, .load none (.tm 5)⟩,
    ⟨some 13, none, .bin .eql .ptr (.tm 12) (.cn (.pointer none))⟩])
  (.cond (.tm 13)
   (.seq (.ops [⟨none, none, .store 1 (.tm 4) (.cn (.int .i64 (-1)))⟩])
   .ret)
   .skip))
  (.seq (.ops [⟨some 14, none, .load none (.tm 2)⟩,
    ⟨some 15, none, .nilCheck (.tm 14)⟩,
    ⟨some 16, none, .fieldAddr 0 (.tm 15)⟩,
    ⟨some 17, none, .load none (.tm 16)⟩,
    ⟨some 18, none, .len .sl (.tm 17)⟩,
    ⟨some 6, none, .newv 3 [.int .i64 (0)]⟩,
    ⟨none, none, .store 1 (.tm 6) (.tm 18)⟩])
  (.seq (.seq (.ops [⟨some 19, none, .mv (.tm 1)⟩,
    ⟨some 20, none, .call (.cn (.func (.func 120) #[] #[])) [.tm 19]⟩])
  (.block 0
   (.rangeF (.tm 20) [21, 22]
    (.ops [⟨some 8, none, .mv (.tm 22)⟩])
    (.block 1
     (.seq (.seq (.draw (some [(some false, ⟨some 23, none, .load none (.tm 6)⟩),
       (some false, ⟨some 24, none, .load none (.tm 5)⟩),
       (some false, ⟨some 25, none, .nilCheck (.tm 24)⟩),
       (some false, ⟨some 26, none, .fieldAddr 2 (.tm 25)⟩),
       (some false, ⟨some 27, none, .load none (.tm 26)⟩),
       (some false, ⟨some 28, none, .bin .eql .int (.tm 23) (.tm 27)⟩)])
      [([], ⟨some 23, none, .load none (.tm 6)⟩),
       ([], ⟨some 24, none, .load none (.tm 5)⟩),
       ([1], ⟨some 25, none, .nilCheck (.tm 24)⟩),
       ([1, 2], ⟨some 26, none, .fieldAddr 2 (.tm 25)⟩),
       ([1, 2, 3], ⟨some 27, none, .load none (.tm 26)⟩),
       ([0, 1, 2, 3, 4], ⟨some 28, none, .bin .eql .int (.tm 23) (.tm 27)⟩)])
     (.cond (.tm 28)
      (.seq (.seq (.ops [⟨some 29, none, .load none (.tm 5)⟩,
        ⟨some 30, none, .nilCheck (.tm 29)⟩,
        ⟨some 31, none, .fieldAddr 3 (.tm 30)⟩,
        ⟨some 32, none, .load none (.tm 31)⟩,
        ⟨some 33, none, .un .not (.tm 32)⟩])
      (.cond (.tm 33)
       (.seq (.ops [⟨none, none, .store 1 (.tm 4) (.cn (.int .i64 (-1)))⟩])
       .ret)
       .skip))
      (.exit 1))
      .skip))
     (.seq (.ops [⟨some 34, none, .load none (.tm 6)⟩,
       ⟨some 35, none, .bin .sub .int (.tm 34) (.cn (.int .i64 (1)))⟩,
       ⟨none, none, .store 1 (.tm 6) (.tm 35)⟩])
     (.seq (.draw (some [(some false, ⟨some 36, none, .load none (.tm 2)⟩),
       (some false, ⟨some 37, none, .nilCheck (.tm 36)⟩),
       (some false, ⟨some 38, none, .fieldAddr 0 (.tm 37)⟩),
       (some false, ⟨some 39, none, .load none (.tm 38)⟩),
       (some false, ⟨some 40, none, .load none (.tm 6)⟩),
       (some false, ⟨some 41, none, .idxAddr 1 none (.tm 39) (.tm 40)⟩),
       (some false, ⟨some 42, none, .load none (.tm 41)⟩),
       (some false, ⟨some 9, none, .mv (.tm 42)⟩)])
      [([], ⟨some 36, none, .load none (.tm 2)⟩),
       ([0], ⟨some 37, none, .nilCheck (.tm 36)⟩),
       ([0, 1], ⟨some 38, none, .fieldAddr 0 (.tm 37)⟩),
       ([0, 1, 2], ⟨some 39, none, .load none (.tm 38)⟩),
       ([], ⟨some 40, none, .load none (.tm 6)⟩),
       ([0, 1, 2, 3, 4], ⟨some 41, none, .idxAddr 1 none (.tm 39) (.tm 40)⟩),
       ([0, 1, 2, 3, 4, 5], ⟨some 42, none, .load none (.tm 41)⟩),
       ([0, 1, 2, 3, 4, 5, 6], ⟨some 9, none, .mv (.tm 42)⟩)])
     (.seq (.ops [⟨some 43, none, .mv (.tm 9)⟩,
       ⟨some 44, none, .mv (.tm 8)⟩,
       ⟨some 45, none, .bin .neq .int (.tm 43) (.tm 44)⟩,
       ⟨some 46, none, .mv (.tm 45)⟩,
       ⟨some 47, (some (46, true)), .mv (.tm 9)⟩,
       ⟨some 48, (some (46, true)), .bin .neq .int (.tm 47) (.cn (.int .u8 (0)))⟩,
       ⟨some 49, none, .pick (.tm 46) (.tm 48) (.cn (.bool false))⟩,
       ⟨some 50, none, .mv (.tm 49)⟩,
       ⟨some 51, (some (50, true)), .mv (.tm 8)⟩,
       ⟨some 52, (some (50, true)), .bin .neq .int (.tm 51) (.cn (.int .u8 (0)))⟩,
       ⟨some 53, none, .pick (.tm 50) (.tm 52) (.cn (.bool false))⟩])
     (.cond (.tm 53)
      (.seq (.ops [⟨none, none, .store 1 (.tm 4) (.cn (.int .i64 (-1)))⟩])
      .ret)
      .skip)))))))))
  (.seq (.ops [⟨some 54, none, .load none (.tm 6)⟩,
    ⟨none, none, .store 1 (.tm 4) (.tm 54)⟩])
  .ret))))))
def rt102 : List IRet := [.cell 4 none]
theorem ci102 : (Go.Proofs.Tryz.f102.body).bind (compile Go.Proofs.Tryz.prog Go.Proofs.Tryz.f102.ntmps) = some ir102 := by kernel_rfl
theorem cr102 : compileRets Go.Proofs.Tryz.prog Go.Proofs.Tryz.f102.results.toList = some rt102 := by kernel_rfl
def fn102 : XFn := ⟨ir102, rt102, 55⟩
theorem fk102 : FnOK Go.Proofs.Tryz.prog 102 fn102 := ⟨⟨_, _, Go.Proofs.Tryz.func102, rfl, by kernel_rfl, ci102, cr102, Go.Proofs.Tryz.ntmps102.symm⟩⟩

/-- slices.IndexFunc[[]gabelle/api.Import,gabelle/api.Import] -/
def ir103 : IR :=
  (.seq (.ops [⟨some 4, none, .mv (.cn (.int .i64 (0)))⟩])
  (.seq (.seq (.ops [⟨some 6, none, .mv (.tm 0)⟩,
    ⟨some 7, none, .len .sl (.tm 6)⟩,
    ⟨some 8, none, .mv (.cn (.int .i64 (0)))⟩])
  (.block 0
   (.loop
    (.seq (.ops [⟨some 9, none, .bin .lss .int (.tm 8) (.tm 7)⟩])
    (.seq (.cond (.tm 9)
     .skip
     (.exit 0))
    (.seq (.block 1
     (.seq (.ops [⟨some 10, none, .mv (.tm 8)⟩,
       ⟨some 5, none, .mv (.tm 10)⟩])
     (.seq (.ops [⟨some 11, none, .mv (.tm 1)⟩,
       ⟨some 12, none, .mv (.tm 0)⟩,
       ⟨some 13, none, .mv (.tm 5)⟩,
       ⟨some 14, none, .idxAddr 8 none (.tm 12) (.tm 13)⟩,
       ⟨some 15, none, .load (some 8) (.tm 14)⟩,
       ⟨some 16, none, .call (.tm 11) [.tm 15]⟩])
     (.cond (.tm 16)
      (.seq (.ops [⟨some 17, none, .mv (.tm 5)⟩,
        ⟨some 4, none, .mv (.tm 17)⟩])
      .ret)
      .skip))))
    (.ops [⟨some 18, none, .bin .add .int (.tm 8) (.cn (.int .i64 (1)))⟩,
      ⟨some 8, none, .mv (.tm 18)⟩])))))))
  (.seq (.ops [⟨some 4, none, .mv (.cn (.int .i64 (-1)))⟩])
  .ret)))
def rt103 : List IRet := [.tm 4]
theorem ci103 : (Go.Proofs.Tryz.f103.body).bind (compile Go.Proofs.Tryz.prog Go.Proofs.Tryz.f103.ntmps) = some ir103 := by kernel_rfl
theorem cr103 : compileRets Go.Proofs.Tryz.prog Go.Proofs.Tryz.f103.results.toList = some rt103 := by kernel_rfl
def fn103 : XFn := ⟨ir103, rt103, 19⟩
theorem fk103 : FnOK Go.Proofs.Tryz.prog 103 fn103 := ⟨⟨_, _, Go.Proofs.Tryz.func103, rfl, by kernel_rfl, ci103, cr103, Go.Proofs.Tryz.ntmps103.symm⟩⟩

/-- gabelle/opc.Known -/
def ir104 : IR :=
  (.seq (.ops [⟨some 2, none, .mv (.cn (.bool false))⟩])
  (.seq (.ops [⟨some 3, none, .mv (.tm 0)⟩,
    ⟨some 4, none, .call (.cn (.func (.func 121) #[] #[])) [.tm 3]⟩,
    ⟨some 5, none, .un .not (.tm 4)⟩,
    ⟨some 6, none, .mv (.tm 5)⟩,
    ⟨some 7, (some (6, true)), .mv (.tm 0)⟩,
    ⟨some 8, (some (6, true)), .bin .leq .int (.tm 7) (.cn (.int .u8 (5)))⟩,
    ⟨some 9, (some (6, true)), .mv (.tm 8)⟩,
    ⟨some 10, (some (9, false)), .mv (.tm 0)⟩,
    ⟨some 11, (some (9, false)), .call (.cn (.func (.func 122) #[] #[])) [.tm 10, .cn (.int .u8 (11)), .cn (.int .u8 (17))]⟩,
    ⟨some 12, (some (6, true)), .pick (.tm 9) (.cn (.bool true)) (.tm 11)⟩,
    ⟨some 13, (some (6, true)), .mv (.tm 12)⟩,
    ⟨some 14, (some (13, false)), .mv (.tm 0)⟩,
    ⟨some 15, (some (13, false)), .call (.cn (.func (.func 122) #[] #[])) [.tm 14, .cn (.int .u8 (26)), .cn (.int .u8 (27))]⟩,
    ⟨some 16, (some (6, true)), .pick (.tm 13) (.cn (.bool true)) (.tm 15)⟩,
    ⟨some 17, (some (6, true)), .mv (.tm 16)⟩,
    ⟨some 18, (some (17, false)), .mv (.tm 0)⟩,
    ⟨some 19, (some (17, false)), .call (.cn (.func (.func 122) #[] #[])) [.tm 18, .cn (.int .u8 (32)), .cn (.int .u8 (36))]⟩,
    ⟨some 20, (some (6, true)), .pick (.tm 17) (.cn (.bool true)) (.tm 19)⟩,
    ⟨some 21, (some (6, true)), .mv (.tm 20)⟩,
    ⟨some 22, (some (21, false)), .mv (.tm 0)⟩,
    ⟨some 23, (some (21, false)), .call (.cn (.func (.func 122) #[] #[])) [.tm 22, .cn (.int .u8 (40)), .cn (.int .u8 (173))]⟩,
    ⟨some 24, (some (6, true)), .pick (.tm 21) (.cn (.bool true)) (.tm 23)⟩,
    ⟨some 25, none, .pick (.tm 6) (.tm 24) (.cn (.bool false))⟩,
    ⟨some 2, none, .mv (.tm 25)⟩])
  .ret))
def rt104 : List IRet := [.tm 2]
theorem ci104 : (Go.Proofs.Tryz.f104.body).bind (compile Go.Proofs.Tryz.prog Go.Proofs.Tryz.f104.ntmps) = some ir104 := by kernel_rfl
theorem cr104 : compileRets Go.Proofs.Tryz.prog Go.Proofs.Tryz.f104.results.toList = some rt104 := by kernel_rfl
def fn104 : XFn := ⟨ir104, rt104, 26⟩
theorem fk104 : FnOK Go.Proofs.Tryz.prog 104 fn104 := ⟨⟨_, _, Go.Proofs.Tryz.func104, rfl, by kernel_rfl, ci104, cr104, Go.Proofs.Tryz.ntmps104.symm⟩⟩

/-- gabelle/opc.Form -/
def ir105 : IR :=
  (.seq (.ops [⟨some 2, none, .mv (.cn (.int .u8 (0)))⟩])
  (.seq (.block 0
   (.seq (.ops [⟨some 4, none, .mv (.tm 0)⟩,
     ⟨some 5, none, .call (.cn (.func (.func 104) #[] #[])) [.tm 4]⟩,
     ⟨some 6, none, .un .not (.tm 5)⟩,
     ⟨some 3, none, .mv (.tm 6)⟩])
   (.cond (.tm 3)
    (.seq (.ops [⟨some 2, none, .mv (.cn (.int .u8 (0)))⟩])
    .ret)
    (.seq (.ops [⟨some 8, none, .mv (.tm 0)⟩,
      ⟨some 9, none, .call (.cn (.func (.func 122) #[] #[])) [.tm 8, .cn (.int .u8 (2)), .cn (.int .u8 (4))]⟩,
      ⟨some 7, none, .mv (.tm 9)⟩])
    (.cond (.tm 7)
     (.seq (.ops [⟨some 2, none, .mv (.cn (.int .u8 (1)))⟩])
     .ret)
     (.seq (.ops [⟨some 11, none, .mv (.tm 0)⟩,
       ⟨some 12, none, .bin .eql .int (.tm 11) (.cn (.int .u8 (12)))⟩,
       ⟨some 13, none, .mv (.tm 12)⟩,
       ⟨some 14, (some (13, false)), .mv (.tm 0)⟩,
       ⟨some 15, (some (13, false)), .bin .eql .int (.tm 14) (.cn (.int .u8 (13)))⟩,
       ⟨some 16, none, .pick (.tm 13) (.cn (.bool true)) (.tm 15)⟩,
       ⟨some 10, none, .mv (.tm 16)⟩])
     (.cond (.tm 10)
      (.seq (.ops [⟨some 2, none, .mv (.cn (.int .u8 (2)))⟩])
      .ret)
      (.seq (.ops [⟨some 18, none, .mv (.tm 0)⟩,
        ⟨some 19, none, .bin .eql .int (.tm 18) (.cn (.int .u8 (14)))⟩,
        ⟨some 17, none, .mv (.tm 19)⟩])
      (.cond (.tm 17)
       (.seq (.ops [⟨some 2, none, .mv (.cn (.int .u8 (3)))⟩])
       .ret)
       (.seq (.ops [⟨some 21, none, .mv (.tm 0)⟩,
         ⟨some 22, none, .bin .eql .int (.tm 21) (.cn (.int .u8 (16)))⟩,
         ⟨some 23, none, .mv (.tm 22)⟩,
         ⟨some 24, (some (23, false)), .mv (.tm 0)⟩,
         ⟨some 25, (some (23, false)), .call (.cn (.func (.func 122) #[] #[])) [.tm 24, .cn (.int .u8 (32)), .cn (.int .u8 (36))]⟩,
         ⟨some 26, none, .pick (.tm 23) (.cn (.bool true)) (.tm 25)⟩,
         ⟨some 20, none, .mv (.tm 26)⟩])
       (.cond (.tm 20)
        (.seq (.ops [⟨some 2, none, .mv (.cn (.int .u8 (4)))⟩])
        .ret)
        (.seq (.ops [⟨some 28, none, .mv (.tm 0)⟩,
          ⟨some 29, none, .bin .eql .int (.tm 28) (.cn (.int .u8 (17)))⟩,
          ⟨some 27, none, .mv (.tm 29)⟩])
        (.cond (.tm 27)
         (.seq (.ops [⟨some 2, none, .mv (.cn (.int .u8 (5)))⟩])
         .ret)
         (.seq (.ops [⟨some 31, none, .mv (.tm 0)⟩,
           ⟨some 32, none, .call (.cn (.func (.func 122) #[] #[])) [.tm 31, .cn (.int .u8 (40)), .cn (.int .u8 (62))]⟩,
           ⟨some 30, none, .mv (.tm 32)⟩])
         (.cond (.tm 30)
          (.seq (.ops [⟨some 2, none, .mv (.cn (.int .u8 (6)))⟩])
          .ret)
          (.seq (.ops [⟨some 34, none, .mv (.tm 0)⟩,
            ⟨some 35, none, .bin .eql .int (.tm 34) (.cn (.int .u8 (63)))⟩,
            ⟨some 36, none, .mv (.tm 35)⟩,
            ⟨some 37, (some (36, false)), .mv (.tm 0)⟩,
            ⟨some 38, (some (36, false)), .bin .eql .int (.tm 37) (.cn (.int .u8 (64)))⟩,
            ⟨some 39, none, .pick (.tm 36) (.cn (.bool true)) (.tm 38)⟩,
            ⟨some 33, none, .mv (.tm 39)⟩])
          (.cond (.tm 33)
           (.seq (.ops [⟨some 2, none, .mv (.cn (.int .u8 (7)))⟩])
           .ret)
           (.seq (.ops [⟨some 41, none, .mv (.tm 0)⟩,
             ⟨some 42, none, .bin .eql .int (.tm 41) (.cn (.int .u8 (65)))⟩,
             ⟨some 40, none, .mv (.tm 42)⟩])
           (.cond (.tm 40)
            (.seq (.ops [⟨some 2, none, .mv (.cn (.int .u8 (8)))⟩])
            .ret)
            (.seq (.ops [⟨some 44, none, .mv (.tm 0)⟩,
              ⟨some 45, none, .bin .eql .int (.tm 44) (.cn (.int .u8 (66)))⟩,
              ⟨some 43, none, .mv (.tm 45)⟩])
            (.cond (.tm 43)
             (.seq (.ops [⟨some 2, none, .mv (.cn (.int .u8 (9)))⟩])
             .ret)
             .skip)))))))))))))))))))))
  (.seq (.ops [⟨some 2, none, .mv (.cn (.int .u8 (0)))⟩])
  .ret)))
def rt105 : List IRet := [.tm 2]
theorem ci105 : (Go.Proofs.Tryz.f105.body).bind (compile Go.Proofs.Tryz.prog Go.Proofs.Tryz.f105.ntmps) = some ir105 := by kernel_rfl
theorem cr105 : compileRets Go.Proofs.Tryz.prog Go.Proofs.Tryz.f105.results.toList = some rt105 := by kernel_rfl
def fn105 : XFn := ⟨ir105, rt105, 46⟩
theorem fk105 : FnOK Go.Proofs.Tryz.prog 105 fn105 := ⟨⟨_, _, Go.Proofs.Tryz.func105, rfl, by kernel_rfl, ci105, cr105, Go.Proofs.Tryz.ntmps105.symm⟩⟩

/-- gabelle/instr.put$1 -/
def ir106 : IR :=
  (.draw (some [(some true, ⟨some 3, none, .load none (.tm 1)⟩),
    (some false, ⟨some 4, none, .mv (.tm 0)⟩),
    (some false, ⟨some 5, none, .conv (.int .u64) (.tm 4)⟩),
    (none, ⟨some 6, none, .call (.cn (.func (.func 107) #[] #[])) [.cn (.slice none 0 0), .tm 5]⟩),
    (none, ⟨some 7, none, .append 5 1 1 [.int .u8 (0)] (.tm 3) (.tm 6)⟩),
    (none, ⟨none, none, .store 1 (.tm 1) (.tm 7)⟩)])
   [([], ⟨some 3, none, .load none (.tm 1)⟩),
    ([], ⟨some 4, none, .mv (.tm 0)⟩),
    ([1], ⟨some 5, none, .conv (.int .u64) (.tm 4)⟩),
    ([1, 2], ⟨some 6, none, .call (.cn (.func (.func 107) #[] #[])) [.cn (.slice none 0 0), .tm 5]⟩),
    ([0, 1, 2, 3], ⟨some 7, none, .append 5 1 1 [.int .u8 (0)] (.tm 3) (.tm 6)⟩),
    ([0, 1, 2, 3, 4], ⟨none, none, .store 1 (.tm 1) (.tm 7)⟩)])
def rt106 : List IRet := []
theorem ci106 : (Go.Proofs.Tryz.f106.body).bind (compile Go.Proofs.Tryz.prog Go.Proofs.Tryz.f106.ntmps) = some ir106 := by kernel_rfl
theorem cr106 : compileRets Go.Proofs.Tryz.prog Go.Proofs.Tryz.f106.results.toList = some rt106 := by kernel_rfl
def fn106 : XFn := ⟨ir106, rt106, 8⟩
theorem fk106 : FnOK Go.Proofs.Tryz.prog 106 fn106 := ⟨⟨_, _, Go.Proofs.Tryz.func106, rfl, by kernel_rfl, ci106, cr106, Go.Proofs.Tryz.ntmps106.symm⟩⟩

/-- gabelle/leb.AppendU -/
def ir107 : IR :=
  (.seq (.ops [⟨some 4, none, .mv (.cn (.slice none 0 0))⟩])
  (.seq (.ops [⟨some 6, none, .mv (.tm 0)⟩,
    ⟨some 7, none, .append 5 1 1 [.int .u8 (0)] (.cn (.slice none 0 0)) (.tm 6)⟩,
    ⟨some 5, none, .mv (.tm 7)⟩])
  (.seq (.block 0
   (.loop
    (.seq (.seq (.ops [⟨some 8, none, .mv (.tm 1)⟩,
      ⟨some 9, none, .bin .geq .int (.tm 8) (.cn (.int .u64 (128)))⟩])
    (.cond (.tm 9)
     .skip
     (.exit 0)))
    (.block 1
     (.seq (.ops [⟨some 10, none, .mv (.tm 5)⟩,
       ⟨some 11, none, .mv (.tm 1)⟩,
       ⟨some 12, none, .conv (.int .u8) (.tm 11)⟩,
       ⟨some 13, none, .bin .or .int (.tm 12) (.cn (.int .u8 (128)))⟩,
       ⟨some 14, none, .bslice 5 1 [.int .u8 (0)] [(0, 1, (.tm 13))]⟩,
       ⟨some 15, none, .append 5 1 1 [.int .u8 (0)] (.tm 10) (.tm 14)⟩,
       ⟨some 5, none, .mv (.tm 15)⟩])
     (.ops [⟨some 16, none, .mv (.tm 1)⟩,
       ⟨some 17, none, .bin .shr .int (.tm 16) (.cn (.int .u64 (7)))⟩,
       ⟨some 1, none, .mv (.tm 17)⟩]))))))
  (.seq (.ops [⟨some 18, none, .mv (.tm 5)⟩,
    ⟨some 19, none, .mv (.tm 1)⟩,
    ⟨some 20, none, .conv (.int .u8) (.tm 19)⟩,
    ⟨some 21, none, .bslice 5 1 [.int .u8 (0)] [(0, 1, (.tm 20))]⟩,
    ⟨some 22, none, .append 5 1 1 [.int .u8 (0)] (.tm 18) (.tm 21)⟩,
    ⟨some 4, none, .mv (.tm 22)⟩])
  .ret))))
def rt107 : List IRet := [.tm 4]
theorem ci107 : (Go.Proofs.Tryz.f107.body).bind (compile Go.Proofs.Tryz.prog Go.Proofs.Tryz.f107.ntmps) = some ir107 := by kernel_rfl
theorem cr107 : compileRets Go.Proofs.Tryz.prog Go.Proofs.Tryz.f107.results.toList = some rt107 := by kernel_rfl
def fn107 : XFn := ⟨ir107, rt107, 23⟩
theorem fk107 : FnOK Go.Proofs.Tryz.prog 107 fn107 := ⟨⟨_, _, Go.Proofs.Tryz.func107, rfl, by kernel_rfl, ci107, cr107, Go.Proofs.Tryz.ntmps107.symm⟩⟩

/-- gabelle/leb.AppendS -/
def ir108 : IR :=
  (.seq (.ops [⟨some 4, none, .mv (.cn (.slice none 0 0))⟩])
  (.seq (.ops [⟨some 6, none, .mv (.tm 0)⟩,
    ⟨some 7, none, .append 5 1 1 [.int .u8 (0)] (.cn (.slice none 0 0)) (.tm 6)⟩,
    ⟨some 5, none, .mv (.tm 7)⟩])
  (.seq (.block 0
   (.loop
    (.seq (.seq (.ops [⟨some 8, none, .mv (.tm 1)⟩,
      ⟨some 9, none, .bin .lss .int (.tm 8) (.cn (.int .i64 (-64)))⟩,
      ⟨some 10, none, .mv (.tm 9)⟩,
      ⟨some 11, (some (10, false)), .mv (.tm 1)⟩,
      ⟨some 12, (some (10, false)), .bin .gtr .int (.tm 11) (.cn (.int .i64 (63)))⟩,
      ⟨some 13, none, .pick (.tm 10) (.cn (.bool true)) (.tm 12)⟩])
    (.cond (.tm 13)
     .skip
     (.exit 0)))
    (.block 1
     (.seq (.ops [⟨some 14, none, .mv (.tm 5)⟩,
       ⟨some 15, none, .mv (.tm 1)⟩,
       ⟨some 16, none, .conv (.int .u8) (.tm 15)⟩,
       ⟨some 17, none, .bin .or .int (.tm 16) (.cn (.int .u8 (128)))⟩,
       ⟨some 18, none, .bslice 5 1 [.int .u8 (0)] [(0, 1, (.tm 17))]⟩,
       ⟨some 19, none, .append 5 1 1 [.int .u8 (0)] (.tm 14) (.tm 18)⟩,
       ⟨some 5, none, .mv (.tm 19)⟩])
     (.ops [⟨some 20, none, .mv (.tm 1)⟩,
       ⟨some 21, none, .bin .shr .int (.tm 20) (.cn (.int .u64 (7)))⟩,
       ⟨some 1, none, .mv (.tm 21)⟩]))))))
  (.seq (.ops [⟨some 22, none, .mv (.tm 5)⟩,
    ⟨some 23, none, .mv (.tm 1)⟩,
    ⟨some 24, none, .conv (.int .u8) (.tm 23)⟩,
    ⟨some 25, none, .bin .and .int (.tm 24) (.cn (.int .u8 (127)))⟩,
    ⟨some 26, none, .bslice 5 1 [.int .u8 (0)] [(0, 1, (.tm 25))]⟩,
    ⟨some 27, none, .append 5 1 1 [.int .u8 (0)] (.tm 22) (.tm 26)⟩,
    ⟨some 4, none, .mv (.tm 27)⟩])
  .ret))))
def rt108 : List IRet := [.tm 4]
theorem ci108 : (Go.Proofs.Tryz.f108.body).bind (compile Go.Proofs.Tryz.prog Go.Proofs.Tryz.f108.ntmps) = some ir108 := by kernel_rfl
theorem cr108 : compileRets Go.Proofs.Tryz.prog Go.Proofs.Tryz.f108.results.toList = some rt108 := by kernel_rfl
def fn108 : XFn := ⟨ir108, rt108, 28⟩
theorem fk108 : FnOK Go.Proofs.Tryz.prog 108 fn108 := ⟨⟨_, _, Go.Proofs.Tryz.func108, rfl, by kernel_rfl, ci108, cr108, Go.Proofs.Tryz.ntmps108.symm⟩⟩

/-- (*gabelle/typing.Stack).Want -/
def ir109 : IR :=
  (.seq (.ops [⟨some 4, none, .mv (.cn (.bool false))⟩])
  (.seq (.ops [⟨some 6, none, .mv (.tm 0)⟩,
    ⟨some 7, none, .mv (.tm 1)⟩,
    ⟨some 8, none, .call (.cn (.func (.func 102) #[] #[])) [.tm 6, .tm 7]⟩,
    ⟨some 5, none, .mv (.tm 8)⟩])
  (.seq (.seq (.ops [⟨some 9, none, .mv (.tm 5)⟩,
    ⟨some 10, none, .bin .lss .int (.tm 9) (.cn (.int .i64 (0)))⟩])
  (.cond (.tm 10)
   (.seq (.ops [⟨some 4, none, .mv (.cn (.bool false))⟩])
   .ret)
   .skip))
  (.seq (.ops [⟨some 11, none, .mv (.tm 0)⟩,
    ⟨some 12, none, .mv (.tm 0)⟩,
    ⟨some 13, none, .nilCheck (.tm 12)⟩,
    ⟨some 14, none, .fieldAddr 0 (.tm 13)⟩,
    ⟨some 15, none, .load none (.tm 14)⟩,
    ⟨some 16, none, .mv (.tm 5)⟩,
    ⟨some 17, none, .slc (.sl 1) (.tm 15) none (some (.tm 16)) none⟩,
    ⟨some 18, none, .nilCheck (.tm 11)⟩,
    ⟨some 19, none, .fieldAddr 0 (.tm 18)⟩,
    ⟨none, none, .store 1 (.tm 19) (.tm 17)⟩])
  (.seq (.ops [⟨some 4, none, .mv (.cn (.bool true))⟩])
  .ret)))))
def rt109 : List IRet := [.tm 4]
theorem ci109 : (Go.Proofs.Tryz.f109.body).bind (compile Go.Proofs.Tryz.prog Go.Proofs.Tryz.f109.ntmps) = some ir109 := by kernel_rfl
theorem cr109 : compileRets Go.Proofs.Tryz.prog Go.Proofs.Tryz.f109.results.toList = some rt109 := by kernel_rfl
def fn109 : XFn := ⟨ir109, rt109, 20⟩
theorem fk109 : FnOK Go.Proofs.Tryz.prog 109 fn109 := ⟨⟨_, _, Go.Proofs.Tryz.func109, rfl, by kernel_rfl, ci109, cr109, Go.Proofs.Tryz.ntmps109.symm⟩⟩

/-- gabelle/body.result -/
def ir110 : IR :=
  (.seq (.ops [⟨some 2, none, .mv (.cn (.slice none 0 0))⟩])
  (.seq (.seq (.ops [⟨some 3, none, .mv (.tm 0)⟩,
    ⟨some 4, none, .conv (.int .u8) (.tm 3)⟩,
    ⟨some 5, none, .bin .eql .int (.tm 4) (.cn (.int .u8 (64)))⟩])
  (.cond (.tm 5)
   (.seq (.ops [⟨some 2, none, .mv (.cn (.slice none 0 0))⟩])
   .ret)
   .skip))
  (.seq (.ops [⟨some 6, none, .mv (.tm 0)⟩,
    ⟨some 7, none, .conv (.int .u8) (.tm 6)⟩,
    ⟨some 8, none, .bslice 5 1 [.int .u8 (0)] [(0, 1, (.tm 7))]⟩,
    ⟨some 2, none, .mv (.tm 8)⟩])
  .ret)))
def rt110 : List IRet := [.tm 2]
theorem ci110 : (Go.Proofs.Tryz.f110.body).bind (compile Go.Proofs.Tryz.prog Go.Proofs.Tryz.f110.ntmps) = some ir110 := by kernel_rfl
theorem cr110 : compileRets Go.Proofs.Tryz.prog Go.Proofs.Tryz.f110.results.toList = some rt110 := by kernel_rfl
def fn110 : XFn := ⟨ir110, rt110, 9⟩
theorem fk110 : FnOK Go.Proofs.Tryz.prog 110 fn110 := ⟨⟨_, _, Go.Proofs.Tryz.func110, rfl, by kernel_rfl, ci110, cr110, Go.Proofs.Tryz.ntmps110.symm⟩⟩

/-- (*gabelle/typing.Stack).Push -/
def ir111 : IR :=
  (.seq (.seq (.ops [⟨some 4, none, .mv (.tm 0)⟩,
    ⟨some 5, none, .bin .eql .ptr (.tm 4) (.cn (.pointer none))⟩])
  (.cond (.tm 5)
   .ret
   .skip))
  (.seq (.ops [⟨some 6, none, .mv (.tm 0)⟩,
    ⟨some 7, none, .mv (.tm 0)⟩,
    ⟨some 8, none, .nilCheck (.tm 7)⟩,
    ⟨some 9, none, .fieldAddr 0 (.tm 8)⟩,
    ⟨some 10, none, .load none (.tm 9)⟩,
    ⟨some 11, none, .mv (.tm 1)⟩,
    ⟨some 12, none, .append 5 1 1 [.int .u8 (0)] (.tm 10) (.tm 11)⟩,
    ⟨some 13, none, .nilCheck (.tm 6)⟩,
    ⟨some 14, none, .fieldAddr 0 (.tm 13)⟩,
    ⟨none, none, .store 1 (.tm 14) (.tm 12)⟩])
  (.draw (some [(some false, ⟨some 15, none, .mv (.tm 0)⟩),
    (some false, ⟨some 16, none, .mv (.tm 0)⟩),
    (some false, ⟨some 17, none, .nilCheck (.tm 16)⟩),
    (some false, ⟨some 18, none, .fieldAddr 2 (.tm 17)⟩),
    (some false, ⟨some 19, none, .load none (.tm 18)⟩),
    (some false, ⟨some 20, none, .mv (.tm 0)⟩),
    (some false, ⟨some 21, none, .nilCheck (.tm 20)⟩),
    (some false, ⟨some 22, none, .fieldAddr 0 (.tm 21)⟩),
    (some false, ⟨some 23, none, .load none (.tm 22)⟩),
    (some false, ⟨some 24, none, .len .sl (.tm 23)⟩),
    (some false, ⟨some 25, none, .max [.tm 19, .tm 24]⟩),
    (some false, ⟨some 26, none, .nilCheck (.tm 15)⟩),
    (some false, ⟨some 27, none, .fieldAddr 2 (.tm 26)⟩),
    (none, ⟨none, none, .store 1 (.tm 27) (.tm 25)⟩)])
   [([], ⟨some 15, none, .mv (.tm 0)⟩),
    ([], ⟨some 16, none, .mv (.tm 0)⟩),
    ([1], ⟨some 17, none, .nilCheck (.tm 16)⟩),
    ([1, 2], ⟨some 18, none, .fieldAddr 2 (.tm 17)⟩),
    ([1, 2, 3], ⟨some 19, none, .load none (.tm 18)⟩),
    ([], ⟨some 20, none, .mv (.tm 0)⟩),
    ([5], ⟨some 21, none, .nilCheck (.tm 20)⟩),
    ([5, 6], ⟨some 22, none, .fieldAddr 0 (.tm 21)⟩),
    ([5, 6, 7], ⟨some 23, none, .load none (.tm 22)⟩),
    ([5, 6, 7, 8], ⟨some 24, none, .len .sl (.tm 23)⟩),
    ([1, 2, 3, 4, 5, 6, 7, 8, 9], ⟨some 25, none, .max [.tm 19, .tm 24]⟩),
    ([0, 1, 2, 3, 4, 5, 6, 7, 8, 9, 10], ⟨some 26, none, .nilCheck (.tm 15)⟩),
    ([0, 1, 2, 3, 4, 5, 6, 7, 8, 9, 10, 11], ⟨some 27, none, .fieldAddr 2 (.tm 26)⟩),
    ([0, 1, 2, 3, 4, 5, 6, 7, 8, 9, 10, 11, 12], ⟨none, none, .store 1 (.tm 27) (.tm 25)⟩)])))
def rt111 : List IRet := []
theorem ci111 : (Go.Proofs.Tryz.f111.body).bind (compile Go.Proofs.Tryz.prog Go.Proofs.Tryz.f111.ntmps) = some ir111 := by kernel_rfl
theorem cr111 : compileRets Go.Proofs.Tryz.prog Go.Proofs.Tryz.f111.results.toList = some rt111 := by kernel_rfl
def fn111 : XFn := ⟨ir111, rt111, 28⟩
theorem fk111 : FnOK Go.Proofs.Tryz.prog 111 fn111 := ⟨⟨_, _, Go.Proofs.Tryz.func111, rfl, by kernel_rfl, ci111, cr111, Go.Proofs.Tryz.ntmps111.symm⟩⟩

/-- (*gabelle/typing.Stack).Label -/
def ir112 : IR :=
  (.seq (.ops [⟨some 4, none, .mv (.cn (.slice none 0 0))⟩,
    ⟨some 5, none, .mv (.cn (.bool false))⟩])
  (.seq (.seq (.ops [⟨some 6, none, .mv (.tm 0)⟩,
    ⟨some 7, none, .bin .eql .ptr (.tm 6) (.cn (.pointer none))⟩,
    ⟨some 8, none, .mv (.tm 7)⟩,
    ⟨some 9, (some (8, false)), .mv (.tm 1)⟩,
    ⟨some 10, (some (8, false)), .conv (.int .u64) (.tm 9)⟩,
    ⟨some 11, (some (8, false)), .mv (.tm 0)⟩,
    ⟨some 12, (some (8, false)), .nilCheck (.tm 11)⟩,
    ⟨some 13, (some (8, false)), .fieldAddr 1 (.tm 12)⟩,
    ⟨some 14, (some (8, false)), .load none (.tm 13)⟩,
    ⟨some 15, (some (8, false)), .len .sl (.tm 14)⟩,
    ⟨some 16, (some (8, false)), .conv (.int .u64) (.tm 15)⟩,
    ⟨some 17, (some (8, false)), .bin .geq .int (.tm 10) (.tm 16)⟩,
    ⟨some 18, none, .pick (.tm 8) (.cn (.bool true)) (.tm 17)⟩])
  (.cond (.tm 18)
   (.seq (.ops [⟨some 4, none, .mv (.cn (.slice none 0 0))⟩,
     ⟨some 5, none, .mv (.cn (.bool false))⟩])
   .ret)
   .skip))
  (.seq (.draw (some [(some false, ⟨some 19, none, .mv (.tm 0)⟩),
    (some false, ⟨some 20, none, .nilCheck (.tm 19)⟩),
    (some false, ⟨some 21, none, .fieldAddr 1 (.tm 20)⟩),
    (some false, ⟨some 22, none, .load none (.tm 21)⟩),
    (some false, ⟨some 23, none, .mv (.tm 0)⟩),
    (some false, ⟨some 24, none, .nilCheck (.tm 23)⟩),
    (some false, ⟨some 25, none, .fieldAddr 1 (.tm 24)⟩),
    (some false, ⟨some 26, none, .load none (.tm 25)⟩),
    (some false, ⟨some 27, none, .len .sl (.tm 26)⟩),
    (some false, ⟨some 28, none, .bin .sub .int (.tm 27) (.cn (.int .i64 (1)))⟩),
    (some false, ⟨some 29, none, .mv (.tm 1)⟩),
    (some false, ⟨some 30, none, .conv (.int .i64) (.tm 29)⟩),
    (some false, ⟨some 31, none, .bin .sub .int (.tm 28) (.tm 30)⟩),
    (some false, ⟨some 32, none, .idxAddr 4 none (.tm 22) (.tm 31)⟩),
    (some false, ⟨some 33, none, .fieldAddr 0 (.tm 32)⟩),
    (some false, ⟨some 34, none, .load none (.tm 33)⟩),
    (none, ⟨some 35, none, .call (.cn (.func (.func 76) #[] #[])) [.tm 34]⟩),
    (some false, ⟨some 4, none, .mv (.tm 35)⟩),
    (some false, ⟨some 5, none, .mv (.cn (.bool true))⟩)])
   [([], ⟨some 19, none, .mv (.tm 0)⟩),
    ([0], ⟨some 20, none, .nilCheck (.tm 19)⟩),
    ([0, 1], ⟨some 21, none, .fieldAddr 1 (.tm 20)⟩),
    ([0, 1, 2], ⟨some 22, none, .load none (.tm 21)⟩),
    ([], ⟨some 23, none, .mv (.tm 0)⟩),
    ([4], ⟨some 24, none, .nilCheck (.tm 23)⟩),
    ([4, 5], ⟨some 25, none, .fieldAddr 1 (.tm 24)⟩),
    ([4, 5, 6], ⟨some 26, none, .load none (.tm 25)⟩),
    ([4, 5, 6, 7], ⟨some 27, none, .len .sl (.tm 26)⟩),
    ([4, 5, 6, 7, 8], ⟨some 28, none, .bin .sub .int (.tm 27) (.cn (.int .i64 (1)))⟩),
    ([], ⟨some 29, none, .mv (.tm 1)⟩),
    ([10], ⟨some 30, none, .conv (.int .i64) (.tm 29)⟩),
    ([4, 5, 6, 7, 8, 9, 10, 11], ⟨some 31, none, .bin .sub .int (.tm 28) (.tm 30)⟩),
    ([0, 1, 2, 3, 4, 5, 6, 7, 8, 9, 10, 11, 12], ⟨some 32, none, .idxAddr 4 none (.tm 22) (.tm 31)⟩),
    ([0, 1, 2, 3, 4, 5, 6, 7, 8, 9, 10, 11, 12, 13], ⟨some 33, none, .fieldAddr 0 (.tm 32)⟩),
    ([0, 1, 2, 3, 4, 5, 6, 7, 8, 9, 10, 11, 12, 13, 14], ⟨some 34, none, .load none (.tm 33)⟩),
    ([0, 1, 2, 3, 4, 5, 6, 7, 8, 9, 10, 11, 12, 13, 14, 15], ⟨some 35, none, .call (.cn (.func (.func 76) #[] #[])) [.tm 34]⟩),
    ([0, 1, 2, 3, 4, 5, 6, 7, 8, 9, 10, 11, 12, 13, 14, 15, 16], ⟨some 4, none, .mv (.tm 35)⟩),
    ([0, 1, 2, 3, 4, 5, 6, 7, 8, 9, 10, 11, 12, 13, 14, 15, 16, 17], ⟨some 5, none, .mv (.cn (.bool true))⟩)])
  .ret)))
def rt112 : List IRet := [.tm 4, .tm 5]
theorem ci112 : (Go.Proofs.Tryz.f112.body).bind (compile Go.Proofs.Tryz.prog Go.Proofs.Tryz.f112.ntmps) = some ir112 := by kernel_rfl
theorem cr112 : compileRets Go.Proofs.Tryz.prog Go.Proofs.Tryz.f112.results.toList = some rt112 := by kernel_rfl
def fn112 : XFn := ⟨ir112, rt112, 36⟩
theorem fk112 : FnOK Go.Proofs.Tryz.prog 112 fn112 := ⟨⟨_, _, Go.Proofs.Tryz.func112, rfl, by kernel_rfl, ci112, cr112, Go.Proofs.Tryz.ntmps112.symm⟩⟩

/-- (*gabelle/body.checker).takes -/
def ir113 : IR :=
  (.seq (.ops [⟨some 6, none, .mv (.cn (.int .i64 (0)))⟩])
  (.seq (.seq (.ops [⟨some 7, none, .mv (.tm 0)⟩,
    ⟨some 8, none, .nilCheck (.tm 7)⟩,
    ⟨some 9, none, .fieldAddr 5 (.tm 8)⟩,
    ⟨some 10, none, .load none (.tm 9)⟩,
    ⟨some 11, none, .mv (.tm 1)⟩,
    ⟨some 12, none, .call (.cn (.func (.func 109) #[] #[])) [.tm 10, .tm 11]⟩,
    ⟨some 13, none, .un .not (.tm 12)⟩])
  (.cond (.tm 13)
   (.seq (.ops [⟨some 6, none, .mv (.cn (.int .i64 (100)))⟩])
   .ret)
   .skip))
  (.seq (.ops [⟨some 14, none, .mv (.tm 0)⟩,
    ⟨some 15, none, .nilCheck (.tm 14)⟩,
    ⟨some 16, none, .fieldAddr 5 (.tm 15)⟩,
    ⟨some 17, none, .load none (.tm 16)⟩,
    ⟨some 18, none, .mv (.tm 2)⟩,
    ⟨some 19, none, .call (.cn (.func (.func 111) #[] #[])) [.tm 17, .tm 18]⟩])
  (.seq (.ops [⟨some 6, none, .mv (.cn (.int .i64 (0)))⟩])
  .ret))))
def rt113 : List IRet := [.tm 6]
theorem ci113 : (Go.Proofs.Tryz.f113.body).bind (compile Go.Proofs.Tryz.prog Go.Proofs.Tryz.f113.ntmps) = some ir113 := by kernel_rfl
theorem cr113 : compileRets Go.Proofs.Tryz.prog Go.Proofs.Tryz.f113.results.toList = some rt113 := by kernel_rfl
def fn113 : XFn := ⟨ir113, rt113, 20⟩
theorem fk113 : FnOK Go.Proofs.Tryz.prog 113 fn113 := ⟨⟨_, _, Go.Proofs.Tryz.func113, rfl, by kernel_rfl, ci113, cr113, Go.Proofs.Tryz.ntmps113.symm⟩⟩

/-- (*gabelle/typing.Stack).Dead -/
def ir114 : IR :=
  (.seq (.ops [⟨some 3, none, .mv (.tm 0)⟩,
    ⟨some 4, none, .call (.cn (.func (.func 101) #[] #[])) [.tm 3]⟩,
    ⟨some 2, none, .mv (.tm 4)⟩])
  (.seq (.ops [⟨some 5, none, .mv (.tm 2)⟩,
    ⟨some 6, none, .bin .neq .ptr (.tm 5) (.cn (.pointer none))⟩])
  (.cond (.tm 6)
   (.seq (.draw (some [(some false, ⟨some 7, none, .mv (.tm 0)⟩),
     (some false, ⟨some 8, none, .mv (.tm 0)⟩),
     (some false, ⟨some 9, none, .nilCheck (.tm 8)⟩),
     (some false, ⟨some 10, none, .fieldAddr 0 (.tm 9)⟩),
     (some false, ⟨some 11, none, .load none (.tm 10)⟩),
     (some false, ⟨some 12, none, .mv (.tm 2)⟩),
     (some false, ⟨some 13, none, .nilCheck (.tm 12)⟩),
     (some false, ⟨some 14, none, .fieldAddr 2 (.tm 13)⟩),
     (some false, ⟨some 15, none, .load none (.tm 14)⟩),
     (some false, ⟨some 16, none, .slc (.sl 1) (.tm 11) none (some (.tm 15)) none⟩),
     (some false, ⟨some 17, none, .nilCheck (.tm 7)⟩),
     (some false, ⟨some 18, none, .fieldAddr 0 (.tm 17)⟩),
     (none, ⟨none, none, .store 1 (.tm 18) (.tm 16)⟩)])
    [([], ⟨some 7, none, .mv (.tm 0)⟩),
     ([], ⟨some 8, none, .mv (.tm 0)⟩),
     ([1], ⟨some 9, none, .nilCheck (.tm 8)⟩),
     ([1, 2], ⟨some 10, none, .fieldAddr 0 (.tm 9)⟩),
     ([1, 2, 3], ⟨some 11, none, .load none (.tm 10)⟩),
     ([], ⟨some 12, none, .mv (.tm 2)⟩),
     ([5], ⟨some 13, none, .nilCheck (.tm 12)⟩),
     ([5, 6], ⟨some 14, none, .fieldAddr 2 (.tm 13)⟩),
     ([5, 6, 7], ⟨some 15, none, .load none (.tm 14)⟩),
     ([1, 2, 3, 4, 5, 6, 7, 8], ⟨some 16, none, .slc (.sl 1) (.tm 11) none (some (.tm 15)) none⟩),
     ([0, 1, 2, 3, 4, 5, 6, 7, 8, 9], ⟨some 17, none, .nilCheck (.tm 7)⟩),
     ([0, 1, 2, 3, 4, 5, 6, 7, 8, 9, 10], ⟨some 18, none, .fieldAddr 0 (.tm 17)⟩),
     ([0, 1, 2, 3, 4, 5, 6, 7, 8, 9, 10, 11], ⟨none, none, .store 1 (.tm 18) (.tm 16)⟩)])
   (.ops [⟨some 19, none, .mv (.tm 2)⟩,
     ⟨some 20, none, .nilCheck (.tm 19)⟩,
     ⟨some 21, none, .fieldAddr 3 (.tm 20)⟩,
     ⟨none, none, .store 1 (.tm 21) (.cn (.bool true))⟩]))
   .skip)))
def rt114 : List IRet := []
theorem ci114 : (Go.Proofs.Tryz.f114.body).bind (compile Go.Proofs.Tryz.prog Go.Proofs.Tryz.f114.ntmps) = some ir114 := by kernel_rfl
theorem cr114 : compileRets Go.Proofs.Tryz.prog Go.Proofs.Tryz.f114.results.toList = some rt114 := by kernel_rfl
def fn114 : XFn := ⟨ir114, rt114, 22⟩
theorem fk114 : FnOK Go.Proofs.Tryz.prog 114 fn114 := ⟨⟨_, _, Go.Proofs.Tryz.func114, rfl, by kernel_rfl, ci114, cr114, Go.Proofs.Tryz.ntmps114.symm⟩⟩

/-- gabelle/body.typed -/
def ir115 : IR :=
  (.seq (.ops [⟨some 2, none, .mv (.cn (.int .i64 (0)))⟩])
  (.seq (.seq (.ops [⟨some 3, none, .mv (.tm 0)⟩])
  (.cond (.tm 3)
   (.seq (.ops [⟨some 2, none, .mv (.cn (.int .i64 (0)))⟩])
   .ret)
   .skip))
  (.seq (.ops [⟨some 2, none, .mv (.cn (.int .i64 (100)))⟩])
  .ret)))
def rt115 : List IRet := [.tm 2]
theorem ci115 : (Go.Proofs.Tryz.f115.body).bind (compile Go.Proofs.Tryz.prog Go.Proofs.Tryz.f115.ntmps) = some ir115 := by kernel_rfl
theorem cr115 : compileRets Go.Proofs.Tryz.prog Go.Proofs.Tryz.f115.results.toList = some rt115 := by kernel_rfl
def fn115 : XFn := ⟨ir115, rt115, 4⟩
theorem fk115 : FnOK Go.Proofs.Tryz.prog 115 fn115 := ⟨⟨_, _, Go.Proofs.Tryz.func115, rfl, by kernel_rfl, ci115, cr115, Go.Proofs.Tryz.ntmps115.symm⟩⟩

/-- (*gabelle/typing.Stack).Pop -/
def ir116 : IR :=
  (.seq (.ops [⟨some 2, none, .mv (.cn (.int .u8 (0)))⟩,
    ⟨some 3, none, .mv (.cn (.bool false))⟩])
  (.seq (.ops [⟨some 5, none, .mv (.tm 0)⟩,
    ⟨some 6, none, .call (.cn (.func (.func 101) #[] #[])) [.tm 5]⟩,
    ⟨some 4, none, .mv (.tm 6)⟩])
  (.seq (.block 0
   (.seq (.ops [⟨some 8, none, .mv (.tm 4)⟩,
     ⟨some 9, none, .bin .eql .ptr (.tm 8) (.cn (.pointer none))⟩,
     ⟨some 7, none, .mv (.tm 9)⟩])
   (.cond (.tm 7)
    (.seq (.ops [⟨some 2, none, .mv (.cn (.int .u8 (0)))⟩,
      ⟨some 3, none, .mv (.cn (.bool false))⟩])
    .ret)
    (.seq (.draw (some [(some false, ⟨some 11, none, .mv (.tm 0)⟩),
      (some false, ⟨some 12, none, .nilCheck (.tm 11)⟩),
      (some false, ⟨some 13, none, .fieldAddr 0 (.tm 12)⟩),
      (some false, ⟨some 14, none, .load none (.tm 13)⟩),
      (some false, ⟨some 15, none, .len .sl (.tm 14)⟩),
      (some false, ⟨some 16, none, .mv (.tm 4)⟩),
      (some false, ⟨some 17, none, .nilCheck (.tm 16)⟩),
      (some false, ⟨some 18, none, .fieldAddr 2 (.tm 17)⟩),
      (some false, ⟨some 19, none, .load none (.tm 18)⟩),
      (some false, ⟨some 20, none, .bin .gtr .int (.tm 15) (.tm 19)⟩),
      (some false, ⟨some 10, none, .mv (.tm 20)⟩)])
     [([], ⟨some 11, none, .mv (.tm 0)⟩),
      ([0], ⟨some 12, none, .nilCheck (.tm 11)⟩),
      ([0, 1], ⟨some 13, none, .fieldAddr 0 (.tm 12)⟩),
      ([0, 1, 2], ⟨some 14, none, .load none (.tm 13)⟩),
      ([0, 1, 2, 3], ⟨some 15, none, .len .sl (.tm 14)⟩),
      ([], ⟨some 16, none, .mv (.tm 4)⟩),
      ([5], ⟨some 17, none, .nilCheck (.tm 16)⟩),
      ([5, 6], ⟨some 18, none, .fieldAddr 2 (.tm 17)⟩),
      ([5, 6, 7], ⟨some 19, none, .load none (.tm 18)⟩),
      ([0, 1, 2, 3, 4, 5, 6, 7, 8], ⟨some 20, none, .bin .gtr .int (.tm 15) (.tm 19)⟩),
      ([0, 1, 2, 3, 4, 5, 6, 7, 8, 9], ⟨some 10, none, .mv (.tm 20)⟩)])
    (.cond (.tm 10)
     (.seq (.draw (some [(some false, ⟨some 21, none, .mv (.tm 0)⟩),
       (some false, ⟨some 22, none, .nilCheck (.tm 21)⟩),
       (some false, ⟨some 23, none, .fieldAddr 0 (.tm 22)⟩),
       (some false, ⟨some 24, none, .load none (.tm 23)⟩),
       (some false, ⟨some 25, none, .mv (.tm 0)⟩),
       (some false, ⟨some 26, none, .nilCheck (.tm 25)⟩),
       (some false, ⟨some 27, none, .fieldAddr 0 (.tm 26)⟩),
       (some false, ⟨some 28, none, .load none (.tm 27)⟩),
       (some false, ⟨some 29, none, .len .sl (.tm 28)⟩),
       (some false, ⟨some 30, none, .bin .sub .int (.tm 29) (.cn (.int .i64 (1)))⟩),
       (some false, ⟨some 31, none, .idxAddr 1 none (.tm 24) (.tm 30)⟩),
       (some false, ⟨some 32, none, .load none (.tm 31)⟩),
       (some false, ⟨some 2, none, .mv (.tm 32)⟩)])
      [([], ⟨some 21, none, .mv (.tm 0)⟩),
       ([0], ⟨some 22, none, .nilCheck (.tm 21)⟩),
       ([0, 1], ⟨some 23, none, .fieldAddr 0 (.tm 22)⟩),
       ([0, 1, 2], ⟨some 24, none, .load none (.tm 23)⟩),
       ([], ⟨some 25, none, .mv (.tm 0)⟩),
       ([4], ⟨some 26, none, .nilCheck (.tm 25)⟩),
       ([4, 5], ⟨some 27, none, .fieldAddr 0 (.tm 26)⟩),
       ([4, 5, 6], ⟨some 28, none, .load none (.tm 27)⟩),
       ([4, 5, 6, 7], ⟨some 29, none, .len .sl (.tm 28)⟩),
       ([4, 5, 6, 7, 8], ⟨some 30, none, .bin .sub .int (.tm 29) (.cn (.int .i64 (1)))⟩),
       ([0, 1, 2, 3, 4, 5, 6, 7, 8, 9], ⟨some 31, none, .idxAddr 1 none (.tm 24) (.tm 30)⟩),
       ([0, 1, 2, 3, 4, 5, 6, 7, 8, 9, 10], ⟨some 32, none, .load none (.tm 31)⟩),
       ([0, 1, 2, 3, 4, 5, 6, 7, 8, 9, 10, 11], ⟨some 2, none, .mv (.tm 32)⟩)])
     (.seq (.draw (some [(some false, ⟨some 33, none, .mv (.tm 0)⟩),
       (some false, ⟨some 34, none, .mv (.tm 0)⟩),
       (some false, ⟨some 35, none, .nilCheck (.tm 34)⟩),
       (some false, ⟨some 36, none, .fieldAddr 0 (.tm 35)⟩),
       (some false, ⟨some 37, none, .load none (.tm 36)⟩),
       (some false, ⟨some 38, none, .mv (.tm 0)⟩),
       (some false, ⟨some 39, none, .nilCheck (.tm 38)⟩),
       (some false, ⟨some 40, none, .fieldAddr 0 (.tm 39)⟩),
       (some false, ⟨some 41, none, .load none (.tm 40)⟩),
       (some false, ⟨some 42, none, .len .sl (.tm 41)⟩),
       (some false, ⟨some 43, none, .bin .sub .int (.tm 42) (.cn (.int .i64 (1)))⟩),
       (some false, ⟨some 44, none, .slc (.sl 1) (.tm 37) none (some (.tm 43)) none⟩),
       (some false, ⟨some 45, none, .nilCheck (.tm 33)⟩),
       (some false, ⟨some 46, none, .fieldAddr 0 (.tm 45)⟩),
       (none, ⟨none, none, .store 1 (.tm 46) (.tm 44)⟩)])
      [([], ⟨some 33, none, .mv (.tm 0)⟩),
       ([], ⟨some 34, none, .mv (.tm 0)⟩),
       ([1], ⟨some 35, none, .nilCheck (.tm 34)⟩),
       ([1, 2], ⟨some 36, none, .fieldAddr 0 (.tm 35)⟩),
       ([1, 2, 3], ⟨some 37, none, .load none (.tm 36)⟩),
       ([], ⟨some 38, none, .mv (.tm 0)⟩),
       ([5], ⟨some 39, none, .nilCheck (.tm 38)⟩),
       ([5, 6], ⟨some 40, none, .fieldAddr 0 (.tm 39)⟩),
       ([5, 6, 7], ⟨some 41, none, .load none (.tm 40)⟩),
       ([5, 6, 7, 8], ⟨some 42, none, .len .sl (.tm 41)⟩),
       ([5, 6, 7, 8, 9], ⟨some 43, none, .bin .sub .int (.tm 42) (.cn (.int .i64 (1)))⟩),
       ([1, 2, 3, 4, 5, 6, 7, 8, 9, 10], ⟨some 44, none, .slc (.sl 1) (.tm 37) none (some (.tm 43)) none⟩),
       ([0, 1, 2, 3, 4, 5, 6, 7, 8, 9, 10, 11], ⟨some 45, none, .nilCheck (.tm 33)⟩),
       ([0, 1, 2, 3, 4, 5, 6, 7, 8, 9, 10, 11, 12], ⟨some 46, none, .fieldAddr 0 (.tm 45)⟩),
       ([0, 1, 2, 3, 4, 5, 6, 7, 8, 9, 10, 11, 12, 13], ⟨none, none, .store 1 (.tm 46) (.tm 44)⟩)])
     (.seq (.ops [⟨some 47, none, .mv (.tm 2)⟩,
       ⟨some 2, none, .mv (.tm 47)⟩,
       ⟨some 3, none, .mv (.cn (.bool true))⟩])
     .ret)))
     .skip)))))
  (.seq (.draw (some [(some false, ⟨some 48, none, .mv (.tm 4)⟩),
    (some false, ⟨some 49, none, .nilCheck (.tm 48)⟩),
    (some false, ⟨some 50, none, .fieldAddr 3 (.tm 49)⟩),
    (some false, ⟨some 51, none, .load none (.tm 50)⟩),
    (some false, ⟨some 2, none, .mv (.cn (.int .u8 (0)))⟩),
    (some false, ⟨some 3, none, .mv (.tm 51)⟩)])
   [([], ⟨some 48, none, .mv (.tm 4)⟩),
    ([0], ⟨some 49, none, .nilCheck (.tm 48)⟩),
    ([0, 1], ⟨some 50, none, .fieldAddr 3 (.tm 49)⟩),
    ([0, 1, 2], ⟨some 51, none, .load none (.tm 50)⟩),
    ([], ⟨some 2, none, .mv (.cn (.int .u8 (0)))⟩),
    ([0, 1, 2, 3, 4], ⟨some 3, none, .mv (.tm 51)⟩)])
  .ret))))
def rt116 : List IRet := [.tm 2, .tm 3]
theorem ci116 : (Go.Proofs.Tryz.f116.body).bind (compile Go.Proofs.Tryz.prog Go.Proofs.Tryz.f116.ntmps) = some ir116 := by kernel_rfl
theorem cr116 : compileRets Go.Proofs.Tryz.prog Go.Proofs.Tryz.f116.results.toList = some rt116 := by kernel_rfl
def fn116 : XFn := ⟨ir116, rt116, 52⟩
theorem fk116 : FnOK Go.Proofs.Tryz.prog 116 fn116 := ⟨⟨_, _, Go.Proofs.Tryz.func116, rfl, by kernel_rfl, ci116, cr116, Go.Proofs.Tryz.ntmps116.symm⟩⟩

/-- gabelle/body.Local -/
def ir117 : IR :=
  (.seq (.ops [⟨some 3, none, .box 29 (.tm 0)⟩,
    ⟨some 4, none, .box 64 (.tm 1)⟩,
    ⟨some 6, none, .mv (.cn (.int .u8 (0)))⟩,
    ⟨some 7, none, .mv (.cn (.bool false))⟩])
  (.seq (.ops [⟨some 11, none, .mv (.tm 2)⟩,
    ⟨some 12, none, .conv (.int .u64) (.tm 11)⟩,
    ⟨some 8, none, .mv (.tm 12)⟩])
  (.seq (.seq (.ops [⟨some 13, none, .mv (.tm 8)⟩,
    ⟨some 14, none, .fieldAddr 0 (.tm 3)⟩,
    ⟨some 15, none, .load none (.tm 14)⟩,
    ⟨some 16, none, .len .sl (.tm 15)⟩,
    ⟨some 17, none, .conv (.int .u64) (.tm 16)⟩,
    ⟨some 18, none, .bin .lss .int (.tm 13) (.tm 17)⟩])
  (.cond (.tm 18)
   (.seq (.ops [⟨some 19, none, .fieldAddr 0 (.tm 3)⟩,
     ⟨some 20, none, .load none (.tm 19)⟩,
     ⟨some 21, none, .mv (.tm 8)⟩,
     ⟨some 22, none, .idxAddr 1 none (.tm 20) (.tm 21)⟩,
     ⟨some 23, none, .load none (.tm 22)⟩,
     ⟨some 6, none, .mv (.tm 23)⟩,
     ⟨some 7, none, .mv (.cn (.bool true))⟩])
   .ret)
   .skip))
  (.seq (.ops [⟨some 24, none, .mv (.tm 8)⟩,
    ⟨some 25, none, .fieldAddr 0 (.tm 3)⟩,
    ⟨some 26, none, .load none (.tm 25)⟩,
    ⟨some 27, none, .len .sl (.tm 26)⟩,
    ⟨some 28, none, .conv (.int .u64) (.tm 27)⟩,
    ⟨some 29, none, .bin .sub .int (.tm 24) (.tm 28)⟩,
    ⟨some 8, none, .mv (.tm 29)⟩])
  (.seq (.seq (.ops [⟨some 30, none, .fieldAddr 0 (.tm 4)⟩,
    ⟨some 31, none, .load none (.tm 30)⟩,
    ⟨some 32, none, .len .sl (.tm 31)⟩,
    ⟨some 33, none, .mv (.cn (.int .i64 (0)))⟩])
  (.block 0
   (.loop
    (.seq (.ops [⟨some 34, none, .bin .lss .int (.tm 33) (.tm 32)⟩])
    (.seq (.cond (.tm 34)
     .skip
     (.exit 0))
    (.seq (.block 1
     (.seq (.ops [⟨some 35, none, .idxAddr 2 none (.tm 31) (.tm 33)⟩,
       ⟨some 36, none, .load (some 2) (.tm 35)⟩,
       ⟨some 10, none, .newv 61 [.int .u32 (0), .int .u8 (0)]⟩,
       ⟨none, none, .store 2 (.tm 10) (.tm 36)⟩])
     (.seq (.seq (.ops [⟨some 37, none, .mv (.tm 8)⟩,
       ⟨some 38, none, .fieldAddr 0 (.tm 10)⟩,
       ⟨some 39, none, .load none (.tm 38)⟩,
       ⟨some 40, none, .conv (.int .u64) (.tm 39)⟩,
       ⟨some 41, none, .bin .lss .int (.tm 37) (.tm 40)⟩])
     (.cond (.tm 41)
      (.seq (.ops [⟨some 42, none, .fieldAddr 1 (.tm 10)⟩,
        ⟨some 43, none, .load none (.tm 42)⟩,
        ⟨some 6, none, .mv (.tm 43)⟩,
        ⟨some 7, none, .mv (.cn (.bool true))⟩])
      .ret)
      .skip))
     (.ops [⟨some 44, none, .mv (.tm 8)⟩,
       ⟨some 45, none, .fieldAddr 0 (.tm 10)⟩,
       ⟨some 46, none, .load none (.tm 45)⟩,
       ⟨some 47, none, .conv (.int .u64) (.tm 46)⟩,
       ⟨some 48, none, .bin .sub .int (.tm 44) (.tm 47)⟩,
       ⟨some 8, none, .mv (.tm 48)⟩]))))
    (.ops [⟨some 49, none, .bin .add .int (.tm 33) (.cn (.int .i64 (1)))⟩,
      ⟨some 33, none, .mv (.tm 49)⟩])))))))
  (.seq (.ops [⟨some 6, none, .mv (.cn (.int .u8 (0)))⟩,
    ⟨some 7, none, .mv (.cn (.bool false))⟩])
  .ret))))))
def rt117 : List IRet := [.tm 6, .tm 7]
theorem ci117 : (Go.Proofs.Tryz.f117.body).bind (compile Go.Proofs.Tryz.prog Go.Proofs.Tryz.f117.ntmps) = some ir117 := by kernel_rfl
theorem cr117 : compileRets Go.Proofs.Tryz.prog Go.Proofs.Tryz.f117.results.toList = some rt117 := by kernel_rfl
def fn117 : XFn := ⟨ir117, rt117, 50⟩
theorem fk117 : FnOK Go.Proofs.Tryz.prog 117 fn117 := ⟨⟨_, _, Go.Proofs.Tryz.func117, rfl, by kernel_rfl, ci117, cr117, Go.Proofs.Tryz.ntmps117.symm⟩⟩

/-- gabelle/opc.Width -/
def ir118 : IR :=
  (.seq (.ops [⟨some 2, none, .mv (.cn (.int .i64 (0)))⟩])
  (.seq (.seq (.ops [⟨some 3, none, .mv (.tm 0)⟩])
  (.block 0
   (.seq (.seq (.ops [⟨some 5, none, .bin .eql .int (.tm 3) (.cn (.int .u8 (44)))⟩,
     ⟨some 4, none, .mv (.tm 5)⟩])
   (.cond (.tm 4)
    .skip
    (.seq (.ops [⟨some 6, none, .bin .eql .int (.tm 3) (.cn (.int .u8 (45)))⟩,
      ⟨some 4, none, .mv (.tm 6)⟩])
    (.cond (.tm 4)
     .skip
     (.seq (.ops [⟨some 7, none, .bin .eql .int (.tm 3) (.cn (.int .u8 (48)))⟩,
       ⟨some 4, none, .mv (.tm 7)⟩])
     (.cond (.tm 4)
      .skip
      (.seq (.ops [⟨some 8, none, .bin .eql .int (.tm 3) (.cn (.int .u8 (49)))⟩,
        ⟨some 4, none, .mv (.tm 8)⟩])
      (.cond (.tm 4)
       .skip
       (.seq (.ops [⟨some 9, none, .bin .eql .int (.tm 3) (.cn (.int .u8 (58)))⟩,
         ⟨some 4, none, .mv (.tm 9)⟩])
       (.cond (.tm 4)
        .skip
        (.ops [⟨some 10, none, .bin .eql .int (.tm 3) (.cn (.int .u8 (60)))⟩,
          ⟨some 4, none, .mv (.tm 10)⟩])))))))))))
   (.cond (.tm 4)
    (.seq (.ops [⟨some 2, none, .mv (.cn (.int .i64 (1)))⟩])
    .ret)
    (.seq (.seq (.ops [⟨some 12, none, .bin .eql .int (.tm 3) (.cn (.int .u8 (46)))⟩,
      ⟨some 11, none, .mv (.tm 12)⟩])
    (.cond (.tm 11)
     .skip
     (.seq (.ops [⟨some 13, none, .bin .eql .int (.tm 3) (.cn (.int .u8 (47)))⟩,
       ⟨some 11, none, .mv (.tm 13)⟩])
     (.cond (.tm 11)
      .skip
      (.seq (.ops [⟨some 14, none, .bin .eql .int (.tm 3) (.cn (.int .u8 (50)))⟩,
        ⟨some 11, none, .mv (.tm 14)⟩])
      (.cond (.tm 11)
       .skip
       (.seq (.ops [⟨some 15, none, .bin .eql .int (.tm 3) (.cn (.int .u8 (51)))⟩,
         ⟨some 11, none, .mv (.tm 15)⟩])
       (.cond (.tm 11)
        .skip
        (.seq (.ops [⟨some 16, none, .bin .eql .int (.tm 3) (.cn (.int .u8 (59)))⟩,
          ⟨some 11, none, .mv (.tm 16)⟩])
        (.cond (.tm 11)
         .skip
         (.ops [⟨some 17, none, .bin .eql .int (.tm 3) (.cn (.int .u8 (61)))⟩,
           ⟨some 11, none, .mv (.tm 17)⟩])))))))))))
    (.cond (.tm 11)
     (.seq (.ops [⟨some 2, none, .mv (.cn (.int .i64 (2)))⟩])
     .ret)
     (.seq (.seq (.ops [⟨some 19, none, .bin .eql .int (.tm 3) (.cn (.int .u8 (40)))⟩,
       ⟨some 18, none, .mv (.tm 19)⟩])
     (.cond (.tm 18)
      .skip
      (.seq (.ops [⟨some 20, none, .bin .eql .int (.tm 3) (.cn (.int .u8 (52)))⟩,
        ⟨some 18, none, .mv (.tm 20)⟩])
      (.cond (.tm 18)
       .skip
       (.seq (.ops [⟨some 21, none, .bin .eql .int (.tm 3) (.cn (.int .u8 (53)))⟩,
         ⟨some 18, none, .mv (.tm 21)⟩])
       (.cond (.tm 18)
        .skip
        (.seq (.ops [⟨some 22, none, .bin .eql .int (.tm 3) (.cn (.int .u8 (54)))⟩,
          ⟨some 18, none, .mv (.tm 22)⟩])
        (.cond (.tm 18)
         .skip
         (.ops [⟨some 23, none, .bin .eql .int (.tm 3) (.cn (.int .u8 (62)))⟩,
           ⟨some 18, none, .mv (.tm 23)⟩])))))))))
     (.cond (.tm 18)
      (.seq (.ops [⟨some 2, none, .mv (.cn (.int .i64 (4)))⟩])
      .ret)
      (.seq (.seq (.ops [⟨some 25, none, .bin .eql .int (.tm 3) (.cn (.int .u8 (41)))⟩,
        ⟨some 24, none, .mv (.tm 25)⟩])
      (.cond (.tm 24)
       .skip
       (.ops [⟨some 26, none, .bin .eql .int (.tm 3) (.cn (.int .u8 (55)))⟩,
         ⟨some 24, none, .mv (.tm 26)⟩])))
      (.cond (.tm 24)
       (.seq (.ops [⟨some 2, none, .mv (.cn (.int .i64 (8)))⟩])
       .ret)
       .skip))))))))))
  (.seq (.ops [⟨some 2, none, .mv (.cn (.int .i64 (0)))⟩])
  .ret)))
def rt118 : List IRet := [.tm 2]
theorem ci118 : (Go.Proofs.Tryz.f118.body).bind (compile Go.Proofs.Tryz.prog Go.Proofs.Tryz.f118.ntmps) = some ir118 := by kernel_rfl
theorem cr118 : compileRets Go.Proofs.Tryz.prog Go.Proofs.Tryz.f118.results.toList = some rt118 := by kernel_rfl
def fn118 : XFn := ⟨ir118, rt118, 27⟩
theorem fk118 : FnOK Go.Proofs.Tryz.prog 118 fn118 := ⟨⟨_, _, Go.Proofs.Tryz.func118, rfl, by kernel_rfl, ci118, cr118, Go.Proofs.Tryz.ntmps118.symm⟩⟩

/-- gabelle/opc.Sig -/
def ir119 : IR :=
  (.seq (.ops [⟨some 2, none, .mv (.cn (.slice none 0 0))⟩,
    ⟨some 3, none, .mv (.cn (.slice none 0 0))⟩,
    ⟨some 4, none, .mv (.cn (.bool false))⟩])
  (.seq (.ops [⟨some 5, none, .mv (.cn (.func (.func 123) #[] #[]))⟩])
  (.seq (.block 0
   (.seq (.ops [⟨some 8, none, .mv (.tm 0)⟩,
     ⟨some 9, none, .call (.cn (.func (.func 104) #[] #[])) [.tm 8]⟩,
     ⟨some 10, none, .un .not (.tm 9)⟩,
     ⟨some 11, none, .mv (.tm 10)⟩,
     ⟨some 12, (some (11, false)), .mv (.tm 0)⟩,
     ⟨some 13, (some (11, false)), .bin .lss .int (.tm 12) (.cn (.int .u8 (40)))⟩,
     ⟨some 14, none, .pick (.tm 11) (.cn (.bool true)) (.tm 13)⟩,
     ⟨some 7, none, .mv (.tm 14)⟩])
   (.cond (.tm 7)
    (.seq (.ops [⟨some 2, none, .mv (.cn (.slice none 0 0))⟩,
      ⟨some 3, none, .mv (.cn (.slice none 0 0))⟩,
      ⟨some 4, none, .mv (.cn (.bool false))⟩])
    .ret)
    (.seq (.ops [⟨some 16, none, .mv (.tm 0)⟩,
      ⟨some 17, none, .bin .leq .int (.tm 16) (.cn (.int .u8 (53)))⟩,
      ⟨some 15, none, .mv (.tm 17)⟩])
    (.cond (.tm 15)
     (.seq (.ops [⟨some 18, none, .bslice 5 1 [.int .u8 (0)] [(0, 1, (.cn (.int .u8 (127))))]⟩,
       ⟨some 19, none, .mv (.tm 5)⟩,
       ⟨some 20, none, .mv (.tm 0)⟩,
       ⟨some 21, none, .call (.cn (.func (.func 124) #[] #[])) [.tm 20]⟩,
       ⟨some 22, none, .call (.tm 19) [.tm 21]⟩,
       ⟨some 23, none, .bslice 5 1 [.int .u8 (0)] [(0, 1, (.tm 22))]⟩,
       ⟨some 2, none, .mv (.tm 18)⟩,
       ⟨some 3, none, .mv (.tm 23)⟩,
       ⟨some 4, none, .mv (.cn (.bool true))⟩])
     .ret)
     (.seq (.ops [⟨some 25, none, .mv (.tm 0)⟩,
       ⟨some 26, none, .bin .leq .int (.tm 25) (.cn (.int .u8 (62)))⟩,
       ⟨some 24, none, .mv (.tm 26)⟩])
     (.cond (.tm 24)
      (.seq (.ops [⟨some 27, none, .mv (.tm 5)⟩,
        ⟨some 28, none, .mv (.tm 0)⟩,
        ⟨some 29, none, .call (.cn (.func (.func 124) #[] #[])) [.tm 28]⟩,
        ⟨some 30, none, .call (.tm 27) [.tm 29]⟩,
        ⟨some 31, none, .bslice 5 2 [.int .u8 (0), .int .u8 (0)] [(0, 1, (.cn (.int .u8 (127)))), (1, 1, (.tm 30))]⟩,
        ⟨some 2, none, .mv (.tm 31)⟩,
        ⟨some 3, none, .mv (.cn (.slice none 0 0))⟩,
        ⟨some 4, none, .mv (.cn (.bool true))⟩])
      .ret)
      (.seq (.ops [⟨some 33, none, .mv (.tm 0)⟩,
        ⟨some 34, none, .bin .eql .int (.tm 33) (.cn (.int .u8 (63)))⟩,
        ⟨some 32, none, .mv (.tm 34)⟩])
      (.cond (.tm 32)
       (.seq (.ops [⟨some 35, none, .bslice 5 1 [.int .u8 (0)] [(0, 1, (.cn (.int .u8 (127))))]⟩,
         ⟨some 2, none, .mv (.cn (.slice none 0 0))⟩,
         ⟨some 3, none, .mv (.tm 35)⟩,
         ⟨some 4, none, .mv (.cn (.bool true))⟩])
       .ret)
       (.seq (.ops [⟨some 37, none, .mv (.tm 0)⟩,
         ⟨some 38, none, .bin .eql .int (.tm 37) (.cn (.int .u8 (64)))⟩,
         ⟨some 39, none, .mv (.tm 38)⟩,
         ⟨some 40, (some (39, false)), .mv (.tm 0)⟩,
         ⟨some 41, (some (39, false)), .bin .eql .int (.tm 40) (.cn (.int .u8 (69)))⟩,
         ⟨some 42, none, .pick (.tm 39) (.cn (.bool true)) (.tm 41)⟩,
         ⟨some 43, none, .mv (.tm 42)⟩,
         ⟨some 44, (some (43, false)), .mv (.tm 0)⟩,
         ⟨some 45, (some (43, false)), .call (.cn (.func (.func 122) #[] #[])) [.tm 44, .cn (.int .u8 (103)), .cn (.int .u8 (105))]⟩,
         ⟨some 46, none, .pick (.tm 43) (.cn (.bool true)) (.tm 45)⟩,
         ⟨some 36, none, .mv (.tm 46)⟩])
       (.cond (.tm 36)
        (.seq (.ops [⟨some 47, none, .bslice 5 1 [.int .u8 (0)] [(0, 1, (.cn (.int .u8 (127))))]⟩,
          ⟨some 48, none, .bslice 5 1 [.int .u8 (0)] [(0, 1, (.cn (.int .u8 (127))))]⟩,
          ⟨some 2, none, .mv (.tm 47)⟩,
          ⟨some 3, none, .mv (.tm 48)⟩,
          ⟨some 4, none, .mv (.cn (.bool true))⟩])
        .ret)
        (.seq (.ops [⟨some 50, none, .mv (.tm 0)⟩,
          ⟨some 51, none, .bin .leq .int (.tm 50) (.cn (.int .u8 (66)))⟩,
          ⟨some 49, none, .mv (.tm 51)⟩])
        (.cond (.tm 49)
         (.seq (.ops [⟨some 52, none, .mv (.tm 5)⟩,
           ⟨some 53, none, .mv (.tm 0)⟩,
           ⟨some 54, none, .bin .eql .int (.tm 53) (.cn (.int .u8 (66)))⟩,
           ⟨some 55, none, .call (.tm 52) [.tm 54]⟩,
           ⟨some 56, none, .bslice 5 1 [.int .u8 (0)] [(0, 1, (.tm 55))]⟩,
           ⟨some 2, none, .mv (.cn (.slice none 0 0))⟩,
           ⟨some 3, none, .mv (.tm 56)⟩,
           ⟨some 4, none, .mv (.cn (.bool true))⟩])
         .ret)
         (.seq (.ops [⟨some 58, none, .mv (.tm 0)⟩,
           ⟨some 59, none, .bin .eql .int (.tm 58) (.cn (.int .u8 (80)))⟩,
           ⟨some 60, none, .mv (.tm 59)⟩,
           ⟨some 61, (some (60, false)), .mv (.tm 0)⟩,
           ⟨some 62, (some (60, false)), .bin .eql .int (.tm 61) (.cn (.int .u8 (167)))⟩,
           ⟨some 63, none, .pick (.tm 60) (.cn (.bool true)) (.tm 62)⟩,
           ⟨some 57, none, .mv (.tm 63)⟩])
         (.cond (.tm 57)
          (.seq (.ops [⟨some 64, none, .bslice 5 1 [.int .u8 (0)] [(0, 1, (.cn (.int .u8 (126))))]⟩,
            ⟨some 65, none, .bslice 5 1 [.int .u8 (0)] [(0, 1, (.cn (.int .u8 (127))))]⟩,
            ⟨some 2, none, .mv (.tm 64)⟩,
            ⟨some 3, none, .mv (.tm 65)⟩,
            ⟨some 4, none, .mv (.cn (.bool true))⟩])
          .ret)
          (.seq (.ops [⟨some 67, none, .mv (.tm 0)⟩,
            ⟨some 68, none, .call (.cn (.func (.func 122) #[] #[])) [.tm 67, .cn (.int .u8 (121)), .cn (.int .u8 (123))]⟩,
            ⟨some 66, none, .mv (.tm 68)⟩])
          (.cond (.tm 66)
           (.seq (.ops [⟨some 69, none, .bslice 5 1 [.int .u8 (0)] [(0, 1, (.cn (.int .u8 (126))))]⟩,
             ⟨some 70, none, .bslice 5 1 [.int .u8 (0)] [(0, 1, (.cn (.int .u8 (126))))]⟩,
             ⟨some 2, none, .mv (.tm 69)⟩,
             ⟨some 3, none, .mv (.tm 70)⟩,
             ⟨some 4, none, .mv (.cn (.bool true))⟩])
           .ret)
           (.seq (.ops [⟨some 72, none, .mv (.tm 0)⟩,
             ⟨some 73, none, .bin .geq .int (.tm 72) (.cn (.int .u8 (172)))⟩,
             ⟨some 71, none, .mv (.tm 73)⟩])
           (.cond (.tm 71)
            (.seq (.ops [⟨some 74, none, .bslice 5 1 [.int .u8 (0)] [(0, 1, (.cn (.int .u8 (127))))]⟩,
              ⟨some 75, none, .bslice 5 1 [.int .u8 (0)] [(0, 1, (.cn (.int .u8 (126))))]⟩,
              ⟨some 2, none, .mv (.tm 74)⟩,
              ⟨some 3, none, .mv (.tm 75)⟩,
              ⟨some 4, none, .mv (.cn (.bool true))⟩])
            .ret)
            .skip)))))))))))))))))))
  (.seq (.ops [⟨some 76, none, .mv (.tm 0)⟩,
    ⟨some 77, none, .call (.cn (.func (.func 122) #[] #[])) [.tm 76, .cn (.int .u8 (81)), .cn (.int .u8 (90))]⟩,
    ⟨some 78, none, .mv (.tm 77)⟩,
    ⟨some 79, (some (78, false)), .mv (.tm 0)⟩,
    ⟨some 80, (some (78, false)), .bin .geq .int (.tm 79) (.cn (.int .u8 (124)))⟩,
    ⟨some 81, none, .pick (.tm 78) (.cn (.bool true)) (.tm 80)⟩,
    ⟨some 6, none, .mv (.tm 81)⟩])
  (.seq (.ops [⟨some 82, none, .mv (.tm 5)⟩,
    ⟨some 83, none, .mv (.tm 6)⟩,
    ⟨some 84, none, .call (.tm 82) [.tm 83]⟩,
    ⟨some 85, none, .mv (.tm 5)⟩,
    ⟨some 86, none, .mv (.tm 6)⟩,
    ⟨some 87, none, .call (.tm 85) [.tm 86]⟩,
    ⟨some 88, none, .bslice 5 2 [.int .u8 (0), .int .u8 (0)] [(0, 1, (.tm 84)), (1, 1, (.tm 87))]⟩,
    ⟨some 89, none, .mv (.tm 5)⟩,
    ⟨some 90, none, .mv (.tm 0)⟩,
    ⟨some 91, none, .bin .geq .int (.tm 90) (.cn (.int .u8 (124)))⟩,
    ⟨some 92, none, .call (.tm 89) [.tm 91]⟩,
    ⟨some 93, none, .bslice 5 1 [.int .u8 (0)] [(0, 1, (.tm 92))]⟩,
    ⟨some 2, none, .mv (.tm 88)⟩,
    ⟨some 3, none, .mv (.tm 93)⟩,
    ⟨some 4, none, .mv (.cn (.bool true))⟩])
  .ret)))))
def rt119 : List IRet := [.tm 2, .tm 3, .tm 4]
theorem ci119 : (Go.Proofs.Tryz.f119.body).bind (compile Go.Proofs.Tryz.prog Go.Proofs.Tryz.f119.ntmps) = some ir119 := by kernel_rfl
theorem cr119 : compileRets Go.Proofs.Tryz.prog Go.Proofs.Tryz.f119.results.toList = some rt119 := by kernel_rfl
def fn119 : XFn := ⟨ir119, rt119, 94⟩
theorem fk119 : FnOK Go.Proofs.Tryz.prog 119 fn119 := ⟨⟨_, _, Go.Proofs.Tryz.func119, rfl, by kernel_rfl, ci119, cr119, Go.Proofs.Tryz.ntmps119.symm⟩⟩

/-- slices.Backward[[]uint8,uint8] -/
def ir120 : IR :=
  (.seq (.ops [⟨some 1, none, .box 27 (.tm 0)⟩,
    ⟨some 2, none, .mv (.cn (.nilFunc))⟩])
  (.seq (.ops [⟨some 3, none, .mkFunc (.func 125) [] [.tm 1]⟩,
    ⟨some 2, none, .mv (.tm 3)⟩])
  .ret))
def rt120 : List IRet := [.tm 2]
theorem ci120 : (Go.Proofs.Tryz.f120.body).bind (compile Go.Proofs.Tryz.prog Go.Proofs.Tryz.f120.ntmps) = some ir120 := by kernel_rfl
theorem cr120 : compileRets Go.Proofs.Tryz.prog Go.Proofs.Tryz.f120.results.toList = some rt120 := by kernel_rfl
def fn120 : XFn := ⟨ir120, rt120, 4⟩
theorem fk120 : FnOK Go.Proofs.Tryz.prog 120 fn120 := ⟨⟨_, _, Go.Proofs.Tryz.func120, rfl, by kernel_rfl, ci120, cr120, Go.Proofs.Tryz.ntmps120.symm⟩⟩

/-- gabelle/opc.Float -/
def ir121 : IR :=
  (.seq (.ops [⟨some 2, none, .mv (.cn (.bool false))⟩])
  (.seq (.ops [⟨some 3, none, .mv (.tm 0)⟩,
    ⟨some 4, none, .call (.cn (.func (.func 122) #[] #[])) [.tm 3, .cn (.int .u8 (42)), .cn (.int .u8 (43))]⟩,
    ⟨some 5, none, .mv (.tm 4)⟩,
    ⟨some 6, (some (5, false)), .mv (.tm 0)⟩,
    ⟨some 7, (some (5, false)), .call (.cn (.func (.func 122) #[] #[])) [.tm 6, .cn (.int .u8 (56)), .cn (.int .u8 (57))]⟩,
    ⟨some 8, none, .pick (.tm 5) (.cn (.bool true)) (.tm 7)⟩,
    ⟨some 9, none, .mv (.tm 8)⟩,
    ⟨some 10, (some (9, false)), .mv (.tm 0)⟩,
    ⟨some 11, (some (9, false)), .call (.cn (.func (.func 122) #[] #[])) [.tm 10, .cn (.int .u8 (67)), .cn (.int .u8 (68))]⟩,
    ⟨some 12, none, .pick (.tm 9) (.cn (.bool true)) (.tm 11)⟩,
    ⟨some 13, none, .mv (.tm 12)⟩,
    ⟨some 14, (some (13, false)), .mv (.tm 0)⟩,
    ⟨some 15, (some (13, false)), .call (.cn (.func (.func 122) #[] #[])) [.tm 14, .cn (.int .u8 (91)), .cn (.int .u8 (102))]⟩,
    ⟨some 16, none, .pick (.tm 13) (.cn (.bool true)) (.tm 15)⟩,
    ⟨some 17, none, .mv (.tm 16)⟩,
    ⟨some 18, (some (17, false)), .mv (.tm 0)⟩,
    ⟨some 19, (some (17, false)), .call (.cn (.func (.func 122) #[] #[])) [.tm 18, .cn (.int .u8 (139)), .cn (.int .u8 (166))]⟩,
    ⟨some 20, none, .pick (.tm 17) (.cn (.bool true)) (.tm 19)⟩,
    ⟨some 21, none, .mv (.tm 20)⟩,
    ⟨some 22, (some (21, false)), .mv (.tm 0)⟩,
    ⟨some 23, (some (21, false)), .call (.cn (.func (.func 122) #[] #[])) [.tm 22, .cn (.int .u8 (168)), .cn (.int .u8 (171))]⟩,
    ⟨some 24, none, .pick (.tm 21) (.cn (.bool true)) (.tm 23)⟩,
    ⟨some 25, none, .mv (.tm 24)⟩,
    ⟨some 26, (some (25, false)), .mv (.tm 0)⟩,
    ⟨some 27, (some (25, false)), .call (.cn (.func (.func 122) #[] #[])) [.tm 26, .cn (.int .u8 (174)), .cn (.int .u8 (191))]⟩,
    ⟨some 28, none, .pick (.tm 25) (.cn (.bool true)) (.tm 27)⟩,
    ⟨some 2, none, .mv (.tm 28)⟩])
  .ret))
def rt121 : List IRet := [.tm 2]
theorem ci121 : (Go.Proofs.Tryz.f121.body).bind (compile Go.Proofs.Tryz.prog Go.Proofs.Tryz.f121.ntmps) = some ir121 := by kernel_rfl
theorem cr121 : compileRets Go.Proofs.Tryz.prog Go.Proofs.Tryz.f121.results.toList = some rt121 := by kernel_rfl
def fn121 : XFn := ⟨ir121, rt121, 29⟩
theorem fk121 : FnOK Go.Proofs.Tryz.prog 121 fn121 := ⟨⟨_, _, Go.Proofs.Tryz.func121, rfl, by kernel_rfl, ci121, cr121, Go.Proofs.Tryz.ntmps121.symm⟩⟩

/-- gabelle/opc.in -/
def ir122 : IR :=
  (.seq (.ops [⟨some 6, none, .mv (.cn (.bool false))⟩])
  (.seq (.ops [⟨some 7, none, .mv (.tm 0)⟩,
    ⟨some 8, none, .mv (.tm 1)⟩,
    ⟨some 9, none, .bin .geq .int (.tm 7) (.tm 8)⟩,
    ⟨some 10, none, .mv (.tm 9)⟩,
    ⟨some 11, (some (10, true)), .mv (.tm 0)⟩,
    ⟨some 12, (some (10, true)), .mv (.tm 2)⟩,
    ⟨some 13, (some (10, true)), .bin .leq .int (.tm 11) (.tm 12)⟩,
    ⟨some 14, none, .pick (.tm 10) (.tm 13) (.cn (.bool false))⟩,
    ⟨some 6, none, .mv (.tm 14)⟩])
  .ret))
def rt122 : List IRet := [.tm 6]
theorem ci122 : (Go.Proofs.Tryz.f122.body).bind (compile Go.Proofs.Tryz.prog Go.Proofs.Tryz.f122.ntmps) = some ir122 := by kernel_rfl
theorem cr122 : compileRets Go.Proofs.Tryz.prog Go.Proofs.Tryz.f122.results.toList = some rt122 := by kernel_rfl
def fn122 : XFn := ⟨ir122, rt122, 15⟩
theorem fk122 : FnOK Go.Proofs.Tryz.prog 122 fn122 := ⟨⟨_, _, Go.Proofs.Tryz.func122, rfl, by kernel_rfl, ci122, cr122, Go.Proofs.Tryz.ntmps122.symm⟩⟩

/-- gabelle/opc.Sig$1 -/
def ir123 : IR :=
  (.seq (.ops [⟨some 2, none, .mv (.cn (.int .u8 (0)))⟩])
  (.seq (.seq (.ops [⟨some 3, none, .mv (.tm 0)⟩])
  (.cond (.tm 3)
   (.seq (.ops [⟨some 2, none, .mv (.cn (.int .u8 (126)))⟩])
   .ret)
   .skip))
  (.seq (.ops [⟨some 2, none, .mv (.cn (.int .u8 (127)))⟩])
  .ret)))
def rt123 : List IRet := [.tm 2]
theorem ci123 : (Go.Proofs.Tryz.f123.body).bind (compile Go.Proofs.Tryz.prog Go.Proofs.Tryz.f123.ntmps) = some ir123 := by kernel_rfl
theorem cr123 : compileRets Go.Proofs.Tryz.prog Go.Proofs.Tryz.f123.results.toList = some rt123 := by kernel_rfl
def fn123 : XFn := ⟨ir123, rt123, 4⟩
theorem fk123 : FnOK Go.Proofs.Tryz.prog 123 fn123 := ⟨⟨_, _, Go.Proofs.Tryz.func123, rfl, by kernel_rfl, ci123, cr123, Go.Proofs.Tryz.ntmps123.symm⟩⟩

/-- gabelle/opc.wide -/
def ir124 : IR :=
  (.seq (.ops [⟨some 2, none, .mv (.cn (.bool false))⟩])
  (.seq (.ops [⟨some 3, none, .mv (.tm 0)⟩,
    ⟨some 4, none, .bin .eql .int (.tm 3) (.cn (.int .u8 (41)))⟩,
    ⟨some 5, none, .mv (.tm 4)⟩,
    ⟨some 6, (some (5, false)), .mv (.tm 0)⟩,
    ⟨some 7, (some (5, false)), .call (.cn (.func (.func 122) #[] #[])) [.tm 6, .cn (.int .u8 (48)), .cn (.int .u8 (53))]⟩,
    ⟨some 8, none, .pick (.tm 5) (.cn (.bool true)) (.tm 7)⟩,
    ⟨some 9, none, .mv (.tm 8)⟩,
    ⟨some 10, (some (9, false)), .mv (.tm 0)⟩,
    ⟨some 11, (some (9, false)), .bin .eql .int (.tm 10) (.cn (.int .u8 (55)))⟩,
    ⟨some 12, none, .pick (.tm 9) (.cn (.bool true)) (.tm 11)⟩,
    ⟨some 13, none, .mv (.tm 12)⟩,
    ⟨some 14, (some (13, false)), .mv (.tm 0)⟩,
    ⟨some 15, (some (13, false)), .call (.cn (.func (.func 122) #[] #[])) [.tm 14, .cn (.int .u8 (60)), .cn (.int .u8 (62))]⟩,
    ⟨some 16, none, .pick (.tm 13) (.cn (.bool true)) (.tm 15)⟩,
    ⟨some 2, none, .mv (.tm 16)⟩])
  .ret))
def rt124 : List IRet := [.tm 2]
theorem ci124 : (Go.Proofs.Tryz.f124.body).bind (compile Go.Proofs.Tryz.prog Go.Proofs.Tryz.f124.ntmps) = some ir124 := by kernel_rfl
theorem cr124 : compileRets Go.Proofs.Tryz.prog Go.Proofs.Tryz.f124.results.toList = some rt124 := by kernel_rfl
def fn124 : XFn := ⟨ir124, rt124, 17⟩
theorem fk124 : FnOK Go.Proofs.Tryz.prog 124 fn124 := ⟨⟨_, _, Go.Proofs.Tryz.func124, rfl, by kernel_rfl, ci124, cr124, Go.Proofs.Tryz.ntmps124.symm⟩⟩

/-- slices.Backward[[]uint8,uint8]$1 -/
def ir125 : IR :=
  (.seq (.ops [⟨some 4, none, .load none (.tm 1)⟩,
    ⟨some 5, none, .len .sl (.tm 4)⟩,
    ⟨some 6, none, .bin .sub .int (.tm 5) (.cn (.int .i64 (1)))⟩,
    ⟨some 3, none, .mv (.tm 6)⟩])
  (.block 0
   (.loop
    (.seq (.seq (.ops [⟨some 7, none, .mv (.tm 3)⟩,
      ⟨some 8, none, .bin .geq .int (.tm 7) (.cn (.int .i64 (0)))⟩])
    (.cond (.tm 8)
     .skip
     (.exit 0)))
    (.seq (.block 1
     (.seq (.ops [⟨some 11, none, .mv (.tm 0)⟩,
       ⟨some 12, none, .mv (.tm 3)⟩,
       ⟨some 13, none, .load none (.tm 1)⟩,
       ⟨some 14, none, .mv (.tm 3)⟩,
       ⟨some 15, none, .idxAddr 1 none (.tm 13) (.tm 14)⟩,
       ⟨some 16, none, .load none (.tm 15)⟩,
       ⟨some 17, none, .call (.tm 11) [.tm 12, .tm 16]⟩,
       ⟨some 18, none, .un .not (.tm 17)⟩])
     (.cond (.tm 18)
      .ret
      .skip)))
    (.ops [⟨some 9, none, .mv (.tm 3)⟩,
      ⟨some 10, none, .bin .sub .int (.tm 9) (.cn (.int .i64 (1)))⟩,
      ⟨some 3, none, .mv (.tm 10)⟩]))))))
def rt125 : List IRet := []
theorem ci125 : (Go.Proofs.Tryz.f125.body).bind (compile Go.Proofs.Tryz.prog Go.Proofs.Tryz.f125.ntmps) = some ir125 := by kernel_rfl
theorem cr125 : compileRets Go.Proofs.Tryz.prog Go.Proofs.Tryz.f125.results.toList = some rt125 := by kernel_rfl
def fn125 : XFn := ⟨ir125, rt125, 19⟩
theorem fk125 : FnOK Go.Proofs.Tryz.prog 125 fn125 := ⟨⟨_, _, Go.Proofs.Tryz.func125, rfl, by kernel_rfl, ci125, cr125, Go.Proofs.Tryz.ntmps125.symm⟩⟩

def tab : XTab := (.node 66 fn66 (.node 36 fn36 (.node 21 fn21 (.node 12 fn12 (.node 8 fn8 (.node 6 fn6 (.node 3 fn3 .leaf .leaf) (.node 7 fn7 .leaf .leaf)) (.node 10 fn10 (.node 9 fn9 .leaf .leaf) (.node 11 fn11 .leaf .leaf))) (.node 17 fn17 (.node 15 fn15 (.node 13 fn13 .leaf .leaf) (.node 16 fn16 .leaf .leaf)) (.node 19 fn19 (.node 18 fn18 .leaf .leaf) .leaf))) (.node 29 fn29 (.node 25 fn25 (.node 23 fn23 (.node 22 fn22 .leaf .leaf) (.node 24 fn24 .leaf .leaf)) (.node 27 fn27 (.node 26 fn26 .leaf .leaf) (.node 28 fn28 .leaf .leaf))) (.node 33 fn33 (.node 31 fn31 (.node 30 fn30 .leaf .leaf) (.node 32 fn32 .leaf .leaf)) (.node 35 fn35 (.node 34 fn34 .leaf .leaf) .leaf)))) (.node 51 fn51 (.node 44 fn44 (.node 40 fn40 (.node 38 fn38 (.node 37 fn37 .leaf .leaf) (.node 39 fn39 .leaf .leaf)) (.node 42 fn42 (.node 41 fn41 .leaf .leaf) (.node 43 fn43 .leaf .leaf))) (.node 48 fn48 (.node 46 fn46 (.node 45 fn45 .leaf .leaf) (.node 47 fn47 .leaf .leaf)) (.node 50 fn50 (.node 49 fn49 .leaf .leaf) .leaf))) (.node 59 fn59 (.node 55 fn55 (.node 53 fn53 (.node 52 fn52 .leaf .leaf) (.node 54 fn54 .leaf .leaf)) (.node 57 fn57 (.node 56 fn56 .leaf .leaf) (.node 58 fn58 .leaf .leaf))) (.node 63 fn63 (.node 61 fn61 (.node 60 fn60 .leaf .leaf) (.node 62 fn62 .leaf .leaf)) (.node 65 fn65 (.node 64 fn64 .leaf .leaf) .leaf))))) (.node 96 fn96 (.node 81 fn81 (.node 74 fn74 (.node 70 fn70 (.node 68 fn68 (.node 67 fn67 .leaf .leaf) (.node 69 fn69 .leaf .leaf)) (.node 72 fn72 (.node 71 fn71 .leaf .leaf) (.node 73 fn73 .leaf .leaf))) (.node 78 fn78 (.node 76 fn76 (.node 75 fn75 .leaf .leaf) (.node 77 fn77 .leaf .leaf)) (.node 80 fn80 (.node 79 fn79 .leaf .leaf) .leaf))) (.node 89 fn89 (.node 85 fn85 (.node 83 fn83 (.node 82 fn82 .leaf .leaf) (.node 84 fn84 .leaf .leaf)) (.node 87 fn87 (.node 86 fn86 .leaf .leaf) (.node 88 fn88 .leaf .leaf))) (.node 93 fn93 (.node 91 fn91 (.node 90 fn90 .leaf .leaf) (.node 92 fn92 .leaf .leaf)) (.node 95 fn95 (.node 94 fn94 .leaf .leaf) .leaf)))) (.node 111 fn111 (.node 104 fn104 (.node 100 fn100 (.node 98 fn98 (.node 97 fn97 .leaf .leaf) (.node 99 fn99 .leaf .leaf)) (.node 102 fn102 (.node 101 fn101 .leaf .leaf) (.node 103 fn103 .leaf .leaf))) (.node 108 fn108 (.node 106 fn106 (.node 105 fn105 .leaf .leaf) (.node 107 fn107 .leaf .leaf)) (.node 110 fn110 (.node 109 fn109 .leaf .leaf) .leaf))) (.node 119 fn119 (.node 115 fn115 (.node 113 fn113 (.node 112 fn112 .leaf .leaf) (.node 114 fn114 .leaf .leaf)) (.node 117 fn117 (.node 116 fn116 .leaf .leaf) (.node 118 fn118 .leaf .leaf))) (.node 123 fn123 (.node 121 fn121 (.node 120 fn120 .leaf .leaf) (.node 122 fn122 .leaf .leaf)) (.node 125 fn125 (.node 124 fn124 .leaf .leaf) .leaf))))))
theorem tabOK : TabOK Go.Proofs.Tryz.prog tab := ⟨fk66, ⟨fk36, ⟨fk21, ⟨fk12, ⟨fk8, ⟨fk6, ⟨fk3, trivial, trivial⟩, ⟨fk7, trivial, trivial⟩⟩, ⟨fk10, ⟨fk9, trivial, trivial⟩, ⟨fk11, trivial, trivial⟩⟩⟩, ⟨fk17, ⟨fk15, ⟨fk13, trivial, trivial⟩, ⟨fk16, trivial, trivial⟩⟩, ⟨fk19, ⟨fk18, trivial, trivial⟩, trivial⟩⟩⟩, ⟨fk29, ⟨fk25, ⟨fk23, ⟨fk22, trivial, trivial⟩, ⟨fk24, trivial, trivial⟩⟩, ⟨fk27, ⟨fk26, trivial, trivial⟩, ⟨fk28, trivial, trivial⟩⟩⟩, ⟨fk33, ⟨fk31, ⟨fk30, trivial, trivial⟩, ⟨fk32, trivial, trivial⟩⟩, ⟨fk35, ⟨fk34, trivial, trivial⟩, trivial⟩⟩⟩⟩, ⟨fk51, ⟨fk44, ⟨fk40, ⟨fk38, ⟨fk37, trivial, trivial⟩, ⟨fk39, trivial, trivial⟩⟩, ⟨fk42, ⟨fk41, trivial, trivial⟩, ⟨fk43, trivial, trivial⟩⟩⟩, ⟨fk48, ⟨fk46, ⟨fk45, trivial, trivial⟩, ⟨fk47, trivial, trivial⟩⟩, ⟨fk50, ⟨fk49, trivial, trivial⟩, trivial⟩⟩⟩, ⟨fk59, ⟨fk55, ⟨fk53, ⟨fk52, trivial, trivial⟩, ⟨fk54, trivial, trivial⟩⟩, ⟨fk57, ⟨fk56, trivial, trivial⟩, ⟨fk58, trivial, trivial⟩⟩⟩, ⟨fk63, ⟨fk61, ⟨fk60, trivial, trivial⟩, ⟨fk62, trivial, trivial⟩⟩, ⟨fk65, ⟨fk64, trivial, trivial⟩, trivial⟩⟩⟩⟩⟩, ⟨fk96, ⟨fk81, ⟨fk74, ⟨fk70, ⟨fk68, ⟨fk67, trivial, trivial⟩, ⟨fk69, trivial, trivial⟩⟩, ⟨fk72, ⟨fk71, trivial, trivial⟩, ⟨fk73, trivial, trivial⟩⟩⟩, ⟨fk78, ⟨fk76, ⟨fk75, trivial, trivial⟩, ⟨fk77, trivial, trivial⟩⟩, ⟨fk80, ⟨fk79, trivial, trivial⟩, trivial⟩⟩⟩, ⟨fk89, ⟨fk85, ⟨fk83, ⟨fk82, trivial, trivial⟩, ⟨fk84, trivial, trivial⟩⟩, ⟨fk87, ⟨fk86, trivial, trivial⟩, ⟨fk88, trivial, trivial⟩⟩⟩, ⟨fk93, ⟨fk91, ⟨fk90, trivial, trivial⟩, ⟨fk92, trivial, trivial⟩⟩, ⟨fk95, ⟨fk94, trivial, trivial⟩, trivial⟩⟩⟩⟩, ⟨fk111, ⟨fk104, ⟨fk100, ⟨fk98, ⟨fk97, trivial, trivial⟩, ⟨fk99, trivial, trivial⟩⟩, ⟨fk102, ⟨fk101, trivial, trivial⟩, ⟨fk103, trivial, trivial⟩⟩⟩, ⟨fk108, ⟨fk106, ⟨fk105, trivial, trivial⟩, ⟨fk107, trivial, trivial⟩⟩, ⟨fk110, ⟨fk109, trivial, trivial⟩, trivial⟩⟩⟩, ⟨fk119, ⟨fk115, ⟨fk113, ⟨fk112, trivial, trivial⟩, ⟨fk114, trivial, trivial⟩⟩, ⟨fk117, ⟨fk116, trivial, trivial⟩, ⟨fk118, trivial, trivial⟩⟩⟩, ⟨fk123, ⟨fk121, ⟨fk120, trivial, trivial⟩, ⟨fk122, trivial, trivial⟩⟩, ⟨fk125, ⟨fk124, trivial, trivial⟩, trivial⟩⟩⟩⟩⟩⟩
end Go.Sx.Rule
