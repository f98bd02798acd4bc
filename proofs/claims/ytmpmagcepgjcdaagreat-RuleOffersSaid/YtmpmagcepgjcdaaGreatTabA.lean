/- A helper of the claim: - gabelle/gabellelaw12.RuleOffers -/
import Derived.Test.YtmpmagcepgjcdaaGreatSxGlue
import Derived.Test.YtmpmagcepgjcdaaGreatProg
import Derived.KernelRfl
set_option linter.all false
set_option maxRecDepth 100000
namespace Go.Sx.Rule
open Go Go.Sx

/-- gabelle/gabellelaw12.RuleOffers -/
def ir3 : IR :=
  (.seq (.ops [⟨some 2, none, .mv (.cn (.bool false))⟩])
  (.seq (.seq (.ops [⟨some 12, none, .call (.cn (.func (.func 6) #[] #[])) []⟩,
    ⟨some 13, none, .un .not (.tm 12)⟩])
  (.cond (.tm 13)
   (.seq (.ops [⟨some 2, none, .mv (.cn (.bool false))⟩])
   .ret)
   .skip))
  (.seq (.ops [⟨some 14, none, .call (.cn (.func (.func 7) #[] #[])) []⟩,
    ⟨some 15, none, .call (.cn (.func (.func 8) #[] #[])) []⟩,
    ⟨some 3, none, .mv (.tm 14)⟩,
    ⟨some 4, none, .mv (.tm 15)⟩])
  (.seq (.seq (.ops [⟨some 16, none, .mv (.tm 3)⟩,
    ⟨some 17, none, .len .sl (.tm 16)⟩,
    ⟨some 18, none, .mv (.tm 4)⟩,
    ⟨some 19, none, .len .sl (.tm 18)⟩,
    ⟨some 20, none, .bin .neq .int (.tm 17) (.tm 19)⟩])
  (.cond (.tm 20)
   (.seq (.ops [⟨some 2, none, .mv (.cn (.bool false))⟩])
   .ret)
   .skip))
  (.seq (.seq (.ops [⟨some 21, none, .mv (.tm 3)⟩,
    ⟨some 22, none, .len .sl (.tm 21)⟩,
    ⟨some 23, none, .mv (.cn (.int .i64 (0)))⟩])
  (.block 0
   (.loop
    (.seq (.ops [⟨some 24, none, .bin .lss .int (.tm 23) (.tm 22)⟩])
    (.seq (.cond (.tm 24)
     .skip
     (.exit 0))
    (.seq (.block 1
     (.seq (.ops [⟨some 25, none, .mv (.tm 23)⟩,
       ⟨some 26, none, .idxAddr 3 none (.tm 21) (.tm 23)⟩,
       ⟨some 27, none, .load (some 3) (.tm 26)⟩,
       ⟨some 6, none, .newv 31 [.string ⟨#[]⟩, .slice none 0 0, .slice none 0 0]⟩,
       ⟨some 5, none, .mv (.tm 25)⟩,
       ⟨none, none, .store 3 (.tm 6) (.tm 27)⟩])
     (.seq (.seq (.draw (some [(some false, ⟨some 28, none, .fieldAddr 0 (.tm 6)⟩),
       (some false, ⟨some 29, none, .load none (.tm 28)⟩),
       (some false, ⟨some 30, none, .mv (.tm 4)⟩),
       (some false, ⟨some 31, none, .mv (.tm 5)⟩),
       (some false, ⟨some 32, none, .idxAddr 3 none (.tm 30) (.tm 31)⟩),
       (some false, ⟨some 33, none, .fieldAddr 0 (.tm 32)⟩),
       (some false, ⟨some 34, none, .load none (.tm 33)⟩),
       (some false, ⟨some 35, none, .bin .neq .str (.tm 29) (.tm 34)⟩),
       (some false, ⟨some 36, none, .mv (.tm 35)⟩),
       (some false, ⟨some 37, (some (36, false)), .fieldAddr 1 (.tm 6)⟩),
       (some false, ⟨some 38, (some (36, false)), .load (some 2) (.tm 37)⟩),
       (some false, ⟨some 39, (some (36, false)), .mv (.tm 4)⟩),
       (some false, ⟨some 40, (some (36, false)), .mv (.tm 5)⟩),
       (some false, ⟨some 41, (some (36, false)), .idxAddr 3 none (.tm 39) (.tm 40)⟩),
       (some false, ⟨some 42, (some (36, false)), .fieldAddr 1 (.tm 41)⟩),
       (some false, ⟨some 43, (some (36, false)), .load (some 2) (.tm 42)⟩),
       (none, ⟨some 44, (some (36, false)), .call (.cn (.func (.func 9) #[] #[])) [.tm 38, .tm 43]⟩),
       (some false, ⟨some 45, (some (36, false)), .un .not (.tm 44)⟩),
       (some false, ⟨some 46, none, .pick (.tm 36) (.cn (.bool true)) (.tm 45)⟩)])
      [([], ⟨some 28, none, .fieldAddr 0 (.tm 6)⟩),
       ([0], ⟨some 29, none, .load none (.tm 28)⟩),
       ([], ⟨some 30, none, .mv (.tm 4)⟩),
       ([], ⟨some 31, none, .mv (.tm 5)⟩),
       ([2, 3], ⟨some 32, none, .idxAddr 3 none (.tm 30) (.tm 31)⟩),
       ([2, 3, 4], ⟨some 33, none, .fieldAddr 0 (.tm 32)⟩),
       ([2, 3, 4, 5], ⟨some 34, none, .load none (.tm 33)⟩),
       ([0, 1, 2, 3, 4, 5, 6], ⟨some 35, none, .bin .neq .str (.tm 29) (.tm 34)⟩),
       ([0, 1, 2, 3, 4, 5, 6, 7], ⟨some 36, none, .mv (.tm 35)⟩),
       ([0, 1, 2, 3, 4, 5, 6, 7, 8], ⟨some 37, (some (36, false)), .fieldAddr 1 (.tm 6)⟩),
       ([0, 1, 2, 3, 4, 5, 6, 7, 8, 9], ⟨some 38, (some (36, false)), .load (some 2) (.tm 37)⟩),
       ([0, 1, 2, 3, 4, 5, 6, 7, 8], ⟨some 39, (some (36, false)), .mv (.tm 4)⟩),
       ([0, 1, 2, 3, 4, 5, 6, 7, 8], ⟨some 40, (some (36, false)), .mv (.tm 5)⟩),
       ([0, 1, 2, 3, 4, 5, 6, 7, 8, 11, 12], ⟨some 41, (some (36, false)), .idxAddr 3 none (.tm 39) (.tm 40)⟩),
       ([0, 1, 2, 3, 4, 5, 6, 7, 8, 11, 12, 13], ⟨some 42, (some (36, false)), .fieldAddr 1 (.tm 41)⟩),
       ([0, 1, 2, 3, 4, 5, 6, 7, 8, 11, 12, 13, 14], ⟨some 43, (some (36, false)), .load (some 2) (.tm 42)⟩),
       ([0, 1, 2, 3, 4, 5, 6, 7, 8, 9, 10, 11, 12, 13, 14, 15], ⟨some 44, (some (36, false)), .call (.cn (.func (.func 9) #[] #[])) [.tm 38, .tm 43]⟩),
       ([0, 1, 2, 3, 4, 5, 6, 7, 8, 9, 10, 11, 12, 13, 14, 15, 16], ⟨some 45, (some (36, false)), .un .not (.tm 44)⟩),
       ([0, 1, 2, 3, 4, 5, 6, 7, 8, 9, 10, 11, 12, 13, 14, 15, 16, 17], ⟨some 46, none, .pick (.tm 36) (.cn (.bool true)) (.tm 45)⟩)])
     (.cond (.tm 46)
      (.seq (.ops [⟨some 2, none, .mv (.cn (.bool false))⟩])
      .ret)
      .skip))
     (.seq (.ops [⟨some 48, none, .fieldAddr 0 (.tm 6)⟩,
       ⟨some 49, none, .load none (.tm 48)⟩,
       ⟨some 50, none, .call (.cn (.func (.func 10) #[] #[])) [.tm 49]⟩,
       ⟨some 47, none, .mv (.tm 50)⟩,
       ⟨some 51, none, .extract (.tm 47) 0⟩,
       ⟨some 52, none, .extract (.tm 47) 1⟩,
       ⟨some 7, none, .mv (.tm 51)⟩,
       ⟨some 8, none, .mv (.tm 52)⟩])
     (.seq (.ops [⟨some 53, none, .mv (.tm 7)⟩,
       ⟨some 54, none, .mv (.tm 5)⟩,
       ⟨some 55, none, .bin .neq .int (.tm 53) (.tm 54)⟩,
       ⟨some 56, none, .mv (.tm 55)⟩,
       ⟨some 57, (some (56, false)), .mv (.tm 8)⟩,
       ⟨some 58, (some (56, false)), .un .not (.tm 57)⟩,
       ⟨some 59, none, .pick (.tm 56) (.cn (.bool true)) (.tm 58)⟩])
     (.cond (.tm 59)
      (.seq (.ops [⟨some 2, none, .mv (.cn (.bool false))⟩])
      .ret)
      .skip))))))
    (.ops [⟨some 60, none, .bin .add .int (.tm 23) (.cn (.int .i64 (1)))⟩,
      ⟨some 23, none, .mv (.tm 60)⟩])))))))
  (.seq (.ops [⟨some 62, none, .mv (.tm 0)⟩,
    ⟨some 63, none, .call (.cn (.func (.func 10) #[] #[])) [.tm 62]⟩,
    ⟨some 61, none, .mv (.tm 63)⟩,
    ⟨some 64, none, .extract (.tm 61) 0⟩,
    ⟨some 65, none, .extract (.tm 61) 1⟩,
    ⟨some 9, none, .mv (.tm 64)⟩,
    ⟨some 10, none, .mv (.tm 65)⟩])
  (.seq (.ops [⟨some 66, none, .mv (.tm 0)⟩,
    ⟨some 67, none, .call (.cn (.func (.func 11) #[] #[])) [.tm 66]⟩,
    ⟨some 11, none, .mv (.tm 67)⟩])
  (.seq (.ops [⟨some 68, none, .mv (.tm 10)⟩,
    ⟨some 69, none, .mv (.tm 11)⟩,
    ⟨some 70, none, .bin .geq .int (.tm 69) (.cn (.int .i64 (0)))⟩,
    ⟨some 71, none, .bin .eql .bool (.tm 68) (.tm 70)⟩,
    ⟨some 72, none, .mv (.tm 71)⟩,
    ⟨some 73, (some (72, true)), .mv (.tm 9)⟩,
    ⟨some 74, (some (72, true)), .mv (.tm 11)⟩,
    ⟨some 75, (some (72, true)), .max [.tm 74, .cn (.int .i64 (0))]⟩,
    ⟨some 76, (some (72, true)), .bin .eql .int (.tm 73) (.tm 75)⟩,
    ⟨some 77, none, .pick (.tm 72) (.tm 76) (.cn (.bool false))⟩,
    ⟨some 2, none, .mv (.tm 77)⟩])
  .ret))))))))
def rt3 : List IRet := [.tm 2]
theorem ci3 : (Go.Proofs.Tryz.f3.body).bind (compile Go.Proofs.Tryz.prog Go.Proofs.Tryz.f3.ntmps) = some ir3 := by kernel_rfl
theorem cr3 : compileRets Go.Proofs.Tryz.prog Go.Proofs.Tryz.f3.results.toList = some rt3 := by kernel_rfl
def fn3 : XFn := ⟨ir3, rt3, 78⟩
theorem fk3 : FnOK Go.Proofs.Tryz.prog 3 fn3 := ⟨⟨_, _, Go.Proofs.Tryz.func3, rfl, by kernel_rfl, ci3, cr3, Go.Proofs.Tryz.ntmps3.symm⟩⟩

/-- gabelle/gabellelaw12.known -/
def ir6 : IR :=
  (.seq (.ops [⟨some 0, none, .mv (.cn (.bool false))⟩])
  (.seq (.ops [⟨some 9, none, .call (.cn (.func (.func 12) #[] #[])) []⟩,
    ⟨some 10, none, .call (.cn (.func (.func 12) #[] #[])) []⟩,
    ⟨some 11, none, .call (.cn (.func (.func 12) #[] #[])) []⟩,
    ⟨some 12, none, .call (.cn (.func (.func 12) #[] #[])) []⟩,
    ⟨some 1, none, .newv 49 [.slice none 0 0, .slice none 0 0, .slice none 0 0, .slice none 0 0, .slice none 0 0, .slice none 0 0, .slice none 0 0, .bool false, .int .u32 (0), .slice none 0 0, .slice none 0 0, .slice none 0 0]⟩,
    ⟨some 2, none, .newv 49 [.slice none 0 0, .slice none 0 0, .slice none 0 0, .slice none 0 0, .slice none 0 0, .slice none 0 0, .slice none 0 0, .bool false, .int .u32 (0), .slice none 0 0, .slice none 0 0, .slice none 0 0]⟩,
    ⟨some 3, none, .newv 49 [.slice none 0 0, .slice none 0 0, .slice none 0 0, .slice none 0 0, .slice none 0 0, .slice none 0 0, .slice none 0 0, .bool false, .int .u32 (0), .slice none 0 0, .slice none 0 0, .slice none 0 0]⟩,
    ⟨some 4, none, .newv 49 [.slice none 0 0, .slice none 0 0, .slice none 0 0, .slice none 0 0, .slice none 0 0, .slice none 0 0, .slice none 0 0, .bool false, .int .u32 (0), .slice none 0 0, .slice none 0 0, .slice none 0 0]⟩,
    ⟨none, none, .store 12 (.tm 1) (.tm 9)⟩,
    ⟨none, none, .store 12 (.tm 2) (.tm 10)⟩,
    ⟨none, none, .store 12 (.tm 3) (.tm 11)⟩,
    ⟨none, none, .store 12 (.tm 4) (.tm 12)⟩])
  (.seq (.ops [⟨some 13, none, .build [.string ⟨#[]⟩, .string ⟨#[]⟩, .int .u8 (0), .int .u32 (0), .int .u32 (0), .int .i64 (0), .int .u8 (0), .bool false] [(0, 1, (.cn (.string ⟨#[101, 110, 118]⟩))), (1, 1, (.cn (.string ⟨#[99, 97, 108, 108, 101, 114]⟩))), (3, 1, (.cn (.int .u32 (1))))]⟩,
    ⟨some 14, none, .bslice 75 1 [.string ⟨#[]⟩, .string ⟨#[]⟩, .int .u8 (0), .int .u32 (0), .int .u32 (0), .int .i64 (0), .int .u8 (0), .bool false] [(0, 8, (.tm 13))]⟩,
    ⟨some 15, none, .build [.string ⟨#[]⟩, .int .u8 (0), .int .u32 (0)] [(0, 1, (.cn (.string ⟨#[109, 97, 105, 110]⟩))), (2, 1, (.cn (.int .u32 (1))))]⟩,
    ⟨some 16, none, .bslice 52 1 [.string ⟨#[]⟩, .int .u8 (0), .int .u32 (0)] [(0, 3, (.tm 15))]⟩,
    ⟨some 17, none, .fieldAddr 1 (.tm 1)⟩,
    ⟨none, none, .store 1 (.tm 17) (.tm 14)⟩,
    ⟨some 18, none, .fieldAddr 6 (.tm 1)⟩,
    ⟨none, none, .store 1 (.tm 18) (.tm 16)⟩])
  (.seq (.draw (some [(some false, ⟨some 19, none, .build [.string ⟨#[]⟩, .string ⟨#[]⟩, .int .u8 (0), .int .u32 (0), .int .u32 (0), .int .i64 (0), .int .u8 (0), .bool false] [(0, 1, (.cn (.string ⟨#[101, 110, 118]⟩))), (1, 1, (.cn (.string ⟨#[115, 101, 110, 100, 101, 114]⟩))), (3, 1, (.cn (.int .u32 (2))))]⟩),
    (some true, ⟨some 21, none, .fieldAddr 6 (.tm 1)⟩),
    (some true, ⟨some 22, none, .load none (.tm 21)⟩),
    (none, ⟨some 20, none, .bslice 75 1 [.string ⟨#[]⟩, .string ⟨#[]⟩, .int .u8 (0), .int .u32 (0), .int .u32 (0), .int .i64 (0), .int .u8 (0), .bool false] [(0, 8, (.tm 19))]⟩),
    (some false, ⟨some 23, none, .fieldAddr 1 (.tm 2)⟩),
    (none, ⟨none, none, .store 1 (.tm 23) (.tm 20)⟩),
    (some false, ⟨some 24, none, .fieldAddr 6 (.tm 2)⟩),
    (none, ⟨none, none, .store 1 (.tm 24) (.tm 22)⟩)])
   [([], ⟨some 19, none, .build [.string ⟨#[]⟩, .string ⟨#[]⟩, .int .u8 (0), .int .u32 (0), .int .u32 (0), .int .i64 (0), .int .u8 (0), .bool false] [(0, 1, (.cn (.string ⟨#[101, 110, 118]⟩))), (1, 1, (.cn (.string ⟨#[115, 101, 110, 100, 101, 114]⟩))), (3, 1, (.cn (.int .u32 (2))))]⟩),
    ([0], ⟨some 20, none, .bslice 75 1 [.string ⟨#[]⟩, .string ⟨#[]⟩, .int .u8 (0), .int .u32 (0), .int .u32 (0), .int .i64 (0), .int .u8 (0), .bool false] [(0, 8, (.tm 19))]⟩),
    ([], ⟨some 21, none, .fieldAddr 6 (.tm 1)⟩),
    ([2], ⟨some 22, none, .load none (.tm 21)⟩),
    ([0, 1], ⟨some 23, none, .fieldAddr 1 (.tm 2)⟩),
    ([0, 1, 4], ⟨none, none, .store 1 (.tm 23) (.tm 20)⟩),
    ([0, 1, 2, 3, 4, 5], ⟨some 24, none, .fieldAddr 6 (.tm 2)⟩),
    ([0, 1, 2, 3, 4, 5, 6], ⟨none, none, .store 1 (.tm 24) (.tm 22)⟩)])
  (.seq (.ops [⟨some 25, none, .build [.int .u32 (0), .int .i64 (0)] [(1, 1, (.cn (.int .i64 (-1))))]⟩,
    ⟨some 26, none, .build [.string ⟨#[]⟩, .string ⟨#[]⟩, .int .u8 (0), .int .u32 (0), .int .u32 (0), .int .i64 (0), .int .u8 (0), .bool false] [(0, 1, (.cn (.string ⟨#[101, 110, 118]⟩))), (1, 1, (.cn (.string ⟨#[99, 97, 108, 108, 101, 114]⟩))), (2, 1, (.cn (.int .u8 (2)))), (4, 2, (.tm 25))]⟩,
    ⟨some 27, none, .bslice 75 1 [.string ⟨#[]⟩, .string ⟨#[]⟩, .int .u8 (0), .int .u32 (0), .int .u32 (0), .int .i64 (0), .int .u8 (0), .bool false] [(0, 8, (.tm 26))]⟩,
    ⟨some 28, none, .fieldAddr 1 (.tm 3)⟩,
    ⟨none, none, .store 1 (.tm 28) (.tm 27)⟩])
  (.seq (.ops [⟨some 29, none, .build [.int .u32 (0), .int .i64 (0)] [(0, 1, (.cn (.int .u32 (17)))), (1, 1, (.cn (.int .i64 (-1))))]⟩,
    ⟨some 30, none, .bslice 66 1 [.int .u32 (0), .int .i64 (0)] [(0, 2, (.tm 29))]⟩,
    ⟨some 31, none, .fieldAddr 4 (.tm 4)⟩,
    ⟨none, none, .store 1 (.tm 31) (.tm 30)⟩])
  (.seq (.ops [⟨some 33, none, .call (.cn (.func (.func 10) #[] #[])) [.cn (.string ⟨#[103, 97, 115, 95, 108, 101, 102, 116]⟩)]⟩,
    ⟨some 32, none, .mv (.tm 33)⟩,
    ⟨some 34, none, .extract (.tm 32) 0⟩,
    ⟨some 35, none, .extract (.tm 32) 1⟩,
    ⟨some 5, none, .mv (.tm 34)⟩,
    ⟨some 6, none, .mv (.tm 35)⟩])
  (.seq (.ops [⟨some 37, none, .call (.cn (.func (.func 10) #[] #[])) [.cn (.string ⟨#[109, 101, 116, 101, 114]⟩)]⟩,
    ⟨some 36, none, .mv (.tm 37)⟩,
    ⟨some 38, none, .extract (.tm 36) 0⟩,
    ⟨some 39, none, .extract (.tm 36) 1⟩,
    ⟨some 7, none, .mv (.tm 38)⟩,
    ⟨some 8, none, .mv (.tm 39)⟩])
  (.seq (.ops [⟨some 40, none, .build [.slice none 0 0, .slice none 0 0, .slice none 0 0, .slice none 0 0, .slice none 0 0, .slice none 0 0, .slice none 0 0, .bool false, .int .u32 (0), .slice none 0 0, .slice none 0 0, .slice none 0 0] []⟩,
    ⟨some 41, none, .call (.cn (.func (.func 13) #[] #[])) [.tm 40]⟩,
    ⟨some 42, none, .bin .eql .int (.tm 41) (.cn (.int .i64 (121)))⟩,
    ⟨some 43, none, .mv (.tm 42)⟩,
    ⟨some 44, (some (43, true)), .call (.cn (.func (.func 12) #[] #[])) []⟩,
    ⟨some 45, (some (43, true)), .call (.cn (.func (.func 13) #[] #[])) [.tm 44]⟩,
    ⟨some 46, (some (43, true)), .bin .eql .int (.tm 45) (.cn (.int .i64 (0)))⟩,
    ⟨some 47, none, .pick (.tm 43) (.tm 46) (.cn (.bool false))⟩,
    ⟨some 48, none, .mv (.tm 47)⟩,
    ⟨some 49, (some (48, true)), .load (some 12) (.tm 1)⟩,
    ⟨some 50, (some (48, true)), .call (.cn (.func (.func 13) #[] #[])) [.tm 49]⟩,
    ⟨some 51, (some (48, true)), .bin .eql .int (.tm 50) (.cn (.int .i64 (120)))⟩,
    ⟨some 52, none, .pick (.tm 48) (.tm 51) (.cn (.bool false))⟩,
    ⟨some 53, none, .mv (.tm 52)⟩,
    ⟨some 54, (some (53, true)), .load (some 12) (.tm 2)⟩,
    ⟨some 55, (some (53, true)), .call (.cn (.func (.func 13) #[] #[])) [.tm 54]⟩,
    ⟨some 56, (some (53, true)), .bin .eql .int (.tm 55) (.cn (.int .i64 (120)))⟩,
    ⟨some 57, none, .pick (.tm 53) (.tm 56) (.cn (.bool false))⟩,
    ⟨some 58, none, .mv (.tm 57)⟩,
    ⟨some 59, (some (58, true)), .load (some 12) (.tm 3)⟩,
    ⟨some 60, (some (58, true)), .call (.cn (.func (.func 13) #[] #[])) [.tm 59]⟩,
    ⟨some 61, (some (58, true)), .bin .eql .int (.tm 60) (.cn (.int .i64 (120)))⟩,
    ⟨some 62, none, .pick (.tm 58) (.tm 61) (.cn (.bool false))⟩,
    ⟨some 63, none, .mv (.tm 62)⟩,
    ⟨some 64, (some (63, true)), .load (some 12) (.tm 4)⟩,
    ⟨some 65, (some (63, true)), .call (.cn (.func (.func 13) #[] #[])) [.tm 64]⟩,
    ⟨some 66, (some (63, true)), .bin .eql .int (.tm 65) (.cn (.int .i64 (122)))⟩,
    ⟨some 67, none, .pick (.tm 63) (.tm 66) (.cn (.bool false))⟩,
    ⟨some 68, none, .mv (.tm 67)⟩,
    ⟨some 69, (some (68, true)), .mv (.tm 5)⟩,
    ⟨some 70, (some (68, true)), .bin .eql .int (.tm 69) (.cn (.int .i64 (15)))⟩,
    ⟨some 71, none, .pick (.tm 68) (.tm 70) (.cn (.bool false))⟩,
    ⟨some 72, none, .mv (.tm 71)⟩,
    ⟨some 73, (some (72, true)), .mv (.tm 6)⟩,
    ⟨some 74, none, .pick (.tm 72) (.tm 73) (.cn (.bool false))⟩,
    ⟨some 75, none, .mv (.tm 74)⟩,
    ⟨some 76, (some (75, true)), .mv (.tm 8)⟩,
    ⟨some 77, (some (75, true)), .un .not (.tm 76)⟩,
    ⟨some 78, none, .pick (.tm 75) (.tm 77) (.cn (.bool false))⟩,
    ⟨some 0, none, .mv (.tm 78)⟩])
  .ret)))))))))
def rt6 : List IRet := [.tm 0]
theorem ci6 : (Go.Proofs.Tryz.f6.body).bind (compile Go.Proofs.Tryz.prog Go.Proofs.Tryz.f6.ntmps) = some ir6 := by kernel_rfl
theorem cr6 : compileRets Go.Proofs.Tryz.prog Go.Proofs.Tryz.f6.results.toList = some rt6 := by kernel_rfl
def fn6 : XFn := ⟨ir6, rt6, 79⟩
theorem fk6 : FnOK Go.Proofs.Tryz.prog 6 fn6 := ⟨⟨_, _, Go.Proofs.Tryz.func6, rfl, by kernel_rfl, ci6, cr6, Go.Proofs.Tryz.ntmps6.symm⟩⟩

/-- gabelle/rule.Hosts -/
def ir7 : IR :=
  (.seq (.ops [⟨some 0, none, .mv (.cn (.slice none 0 0))⟩])
  (.seq (.ops [⟨some 1, none, .mv (.cn (.slice none 0 0))⟩])
  (.seq (.ops [⟨some 7, none, .build [.string ⟨#[]⟩, .slice none 0 0, .slice none 0 0] []⟩,
    ⟨some 2, none, .newv 31 [.string ⟨#[]⟩, .slice none 0 0, .slice none 0 0]⟩,
    ⟨none, none, .store 3 (.tm 2) (.tm 7)⟩])
  (.seq (.ops [⟨some 8, none, .fieldAddr 1 (.tm 2)⟩,
    ⟨some 9, none, .fieldAddr 0 (.tm 8)⟩,
    ⟨some 3, none, .mv (.tm 9)⟩])
  (.seq (.ops [⟨some 4, none, .mv (.cn (.bool false))⟩])
  (.seq (.seq (.ops [⟨some 10, none, .rangeStr (.cn (.string ⟨#[105, 110, 112, 117, 116, 95, 108, 101, 110, 32, 62, 105, 124, 105, 110, 112, 117, 116, 32, 105, 105, 105, 62, 124, 99, 97, 108, 108, 101, 114, 32, 105, 62, 124, 115, 101, 108, 102, 32, 105, 62, 124, 118, 97, 108, 117, 101, 32, 62, 73, 124, 98, 97, 108, 97, 110, 99, 101, 32, 105, 62, 73, 124, 114, 101, 97, 100, 32, 105, 105, 105, 105, 62, 105, 124, 119, 114, 105, 116, 101, 32, 105, 105, 105, 105, 62, 124, 114, 101, 109, 111, 118, 101, 32, 105, 105, 62, 105, 124, 101, 109, 105, 116, 32, 105, 105, 62, 124, 99, 97, 108, 108, 32, 105, 73, 73, 105, 105, 62, 105, 124, 114, 101, 116, 95, 108, 101, 110, 32, 62, 105, 124, 114, 101, 116, 32, 105, 105, 105, 62, 124, 102, 105, 110, 105, 115, 104, 32, 105, 105, 62, 124, 114, 101, 118, 101, 114, 116, 32, 105, 105, 62, 124, 103, 97, 115, 95, 108, 101, 102, 116, 32, 62, 73]⟩))⟩])
  (.block 0
   (.loop
    (.seq (.ops [⟨some 11, none, .next (.tm 10) true⟩,
      ⟨some 12, none, .extract (.tm 11) 0⟩])
    (.seq (.cond (.tm 12)
     .skip
     (.exit 0))
    (.block 1
     (.seq (.ops [⟨some 13, none, .extract (.tm 11) 2⟩,
       ⟨some 6, none, .mv (.tm 13)⟩])
     (.block 2
      (.seq (.ops [⟨some 22, none, .mv (.tm 6)⟩,
        ⟨some 23, none, .bin .eql .int (.tm 22) (.cn (.int .i32 (124)))⟩,
        ⟨some 21, none, .mv (.tm 23)⟩])
      (.cond (.tm 21)
       (.seq (.ops [⟨some 24, none, .mv (.tm 1)⟩,
         ⟨some 25, none, .load (some 3) (.tm 2)⟩,
         ⟨some 26, none, .bslice 31 1 [.string ⟨#[]⟩, .slice none 0 0, .slice none 0 0] [(0, 3, (.tm 25))]⟩,
         ⟨some 27, none, .append 31 3 64 [.string ⟨#[]⟩, .slice none 0 0, .slice none 0 0] (.tm 24) (.tm 26)⟩,
         ⟨some 1, none, .mv (.tm 27)⟩])
       (.seq (.ops [⟨some 28, none, .build [.string ⟨#[]⟩, .slice none 0 0, .slice none 0 0] []⟩,
         ⟨none, none, .store 3 (.tm 2) (.tm 28)⟩,
         ⟨some 4, none, .mv (.cn (.bool false))⟩])
       (.ops [⟨some 29, none, .fieldAddr 1 (.tm 2)⟩,
         ⟨some 30, none, .fieldAddr 0 (.tm 29)⟩,
         ⟨some 3, none, .mv (.tm 30)⟩])))
       (.seq (.ops [⟨some 32, none, .mv (.tm 6)⟩,
         ⟨some 33, none, .bin .eql .int (.tm 32) (.cn (.int .i32 (32)))⟩,
         ⟨some 31, none, .mv (.tm 33)⟩])
       (.cond (.tm 31)
        (.ops [⟨some 4, none, .mv (.cn (.bool true))⟩])
        (.seq (.ops [⟨some 35, none, .mv (.tm 4)⟩,
          ⟨some 36, none, .un .not (.tm 35)⟩,
          ⟨some 34, none, .mv (.tm 36)⟩])
        (.cond (.tm 34)
         (.ops [⟨some 37, none, .fieldAddr 0 (.tm 2)⟩,
           ⟨some 38, none, .load none (.tm 37)⟩,
           ⟨some 39, none, .mv (.tm 6)⟩,
           ⟨some 40, none, .conv .intStr (.tm 39)⟩,
           ⟨some 41, none, .bin .add .str (.tm 38) (.tm 40)⟩,
           ⟨some 42, none, .fieldAddr 0 (.tm 2)⟩,
           ⟨none, none, .store 1 (.tm 42) (.tm 41)⟩])
         (.seq (.ops [⟨some 44, none, .mv (.tm 6)⟩,
           ⟨some 45, none, .bin .eql .int (.tm 44) (.cn (.int .i32 (62)))⟩,
           ⟨some 43, none, .mv (.tm 45)⟩])
         (.cond (.tm 43)
          (.ops [⟨some 46, none, .fieldAddr 1 (.tm 2)⟩,
            ⟨some 47, none, .fieldAddr 1 (.tm 46)⟩,
            ⟨some 3, none, .mv (.tm 47)⟩])
          (.seq (.ops [⟨some 49, none, .mv (.tm 6)⟩,
            ⟨some 50, none, .bin .eql .int (.tm 49) (.cn (.int .i32 (105)))⟩,
            ⟨some 48, none, .mv (.tm 50)⟩])
          (.cond (.tm 48)
           (.ops [⟨some 51, none, .mv (.tm 3)⟩,
             ⟨some 52, none, .mv (.tm 3)⟩,
             ⟨some 53, none, .nilCheck (.tm 52)⟩,
             ⟨some 54, none, .load none (.tm 53)⟩,
             ⟨some 55, none, .bslice 5 1 [.int .u8 (0)] [(0, 1, (.cn (.int .u8 (127))))]⟩,
             ⟨some 56, none, .append 5 1 1 [.int .u8 (0)] (.tm 54) (.tm 55)⟩,
             ⟨some 57, none, .nilCheck (.tm 51)⟩,
             ⟨none, none, .store 1 (.tm 57) (.tm 56)⟩])
           (.ops [⟨some 14, none, .mv (.tm 3)⟩,
             ⟨some 15, none, .mv (.tm 3)⟩,
             ⟨some 16, none, .nilCheck (.tm 15)⟩,
             ⟨some 17, none, .load none (.tm 16)⟩,
             ⟨some 18, none, .bslice 5 1 [.int .u8 (0)] [(0, 1, (.cn (.int .u8 (126))))]⟩,
             ⟨some 19, none, .append 5 1 1 [.int .u8 (0)] (.tm 17) (.tm 18)⟩,
             ⟨some 20, none, .nilCheck (.tm 14)⟩,
             ⟨none, none, .store 1 (.tm 20) (.tm 19)⟩])))))))))))))))))))
  (.seq (.ops [⟨some 58, none, .mv (.tm 1)⟩,
    ⟨some 59, none, .load (some 3) (.tm 2)⟩,
    ⟨some 60, none, .bslice 31 1 [.string ⟨#[]⟩, .slice none 0 0, .slice none 0 0] [(0, 3, (.tm 59))]⟩,
    ⟨some 61, none, .append 31 3 64 [.string ⟨#[]⟩, .slice none 0 0, .slice none 0 0] (.tm 58) (.tm 60)⟩,
    ⟨some 0, none, .mv (.tm 61)⟩])
  .ret)))))))
def rt7 : List IRet := [.tm 0]
theorem ci7 : (Go.Proofs.Tryz.f7.body).bind (compile Go.Proofs.Tryz.prog Go.Proofs.Tryz.f7.ntmps) = some ir7 := by kernel_rfl
theorem cr7 : compileRets Go.Proofs.Tryz.prog Go.Proofs.Tryz.f7.results.toList = some rt7 := by kernel_rfl
def fn7 : XFn := ⟨ir7, rt7, 62⟩
theorem fk7 : FnOK Go.Proofs.Tryz.prog 7 fn7 := ⟨⟨_, _, Go.Proofs.Tryz.func7, rfl, by kernel_rfl, ci7, cr7, Go.Proofs.Tryz.ntmps7.symm⟩⟩

/-- gabelle/gabelleref12.Hosts -/
def ir8 : IR :=
  (.seq (.ops [⟨some 0, none, .mv (.cn (.slice none 0 0))⟩])
  (.seq (.ops [⟨some 1, none, .bslice 5 1 [.int .u8 (0)] [(0, 1, (.cn (.int .u8 (127))))]⟩,
    ⟨some 2, none, .build [.slice none 0 0, .slice none 0 0] [(0, 1, (.cn (.slice none 0 0))), (1, 1, (.tm 1))]⟩,
    ⟨some 3, none, .build [.string ⟨#[]⟩, .slice none 0 0, .slice none 0 0] [(0, 1, (.cn (.string ⟨#[105, 110, 112, 117, 116, 95, 108, 101, 110]⟩))), (1, 2, (.tm 2))]⟩,
    ⟨some 4, none, .bslice 5 3 [.int .u8 (0), .int .u8 (0), .int .u8 (0)] [(0, 1, (.cn (.int .u8 (127)))), (1, 1, (.cn (.int .u8 (127)))), (2, 1, (.cn (.int .u8 (127))))]⟩,
    ⟨some 5, none, .build [.slice none 0 0, .slice none 0 0] [(0, 1, (.tm 4)), (1, 1, (.cn (.slice none 0 0)))]⟩,
    ⟨some 6, none, .build [.string ⟨#[]⟩, .slice none 0 0, .slice none 0 0] [(0, 1, (.cn (.string ⟨#[105, 110, 112, 117, 116]⟩))), (1, 2, (.tm 5))]⟩,
    ⟨some 7, none, .bslice 5 1 [.int .u8 (0)] [(0, 1, (.cn (.int .u8 (127))))]⟩,
    ⟨some 8, none, .build [.slice none 0 0, .slice none 0 0] [(0, 1, (.tm 7)), (1, 1, (.cn (.slice none 0 0)))]⟩,
    ⟨some 9, none, .build [.string ⟨#[]⟩, .slice none 0 0, .slice none 0 0] [(0, 1, (.cn (.string ⟨#[99, 97, 108, 108, 101, 114]⟩))), (1, 2, (.tm 8))]⟩,
    ⟨some 10, none, .bslice 5 1 [.int .u8 (0)] [(0, 1, (.cn (.int .u8 (127))))]⟩,
    ⟨some 11, none, .build [.slice none 0 0, .slice none 0 0] [(0, 1, (.tm 10)), (1, 1, (.cn (.slice none 0 0)))]⟩,
    ⟨some 12, none, .build [.string ⟨#[]⟩, .slice none 0 0, .slice none 0 0] [(0, 1, (.cn (.string ⟨#[115, 101, 108, 102]⟩))), (1, 2, (.tm 11))]⟩,
    ⟨some 13, none, .bslice 5 1 [.int .u8 (0)] [(0, 1, (.cn (.int .u8 (126))))]⟩,
    ⟨some 14, none, .build [.slice none 0 0, .slice none 0 0] [(0, 1, (.cn (.slice none 0 0))), (1, 1, (.tm 13))]⟩,
    ⟨some 15, none, .build [.string ⟨#[]⟩, .slice none 0 0, .slice none 0 0] [(0, 1, (.cn (.string ⟨#[118, 97, 108, 117, 101]⟩))), (1, 2, (.tm 14))]⟩,
    ⟨some 16, none, .bslice 5 1 [.int .u8 (0)] [(0, 1, (.cn (.int .u8 (127))))]⟩,
    ⟨some 17, none, .bslice 5 1 [.int .u8 (0)] [(0, 1, (.cn (.int .u8 (126))))]⟩,
    ⟨some 18, none, .build [.slice none 0 0, .slice none 0 0] [(0, 1, (.tm 16)), (1, 1, (.tm 17))]⟩,
    ⟨some 19, none, .build [.string ⟨#[]⟩, .slice none 0 0, .slice none 0 0] [(0, 1, (.cn (.string ⟨#[98, 97, 108, 97, 110, 99, 101]⟩))), (1, 2, (.tm 18))]⟩,
    ⟨some 20, none, .bslice 5 4 [.int .u8 (0), .int .u8 (0), .int .u8 (0), .int .u8 (0)] [(0, 1, (.cn (.int .u8 (127)))), (1, 1, (.cn (.int .u8 (127)))), (2, 1, (.cn (.int .u8 (127)))), (3, 1, (.cn (.int .u8 (127))))]⟩,
    ⟨some 21, none, .bslice 5 1 [.int .u8 (0)] [(0, 1, (.cn (.int .u8 (127))))]⟩,
    ⟨some 22, none, .build [.slice none 0 0, .slice none 0 0] [(0, 1, (.tm 20)), (1, 1, (.tm 21))]⟩,
    ⟨some 23, none, .build [.string ⟨#[]⟩, .slice none 0 0, .slice none 0 0] [(0, 1, (.cn (.string ⟨#[114, 101, 97, 100]⟩))), (1, 2, (.tm 22))]⟩,
    ⟨some 24, none, .bslice 5 4 [.int .u8 (0), .int .u8 (0), .int .u8 (0), .int .u8 (0)] [(0, 1, (.cn (.int .u8 (127)))), (1, 1, (.cn (.int .u8 (127)))), (2, 1, (.cn (.int .u8 (127)))), (3, 1, (.cn (.int .u8 (127))))]⟩,
    ⟨some 25, none, .build [.slice none 0 0, .slice none 0 0] [(0, 1, (.tm 24)), (1, 1, (.cn (.slice none 0 0)))]⟩,
    ⟨some 26, none, .build [.string ⟨#[]⟩, .slice none 0 0, .slice none 0 0] [(0, 1, (.cn (.string ⟨#[119, 114, 105, 116, 101]⟩))), (1, 2, (.tm 25))]⟩,
    ⟨some 27, none, .bslice 5 2 [.int .u8 (0), .int .u8 (0)] [(0, 1, (.cn (.int .u8 (127)))), (1, 1, (.cn (.int .u8 (127))))]⟩,
    ⟨some 28, none, .bslice 5 1 [.int .u8 (0)] [(0, 1, (.cn (.int .u8 (127))))]⟩,
    ⟨some 29, none, .build [.slice none 0 0, .slice none 0 0] [(0, 1, (.tm 27)), (1, 1, (.tm 28))]⟩,
    ⟨some 30, none, .build [.string ⟨#[]⟩, .slice none 0 0, .slice none 0 0] [(0, 1, (.cn (.string ⟨#[114, 101, 109, 111, 118, 101]⟩))), (1, 2, (.tm 29))]⟩,
    ⟨some 31, none, .bslice 5 2 [.int .u8 (0), .int .u8 (0)] [(0, 1, (.cn (.int .u8 (127)))), (1, 1, (.cn (.int .u8 (127))))]⟩,
    ⟨some 32, none, .build [.slice none 0 0, .slice none 0 0] [(0, 1, (.tm 31)), (1, 1, (.cn (.slice none 0 0)))]⟩,
    ⟨some 33, none, .build [.string ⟨#[]⟩, .slice none 0 0, .slice none 0 0] [(0, 1, (.cn (.string ⟨#[101, 109, 105, 116]⟩))), (1, 2, (.tm 32))]⟩,
    ⟨some 34, none, .bslice 5 5 [.int .u8 (0), .int .u8 (0), .int .u8 (0), .int .u8 (0), .int .u8 (0)] [(0, 1, (.cn (.int .u8 (127)))), (1, 1, (.cn (.int .u8 (126)))), (2, 1, (.cn (.int .u8 (126)))), (3, 1, (.cn (.int .u8 (127)))), (4, 1, (.cn (.int .u8 (127))))]⟩,
    ⟨some 35, none, .bslice 5 1 [.int .u8 (0)] [(0, 1, (.cn (.int .u8 (127))))]⟩,
    ⟨some 36, none, .build [.slice none 0 0, .slice none 0 0] [(0, 1, (.tm 34)), (1, 1, (.tm 35))]⟩,
    ⟨some 37, none, .build [.string ⟨#[]⟩, .slice none 0 0, .slice none 0 0] [(0, 1, (.cn (.string ⟨#[99, 97, 108, 108]⟩))), (1, 2, (.tm 36))]⟩,
    ⟨some 38, none, .bslice 5 1 [.int .u8 (0)] [(0, 1, (.cn (.int .u8 (127))))]⟩,
    ⟨some 39, none, .build [.slice none 0 0, .slice none 0 0] [(0, 1, (.cn (.slice none 0 0))), (1, 1, (.tm 38))]⟩,
    ⟨some 40, none, .build [.string ⟨#[]⟩, .slice none 0 0, .slice none 0 0] [(0, 1, (.cn (.string ⟨#[114, 101, 116, 95, 108, 101, 110]⟩))), (1, 2, (.tm 39))]⟩,
    ⟨some 41, none, .bslice 5 3 [.int .u8 (0), .int .u8 (0), .int .u8 (0)] [(0, 1, (.cn (.int .u8 (127)))), (1, 1, (.cn (.int .u8 (127)))), (2, 1, (.cn (.int .u8 (127))))]⟩,
    ⟨some 42, none, .build [.slice none 0 0, .slice none 0 0] [(0, 1, (.tm 41)), (1, 1, (.cn (.slice none 0 0)))]⟩,
    ⟨some 43, none, .build [.string ⟨#[]⟩, .slice none 0 0, .slice none 0 0] [(0, 1, (.cn (.string ⟨#[114, 101, 116]⟩))), (1, 2, (.tm 42))]⟩,
    ⟨some 44, none, .bslice 5 2 [.int .u8 (0), .int .u8 (0)] [(0, 1, (.cn (.int .u8 (127)))), (1, 1, (.cn (.int .u8 (127))))]⟩,
    ⟨some 45, none, .build [.slice none 0 0, .slice none 0 0] [(0, 1, (.tm 44)), (1, 1, (.cn (.slice none 0 0)))]⟩,
    ⟨some 46, none, .build [.string ⟨#[]⟩, .slice none 0 0, .slice none 0 0] [(0, 1, (.cn (.string ⟨#[102, 105, 110, 105, 115, 104]⟩))), (1, 2, (.tm 45))]⟩,
    ⟨some 47, none, .bslice 5 2 [.int .u8 (0), .int .u8 (0)] [(0, 1, (.cn (.int .u8 (127)))), (1, 1, (.cn (.int .u8 (127))))]⟩,
    ⟨some 48, none, .build [.slice none 0 0, .slice none 0 0] [(0, 1, (.tm 47)), (1, 1, (.cn (.slice none 0 0)))]⟩,
    ⟨some 49, none, .build [.string ⟨#[]⟩, .slice none 0 0, .slice none 0 0] [(0, 1, (.cn (.string ⟨#[114, 101, 118, 101, 114, 116]⟩))), (1, 2, (.tm 48))]⟩,
    ⟨some 50, none, .bslice 5 1 [.int .u8 (0)] [(0, 1, (.cn (.int .u8 (126))))]⟩,
    ⟨some 51, none, .build [.slice none 0 0, .slice none 0 0] [(0, 1, (.cn (.slice none 0 0))), (1, 1, (.tm 50))]⟩,
    ⟨some 52, none, .build [.string ⟨#[]⟩, .slice none 0 0, .slice none 0 0] [(0, 1, (.cn (.string ⟨#[103, 97, 115, 95, 108, 101, 102, 116]⟩))), (1, 2, (.tm 51))]⟩,
    ⟨some 53, none, .bslice 32 16 [.string ⟨#[]⟩, .slice none 0 0, .slice none 0 0, .string ⟨#[]⟩, .slice none 0 0, .slice none 0 0, .string ⟨#[]⟩, .slice none 0 0, .slice none 0 0, .string ⟨#[]⟩, .slice none 0 0, .slice none 0 0, .string ⟨#[]⟩, .slice none 0 0, .slice none 0 0, .string ⟨#[]⟩, .slice none 0 0, .slice none 0 0, .string ⟨#[]⟩, .slice none 0 0, .slice none 0 0, .string ⟨#[]⟩, .slice none 0 0, .slice none 0 0, .string ⟨#[]⟩, .slice none 0 0, .slice none 0 0, .string ⟨#[]⟩, .slice none 0 0, .slice none 0 0, .string ⟨#[]⟩, .slice none 0 0, .slice none 0 0, .string ⟨#[]⟩, .slice none 0 0, .slice none 0 0, .string ⟨#[]⟩, .slice none 0 0, .slice none 0 0, .string ⟨#[]⟩, .slice none 0 0, .slice none 0 0, .string ⟨#[]⟩, .slice none 0 0, .slice none 0 0, .string ⟨#[]⟩, .slice none 0 0, .slice none 0 0] [(0, 3, (.tm 3)), (3, 3, (.tm 6)), (6, 3, (.tm 9)), (9, 3, (.tm 12)), (12, 3, (.tm 15)), (15, 3, (.tm 19)), (18, 3, (.tm 23)), (21, 3, (.tm 26)), (24, 3, (.tm 30)), (27, 3, (.tm 33)), (30, 3, (.tm 37)), (33, 3, (.tm 40)), (36, 3, (.tm 43)), (39, 3, (.tm 46)), (42, 3, (.tm 49)), (45, 3, (.tm 52))]⟩,
    ⟨some 0, none, .mv (.tm 53)⟩])
  .ret))
def rt8 : List IRet := [.tm 0]
theorem ci8 : (Go.Proofs.Tryz.f8.body).bind (compile Go.Proofs.Tryz.prog Go.Proofs.Tryz.f8.ntmps) = some ir8 := by kernel_rfl
theorem cr8 : compileRets Go.Proofs.Tryz.prog Go.Proofs.Tryz.f8.results.toList = some rt8 := by kernel_rfl
def fn8 : XFn := ⟨ir8, rt8, 54⟩
theorem fk8 : FnOK Go.Proofs.Tryz.prog 8 fn8 := ⟨⟨_, _, Go.Proofs.Tryz.func8, rfl, by kernel_rfl, ci8, cr8, Go.Proofs.Tryz.ntmps8.symm⟩⟩

/-- gabelle/gabelleref08.Same -/
def ir9 : IR :=
  (.seq (.ops [⟨some 2, none, .box 29 (.tm 0)⟩,
    ⟨some 3, none, .box 29 (.tm 1)⟩,
    ⟨some 4, none, .mv (.cn (.bool false))⟩])
  (.seq (.ops [⟨some 5, none, .fieldAddr 0 (.tm 2)⟩,
    ⟨some 6, none, .load none (.tm 5)⟩,
    ⟨some 7, none, .conv .bytesStr (.tm 6)⟩,
    ⟨some 8, none, .fieldAddr 0 (.tm 3)⟩,
    ⟨some 9, none, .load none (.tm 8)⟩,
    ⟨some 10, none, .conv .bytesStr (.tm 9)⟩,
    ⟨some 11, none, .bin .eql .str (.tm 7) (.tm 10)⟩,
    ⟨some 12, none, .mv (.tm 11)⟩,
    ⟨some 13, (some (12, true)), .fieldAddr 1 (.tm 2)⟩,
    ⟨some 14, (some (12, true)), .load none (.tm 13)⟩,
    ⟨some 15, (some (12, true)), .conv .bytesStr (.tm 14)⟩,
    ⟨some 16, (some (12, true)), .fieldAddr 1 (.tm 3)⟩,
    ⟨some 17, (some (12, true)), .load none (.tm 16)⟩,
    ⟨some 18, (some (12, true)), .conv .bytesStr (.tm 17)⟩,
    ⟨some 19, (some (12, true)), .bin .eql .str (.tm 15) (.tm 18)⟩,
    ⟨some 20, none, .pick (.tm 12) (.tm 19) (.cn (.bool false))⟩,
    ⟨some 4, none, .mv (.tm 20)⟩])
  .ret))
def rt9 : List IRet := [.tm 4]
theorem ci9 : (Go.Proofs.Tryz.f9.body).bind (compile Go.Proofs.Tryz.prog Go.Proofs.Tryz.f9.ntmps) = some ir9 := by kernel_rfl
theorem cr9 : compileRets Go.Proofs.Tryz.prog Go.Proofs.Tryz.f9.results.toList = some rt9 := by kernel_rfl
def fn9 : XFn := ⟨ir9, rt9, 21⟩
theorem fk9 : FnOK Go.Proofs.Tryz.prog 9 fn9 := ⟨⟨_, _, Go.Proofs.Tryz.func9, rfl, by kernel_rfl, ci9, cr9, Go.Proofs.Tryz.ntmps9.symm⟩⟩

/-- gabelle/rule.Find -/
def ir10 : IR :=
  (.seq (.ops [⟨some 2, none, .mv (.cn (.int .i64 (0)))⟩,
    ⟨some 3, none, .mv (.cn (.bool false))⟩])
  (.seq (.seq (.ops [⟨some 6, none, .call (.cn (.func (.func 7) #[] #[])) []⟩,
    ⟨some 7, none, .len .sl (.tm 6)⟩,
    ⟨some 8, none, .mv (.cn (.int .i64 (0)))⟩])
  (.block 0
   (.loop
    (.seq (.ops [⟨some 9, none, .bin .lss .int (.tm 8) (.tm 7)⟩])
    (.seq (.cond (.tm 9)
     .skip
     (.exit 0))
    (.seq (.block 1
     (.seq (.ops [⟨some 10, none, .mv (.tm 8)⟩,
       ⟨some 11, none, .idxAddr 3 none (.tm 6) (.tm 8)⟩,
       ⟨some 12, none, .load (some 3) (.tm 11)⟩,
       ⟨some 5, none, .newv 31 [.string ⟨#[]⟩, .slice none 0 0, .slice none 0 0]⟩,
       ⟨some 4, none, .mv (.tm 10)⟩,
       ⟨none, none, .store 3 (.tm 5) (.tm 12)⟩])
     (.seq (.ops [⟨some 13, none, .fieldAddr 0 (.tm 5)⟩,
       ⟨some 14, none, .load none (.tm 13)⟩,
       ⟨some 15, none, .mv (.tm 0)⟩,
       ⟨some 16, none, .bin .eql .str (.tm 14) (.tm 15)⟩])
     (.cond (.tm 16)
      (.seq (.ops [⟨some 17, none, .mv (.tm 4)⟩,
        ⟨some 2, none, .mv (.tm 17)⟩,
        ⟨some 3, none, .mv (.cn (.bool true))⟩])
      .ret)
      .skip))))
    (.ops [⟨some 18, none, .bin .add .int (.tm 8) (.cn (.int .i64 (1)))⟩,
      ⟨some 8, none, .mv (.tm 18)⟩])))))))
  (.seq (.ops [⟨some 2, none, .mv (.cn (.int .i64 (0)))⟩,
    ⟨some 3, none, .mv (.cn (.bool false))⟩])
  .ret)))
def rt10 : List IRet := [.tm 2, .tm 3]
theorem ci10 : (Go.Proofs.Tryz.f10.body).bind (compile Go.Proofs.Tryz.prog Go.Proofs.Tryz.f10.ntmps) = some ir10 := by kernel_rfl
theorem cr10 : compileRets Go.Proofs.Tryz.prog Go.Proofs.Tryz.f10.results.toList = some rt10 := by kernel_rfl
def fn10 : XFn := ⟨ir10, rt10, 19⟩
theorem fk10 : FnOK Go.Proofs.Tryz.prog 10 fn10 := ⟨⟨_, _, Go.Proofs.Tryz.func10, rfl, by kernel_rfl, ci10, cr10, Go.Proofs.Tryz.ntmps10.symm⟩⟩

/-- gabelle/gabelleref12.Find -/
def ir11 : IR :=
  (.seq (.ops [⟨some 2, none, .mv (.cn (.int .i64 (0)))⟩])
  (.seq (.ops [⟨some 5, none, .call (.cn (.func (.func 8) #[] #[])) []⟩,
    ⟨some 3, none, .mv (.tm 5)⟩])
  (.seq (.seq (.ops [⟨some 4, none, .mv (.cn (.int .i64 (0)))⟩])
  (.block 0
   (.loop
    (.seq (.seq (.ops [⟨some 6, none, .mv (.tm 4)⟩,
      ⟨some 7, none, .mv (.tm 3)⟩,
      ⟨some 8, none, .len .sl (.tm 7)⟩,
      ⟨some 9, none, .bin .lss .int (.tm 6) (.tm 8)⟩])
    (.cond (.tm 9)
     .skip
     (.exit 0)))
    (.seq (.block 1
     (.seq (.ops [⟨some 12, none, .mv (.tm 3)⟩,
       ⟨some 13, none, .mv (.tm 4)⟩,
       ⟨some 14, none, .idxAddr 3 none (.tm 12) (.tm 13)⟩,
       ⟨some 15, none, .fieldAddr 0 (.tm 14)⟩,
       ⟨some 16, none, .load none (.tm 15)⟩,
       ⟨some 17, none, .mv (.tm 0)⟩,
       ⟨some 18, none, .bin .eql .str (.tm 16) (.tm 17)⟩])
     (.cond (.tm 18)
      (.seq (.ops [⟨some 19, none, .mv (.tm 4)⟩,
        ⟨some 2, none, .mv (.tm 19)⟩])
      .ret)
      .skip)))
    (.ops [⟨some 10, none, .mv (.tm 4)⟩,
      ⟨some 11, none, .bin .add .int (.tm 10) (.cn (.int .i64 (1)))⟩,
      ⟨some 4, none, .mv (.tm 11)⟩]))))))
  (.seq (.ops [⟨some 2, none, .mv (.cn (.int .i64 (-1)))⟩])
  .ret))))
def rt11 : List IRet := [.tm 2]
theorem ci11 : (Go.Proofs.Tryz.f11.body).bind (compile Go.Proofs.Tryz.prog Go.Proofs.Tryz.f11.ntmps) = some ir11 := by kernel_rfl
theorem cr11 : compileRets Go.Proofs.Tryz.prog Go.Proofs.Tryz.f11.results.toList = some rt11 := by kernel_rfl
def fn11 : XFn := ⟨ir11, rt11, 20⟩
theorem fk11 : FnOK Go.Proofs.Tryz.prog 11 fn11 := ⟨⟨_, _, Go.Proofs.Tryz.func11, rfl, by kernel_rfl, ci11, cr11, Go.Proofs.Tryz.ntmps11.symm⟩⟩

/-- gabelle/gabellelaw12.least -/
def ir12 : IR :=
  (.seq (.ops [⟨some 0, none, .newv 49 [.slice none 0 0, .slice none 0 0, .slice none 0 0, .slice none 0 0, .slice none 0 0, .slice none 0 0, .slice none 0 0, .bool false, .int .u32 (0), .slice none 0 0, .slice none 0 0, .slice none 0 0]⟩])
  (.seq (.ops [⟨some 1, none, .build [.slice none 0 0, .slice none 0 0] []⟩,
    ⟨some 2, none, .bslice 5 1 [.int .u8 (0)] [(0, 1, (.cn (.int .u8 (126))))]⟩,
    ⟨some 3, none, .build [.slice none 0 0, .slice none 0 0] [(0, 1, (.tm 2))]⟩,
    ⟨some 4, none, .bslice 5 1 [.int .u8 (0)] [(0, 1, (.cn (.int .u8 (127))))]⟩,
    ⟨some 5, none, .build [.slice none 0 0, .slice none 0 0] [(0, 1, (.tm 4))]⟩,
    ⟨some 6, none, .bslice 29 3 [.slice none 0 0, .slice none 0 0, .slice none 0 0, .slice none 0 0, .slice none 0 0, .slice none 0 0] [(0, 2, (.tm 1)), (2, 2, (.tm 3)), (4, 2, (.tm 5))]⟩,
    ⟨some 7, none, .bslice 44 1 [.int .u32 (0)] [(0, 1, (.cn (.int .u32 (0))))]⟩,
    ⟨some 8, none, .build [.slice none 0 0, .slice none 0 0] []⟩,
    ⟨some 9, none, .bslice 64 1 [.slice none 0 0, .slice none 0 0] [(0, 2, (.tm 8))]⟩,
    ⟨some 10, none, .build [.string ⟨#[]⟩, .int .u8 (0), .int .u32 (0)] [(0, 1, (.cn (.string ⟨#[109, 97, 105, 110]⟩)))]⟩,
    ⟨some 11, none, .bslice 52 1 [.string ⟨#[]⟩, .int .u8 (0), .int .u32 (0)] [(0, 3, (.tm 10))]⟩,
    ⟨some 12, none, .build [.slice none 0 0, .slice none 0 0, .slice none 0 0, .slice none 0 0, .slice none 0 0, .slice none 0 0, .slice none 0 0, .bool false, .int .u32 (0), .slice none 0 0, .slice none 0 0, .slice none 0 0] [(0, 1, (.tm 6)), (2, 1, (.tm 7)), (10, 1, (.tm 9)), (6, 1, (.tm 11))]⟩,
    ⟨none, none, .store 12 (.tm 0) (.tm 12)⟩])
  .ret))
def rt12 : List IRet := [.cell 0 (some 12)]
theorem ci12 : (Go.Proofs.Tryz.f12.body).bind (compile Go.Proofs.Tryz.prog Go.Proofs.Tryz.f12.ntmps) = some ir12 := by kernel_rfl
theorem cr12 : compileRets Go.Proofs.Tryz.prog Go.Proofs.Tryz.f12.results.toList = some rt12 := by kernel_rfl
def fn12 : XFn := ⟨ir12, rt12, 13⟩
theorem fk12 : FnOK Go.Proofs.Tryz.prog 12 fn12 := ⟨⟨_, _, Go.Proofs.Tryz.func12, rfl, by kernel_rfl, ci12, cr12, Go.Proofs.Tryz.ntmps12.symm⟩⟩

/-- gabelle/rule.Check -/
def ir13 : IR :=
  (.seq (.ops [⟨some 1, none, .box 49 (.tm 0)⟩,
    ⟨some 2, none, .mv (.cn (.int .i64 (0)))⟩])
  (.seq (.ops [⟨some 7, none, .load (some 12) (.tm 1)⟩,
    ⟨some 8, none, .call (.cn (.func (.func 15) #[] #[])) [.tm 7]⟩,
    ⟨some 6, none, .mv (.tm 8)⟩,
    ⟨some 9, none, .extract (.tm 6) 0⟩,
    ⟨some 10, none, .extract (.tm 6) 1⟩,
    ⟨some 3, none, .mv (.tm 9)⟩,
    ⟨some 4, none, .mv (.tm 10)⟩])
  (.seq (.seq (.ops [⟨some 11, none, .mv (.tm 4)⟩,
    ⟨some 12, none, .bin .neq .int (.tm 11) (.cn (.int .i64 (0)))⟩])
  (.cond (.tm 12)
   (.seq (.ops [⟨some 13, none, .mv (.tm 4)⟩,
     ⟨some 2, none, .mv (.tm 13)⟩])
   .ret)
   .skip))
  (.seq (.ops [⟨some 14, none, .load (some 12) (.tm 1)⟩,
    ⟨some 15, none, .call (.cn (.func (.func 16) #[] #[])) [.tm 14]⟩,
    ⟨some 5, none, .mv (.tm 15)⟩])
  (.seq (.block 0
   (.seq (.ops [⟨some 17, none, .load (some 12) (.tm 1)⟩,
     ⟨some 18, none, .mv (.tm 5)⟩,
     ⟨some 19, none, .mv (.tm 3)⟩,
     ⟨some 20, none, .call (.cn (.func (.func 17) #[] #[])) [.tm 17, .tm 18, .tm 19]⟩,
     ⟨some 21, none, .un .not (.tm 20)⟩,
     ⟨some 16, none, .mv (.tm 21)⟩])
   (.cond (.tm 16)
    (.seq (.ops [⟨some 2, none, .mv (.cn (.int .i64 (122)))⟩])
    .ret)
    (.seq (.ops [⟨some 23, none, .load (some 12) (.tm 1)⟩,
      ⟨some 24, none, .mv (.tm 5)⟩,
      ⟨some 25, none, .call (.cn (.func (.func 18) #[] #[])) [.tm 23, .tm 24]⟩,
      ⟨some 26, none, .un .not (.tm 25)⟩,
      ⟨some 22, none, .mv (.tm 26)⟩])
    (.cond (.tm 22)
     (.seq (.ops [⟨some 2, none, .mv (.cn (.int .i64 (120)))⟩])
     .ret)
     (.seq (.ops [⟨some 28, none, .load (some 12) (.tm 1)⟩,
       ⟨some 29, none, .mv (.tm 5)⟩,
       ⟨some 30, none, .call (.cn (.func (.func 19) #[] #[])) [.tm 28, .tm 29]⟩,
       ⟨some 31, none, .un .not (.tm 30)⟩,
       ⟨some 27, none, .mv (.tm 31)⟩])
     (.cond (.tm 27)
      (.seq (.ops [⟨some 2, none, .mv (.cn (.int .i64 (121)))⟩])
      .ret)
      .skip)))))))
  (.seq (.ops [⟨some 2, none, .mv (.cn (.int .i64 (0)))⟩])
  .ret))))))
def rt13 : List IRet := [.tm 2]
theorem ci13 : (Go.Proofs.Tryz.f13.body).bind (compile Go.Proofs.Tryz.prog Go.Proofs.Tryz.f13.ntmps) = some ir13 := by kernel_rfl
theorem cr13 : compileRets Go.Proofs.Tryz.prog Go.Proofs.Tryz.f13.results.toList = some rt13 := by kernel_rfl
def fn13 : XFn := ⟨ir13, rt13, 32⟩
theorem fk13 : FnOK Go.Proofs.Tryz.prog 13 fn13 := ⟨⟨_, _, Go.Proofs.Tryz.func13, rfl, by kernel_rfl, ci13, cr13, Go.Proofs.Tryz.ntmps13.symm⟩⟩

/-- gabelle/valid.Check -/
def ir15 : IR :=
  (.seq (.ops [⟨some 1, none, .box 49 (.tm 0)⟩,
    ⟨some 2, none, .mv (.cn (.slice none 0 0))⟩,
    ⟨some 3, none, .mv (.cn (.int .i64 (0)))⟩])
  (.seq (.draw none
   [([], ⟨some 9, none, .load (some 12) (.tm 1)⟩),
    ([], ⟨some 10, none, .load (some 12) (.tm 1)⟩),
    ([1], ⟨some 11, none, .call (.cn (.func (.func 16) #[] #[])) [.tm 10]⟩),
    ([0, 1, 2], ⟨some 12, none, .build [.slice none 0 0, .slice none 0 0, .slice none 0 0, .slice none 0 0, .slice none 0 0, .slice none 0 0, .slice none 0 0, .bool false, .int .u32 (0), .slice none 0 0, .slice none 0 0, .slice none 0 0, .pointer none, .int .i64 (0)] [(0, 12, (.tm 9)), (12, 1, (.tm 11))]⟩),
    ([0, 1, 2, 3], ⟨some 13, none, .box 89 (.tm 12)⟩),
    ([], ⟨some 4, none, .newv 87 [.pointer none]⟩),
    ([0, 1, 2, 3, 4, 5], ⟨none, none, .store 1 (.tm 4) (.tm 13)⟩)])
  (.seq (.ops [⟨some 14, none, .load none (.tm 4)⟩,
    ⟨some 15, none, .fieldAddr 10 (.tm 1)⟩,
    ⟨some 16, none, .load none (.tm 15)⟩,
    ⟨some 17, none, .len .sl (.tm 16)⟩,
    ⟨some 18, none, .fieldAddr 2 (.tm 1)⟩,
    ⟨some 19, none, .load none (.tm 18)⟩,
    ⟨some 20, none, .len .sl (.tm 19)⟩,
    ⟨some 21, none, .bin .eql .int (.tm 17) (.tm 20)⟩,
    ⟨some 22, none, .call (.cn (.func (.func 21) #[] #[])) [.tm 14, .tm 21, .cn (.int .i64 (2))]⟩])
  (.seq (.ops [⟨some 23, none, .load none (.tm 4)⟩,
    ⟨some 24, none, .fieldAddr 1 (.tm 1)⟩,
    ⟨some 25, none, .load none (.tm 24)⟩,
    ⟨some 26, none, .mkFunc (.func 23) [] [.tm 4]⟩,
    ⟨some 27, none, .call (.cn (.func (.func 22) #[] #[])) [.tm 23, .tm 25, .tm 26]⟩])
  (.seq (.ops [⟨some 28, none, .load none (.tm 4)⟩,
    ⟨some 29, none, .fieldAddr 6 (.tm 1)⟩,
    ⟨some 30, none, .load none (.tm 29)⟩,
    ⟨some 31, none, .mkFunc (.func 25) [] [.tm 4]⟩,
    ⟨some 32, none, .call (.cn (.func (.func 24) #[] #[])) [.tm 28, .tm 30, .tm 31]⟩])
  (.seq (.ops [⟨some 33, none, .load none (.tm 4)⟩,
    ⟨some 34, none, .fieldAddr 0 (.tm 1)⟩,
    ⟨some 35, none, .load none (.tm 34)⟩,
    ⟨some 36, none, .mkFunc (.func 27) [] [.tm 4]⟩,
    ⟨some 37, none, .call (.cn (.func (.func 26) #[] #[])) [.tm 33, .tm 35, .tm 36]⟩])
  (.seq (.ops [⟨some 38, none, .load none (.tm 4)⟩,
    ⟨some 39, none, .fieldAddr 1 (.tm 1)⟩,
    ⟨some 40, none, .load none (.tm 39)⟩,
    ⟨some 41, none, .load none (.tm 4)⟩,
    ⟨some 42, none, .mkFunc (.func 29) [.tm 41] []⟩,
    ⟨some 43, none, .call (.cn (.func (.func 22) #[] #[])) [.tm 38, .tm 40, .tm 42]⟩])
  (.seq (.ops [⟨some 44, none, .load none (.tm 4)⟩,
    ⟨some 45, none, .fieldAddr 2 (.tm 1)⟩,
    ⟨some 46, none, .load none (.tm 45)⟩,
    ⟨some 47, none, .mkFunc (.func 31) [] [.tm 4]⟩,
    ⟨some 48, none, .call (.cn (.func (.func 30) #[] #[])) [.tm 44, .tm 46, .tm 47]⟩])
  (.seq (.ops [⟨some 49, none, .load none (.tm 4)⟩,
    ⟨some 50, none, .call (.cn (.func (.func 33) #[] #[])) [.tm 49]⟩])
  (.seq (.ops [⟨some 51, none, .load none (.tm 4)⟩,
    ⟨some 52, none, .fieldAddr 5 (.tm 1)⟩,
    ⟨some 53, none, .load none (.tm 52)⟩,
    ⟨some 54, none, .mkFunc (.func 35) [] [.tm 4]⟩,
    ⟨some 55, none, .call (.cn (.func (.func 34) #[] #[])) [.tm 51, .tm 53, .tm 54]⟩])
  (.seq (.ops [⟨some 56, none, .load none (.tm 4)⟩,
    ⟨some 57, none, .call (.cn (.func (.func 37) #[] #[])) [.tm 56]⟩])
  (.seq (.seq (.ops [⟨some 58, none, .fieldAddr 7 (.tm 1)⟩,
    ⟨some 59, none, .load none (.tm 58)⟩])
  (.cond (.tm 59)
   (.seq (.draw none
    [([], ⟨some 61, none, .load none (.tm 4)⟩),
     ([0], ⟨some 62, none, .nilCheck (.tm 61)⟩),
     ([0, 1], ⟨some 63, none, .fieldAddr 12 (.tm 62)⟩),
     ([0, 1, 2], ⟨some 64, none, .load none (.tm 63)⟩),
     ([], ⟨some 65, none, .fieldAddr 8 (.tm 1)⟩),
     ([4], ⟨some 66, none, .load none (.tm 65)⟩),
     ([0, 1, 2, 3, 4, 5], ⟨some 67, none, .call (.cn (.func (.func 38) #[] #[])) [.tm 64, .tm 66]⟩),
     ([0, 1, 2, 3, 4, 5, 6], ⟨some 60, none, .mv (.tm 67)⟩),
     ([0, 1, 2, 3, 4, 5, 6, 7], ⟨some 68, none, .extract (.tm 60) 0⟩),
     ([0, 1, 2, 3, 4, 5, 6, 7], ⟨some 69, none, .extract (.tm 60) 1⟩),
     ([], ⟨some 5, none, .newv 29 [.slice none 0 0, .slice none 0 0]⟩),
     ([0, 1, 2, 3, 4, 5, 6, 7, 8, 10], ⟨none, none, .store 2 (.tm 5) (.tm 68)⟩),
     ([0, 1, 2, 3, 4, 5, 6, 7, 8, 9, 10, 11], ⟨some 6, none, .mv (.tm 69)⟩)])
   (.draw (some [(some true, ⟨some 70, none, .load none (.tm 4)⟩),
     (some false, ⟨some 71, none, .mv (.tm 6)⟩),
     (some false, ⟨some 72, none, .mv (.tm 71)⟩),
     (some false, ⟨some 73, (some (72, true)), .load (some 2) (.tm 5)⟩),
     (some false, ⟨some 74, (some (72, true)), .build [.slice none 0 0, .slice none 0 0] []⟩),
     (none, ⟨some 75, (some (72, true)), .call (.cn (.func (.func 39) #[] #[])) [.tm 73, .tm 74]⟩),
     (some false, ⟨some 76, none, .pick (.tm 72) (.tm 75) (.cn (.bool false))⟩),
     (none, ⟨some 77, none, .call (.cn (.func (.func 21) #[] #[])) [.tm 70, .tm 76, .cn (.int .i64 (113))]⟩)])
    [([], ⟨some 70, none, .load none (.tm 4)⟩),
     ([], ⟨some 71, none, .mv (.tm 6)⟩),
     ([1], ⟨some 72, none, .mv (.tm 71)⟩),
     ([1, 2], ⟨some 73, (some (72, true)), .load (some 2) (.tm 5)⟩),
     ([1, 2], ⟨some 74, (some (72, true)), .build [.slice none 0 0, .slice none 0 0] []⟩),
     ([1, 2, 3, 4], ⟨some 75, (some (72, true)), .call (.cn (.func (.func 39) #[] #[])) [.tm 73, .tm 74]⟩),
     ([1, 2, 3, 4, 5], ⟨some 76, none, .pick (.tm 72) (.tm 75) (.cn (.bool false))⟩),
     ([0, 1, 2, 3, 4, 5, 6], ⟨some 77, none, .call (.cn (.func (.func 21) #[] #[])) [.tm 70, .tm 76, .cn (.int .i64 (113))]⟩)]))
   .skip))
  (.seq (.ops [⟨some 78, none, .load none (.tm 4)⟩,
    ⟨some 79, none, .fieldAddr 9 (.tm 1)⟩,
    ⟨some 80, none, .load none (.tm 79)⟩,
    ⟨some 81, none, .mkFunc (.func 41) [] [.tm 4]⟩,
    ⟨some 82, none, .call (.cn (.func (.func 40) #[] #[])) [.tm 78, .tm 80, .tm 81]⟩])
  (.seq (.ops [⟨some 7, none, .newv 71 [.slice none 0 0]⟩])
  (.seq (.ops [⟨some 83, none, .load none (.tm 4)⟩,
    ⟨some 84, none, .nilCheck (.tm 83)⟩,
    ⟨some 85, none, .fieldAddr 12 (.tm 84)⟩,
    ⟨some 86, none, .load none (.tm 85)⟩,
    ⟨some 87, none, .call (.cn (.func (.func 44) #[] #[])) [.tm 86, .cn (.int .u8 (0))]⟩,
    ⟨some 88, none, .conv (.int .u32) (.tm 87)⟩,
    ⟨some 8, none, .newv 44 [.int .u32 (0)]⟩,
    ⟨none, none, .store 1 (.tm 8) (.tm 88)⟩])
  (.seq (.ops [⟨some 89, none, .load none (.tm 4)⟩,
    ⟨some 90, none, .fieldAddr 10 (.tm 1)⟩,
    ⟨some 91, none, .load none (.tm 90)⟩,
    ⟨some 92, none, .mkFunc (.func 46) [] [.tm 4, .tm 8, .tm 7]⟩,
    ⟨some 93, none, .call (.cn (.func (.func 45) #[] #[])) [.tm 89, .tm 91, .tm 92]⟩])
  (.seq (.ops [⟨some 94, none, .load none (.tm 4)⟩,
    ⟨some 95, none, .fieldAddr 11 (.tm 1)⟩,
    ⟨some 96, none, .load none (.tm 95)⟩,
    ⟨some 97, none, .mkFunc (.func 49) [] [.tm 4]⟩,
    ⟨some 98, none, .call (.cn (.func (.func 48) #[] #[])) [.tm 94, .tm 96, .tm 97]⟩])
  (.seq (.seq (.ops [⟨some 99, none, .load none (.tm 4)⟩,
    ⟨some 100, none, .nilCheck (.tm 99)⟩,
    ⟨some 101, none, .fieldAddr 13 (.tm 100)⟩,
    ⟨some 102, none, .load none (.tm 101)⟩,
    ⟨some 103, none, .bin .neq .int (.tm 102) (.cn (.int .i64 (0)))⟩])
  (.cond (.tm 103)
   (.seq (.draw (some [(some false, ⟨some 104, none, .load none (.tm 4)⟩),
     (some false, ⟨some 105, none, .nilCheck (.tm 104)⟩),
     (some false, ⟨some 106, none, .fieldAddr 13 (.tm 105)⟩),
     (some false, ⟨some 107, none, .load none (.tm 106)⟩),
     (some false, ⟨some 2, none, .mv (.cn (.slice none 0 0))⟩),
     (some false, ⟨some 3, none, .mv (.tm 107)⟩)])
    [([], ⟨some 104, none, .load none (.tm 4)⟩),
     ([0], ⟨some 105, none, .nilCheck (.tm 104)⟩),
     ([0, 1], ⟨some 106, none, .fieldAddr 13 (.tm 105)⟩),
     ([0, 1, 2], ⟨some 107, none, .load none (.tm 106)⟩),
     ([], ⟨some 2, none, .mv (.cn (.slice none 0 0))⟩),
     ([0, 1, 2, 3, 4], ⟨some 3, none, .mv (.tm 107)⟩)])
   .ret)
   .skip))
  (.seq (.ops [⟨some 108, none, .load none (.tm 7)⟩,
    ⟨some 2, none, .mv (.tm 108)⟩,
    ⟨some 3, none, .mv (.cn (.int .i64 (0)))⟩])
  .ret)))))))))))))))))))
def rt15 : List IRet := [.tm 2, .tm 3]
theorem ci15 : (Go.Proofs.Tryz.f15.body).bind (compile Go.Proofs.Tryz.prog Go.Proofs.Tryz.f15.ntmps) = some ir15 := by kernel_rfl
theorem cr15 : compileRets Go.Proofs.Tryz.prog Go.Proofs.Tryz.f15.results.toList = some rt15 := by kernel_rfl
def fn15 : XFn := ⟨ir15, rt15, 109⟩
theorem fk15 : FnOK Go.Proofs.Tryz.prog 15 fn15 := ⟨⟨_, _, Go.Proofs.Tryz.func15, rfl, by kernel_rfl, ci15, cr15, Go.Proofs.Tryz.ntmps15.symm⟩⟩

/-- gabelle/space.Of -/
def ir16 : IR :=
  (.seq (.ops [⟨some 1, none, .box 49 (.tm 0)⟩,
    ⟨some 2, none, .mv (.cn (.pointer none))⟩])
  (.seq (.ops [⟨some 25, none, .fieldAddr 6 (.tm 1)⟩,
    ⟨some 26, none, .load none (.tm 25)⟩,
    ⟨some 27, none, .call (.cn (.func (.func 50) #[] #[])) [.tm 26]⟩,
    ⟨some 28, none, .build [.slice none 0 0, .slice none 0 0, .slice none 0 0, .slice none 0 0, .slice none 0 0, .int .i64 (0), .int .i64 (0), .int .i64 (0), .int .i64 (0), .slice none 0 0] [(9, 1, (.tm 27))]⟩,
    ⟨some 29, none, .box 120 (.tm 28)⟩,
    ⟨some 3, none, .mv (.tm 29)⟩])
  (.seq (.seq (.ops [⟨some 30, none, .fieldAddr 0 (.tm 1)⟩,
    ⟨some 31, none, .load none (.tm 30)⟩,
    ⟨some 32, none, .len .sl (.tm 31)⟩,
    ⟨some 33, none, .mv (.cn (.int .i64 (0)))⟩])
  (.block 0
   (.loop
    (.seq (.ops [⟨some 34, none, .bin .lss .int (.tm 33) (.tm 32)⟩])
    (.seq (.cond (.tm 34)
     .skip
     (.exit 0))
    (.seq (.block 1
     (.seq (.ops [⟨some 35, none, .idxAddr 2 none (.tm 31) (.tm 33)⟩,
       ⟨some 36, none, .load (some 2) (.tm 35)⟩,
       ⟨some 5, none, .newv 29 [.slice none 0 0, .slice none 0 0]⟩,
       ⟨none, none, .store 2 (.tm 5) (.tm 36)⟩])
     (.draw (some [(some true, ⟨some 37, none, .mv (.tm 3)⟩),
       (some true, ⟨some 38, none, .mv (.tm 3)⟩),
       (some true, ⟨some 39, none, .nilCheck (.tm 38)⟩),
       (some true, ⟨some 40, none, .fieldAddr 0 (.tm 39)⟩),
       (some true, ⟨some 41, none, .load none (.tm 40)⟩),
       (some false, ⟨some 42, none, .load (some 2) (.tm 5)⟩),
       (none, ⟨some 43, none, .call (.cn (.func (.func 51) #[] #[])) [.tm 42]⟩),
       (none, ⟨some 44, none, .bslice 29 1 [.slice none 0 0, .slice none 0 0] [(0, 2, (.tm 43))]⟩),
       (none, ⟨some 45, none, .append 29 2 48 [.slice none 0 0, .slice none 0 0] (.tm 41) (.tm 44)⟩),
       (some false, ⟨some 46, none, .nilCheck (.tm 37)⟩),
       (some false, ⟨some 47, none, .fieldAddr 0 (.tm 46)⟩),
       (none, ⟨none, none, .store 1 (.tm 47) (.tm 45)⟩)])
      [([], ⟨some 37, none, .mv (.tm 3)⟩),
       ([], ⟨some 38, none, .mv (.tm 3)⟩),
       ([1], ⟨some 39, none, .nilCheck (.tm 38)⟩),
       ([1, 2], ⟨some 40, none, .fieldAddr 0 (.tm 39)⟩),
       ([1, 2, 3], ⟨some 41, none, .load none (.tm 40)⟩),
       ([], ⟨some 42, none, .load (some 2) (.tm 5)⟩),
       ([5], ⟨some 43, none, .call (.cn (.func (.func 51) #[] #[])) [.tm 42]⟩),
       ([5, 6], ⟨some 44, none, .bslice 29 1 [.slice none 0 0, .slice none 0 0] [(0, 2, (.tm 43))]⟩),
       ([1, 2, 3, 4, 5, 6, 7], ⟨some 45, none, .append 29 2 48 [.slice none 0 0, .slice none 0 0] (.tm 41) (.tm 44)⟩),
       ([0, 1, 2, 3, 4, 5, 6, 7, 8], ⟨some 46, none, .nilCheck (.tm 37)⟩),
       ([0, 1, 2, 3, 4, 5, 6, 7, 8, 9], ⟨some 47, none, .fieldAddr 0 (.tm 46)⟩),
       ([0, 1, 2, 3, 4, 5, 6, 7, 8, 9, 10], ⟨none, none, .store 1 (.tm 47) (.tm 45)⟩)])))
    (.ops [⟨some 48, none, .bin .add .int (.tm 33) (.cn (.int .i64 (1)))⟩,
      ⟨some 33, none, .mv (.tm 48)⟩])))))))
  (.seq (.draw (some [(some false, ⟨some 49, none, .fieldAddr 1 (.tm 1)⟩),
    (some false, ⟨some 50, none, .load none (.tm 49)⟩),
    (some true, ⟨some 52, none, .fieldAddr 1 (.tm 1)⟩),
    (some true, ⟨some 53, none, .load none (.tm 52)⟩),
    (some true, ⟨some 55, none, .fieldAddr 1 (.tm 1)⟩),
    (some true, ⟨some 56, none, .load none (.tm 55)⟩),
    (some true, ⟨some 58, none, .fieldAddr 1 (.tm 1)⟩),
    (some true, ⟨some 59, none, .load none (.tm 58)⟩),
    (none, ⟨some 51, none, .call (.cn (.func (.func 52) #[] #[])) [.tm 50, .cn (.func (.func 53) #[] #[])]⟩),
    (none, ⟨some 54, none, .call (.cn (.func (.func 52) #[] #[])) [.tm 53, .cn (.func (.func 54) #[] #[])]⟩),
    (none, ⟨some 57, none, .call (.cn (.func (.func 52) #[] #[])) [.tm 56, .cn (.func (.func 55) #[] #[])]⟩),
    (none, ⟨some 60, none, .call (.cn (.func (.func 52) #[] #[])) [.tm 59, .cn (.func (.func 56) #[] #[])]⟩),
    (some false, ⟨some 6, none, .mv (.tm 51)⟩),
    (some false, ⟨some 7, none, .mv (.tm 54)⟩),
    (some false, ⟨some 8, none, .mv (.tm 57)⟩),
    (some false, ⟨some 9, none, .mv (.tm 60)⟩)])
   [([], ⟨some 49, none, .fieldAddr 1 (.tm 1)⟩),
    ([0], ⟨some 50, none, .load none (.tm 49)⟩),
    ([0, 1], ⟨some 51, none, .call (.cn (.func (.func 52) #[] #[])) [.tm 50, .cn (.func (.func 53) #[] #[])]⟩),
    ([], ⟨some 52, none, .fieldAddr 1 (.tm 1)⟩),
    ([3], ⟨some 53, none, .load none (.tm 52)⟩),
    ([0, 1, 2, 3, 4], ⟨some 54, none, .call (.cn (.func (.func 52) #[] #[])) [.tm 53, .cn (.func (.func 54) #[] #[])]⟩),
    ([], ⟨some 55, none, .fieldAddr 1 (.tm 1)⟩),
    ([6], ⟨some 56, none, .load none (.tm 55)⟩),
    ([0, 1, 2, 3, 4, 5, 6, 7], ⟨some 57, none, .call (.cn (.func (.func 52) #[] #[])) [.tm 56, .cn (.func (.func 55) #[] #[])]⟩),
    ([], ⟨some 58, none, .fieldAddr 1 (.tm 1)⟩),
    ([9], ⟨some 59, none, .load none (.tm 58)⟩),
    ([0, 1, 2, 3, 4, 5, 6, 7, 8, 9, 10], ⟨some 60, none, .call (.cn (.func (.func 52) #[] #[])) [.tm 59, .cn (.func (.func 56) #[] #[])]⟩),
    ([0, 1, 2, 3, 4, 5, 6, 7, 8, 9, 10, 11], ⟨some 6, none, .mv (.tm 51)⟩),
    ([0, 1, 2, 3, 4, 5, 6, 7, 8, 9, 10, 11, 12], ⟨some 7, none, .mv (.tm 54)⟩),
    ([0, 1, 2, 3, 4, 5, 6, 7, 8, 9, 10, 11, 12, 13], ⟨some 8, none, .mv (.tm 57)⟩),
    ([0, 1, 2, 3, 4, 5, 6, 7, 8, 9, 10, 11, 12, 13, 14], ⟨some 9, none, .mv (.tm 60)⟩)])
  (.seq (.ops [⟨some 61, none, .mv (.tm 3)⟩,
    ⟨some 62, none, .mv (.tm 6)⟩,
    ⟨some 63, none, .len .sl (.tm 62)⟩,
    ⟨some 64, none, .mv (.tm 7)⟩,
    ⟨some 65, none, .len .sl (.tm 64)⟩,
    ⟨some 66, none, .mv (.tm 8)⟩,
    ⟨some 67, none, .len .sl (.tm 66)⟩,
    ⟨some 68, none, .mv (.tm 9)⟩,
    ⟨some 69, none, .len .sl (.tm 68)⟩,
    ⟨some 70, none, .build [.int .i64 (0), .int .i64 (0), .int .i64 (0), .int .i64 (0)] [(0, 1, (.tm 63)), (1, 1, (.tm 65)), (2, 1, (.tm 67)), (3, 1, (.tm 69))]⟩,
    ⟨some 71, none, .nilCheck (.tm 61)⟩,
    ⟨some 72, none, .fieldAddr 5 (.tm 71)⟩,
    ⟨none, none, .store 4 (.tm 72) (.tm 70)⟩])
  (.seq (.ops [⟨some 10, none, .mv (.cn (.slice none 0 0))⟩])
  (.seq (.seq (.ops [⟨some 73, none, .mv (.tm 6)⟩,
    ⟨some 74, none, .len .sl (.tm 73)⟩,
    ⟨some 75, none, .mv (.cn (.int .i64 (0)))⟩])
  (.block 2
   (.loop
    (.seq (.ops [⟨some 76, none, .bin .lss .int (.tm 75) (.tm 74)⟩])
    (.seq (.cond (.tm 76)
     .skip
     (.exit 2))
    (.seq (.block 3
     (.seq (.ops [⟨some 77, none, .idxAddr 8 none (.tm 73) (.tm 75)⟩,
       ⟨some 78, none, .load (some 8) (.tm 77)⟩,
       ⟨some 12, none, .newv 75 [.string ⟨#[]⟩, .string ⟨#[]⟩, .int .u8 (0), .int .u32 (0), .int .u32 (0), .int .i64 (0), .int .u8 (0), .bool false]⟩,
       ⟨none, none, .store 8 (.tm 12) (.tm 78)⟩])
     (.ops [⟨some 79, none, .mv (.tm 10)⟩,
       ⟨some 80, none, .fieldAddr 3 (.tm 12)⟩,
       ⟨some 81, none, .load none (.tm 80)⟩,
       ⟨some 82, none, .bslice 44 1 [.int .u32 (0)] [(0, 1, (.tm 81))]⟩,
       ⟨some 83, none, .append 44 1 4 [.int .u32 (0)] (.tm 79) (.tm 82)⟩,
       ⟨some 10, none, .mv (.tm 83)⟩])))
    (.ops [⟨some 84, none, .bin .add .int (.tm 75) (.cn (.int .i64 (1)))⟩,
      ⟨some 75, none, .mv (.tm 84)⟩])))))))
  (.seq (.seq (.ops [⟨some 85, none, .mv (.tm 10)⟩,
    ⟨some 86, none, .fieldAddr 2 (.tm 1)⟩,
    ⟨some 87, none, .load none (.tm 86)⟩,
    ⟨some 88, none, .append 44 1 4 [.int .u32 (0)] (.tm 85) (.tm 87)⟩,
    ⟨some 89, none, .len .sl (.tm 88)⟩,
    ⟨some 90, none, .mv (.cn (.int .i64 (0)))⟩])
  (.block 4
   (.loop
    (.seq (.ops [⟨some 91, none, .bin .lss .int (.tm 90) (.tm 89)⟩])
    (.seq (.cond (.tm 91)
     .skip
     (.exit 4))
    (.seq (.block 5
     (.seq (.ops [⟨some 92, none, .idxAddr 1 none (.tm 88) (.tm 90)⟩,
       ⟨some 93, none, .load none (.tm 92)⟩,
       ⟨some 14, none, .mv (.tm 93)⟩])
     (.seq (.ops [⟨some 95, none, .mv (.tm 3)⟩,
       ⟨some 96, none, .nilCheck (.tm 95)⟩,
       ⟨some 97, none, .fieldAddr 0 (.tm 96)⟩,
       ⟨some 98, none, .load none (.tm 97)⟩,
       ⟨some 99, none, .mv (.tm 14)⟩,
       ⟨some 100, none, .call (.cn (.func (.func 57) #[] #[])) [.tm 98, .tm 99]⟩,
       ⟨some 94, none, .mv (.tm 100)⟩,
       ⟨some 101, none, .extract (.tm 94) 0⟩,
       ⟨some 102, none, .extract (.tm 94) 1⟩,
       ⟨some 15, none, .newv 29 [.slice none 0 0, .slice none 0 0]⟩,
       ⟨none, none, .store 2 (.tm 15) (.tm 101)⟩,
       ⟨some 16, none, .mv (.tm 102)⟩])
     (.draw (some [(some true, ⟨some 103, none, .mv (.tm 3)⟩),
       (some true, ⟨some 104, none, .mv (.tm 3)⟩),
       (some true, ⟨some 105, none, .nilCheck (.tm 104)⟩),
       (some true, ⟨some 106, none, .fieldAddr 1 (.tm 105)⟩),
       (some true, ⟨some 107, none, .load none (.tm 106)⟩),
       (some false, ⟨some 108, none, .load (some 2) (.tm 15)⟩),
       (some false, ⟨some 109, none, .mv (.tm 16)⟩),
       (some false, ⟨some 110, none, .build [.slice none 0 0, .slice none 0 0, .bool false] [(0, 2, (.tm 108)), (2, 1, (.tm 109))]⟩),
       (none, ⟨some 111, none, .bslice 127 1 [.slice none 0 0, .slice none 0 0, .bool false] [(0, 3, (.tm 110))]⟩),
       (none, ⟨some 112, none, .append 127 3 56 [.slice none 0 0, .slice none 0 0, .bool false] (.tm 107) (.tm 111)⟩),
       (some false, ⟨some 113, none, .nilCheck (.tm 103)⟩),
       (some false, ⟨some 114, none, .fieldAddr 1 (.tm 113)⟩),
       (none, ⟨none, none, .store 1 (.tm 114) (.tm 112)⟩)])
      [([], ⟨some 103, none, .mv (.tm 3)⟩),
       ([], ⟨some 104, none, .mv (.tm 3)⟩),
       ([1], ⟨some 105, none, .nilCheck (.tm 104)⟩),
       ([1, 2], ⟨some 106, none, .fieldAddr 1 (.tm 105)⟩),
       ([1, 2, 3], ⟨some 107, none, .load none (.tm 106)⟩),
       ([], ⟨some 108, none, .load (some 2) (.tm 15)⟩),
       ([], ⟨some 109, none, .mv (.tm 16)⟩),
       ([5, 6], ⟨some 110, none, .build [.slice none 0 0, .slice none 0 0, .bool false] [(0, 2, (.tm 108)), (2, 1, (.tm 109))]⟩),
       ([5, 6, 7], ⟨some 111, none, .bslice 127 1 [.slice none 0 0, .slice none 0 0, .bool false] [(0, 3, (.tm 110))]⟩),
       ([1, 2, 3, 4, 5, 6, 7, 8], ⟨some 112, none, .append 127 3 56 [.slice none 0 0, .slice none 0 0, .bool false] (.tm 107) (.tm 111)⟩),
       ([0, 1, 2, 3, 4, 5, 6, 7, 8, 9], ⟨some 113, none, .nilCheck (.tm 103)⟩),
       ([0, 1, 2, 3, 4, 5, 6, 7, 8, 9, 10], ⟨some 114, none, .fieldAddr 1 (.tm 113)⟩),
       ([0, 1, 2, 3, 4, 5, 6, 7, 8, 9, 10, 11], ⟨none, none, .store 1 (.tm 114) (.tm 112)⟩)]))))
    (.ops [⟨some 115, none, .bin .add .int (.tm 90) (.cn (.int .i64 (1)))⟩,
      ⟨some 90, none, .mv (.tm 115)⟩])))))))
  (.seq (.seq (.ops [⟨some 116, none, .mv (.tm 7)⟩,
    ⟨some 117, none, .len .sl (.tm 116)⟩,
    ⟨some 118, none, .mv (.cn (.int .i64 (0)))⟩])
  (.block 6
   (.loop
    (.seq (.ops [⟨some 119, none, .bin .lss .int (.tm 118) (.tm 117)⟩])
    (.seq (.cond (.tm 119)
     .skip
     (.exit 6))
    (.seq (.block 7
     (.seq (.ops [⟨some 120, none, .idxAddr 8 none (.tm 116) (.tm 118)⟩,
       ⟨some 121, none, .load (some 8) (.tm 120)⟩,
       ⟨some 18, none, .newv 75 [.string ⟨#[]⟩, .string ⟨#[]⟩, .int .u8 (0), .int .u32 (0), .int .u32 (0), .int .i64 (0), .int .u8 (0), .bool false]⟩,
       ⟨none, none, .store 8 (.tm 18) (.tm 121)⟩])
     (.draw (some [(some true, ⟨some 122, none, .mv (.tm 3)⟩),
       (some true, ⟨some 123, none, .mv (.tm 3)⟩),
       (some true, ⟨some 124, none, .nilCheck (.tm 123)⟩),
       (some true, ⟨some 125, none, .fieldAddr 3 (.tm 124)⟩),
       (some true, ⟨some 126, none, .load none (.tm 125)⟩),
       (some false, ⟨some 127, none, .fieldAddr 4 (.tm 18)⟩),
       (some false, ⟨some 128, none, .load (some 2) (.tm 127)⟩),
       (none, ⟨some 129, none, .bslice 66 1 [.int .u32 (0), .int .i64 (0)] [(0, 2, (.tm 128))]⟩),
       (none, ⟨some 130, none, .append 66 2 16 [.int .u32 (0), .int .i64 (0)] (.tm 126) (.tm 129)⟩),
       (some false, ⟨some 131, none, .nilCheck (.tm 122)⟩),
       (some false, ⟨some 132, none, .fieldAddr 3 (.tm 131)⟩),
       (none, ⟨none, none, .store 1 (.tm 132) (.tm 130)⟩)])
      [([], ⟨some 122, none, .mv (.tm 3)⟩),
       ([], ⟨some 123, none, .mv (.tm 3)⟩),
       ([1], ⟨some 124, none, .nilCheck (.tm 123)⟩),
       ([1, 2], ⟨some 125, none, .fieldAddr 3 (.tm 124)⟩),
       ([1, 2, 3], ⟨some 126, none, .load none (.tm 125)⟩),
       ([], ⟨some 127, none, .fieldAddr 4 (.tm 18)⟩),
       ([5], ⟨some 128, none, .load (some 2) (.tm 127)⟩),
       ([5, 6], ⟨some 129, none, .bslice 66 1 [.int .u32 (0), .int .i64 (0)] [(0, 2, (.tm 128))]⟩),
       ([1, 2, 3, 4, 5, 6, 7], ⟨some 130, none, .append 66 2 16 [.int .u32 (0), .int .i64 (0)] (.tm 126) (.tm 129)⟩),
       ([0, 1, 2, 3, 4, 5, 6, 7, 8], ⟨some 131, none, .nilCheck (.tm 122)⟩),
       ([0, 1, 2, 3, 4, 5, 6, 7, 8, 9], ⟨some 132, none, .fieldAddr 3 (.tm 131)⟩),
       ([0, 1, 2, 3, 4, 5, 6, 7, 8, 9, 10], ⟨none, none, .store 1 (.tm 132) (.tm 130)⟩)])))
    (.ops [⟨some 133, none, .bin .add .int (.tm 118) (.cn (.int .i64 (1)))⟩,
      ⟨some 118, none, .mv (.tm 133)⟩])))))))
  (.seq (.seq (.ops [⟨some 134, none, .mv (.tm 8)⟩,
    ⟨some 135, none, .len .sl (.tm 134)⟩,
    ⟨some 136, none, .mv (.cn (.int .i64 (0)))⟩])
  (.block 8
   (.loop
    (.seq (.ops [⟨some 137, none, .bin .lss .int (.tm 136) (.tm 135)⟩])
    (.seq (.cond (.tm 137)
     .skip
     (.exit 8))
    (.seq (.block 9
     (.seq (.ops [⟨some 138, none, .idxAddr 8 none (.tm 134) (.tm 136)⟩,
       ⟨some 139, none, .load (some 8) (.tm 138)⟩,
       ⟨some 20, none, .newv 75 [.string ⟨#[]⟩, .string ⟨#[]⟩, .int .u8 (0), .int .u32 (0), .int .u32 (0), .int .i64 (0), .int .u8 (0), .bool false]⟩,
       ⟨none, none, .store 8 (.tm 20) (.tm 139)⟩])
     (.draw (some [(some true, ⟨some 140, none, .mv (.tm 3)⟩),
       (some true, ⟨some 141, none, .mv (.tm 3)⟩),
       (some true, ⟨some 142, none, .nilCheck (.tm 141)⟩),
       (some true, ⟨some 143, none, .fieldAddr 4 (.tm 142)⟩),
       (some true, ⟨some 144, none, .load none (.tm 143)⟩),
       (some false, ⟨some 145, none, .fieldAddr 4 (.tm 20)⟩),
       (some false, ⟨some 146, none, .load (some 2) (.tm 145)⟩),
       (none, ⟨some 147, none, .bslice 66 1 [.int .u32 (0), .int .i64 (0)] [(0, 2, (.tm 146))]⟩),
       (none, ⟨some 148, none, .append 66 2 16 [.int .u32 (0), .int .i64 (0)] (.tm 144) (.tm 147)⟩),
       (some false, ⟨some 149, none, .nilCheck (.tm 140)⟩),
       (some false, ⟨some 150, none, .fieldAddr 4 (.tm 149)⟩),
       (none, ⟨none, none, .store 1 (.tm 150) (.tm 148)⟩)])
      [([], ⟨some 140, none, .mv (.tm 3)⟩),
       ([], ⟨some 141, none, .mv (.tm 3)⟩),
       ([1], ⟨some 142, none, .nilCheck (.tm 141)⟩),
       ([1, 2], ⟨some 143, none, .fieldAddr 4 (.tm 142)⟩),
       ([1, 2, 3], ⟨some 144, none, .load none (.tm 143)⟩),
       ([], ⟨some 145, none, .fieldAddr 4 (.tm 20)⟩),
       ([5], ⟨some 146, none, .load (some 2) (.tm 145)⟩),
       ([5, 6], ⟨some 147, none, .bslice 66 1 [.int .u32 (0), .int .i64 (0)] [(0, 2, (.tm 146))]⟩),
       ([1, 2, 3, 4, 5, 6, 7], ⟨some 148, none, .append 66 2 16 [.int .u32 (0), .int .i64 (0)] (.tm 144) (.tm 147)⟩),
       ([0, 1, 2, 3, 4, 5, 6, 7, 8], ⟨some 149, none, .nilCheck (.tm 140)⟩),
       ([0, 1, 2, 3, 4, 5, 6, 7, 8, 9], ⟨some 150, none, .fieldAddr 4 (.tm 149)⟩),
       ([0, 1, 2, 3, 4, 5, 6, 7, 8, 9, 10], ⟨none, none, .store 1 (.tm 150) (.tm 148)⟩)])))
    (.ops [⟨some 151, none, .bin .add .int (.tm 136) (.cn (.int .i64 (1)))⟩,
      ⟨some 136, none, .mv (.tm 151)⟩])))))))
  (.seq (.seq (.ops [⟨some 152, none, .mv (.tm 9)⟩,
    ⟨some 153, none, .len .sl (.tm 152)⟩,
    ⟨some 154, none, .mv (.cn (.int .i64 (0)))⟩])
  (.block 10
   (.loop
    (.seq (.ops [⟨some 155, none, .bin .lss .int (.tm 154) (.tm 153)⟩])
    (.seq (.cond (.tm 155)
     .skip
     (.exit 10))
    (.seq (.block 11
     (.seq (.ops [⟨some 156, none, .idxAddr 8 none (.tm 152) (.tm 154)⟩,
       ⟨some 157, none, .load (some 8) (.tm 156)⟩,
       ⟨some 22, none, .newv 75 [.string ⟨#[]⟩, .string ⟨#[]⟩, .int .u8 (0), .int .u32 (0), .int .u32 (0), .int .i64 (0), .int .u8 (0), .bool false]⟩,
       ⟨none, none, .store 8 (.tm 22) (.tm 157)⟩])
     (.draw (some [(some true, ⟨some 158, none, .mv (.tm 3)⟩),
       (some true, ⟨some 159, none, .mv (.tm 3)⟩),
       (some true, ⟨some 160, none, .nilCheck (.tm 159)⟩),
       (some true, ⟨some 161, none, .fieldAddr 2 (.tm 160)⟩),
       (some true, ⟨some 162, none, .load none (.tm 161)⟩),
       (some false, ⟨some 163, none, .fieldAddr 6 (.tm 22)⟩),
       (some false, ⟨some 164, none, .load (some 2) (.tm 163)⟩),
       (none, ⟨some 165, none, .bslice 54 1 [.int .u8 (0), .bool false] [(0, 2, (.tm 164))]⟩),
       (none, ⟨some 166, none, .append 54 2 2 [.int .u8 (0), .bool false] (.tm 162) (.tm 165)⟩),
       (some false, ⟨some 167, none, .nilCheck (.tm 158)⟩),
       (some false, ⟨some 168, none, .fieldAddr 2 (.tm 167)⟩),
       (none, ⟨none, none, .store 1 (.tm 168) (.tm 166)⟩)])
      [([], ⟨some 158, none, .mv (.tm 3)⟩),
       ([], ⟨some 159, none, .mv (.tm 3)⟩),
       ([1], ⟨some 160, none, .nilCheck (.tm 159)⟩),
       ([1, 2], ⟨some 161, none, .fieldAddr 2 (.tm 160)⟩),
       ([1, 2, 3], ⟨some 162, none, .load none (.tm 161)⟩),
       ([], ⟨some 163, none, .fieldAddr 6 (.tm 22)⟩),
       ([5], ⟨some 164, none, .load (some 2) (.tm 163)⟩),
       ([5, 6], ⟨some 165, none, .bslice 54 1 [.int .u8 (0), .bool false] [(0, 2, (.tm 164))]⟩),
       ([1, 2, 3, 4, 5, 6, 7], ⟨some 166, none, .append 54 2 2 [.int .u8 (0), .bool false] (.tm 162) (.tm 165)⟩),
       ([0, 1, 2, 3, 4, 5, 6, 7, 8], ⟨some 167, none, .nilCheck (.tm 158)⟩),
       ([0, 1, 2, 3, 4, 5, 6, 7, 8, 9], ⟨some 168, none, .fieldAddr 2 (.tm 167)⟩),
       ([0, 1, 2, 3, 4, 5, 6, 7, 8, 9, 10], ⟨none, none, .store 1 (.tm 168) (.tm 166)⟩)])))
    (.ops [⟨some 169, none, .bin .add .int (.tm 154) (.cn (.int .i64 (1)))⟩,
      ⟨some 154, none, .mv (.tm 169)⟩])))))))
  (.seq (.draw (some [(some true, ⟨some 170, none, .mv (.tm 3)⟩),
    (some true, ⟨some 171, none, .mv (.tm 3)⟩),
    (some false, ⟨some 172, none, .mv (.tm 3)⟩),
    (some false, ⟨some 173, none, .nilCheck (.tm 172)⟩),
    (some false, ⟨some 174, none, .fieldAddr 3 (.tm 173)⟩),
    (some false, ⟨some 175, none, .load none (.tm 174)⟩),
    (some false, ⟨some 176, none, .fieldAddr 3 (.tm 1)⟩),
    (some false, ⟨some 177, none, .load none (.tm 176)⟩),
    (some true, ⟨some 179, none, .mv (.tm 3)⟩),
    (some true, ⟨some 180, none, .nilCheck (.tm 179)⟩),
    (some true, ⟨some 181, none, .fieldAddr 4 (.tm 180)⟩),
    (some true, ⟨some 182, none, .load none (.tm 181)⟩),
    (some true, ⟨some 183, none, .fieldAddr 4 (.tm 1)⟩),
    (some true, ⟨some 184, none, .load none (.tm 183)⟩),
    (none, ⟨some 178, none, .append 66 2 16 [.int .u32 (0), .int .i64 (0)] (.tm 175) (.tm 177)⟩),
    (none, ⟨some 185, none, .append 66 2 16 [.int .u32 (0), .int .i64 (0)] (.tm 182) (.tm 184)⟩),
    (some false, ⟨some 186, none, .nilCheck (.tm 170)⟩),
    (some false, ⟨some 187, none, .fieldAddr 3 (.tm 186)⟩),
    (none, ⟨none, none, .store 1 (.tm 187) (.tm 178)⟩),
    (some false, ⟨some 188, none, .nilCheck (.tm 171)⟩),
    (some false, ⟨some 189, none, .fieldAddr 4 (.tm 188)⟩),
    (none, ⟨none, none, .store 1 (.tm 189) (.tm 185)⟩)])
   [([], ⟨some 170, none, .mv (.tm 3)⟩),
    ([], ⟨some 171, none, .mv (.tm 3)⟩),
    ([], ⟨some 172, none, .mv (.tm 3)⟩),
    ([2], ⟨some 173, none, .nilCheck (.tm 172)⟩),
    ([2, 3], ⟨some 174, none, .fieldAddr 3 (.tm 173)⟩),
    ([2, 3, 4], ⟨some 175, none, .load none (.tm 174)⟩),
    ([], ⟨some 176, none, .fieldAddr 3 (.tm 1)⟩),
    ([6], ⟨some 177, none, .load none (.tm 176)⟩),
    ([2, 3, 4, 5, 6, 7], ⟨some 178, none, .append 66 2 16 [.int .u32 (0), .int .i64 (0)] (.tm 175) (.tm 177)⟩),
    ([], ⟨some 179, none, .mv (.tm 3)⟩),
    ([9], ⟨some 180, none, .nilCheck (.tm 179)⟩),
    ([9, 10], ⟨some 181, none, .fieldAddr 4 (.tm 180)⟩),
    ([9, 10, 11], ⟨some 182, none, .load none (.tm 181)⟩),
    ([], ⟨some 183, none, .fieldAddr 4 (.tm 1)⟩),
    ([13], ⟨some 184, none, .load none (.tm 183)⟩),
    ([2, 3, 4, 5, 6, 7, 8, 9, 10, 11, 12, 13, 14], ⟨some 185, none, .append 66 2 16 [.int .u32 (0), .int .i64 (0)] (.tm 182) (.tm 184)⟩),
    ([0, 2, 3, 4, 5, 6, 7, 8, 9, 10, 11, 12, 13, 14, 15], ⟨some 186, none, .nilCheck (.tm 170)⟩),
    ([0, 2, 3, 4, 5, 6, 7, 8, 9, 10, 11, 12, 13, 14, 15, 16], ⟨some 187, none, .fieldAddr 3 (.tm 186)⟩),
    ([0, 2, 3, 4, 5, 6, 7, 8, 9, 10, 11, 12, 13, 14, 15, 16, 17], ⟨none, none, .store 1 (.tm 187) (.tm 178)⟩),
    ([0, 1, 2, 3, 4, 5, 6, 7, 8, 9, 10, 11, 12, 13, 14, 15, 16, 17, 18], ⟨some 188, none, .nilCheck (.tm 171)⟩),
    ([0, 1, 2, 3, 4, 5, 6, 7, 8, 9, 10, 11, 12, 13, 14, 15, 16, 17, 18, 19], ⟨some 189, none, .fieldAddr 4 (.tm 188)⟩),
    ([0, 1, 2, 3, 4, 5, 6, 7, 8, 9, 10, 11, 12, 13, 14, 15, 16, 17, 18, 19, 20], ⟨none, none, .store 1 (.tm 189) (.tm 185)⟩)])
  (.seq (.seq (.ops [⟨some 190, none, .fieldAddr 5 (.tm 1)⟩,
    ⟨some 191, none, .load none (.tm 190)⟩,
    ⟨some 192, none, .len .sl (.tm 191)⟩,
    ⟨some 193, none, .mv (.cn (.int .i64 (0)))⟩])
  (.block 12
   (.loop
    (.seq (.ops [⟨some 194, none, .bin .lss .int (.tm 193) (.tm 192)⟩])
    (.seq (.cond (.tm 194)
     .skip
     (.exit 12))
    (.seq (.block 13
     (.seq (.ops [⟨some 195, none, .idxAddr 3 none (.tm 191) (.tm 193)⟩,
       ⟨some 196, none, .load (some 3) (.tm 195)⟩,
       ⟨some 24, none, .newv 59 [.int .u8 (0), .bool false, .slice none 0 0]⟩,
       ⟨none, none, .store 3 (.tm 24) (.tm 196)⟩])
     (.draw (some [(some true, ⟨some 197, none, .mv (.tm 3)⟩),
       (some true, ⟨some 198, none, .mv (.tm 3)⟩),
       (some true, ⟨some 199, none, .nilCheck (.tm 198)⟩),
       (some true, ⟨some 200, none, .fieldAddr 2 (.tm 199)⟩),
       (some true, ⟨some 201, none, .load none (.tm 200)⟩),
       (some false, ⟨some 202, none, .fieldAddr 0 (.tm 24)⟩),
       (some false, ⟨some 203, none, .load (some 2) (.tm 202)⟩),
       (none, ⟨some 204, none, .bslice 54 1 [.int .u8 (0), .bool false] [(0, 2, (.tm 203))]⟩),
       (none, ⟨some 205, none, .append 54 2 2 [.int .u8 (0), .bool false] (.tm 201) (.tm 204)⟩),
       (some false, ⟨some 206, none, .nilCheck (.tm 197)⟩),
       (some false, ⟨some 207, none, .fieldAddr 2 (.tm 206)⟩),
       (none, ⟨none, none, .store 1 (.tm 207) (.tm 205)⟩)])
      [([], ⟨some 197, none, .mv (.tm 3)⟩),
       ([], ⟨some 198, none, .mv (.tm 3)⟩),
       ([1], ⟨some 199, none, .nilCheck (.tm 198)⟩),
       ([1, 2], ⟨some 200, none, .fieldAddr 2 (.tm 199)⟩),
       ([1, 2, 3], ⟨some 201, none, .load none (.tm 200)⟩),
       ([], ⟨some 202, none, .fieldAddr 0 (.tm 24)⟩),
       ([5], ⟨some 203, none, .load (some 2) (.tm 202)⟩),
       ([5, 6], ⟨some 204, none, .bslice 54 1 [.int .u8 (0), .bool false] [(0, 2, (.tm 203))]⟩),
       ([1, 2, 3, 4, 5, 6, 7], ⟨some 205, none, .append 54 2 2 [.int .u8 (0), .bool false] (.tm 201) (.tm 204)⟩),
       ([0, 1, 2, 3, 4, 5, 6, 7, 8], ⟨some 206, none, .nilCheck (.tm 197)⟩),
       ([0, 1, 2, 3, 4, 5, 6, 7, 8, 9], ⟨some 207, none, .fieldAddr 2 (.tm 206)⟩),
       ([0, 1, 2, 3, 4, 5, 6, 7, 8, 9, 10], ⟨none, none, .store 1 (.tm 207) (.tm 205)⟩)])))
    (.ops [⟨some 208, none, .bin .add .int (.tm 193) (.cn (.int .i64 (1)))⟩,
      ⟨some 193, none, .mv (.tm 208)⟩])))))))
  (.seq (.ops [⟨some 209, none, .mv (.tm 3)⟩,
    ⟨some 2, none, .mv (.tm 209)⟩])
  .ret))))))))))))))
def rt16 : List IRet := [.tm 2]
theorem ci16 : (Go.Proofs.Tryz.f16.body).bind (compile Go.Proofs.Tryz.prog Go.Proofs.Tryz.f16.ntmps) = some ir16 := by kernel_rfl
theorem cr16 : compileRets Go.Proofs.Tryz.prog Go.Proofs.Tryz.f16.results.toList = some rt16 := by kernel_rfl
def fn16 : XFn := ⟨ir16, rt16, 210⟩
theorem fk16 : FnOK Go.Proofs.Tryz.prog 16 fn16 := ⟨⟨_, _, Go.Proofs.Tryz.func16, rfl, by kernel_rfl, ci16, cr16, Go.Proofs.Tryz.ntmps16.symm⟩⟩

/-- gabelle/rule.sizes -/
def ir17 : IR :=
  (.seq (.ops [⟨some 3, none, .box 49 (.tm 0)⟩,
    ⟨some 6, none, .mv (.cn (.bool false))⟩])
  (.seq (.ops [⟨some 7, none, .newv 4 [.bool false]⟩,
    ⟨none, none, .store 1 (.tm 7) (.cn (.bool true))⟩])
  (.seq (.ops [⟨some 31, none, .mkFunc (.func 58) [] [.tm 7]⟩,
    ⟨some 8, none, .mv (.tm 31)⟩])
  (.seq (.ops [⟨some 32, none, .mv (.tm 8)⟩,
    ⟨some 33, none, .fieldAddr 0 (.tm 3)⟩,
    ⟨some 34, none, .load none (.tm 33)⟩,
    ⟨some 35, none, .len .sl (.tm 34)⟩,
    ⟨some 36, none, .call (.tm 32) [.tm 35, .cn (.int .i64 (256))]⟩])
  (.seq (.ops [⟨some 37, none, .mv (.tm 8)⟩,
    ⟨some 38, none, .fieldAddr 1 (.tm 3)⟩,
    ⟨some 39, none, .load none (.tm 38)⟩,
    ⟨some 40, none, .len .sl (.tm 39)⟩,
    ⟨some 41, none, .call (.tm 37) [.tm 40, .cn (.int .i64 (64))]⟩])
  (.seq (.ops [⟨some 42, none, .mv (.tm 8)⟩,
    ⟨some 43, none, .fieldAddr 2 (.tm 3)⟩,
    ⟨some 44, none, .load none (.tm 43)⟩,
    ⟨some 45, none, .len .sl (.tm 44)⟩,
    ⟨some 46, none, .call (.tm 42) [.tm 45, .cn (.int .i64 (512))]⟩])
  (.seq (.ops [⟨some 47, none, .mv (.tm 8)⟩,
    ⟨some 48, none, .mv (.tm 1)⟩,
    ⟨some 49, none, .call (.cn (.func (.func 59) #[] #[])) [.tm 48, .cn (.int .u8 (3))]⟩,
    ⟨some 50, none, .call (.tm 47) [.tm 49, .cn (.int .i64 (128))]⟩])
  (.seq (.ops [⟨some 51, none, .mv (.tm 8)⟩,
    ⟨some 52, none, .fieldAddr 6 (.tm 3)⟩,
    ⟨some 53, none, .load none (.tm 52)⟩,
    ⟨some 54, none, .len .sl (.tm 53)⟩,
    ⟨some 55, none, .call (.tm 51) [.tm 54, .cn (.int .i64 (128))]⟩])
  (.seq (.ops [⟨some 56, none, .mv (.tm 8)⟩,
    ⟨some 57, none, .fieldAddr 9 (.tm 3)⟩,
    ⟨some 58, none, .load none (.tm 57)⟩,
    ⟨some 59, none, .len .sl (.tm 58)⟩,
    ⟨some 60, none, .call (.tm 56) [.tm 59, .cn (.int .i64 (64))]⟩])
  (.seq (.ops [⟨some 61, none, .mv (.tm 8)⟩,
    ⟨some 62, none, .fieldAddr 11 (.tm 3)⟩,
    ⟨some 63, none, .load none (.tm 62)⟩,
    ⟨some 64, none, .len .sl (.tm 63)⟩,
    ⟨some 65, none, .call (.tm 61) [.tm 64, .cn (.int .i64 (64))]⟩])
  (.seq (.seq (.ops [⟨some 66, none, .fieldAddr 0 (.tm 3)⟩,
    ⟨some 67, none, .load none (.tm 66)⟩,
    ⟨some 68, none, .len .sl (.tm 67)⟩,
    ⟨some 69, none, .mv (.cn (.int .i64 (0)))⟩])
  (.block 0
   (.loop
    (.seq (.ops [⟨some 70, none, .bin .lss .int (.tm 69) (.tm 68)⟩])
    (.seq (.cond (.tm 70)
     .skip
     (.exit 0))
    (.seq (.block 1
     (.seq (.ops [⟨some 71, none, .idxAddr 2 none (.tm 67) (.tm 69)⟩,
       ⟨some 72, none, .load (some 2) (.tm 71)⟩,
       ⟨some 10, none, .newv 29 [.slice none 0 0, .slice none 0 0]⟩,
       ⟨none, none, .store 2 (.tm 10) (.tm 72)⟩])
     (.ops [⟨some 73, none, .mv (.tm 8)⟩,
       ⟨some 74, none, .fieldAddr 0 (.tm 10)⟩,
       ⟨some 75, none, .load none (.tm 74)⟩,
       ⟨some 76, none, .len .sl (.tm 75)⟩,
       ⟨some 77, none, .call (.tm 73) [.tm 76, .cn (.int .i64 (16))]⟩])))
    (.ops [⟨some 78, none, .bin .add .int (.tm 69) (.cn (.int .i64 (1)))⟩,
      ⟨some 69, none, .mv (.tm 78)⟩])))))))
  (.seq (.seq (.ops [⟨some 79, none, .fieldAddr 1 (.tm 3)⟩,
    ⟨some 80, none, .load none (.tm 79)⟩,
    ⟨some 81, none, .len .sl (.tm 80)⟩,
    ⟨some 82, none, .mv (.cn (.int .i64 (0)))⟩])
  (.block 2
   (.loop
    (.seq (.ops [⟨some 83, none, .bin .lss .int (.tm 82) (.tm 81)⟩])
    (.seq (.cond (.tm 83)
     .skip
     (.exit 2))
    (.seq (.block 3
     (.seq (.ops [⟨some 84, none, .idxAddr 8 none (.tm 80) (.tm 82)⟩,
       ⟨some 85, none, .load (some 8) (.tm 84)⟩,
       ⟨some 12, none, .newv 75 [.string ⟨#[]⟩, .string ⟨#[]⟩, .int .u8 (0), .int .u32 (0), .int .u32 (0), .int .i64 (0), .int .u8 (0), .bool false]⟩,
       ⟨none, none, .store 8 (.tm 12) (.tm 85)⟩])
     (.ops [⟨some 86, none, .mv (.tm 8)⟩,
       ⟨some 87, none, .fieldAddr 0 (.tm 12)⟩,
       ⟨some 88, none, .load none (.tm 87)⟩,
       ⟨some 89, none, .len .str (.tm 88)⟩,
       ⟨some 90, none, .fieldAddr 1 (.tm 12)⟩,
       ⟨some 91, none, .load none (.tm 90)⟩,
       ⟨some 92, none, .len .str (.tm 91)⟩,
       ⟨some 93, none, .max [.tm 89, .tm 92]⟩,
       ⟨some 94, none, .call (.tm 86) [.tm 93, .cn (.int .i64 (64))]⟩])))
    (.ops [⟨some 95, none, .bin .add .int (.tm 82) (.cn (.int .i64 (1)))⟩,
      ⟨some 82, none, .mv (.tm 95)⟩])))))))
  (.seq (.seq (.ops [⟨some 96, none, .fieldAddr 6 (.tm 3)⟩,
    ⟨some 97, none, .load none (.tm 96)⟩,
    ⟨some 98, none, .len .sl (.tm 97)⟩,
    ⟨some 99, none, .mv (.cn (.int .i64 (0)))⟩])
  (.block 4
   (.loop
    (.seq (.ops [⟨some 100, none, .bin .lss .int (.tm 99) (.tm 98)⟩])
    (.seq (.cond (.tm 100)
     .skip
     (.exit 4))
    (.seq (.block 5
     (.seq (.ops [⟨some 101, none, .idxAddr 3 none (.tm 97) (.tm 99)⟩,
       ⟨some 102, none, .load (some 3) (.tm 101)⟩,
       ⟨some 14, none, .newv 52 [.string ⟨#[]⟩, .int .u8 (0), .int .u32 (0)]⟩,
       ⟨none, none, .store 3 (.tm 14) (.tm 102)⟩])
     (.ops [⟨some 103, none, .mv (.tm 8)⟩,
       ⟨some 104, none, .fieldAddr 0 (.tm 14)⟩,
       ⟨some 105, none, .load none (.tm 104)⟩,
       ⟨some 106, none, .len .str (.tm 105)⟩,
       ⟨some 107, none, .call (.tm 103) [.tm 106, .cn (.int .i64 (64))]⟩])))
    (.ops [⟨some 108, none, .bin .add .int (.tm 99) (.cn (.int .i64 (1)))⟩,
      ⟨some 99, none, .mv (.tm 108)⟩])))))))
  (.seq (.seq (.ops [⟨some 109, none, .fieldAddr 9 (.tm 3)⟩,
    ⟨some 110, none, .load none (.tm 109)⟩,
    ⟨some 111, none, .len .sl (.tm 110)⟩,
    ⟨some 112, none, .mv (.cn (.int .i64 (0)))⟩])
  (.block 6
   (.loop
    (.seq (.ops [⟨some 113, none, .bin .lss .int (.tm 112) (.tm 111)⟩])
    (.seq (.cond (.tm 113)
     .skip
     (.exit 6))
    (.seq (.block 7
     (.seq (.ops [⟨some 114, none, .idxAddr 3 none (.tm 110) (.tm 112)⟩,
       ⟨some 115, none, .load (some 3) (.tm 114)⟩,
       ⟨some 16, none, .newv 84 [.int .u32 (0), .slice none 0 0, .slice none 0 0]⟩,
       ⟨none, none, .store 3 (.tm 16) (.tm 115)⟩])
     (.ops [⟨some 116, none, .mv (.tm 8)⟩,
       ⟨some 117, none, .fieldAddr 2 (.tm 16)⟩,
       ⟨some 118, none, .load none (.tm 117)⟩,
       ⟨some 119, none, .len .sl (.tm 118)⟩,
       ⟨some 120, none, .call (.tm 116) [.tm 119, .cn (.int .i64 (1024))]⟩])))
    (.ops [⟨some 121, none, .bin .add .int (.tm 112) (.cn (.int .i64 (1)))⟩,
      ⟨some 112, none, .mv (.tm 121)⟩])))))))
  (.seq (.seq (.ops [⟨some 123, none, .mv (.tm 1)⟩,
    ⟨some 124, none, .call (.cn (.func (.func 60) #[] #[])) [.tm 123, .cn (.int .u32 (0))]⟩,
    ⟨some 122, none, .mv (.tm 124)⟩,
    ⟨some 125, none, .extract (.tm 122) 0⟩,
    ⟨some 126, none, .extract (.tm 122) 1⟩,
    ⟨some 17, none, .newv 66 [.int .u32 (0), .int .i64 (0)]⟩,
    ⟨none, none, .store 2 (.tm 17) (.tm 125)⟩,
    ⟨some 18, none, .mv (.tm 126)⟩])
  (.seq (.ops [⟨some 127, none, .mv (.tm 18)⟩])
  (.cond (.tm 127)
   (.ops [⟨some 128, none, .mv (.tm 8)⟩,
     ⟨some 129, none, .fieldAddr 0 (.tm 17)⟩,
     ⟨some 130, none, .load none (.tm 129)⟩,
     ⟨some 131, none, .conv (.int .i64) (.tm 130)⟩,
     ⟨some 132, none, .call (.tm 128) [.tm 131, .cn (.int .i64 (1024))]⟩])
   .skip)))
  (.seq (.seq (.ops [⟨some 134, none, .mv (.tm 1)⟩,
    ⟨some 135, none, .call (.cn (.func (.func 61) #[] #[])) [.tm 134, .cn (.int .u32 (0))]⟩,
    ⟨some 133, none, .mv (.tm 135)⟩,
    ⟨some 136, none, .extract (.tm 133) 0⟩,
    ⟨some 137, none, .extract (.tm 133) 1⟩,
    ⟨some 19, none, .newv 66 [.int .u32 (0), .int .i64 (0)]⟩,
    ⟨none, none, .store 2 (.tm 19) (.tm 136)⟩,
    ⟨some 20, none, .mv (.tm 137)⟩])
  (.seq (.ops [⟨some 138, none, .mv (.tm 20)⟩])
  (.cond (.tm 138)
   (.ops [⟨some 139, none, .mv (.tm 8)⟩,
     ⟨some 140, none, .fieldAddr 0 (.tm 19)⟩,
     ⟨some 141, none, .load none (.tm 140)⟩,
     ⟨some 142, none, .conv (.int .i64) (.tm 141)⟩,
     ⟨some 143, none, .call (.tm 139) [.tm 142, .cn (.int .i64 (16))]⟩])
   .skip)))
  (.seq (.seq (.ops [⟨some 144, none, .fieldAddr 10 (.tm 3)⟩,
    ⟨some 145, none, .load none (.tm 144)⟩,
    ⟨some 146, none, .len .sl (.tm 145)⟩,
    ⟨some 147, none, .mv (.cn (.int .i64 (0)))⟩])
  (.block 8
   (.loop
    (.seq (.ops [⟨some 148, none, .bin .lss .int (.tm 147) (.tm 146)⟩])
    (.seq (.cond (.tm 148)
     .skip
     (.exit 8))
    (.seq (.block 9
     (.seq (.ops [⟨some 149, none, .mv (.tm 147)⟩,
       ⟨some 150, none, .idxAddr 2 none (.tm 145) (.tm 147)⟩,
       ⟨some 151, none, .load (some 2) (.tm 150)⟩,
       ⟨some 22, none, .newv 64 [.slice none 0 0, .slice none 0 0]⟩,
       ⟨some 21, none, .mv (.tm 149)⟩,
       ⟨none, none, .store 2 (.tm 22) (.tm 151)⟩])
     (.seq (.ops [⟨some 153, none, .mv (.tm 1)⟩,
       ⟨some 154, none, .mv (.tm 1)⟩,
       ⟨some 155, none, .call (.cn (.func (.func 44) #[] #[])) [.tm 154, .cn (.int .u8 (0))]⟩,
       ⟨some 156, none, .mv (.tm 21)⟩,
       ⟨some 157, none, .bin .add .int (.tm 155) (.tm 156)⟩,
       ⟨some 158, none, .conv (.int .u32) (.tm 157)⟩,
       ⟨some 159, none, .call (.cn (.func (.func 38) #[] #[])) [.tm 153, .tm 158]⟩,
       ⟨some 152, none, .mv (.tm 159)⟩,
       ⟨some 160, none, .extract (.tm 152) 0⟩,
       ⟨some 161, none, .extract (.tm 152) 1⟩,
       ⟨some 23, none, .newv 29 [.slice none 0 0, .slice none 0 0]⟩,
       ⟨none, none, .store 2 (.tm 23) (.tm 160)⟩,
       ⟨some 24, none, .mv (.tm 161)⟩])
     (.seq (.ops [⟨some 162, none, .fieldAddr 0 (.tm 23)⟩,
       ⟨some 163, none, .load none (.tm 162)⟩,
       ⟨some 164, none, .len .sl (.tm 163)⟩,
       ⟨some 165, none, .conv (.int .u64) (.tm 164)⟩,
       ⟨some 25, none, .mv (.tm 165)⟩])
     (.seq (.seq (.ops [⟨some 166, none, .fieldAddr 0 (.tm 22)⟩,
       ⟨some 167, none, .load none (.tm 166)⟩,
       ⟨some 168, none, .len .sl (.tm 167)⟩,
       ⟨some 169, none, .mv (.cn (.int .i64 (0)))⟩])
     (.block 10
      (.loop
       (.seq (.ops [⟨some 170, none, .bin .lss .int (.tm 169) (.tm 168)⟩])
       (.seq (.cond (.tm 170)
        .skip
        (.exit 10))
       (.seq (.block 11
        (.seq (.ops [⟨some 171, none, .idxAddr 2 none (.tm 167) (.tm 169)⟩,
          ⟨some 172, none, .load (some 2) (.tm 171)⟩,
          ⟨some 27, none, .newv 61 [.int .u32 (0), .int .u8 (0)]⟩,
          ⟨none, none, .store 2 (.tm 27) (.tm 172)⟩])
        (.ops [⟨some 173, none, .mv (.tm 25)⟩,
          ⟨some 174, none, .fieldAddr 0 (.tm 27)⟩,
          ⟨some 175, none, .load none (.tm 174)⟩,
          ⟨some 176, none, .conv (.int .u64) (.tm 175)⟩,
          ⟨some 177, none, .bin .add .int (.tm 173) (.tm 176)⟩,
          ⟨some 25, none, .mv (.tm 177)⟩])))
       (.ops [⟨some 178, none, .bin .add .int (.tm 169) (.cn (.int .i64 (1)))⟩,
         ⟨some 169, none, .mv (.tm 178)⟩])))))))
     (.seq (.ops [⟨some 179, none, .mv (.tm 8)⟩,
       ⟨some 180, none, .mv (.tm 25)⟩,
       ⟨some 181, none, .min [.tm 180, .cn (.int .u64 (1048576))]⟩,
       ⟨some 182, none, .conv (.int .i64) (.tm 181)⟩,
       ⟨some 183, none, .call (.tm 179) [.tm 182, .cn (.int .i64 (256))]⟩])
     (.seq (.ops [⟨some 184, none, .mv (.tm 8)⟩,
       ⟨some 185, none, .fieldAddr 1 (.tm 22)⟩,
       ⟨some 186, none, .load none (.tm 185)⟩,
       ⟨some 187, none, .len .sl (.tm 186)⟩,
       ⟨some 188, none, .call (.tm 184) [.tm 187, .cn (.int .i64 (8192))]⟩])
     (.seq (.ops [⟨some 189, none, .mv (.tm 8)⟩,
       ⟨some 190, none, .mv (.tm 2)⟩,
       ⟨some 191, none, .mv (.tm 21)⟩,
       ⟨some 192, none, .idxAddr 1 none (.tm 190) (.tm 191)⟩,
       ⟨some 193, none, .load none (.tm 192)⟩,
       ⟨some 194, none, .call (.tm 189) [.tm 193, .cn (.int .i64 (512))]⟩])
     (.seq (.ops [⟨some 28, none, .mv (.cn (.int .i64 (0)))⟩])
     (.seq (.ops [⟨some 195, none, .fieldAddr 1 (.tm 22)⟩,
       ⟨some 196, none, .load none (.tm 195)⟩,
       ⟨some 197, none, .len .sl (.tm 196)⟩,
       ⟨some 198, none, .mv (.cn (.int .i64 (0)))⟩])
     (.block 12
      (.loop
       (.seq (.ops [⟨some 199, none, .bin .lss .int (.tm 198) (.tm 197)⟩])
       (.seq (.cond (.tm 199)
        .skip
        (.exit 12))
       (.seq (.block 13
        (.seq (.ops [⟨some 200, none, .idxAddr 5 none (.tm 196) (.tm 198)⟩,
          ⟨some 201, none, .load (some 5) (.tm 200)⟩,
          ⟨some 30, none, .newv 56 [.int .u8 (0), .int .u32 (0), .int .u32 (0), .int .i64 (0), .slice none 0 0]⟩,
          ⟨none, none, .store 5 (.tm 30) (.tm 201)⟩])
        (.seq (.seq (.ops [⟨some 202, none, .fieldAddr 0 (.tm 30)⟩,
          ⟨some 203, none, .load none (.tm 202)⟩])
        (.block 14
         (.seq (.seq (.ops [⟨some 205, none, .bin .eql .int (.tm 203) (.cn (.int .u8 (2)))⟩,
           ⟨some 204, none, .mv (.tm 205)⟩])
         (.cond (.tm 204)
          .skip
          (.seq (.ops [⟨some 206, none, .bin .eql .int (.tm 203) (.cn (.int .u8 (3)))⟩,
            ⟨some 204, none, .mv (.tm 206)⟩])
          (.cond (.tm 204)
           .skip
           (.ops [⟨some 207, none, .bin .eql .int (.tm 203) (.cn (.int .u8 (4)))⟩,
             ⟨some 204, none, .mv (.tm 207)⟩])))))
         (.cond (.tm 204)
          (.ops [⟨some 208, none, .mv (.tm 28)⟩,
            ⟨some 209, none, .bin .add .int (.tm 208) (.cn (.int .i64 (1)))⟩,
            ⟨some 28, none, .mv (.tm 209)⟩])
          (.seq (.ops [⟨some 211, none, .bin .eql .int (.tm 203) (.cn (.int .u8 (11)))⟩,
            ⟨some 210, none, .mv (.tm 211)⟩])
          (.cond (.tm 210)
           (.ops [⟨some 212, none, .mv (.tm 28)⟩,
             ⟨some 213, none, .bin .sub .int (.tm 212) (.cn (.int .i64 (1)))⟩,
             ⟨some 28, none, .mv (.tm 213)⟩])
           (.seq (.ops [⟨some 215, none, .bin .eql .int (.tm 203) (.cn (.int .u8 (14)))⟩,
             ⟨some 214, none, .mv (.tm 215)⟩])
           (.cond (.tm 214)
            (.ops [⟨some 216, none, .mv (.tm 8)⟩,
              ⟨some 217, none, .fieldAddr 4 (.tm 30)⟩,
              ⟨some 218, none, .load none (.tm 217)⟩,
              ⟨some 219, none, .len .sl (.tm 218)⟩,
              ⟨some 220, none, .call (.tm 216) [.tm 219, .cn (.int .i64 (256))]⟩])
            .skip))))))))
        (.ops [⟨some 221, none, .mv (.tm 8)⟩,
          ⟨some 222, none, .mv (.tm 28)⟩,
          ⟨some 223, none, .call (.tm 221) [.tm 222, .cn (.int .i64 (64))]⟩]))))
       (.ops [⟨some 224, none, .bin .add .int (.tm 198) (.cn (.int .i64 (1)))⟩,
         ⟨some 198, none, .mv (.tm 224)⟩]))))))))))))))))
    (.ops [⟨some 225, none, .bin .add .int (.tm 147) (.cn (.int .i64 (1)))⟩,
      ⟨some 147, none, .mv (.tm 225)⟩])))))))
  (.seq (.ops [⟨some 226, none, .load none (.tm 7)⟩,
    ⟨some 6, none, .mv (.tm 226)⟩])
  .ret))))))))))))))))))
def rt17 : List IRet := [.tm 6]
theorem ci17 : (Go.Proofs.Tryz.f17.body).bind (compile Go.Proofs.Tryz.prog Go.Proofs.Tryz.f17.ntmps) = some ir17 := by kernel_rfl
theorem cr17 : compileRets Go.Proofs.Tryz.prog Go.Proofs.Tryz.f17.results.toList = some rt17 := by kernel_rfl
def fn17 : XFn := ⟨ir17, rt17, 227⟩
theorem fk17 : FnOK Go.Proofs.Tryz.prog 17 fn17 := ⟨⟨_, _, Go.Proofs.Tryz.func17, rfl, by kernel_rfl, ci17, cr17, Go.Proofs.Tryz.ntmps17.symm⟩⟩

/-- gabelle/rule.imports -/
def ir18 : IR :=
  (.seq (.ops [⟨some 2, none, .box 49 (.tm 0)⟩,
    ⟨some 4, none, .mv (.cn (.bool false))⟩])
  (.seq (.ops [⟨some 12, none, .call (.cn (.func (.func 7) #[] #[])) []⟩,
    ⟨some 5, none, .mv (.tm 12)⟩])
  (.seq (.seq (.ops [⟨some 13, none, .fieldAddr 1 (.tm 2)⟩,
    ⟨some 14, none, .load none (.tm 13)⟩,
    ⟨some 15, none, .len .sl (.tm 14)⟩,
    ⟨some 16, none, .mv (.cn (.int .i64 (0)))⟩])
  (.block 0
   (.loop
    (.seq (.ops [⟨some 17, none, .bin .lss .int (.tm 16) (.tm 15)⟩])
    (.seq (.cond (.tm 17)
     .skip
     (.exit 0))
    (.seq (.block 1
     (.seq (.ops [⟨some 18, none, .idxAddr 8 none (.tm 14) (.tm 16)⟩,
       ⟨some 19, none, .load (some 8) (.tm 18)⟩,
       ⟨some 7, none, .newv 75 [.string ⟨#[]⟩, .string ⟨#[]⟩, .int .u8 (0), .int .u32 (0), .int .u32 (0), .int .i64 (0), .int .u8 (0), .bool false]⟩,
       ⟨none, none, .store 8 (.tm 7) (.tm 19)⟩])
     (.seq (.ops [⟨some 21, none, .fieldAddr 1 (.tm 7)⟩,
       ⟨some 22, none, .load none (.tm 21)⟩,
       ⟨some 23, none, .call (.cn (.func (.func 10) #[] #[])) [.tm 22]⟩,
       ⟨some 20, none, .mv (.tm 23)⟩,
       ⟨some 24, none, .extract (.tm 20) 0⟩,
       ⟨some 25, none, .extract (.tm 20) 1⟩,
       ⟨some 8, none, .mv (.tm 24)⟩,
       ⟨some 9, none, .mv (.tm 25)⟩])
     (.seq (.ops [⟨some 27, none, .mv (.tm 1)⟩,
       ⟨some 28, none, .fieldAddr 3 (.tm 7)⟩,
       ⟨some 29, none, .load none (.tm 28)⟩,
       ⟨some 30, none, .call (.cn (.func (.func 32) #[] #[])) [.tm 27, .tm 29]⟩,
       ⟨some 26, none, .mv (.tm 30)⟩,
       ⟨some 31, none, .extract (.tm 26) 0⟩,
       ⟨some 32, none, .extract (.tm 26) 1⟩,
       ⟨some 10, none, .newv 29 [.slice none 0 0, .slice none 0 0]⟩,
       ⟨none, none, .store 2 (.tm 10) (.tm 31)⟩,
       ⟨some 11, none, .mv (.tm 32)⟩])
     (.seq (.draw (some [(some false, ⟨some 33, none, .fieldAddr 2 (.tm 7)⟩),
       (some false, ⟨some 34, none, .load none (.tm 33)⟩),
       (some false, ⟨some 35, none, .bin .neq .int (.tm 34) (.cn (.int .u8 (0)))⟩),
       (some false, ⟨some 36, none, .mv (.tm 35)⟩),
       (some false, ⟨some 37, (some (36, false)), .fieldAddr 0 (.tm 7)⟩),
       (some false, ⟨some 38, (some (36, false)), .load none (.tm 37)⟩),
       (some false, ⟨some 39, (some (36, false)), .bin .neq .str (.tm 38) (.cn (.string ⟨#[101, 110, 118]⟩))⟩),
       (some false, ⟨some 40, none, .pick (.tm 36) (.cn (.bool true)) (.tm 39)⟩),
       (some false, ⟨some 41, none, .mv (.tm 40)⟩),
       (some false, ⟨some 42, (some (41, false)), .mv (.tm 9)⟩),
       (some false, ⟨some 43, (some (41, false)), .un .not (.tm 42)⟩),
       (some false, ⟨some 44, none, .pick (.tm 41) (.cn (.bool true)) (.tm 43)⟩),
       (some false, ⟨some 45, none, .mv (.tm 44)⟩),
       (some false, ⟨some 46, (some (45, false)), .load (some 2) (.tm 10)⟩),
       (some false, ⟨some 47, (some (45, false)), .mv (.tm 5)⟩),
       (some false, ⟨some 48, (some (45, false)), .mv (.tm 8)⟩),
       (some false, ⟨some 49, (some (45, false)), .idxAddr 3 none (.tm 47) (.tm 48)⟩),
       (some false, ⟨some 50, (some (45, false)), .fieldAddr 1 (.tm 49)⟩),
       (some false, ⟨some 51, (some (45, false)), .load (some 2) (.tm 50)⟩),
       (none, ⟨some 52, (some (45, false)), .call (.cn (.func (.func 39) #[] #[])) [.tm 46, .tm 51]⟩),
       (some false, ⟨some 53, (some (45, false)), .un .not (.tm 52)⟩),
       (some false, ⟨some 54, none, .pick (.tm 45) (.cn (.bool true)) (.tm 53)⟩)])
      [([], ⟨some 33, none, .fieldAddr 2 (.tm 7)⟩),
       ([0], ⟨some 34, none, .load none (.tm 33)⟩),
       ([0, 1], ⟨some 35, none, .bin .neq .int (.tm 34) (.cn (.int .u8 (0)))⟩),
       ([0, 1, 2], ⟨some 36, none, .mv (.tm 35)⟩),
       ([0, 1, 2, 3], ⟨some 37, (some (36, false)), .fieldAddr 0 (.tm 7)⟩),
       ([0, 1, 2, 3, 4], ⟨some 38, (some (36, false)), .load none (.tm 37)⟩),
       ([0, 1, 2, 3, 4, 5], ⟨some 39, (some (36, false)), .bin .neq .str (.tm 38) (.cn (.string ⟨#[101, 110, 118]⟩))⟩),
       ([0, 1, 2, 3, 4, 5, 6], ⟨some 40, none, .pick (.tm 36) (.cn (.bool true)) (.tm 39)⟩),
       ([0, 1, 2, 3, 4, 5, 6, 7], ⟨some 41, none, .mv (.tm 40)⟩),
       ([0, 1, 2, 3, 4, 5, 6, 7, 8], ⟨some 42, (some (41, false)), .mv (.tm 9)⟩),
       ([0, 1, 2, 3, 4, 5, 6, 7, 8, 9], ⟨some 43, (some (41, false)), .un .not (.tm 42)⟩),
       ([0, 1, 2, 3, 4, 5, 6, 7, 8, 9, 10], ⟨some 44, none, .pick (.tm 41) (.cn (.bool true)) (.tm 43)⟩),
       ([0, 1, 2, 3, 4, 5, 6, 7, 8, 9, 10, 11], ⟨some 45, none, .mv (.tm 44)⟩),
       ([0, 1, 2, 3, 4, 5, 6, 7, 8, 9, 10, 11, 12], ⟨some 46, (some (45, false)), .load (some 2) (.tm 10)⟩),
       ([0, 1, 2, 3, 4, 5, 6, 7, 8, 9, 10, 11, 12], ⟨some 47, (some (45, false)), .mv (.tm 5)⟩),
       ([0, 1, 2, 3, 4, 5, 6, 7, 8, 9, 10, 11, 12], ⟨some 48, (some (45, false)), .mv (.tm 8)⟩),
       ([0, 1, 2, 3, 4, 5, 6, 7, 8, 9, 10, 11, 12, 14, 15], ⟨some 49, (some (45, false)), .idxAddr 3 none (.tm 47) (.tm 48)⟩),
       ([0, 1, 2, 3, 4, 5, 6, 7, 8, 9, 10, 11, 12, 14, 15, 16], ⟨some 50, (some (45, false)), .fieldAddr 1 (.tm 49)⟩),
       ([0, 1, 2, 3, 4, 5, 6, 7, 8, 9, 10, 11, 12, 14, 15, 16, 17], ⟨some 51, (some (45, false)), .load (some 2) (.tm 50)⟩),
       ([0, 1, 2, 3, 4, 5, 6, 7, 8, 9, 10, 11, 12, 13, 14, 15, 16, 17, 18], ⟨some 52, (some (45, false)), .call (.cn (.func (.func 39) #[] #[])) [.tm 46, .tm 51]⟩),
       ([0, 1, 2, 3, 4, 5, 6, 7, 8, 9, 10, 11, 12, 13, 14, 15, 16, 17, 18, 19], ⟨some 53, (some (45, false)), .un .not (.tm 52)⟩),
       ([0, 1, 2, 3, 4, 5, 6, 7, 8, 9, 10, 11, 12, 13, 14, 15, 16, 17, 18, 19, 20], ⟨some 54, none, .pick (.tm 45) (.cn (.bool true)) (.tm 53)⟩)])
     (.cond (.tm 54)
      (.seq (.ops [⟨some 4, none, .mv (.cn (.bool false))⟩])
      .ret)
      .skip))))))
    (.ops [⟨some 55, none, .bin .add .int (.tm 16) (.cn (.int .i64 (1)))⟩,
      ⟨some 16, none, .mv (.tm 55)⟩])))))))
  (.seq (.ops [⟨some 4, none, .mv (.cn (.bool true))⟩])
  .ret))))
def rt18 : List IRet := [.tm 4]
theorem ci18 : (Go.Proofs.Tryz.f18.body).bind (compile Go.Proofs.Tryz.prog Go.Proofs.Tryz.f18.ntmps) = some ir18 := by kernel_rfl
theorem cr18 : compileRets Go.Proofs.Tryz.prog Go.Proofs.Tryz.f18.results.toList = some rt18 := by kernel_rfl
def fn18 : XFn := ⟨ir18, rt18, 56⟩
theorem fk18 : FnOK Go.Proofs.Tryz.prog 18 fn18 := ⟨⟨_, _, Go.Proofs.Tryz.func18, rfl, by kernel_rfl, ci18, cr18, Go.Proofs.Tryz.ntmps18.symm⟩⟩

/-- gabelle/rule.exports -/
def ir19 : IR :=
  (.seq (.ops [⟨some 2, none, .box 49 (.tm 0)⟩,
    ⟨some 4, none, .mv (.cn (.bool false))⟩])
  (.seq (.ops [⟨some 5, none, .mv (.cn (.bool false))⟩])
  (.seq (.seq (.ops [⟨some 10, none, .fieldAddr 6 (.tm 2)⟩,
    ⟨some 11, none, .load none (.tm 10)⟩,
    ⟨some 12, none, .len .sl (.tm 11)⟩,
    ⟨some 13, none, .mv (.cn (.int .i64 (0)))⟩])
  (.block 0
   (.loop
    (.seq (.ops [⟨some 14, none, .bin .lss .int (.tm 13) (.tm 12)⟩])
    (.seq (.cond (.tm 14)
     .skip
     (.exit 0))
    (.seq (.block 1
     (.seq (.ops [⟨some 15, none, .idxAddr 3 none (.tm 11) (.tm 13)⟩,
       ⟨some 16, none, .load (some 3) (.tm 15)⟩,
       ⟨some 7, none, .newv 52 [.string ⟨#[]⟩, .int .u8 (0), .int .u32 (0)]⟩,
       ⟨none, none, .store 3 (.tm 7) (.tm 16)⟩])
     (.seq (.seq (.ops [⟨some 17, none, .fieldAddr 0 (.tm 7)⟩,
       ⟨some 18, none, .load none (.tm 17)⟩,
       ⟨some 19, none, .bin .neq .str (.tm 18) (.cn (.string ⟨#[109, 97, 105, 110]⟩))⟩,
       ⟨some 20, none, .mv (.tm 19)⟩,
       ⟨some 21, (some (20, true)), .fieldAddr 0 (.tm 7)⟩,
       ⟨some 22, (some (20, true)), .load none (.tm 21)⟩,
       ⟨some 23, (some (20, true)), .bin .neq .str (.tm 22) (.cn (.string ⟨#[105, 110, 105, 116]⟩))⟩,
       ⟨some 24, none, .pick (.tm 20) (.tm 23) (.cn (.bool false))⟩])
     (.cond (.tm 24)
      (.exit 1)
      .skip))
     (.seq (.ops [⟨some 26, none, .mv (.tm 1)⟩,
       ⟨some 27, none, .fieldAddr 2 (.tm 7)⟩,
       ⟨some 28, none, .load none (.tm 27)⟩,
       ⟨some 29, none, .call (.cn (.func (.func 38) #[] #[])) [.tm 26, .tm 28]⟩,
       ⟨some 25, none, .mv (.tm 29)⟩,
       ⟨some 30, none, .extract (.tm 25) 0⟩,
       ⟨some 31, none, .extract (.tm 25) 1⟩,
       ⟨some 8, none, .newv 29 [.slice none 0 0, .slice none 0 0]⟩,
       ⟨none, none, .store 2 (.tm 8) (.tm 30)⟩,
       ⟨some 9, none, .mv (.tm 31)⟩])
     (.seq (.seq (.ops [⟨some 32, none, .fieldAddr 1 (.tm 7)⟩,
       ⟨some 33, none, .load none (.tm 32)⟩,
       ⟨some 34, none, .bin .neq .int (.tm 33) (.cn (.int .u8 (0)))⟩,
       ⟨some 35, none, .mv (.tm 34)⟩,
       ⟨some 36, (some (35, false)), .load (some 2) (.tm 8)⟩,
       ⟨some 37, (some (35, false)), .build [.slice none 0 0, .slice none 0 0] []⟩,
       ⟨some 38, (some (35, false)), .call (.cn (.func (.func 39) #[] #[])) [.tm 36, .tm 37]⟩,
       ⟨some 39, (some (35, false)), .un .not (.tm 38)⟩,
       ⟨some 40, none, .pick (.tm 35) (.cn (.bool true)) (.tm 39)⟩])
     (.cond (.tm 40)
      (.seq (.ops [⟨some 4, none, .mv (.cn (.bool false))⟩])
      .ret)
      .skip))
     (.ops [⟨some 41, none, .mv (.tm 5)⟩,
       ⟨some 42, none, .mv (.tm 41)⟩,
       ⟨some 43, (some (42, false)), .fieldAddr 0 (.tm 7)⟩,
       ⟨some 44, (some (42, false)), .load none (.tm 43)⟩,
       ⟨some 45, (some (42, false)), .bin .eql .str (.tm 44) (.cn (.string ⟨#[109, 97, 105, 110]⟩))⟩,
       ⟨some 46, none, .pick (.tm 42) (.cn (.bool true)) (.tm 45)⟩,
       ⟨some 5, none, .mv (.tm 46)⟩]))))))
    (.ops [⟨some 47, none, .bin .add .int (.tm 13) (.cn (.int .i64 (1)))⟩,
      ⟨some 13, none, .mv (.tm 47)⟩])))))))
  (.seq (.ops [⟨some 48, none, .mv (.tm 5)⟩,
    ⟨some 4, none, .mv (.tm 48)⟩])
  .ret))))
def rt19 : List IRet := [.tm 4]
theorem ci19 : (Go.Proofs.Tryz.f19.body).bind (compile Go.Proofs.Tryz.prog Go.Proofs.Tryz.f19.ntmps) = some ir19 := by kernel_rfl
theorem cr19 : compileRets Go.Proofs.Tryz.prog Go.Proofs.Tryz.f19.results.toList = some rt19 := by kernel_rfl
def fn19 : XFn := ⟨ir19, rt19, 49⟩
theorem fk19 : FnOK Go.Proofs.Tryz.prog 19 fn19 := ⟨⟨_, _, Go.Proofs.Tryz.func19, rfl, by kernel_rfl, ci19, cr19, Go.Proofs.Tryz.ntmps19.symm⟩⟩

/-- (*gabelle/valid.checker).must -/
def ir21 : IR :=
  (.seq (.ops [⟨some 6, none, .mv (.tm 0)⟩,
    ⟨some 7, none, .nilCheck (.tm 6)⟩,
    ⟨some 8, none, .fieldAddr 13 (.tm 7)⟩,
    ⟨some 9, none, .load none (.tm 8)⟩,
    ⟨some 10, none, .bin .eql .int (.tm 9) (.cn (.int .i64 (0)))⟩,
    ⟨some 11, none, .mv (.tm 10)⟩,
    ⟨some 12, (some (11, true)), .mv (.tm 1)⟩,
    ⟨some 13, (some (11, true)), .un .not (.tm 12)⟩,
    ⟨some 14, none, .pick (.tm 11) (.tm 13) (.cn (.bool false))⟩])
  (.cond (.tm 14)
   (.ops [⟨some 15, none, .mv (.tm 0)⟩,
     ⟨some 16, none, .mv (.tm 2)⟩,
     ⟨some 17, none, .nilCheck (.tm 15)⟩,
     ⟨some 18, none, .fieldAddr 13 (.tm 17)⟩,
     ⟨none, none, .store 1 (.tm 18) (.tm 16)⟩])
   .skip))
def rt21 : List IRet := []
theorem ci21 : (Go.Proofs.Tryz.f21.body).bind (compile Go.Proofs.Tryz.prog Go.Proofs.Tryz.f21.ntmps) = some ir21 := by kernel_rfl
theorem cr21 : compileRets Go.Proofs.Tryz.prog Go.Proofs.Tryz.f21.results.toList = some rt21 := by kernel_rfl
def fn21 : XFn := ⟨ir21, rt21, 19⟩
theorem fk21 : FnOK Go.Proofs.Tryz.prog 21 fn21 := ⟨⟨_, _, Go.Proofs.Tryz.func21, rfl, by kernel_rfl, ci21, cr21, Go.Proofs.Tryz.ntmps21.symm⟩⟩

/-- gabelle/valid.each[gabelle/api.Import] -/
def ir22 : IR :=
  (.seq (.ops [⟨some 8, none, .mv (.tm 1)⟩,
    ⟨some 9, none, .len .sl (.tm 8)⟩,
    ⟨some 10, none, .mv (.cn (.int .i64 (0)))⟩])
  (.block 0
   (.loop
    (.seq (.ops [⟨some 11, none, .bin .lss .int (.tm 10) (.tm 9)⟩])
    (.seq (.cond (.tm 11)
     .skip
     (.exit 0))
    (.seq (.block 1
     (.seq (.ops [⟨some 12, none, .idxAddr 8 none (.tm 8) (.tm 10)⟩,
       ⟨some 13, none, .load (some 8) (.tm 12)⟩,
       ⟨some 7, none, .newv 75 [.string ⟨#[]⟩, .string ⟨#[]⟩, .int .u8 (0), .int .u32 (0), .int .u32 (0), .int .i64 (0), .int .u8 (0), .bool false]⟩,
       ⟨none, none, .store 8 (.tm 7) (.tm 13)⟩])
     (.seq (.seq (.ops [⟨some 14, none, .mv (.tm 0)⟩,
       ⟨some 15, none, .nilCheck (.tm 14)⟩,
       ⟨some 16, none, .fieldAddr 13 (.tm 15)⟩,
       ⟨some 17, none, .load none (.tm 16)⟩,
       ⟨some 18, none, .bin .neq .int (.tm 17) (.cn (.int .i64 (0)))⟩])
     (.cond (.tm 18)
      .ret
      .skip))
     (.ops [⟨some 19, none, .mv (.tm 2)⟩,
       ⟨some 20, none, .load (some 8) (.tm 7)⟩,
       ⟨some 21, none, .call (.tm 19) [.tm 20]⟩]))))
    (.ops [⟨some 22, none, .bin .add .int (.tm 10) (.cn (.int .i64 (1)))⟩,
      ⟨some 10, none, .mv (.tm 22)⟩])))))))
def rt22 : List IRet := []
theorem ci22 : (Go.Proofs.Tryz.f22.body).bind (compile Go.Proofs.Tryz.prog Go.Proofs.Tryz.f22.ntmps) = some ir22 := by kernel_rfl
theorem cr22 : compileRets Go.Proofs.Tryz.prog Go.Proofs.Tryz.f22.results.toList = some rt22 := by kernel_rfl
def fn22 : XFn := ⟨ir22, rt22, 23⟩
theorem fk22 : FnOK Go.Proofs.Tryz.prog 22 fn22 := ⟨⟨_, _, Go.Proofs.Tryz.func22, rfl, by kernel_rfl, ci22, cr22, Go.Proofs.Tryz.ntmps22.symm⟩⟩

/-- gabelle/valid.Check$1 -/
def ir23 : IR :=
  (.seq (.ops [⟨some 2, none, .box 75 (.tm 0)⟩])
  (.ops [⟨some 3, none, .load none (.tm 1)⟩,
    ⟨some 4, none, .fieldAddr 2 (.tm 2)⟩,
    ⟨some 5, none, .load none (.tm 4)⟩,
    ⟨some 6, none, .bin .leq .int (.tm 5) (.cn (.int .u8 (3)))⟩,
    ⟨some 7, none, .call (.cn (.func (.func 21) #[] #[])) [.tm 3, .tm 6, .cn (.int .i64 (2))]⟩]))
def rt23 : List IRet := []
theorem ci23 : (Go.Proofs.Tryz.f23.body).bind (compile Go.Proofs.Tryz.prog Go.Proofs.Tryz.f23.ntmps) = some ir23 := by kernel_rfl
theorem cr23 : compileRets Go.Proofs.Tryz.prog Go.Proofs.Tryz.f23.results.toList = some rt23 := by kernel_rfl
def fn23 : XFn := ⟨ir23, rt23, 8⟩
theorem fk23 : FnOK Go.Proofs.Tryz.prog 23 fn23 := ⟨⟨_, _, Go.Proofs.Tryz.func23, rfl, by kernel_rfl, ci23, cr23, Go.Proofs.Tryz.ntmps23.symm⟩⟩

/-- gabelle/valid.each[gabelle/api.Export] -/
def ir24 : IR :=
  (.seq (.ops [⟨some 8, none, .mv (.tm 1)⟩,
    ⟨some 9, none, .len .sl (.tm 8)⟩,
    ⟨some 10, none, .mv (.cn (.int .i64 (0)))⟩])
  (.block 0
   (.loop
    (.seq (.ops [⟨some 11, none, .bin .lss .int (.tm 10) (.tm 9)⟩])
    (.seq (.cond (.tm 11)
     .skip
     (.exit 0))
    (.seq (.block 1
     (.seq (.ops [⟨some 12, none, .idxAddr 3 none (.tm 8) (.tm 10)⟩,
       ⟨some 13, none, .load (some 3) (.tm 12)⟩,
       ⟨some 7, none, .newv 52 [.string ⟨#[]⟩, .int .u8 (0), .int .u32 (0)]⟩,
       ⟨none, none, .store 3 (.tm 7) (.tm 13)⟩])
     (.seq (.seq (.ops [⟨some 14, none, .mv (.tm 0)⟩,
       ⟨some 15, none, .nilCheck (.tm 14)⟩,
       ⟨some 16, none, .fieldAddr 13 (.tm 15)⟩,
       ⟨some 17, none, .load none (.tm 16)⟩,
       ⟨some 18, none, .bin .neq .int (.tm 17) (.cn (.int .i64 (0)))⟩])
     (.cond (.tm 18)
      .ret
      .skip))
     (.ops [⟨some 19, none, .mv (.tm 2)⟩,
       ⟨some 20, none, .load (some 3) (.tm 7)⟩,
       ⟨some 21, none, .call (.tm 19) [.tm 20]⟩]))))
    (.ops [⟨some 22, none, .bin .add .int (.tm 10) (.cn (.int .i64 (1)))⟩,
      ⟨some 10, none, .mv (.tm 22)⟩])))))))
def rt24 : List IRet := []
theorem ci24 : (Go.Proofs.Tryz.f24.body).bind (compile Go.Proofs.Tryz.prog Go.Proofs.Tryz.f24.ntmps) = some ir24 := by kernel_rfl
theorem cr24 : compileRets Go.Proofs.Tryz.prog Go.Proofs.Tryz.f24.results.toList = some rt24 := by kernel_rfl
def fn24 : XFn := ⟨ir24, rt24, 23⟩
theorem fk24 : FnOK Go.Proofs.Tryz.prog 24 fn24 := ⟨⟨_, _, Go.Proofs.Tryz.func24, rfl, by kernel_rfl, ci24, cr24, Go.Proofs.Tryz.ntmps24.symm⟩⟩

/-- gabelle/valid.Check$2 -/
def ir25 : IR :=
  (.seq (.ops [⟨some 2, none, .box 52 (.tm 0)⟩])
  (.ops [⟨some 3, none, .load none (.tm 1)⟩,
    ⟨some 4, none, .fieldAddr 1 (.tm 2)⟩,
    ⟨some 5, none, .load none (.tm 4)⟩,
    ⟨some 6, none, .bin .leq .int (.tm 5) (.cn (.int .u8 (3)))⟩,
    ⟨some 7, none, .call (.cn (.func (.func 21) #[] #[])) [.tm 3, .tm 6, .cn (.int .i64 (2))]⟩]))
def rt25 : List IRet := []
theorem ci25 : (Go.Proofs.Tryz.f25.body).bind (compile Go.Proofs.Tryz.prog Go.Proofs.Tryz.f25.ntmps) = some ir25 := by kernel_rfl
theorem cr25 : compileRets Go.Proofs.Tryz.prog Go.Proofs.Tryz.f25.results.toList = some rt25 := by kernel_rfl
def fn25 : XFn := ⟨ir25, rt25, 8⟩
theorem fk25 : FnOK Go.Proofs.Tryz.prog 25 fn25 := ⟨⟨_, _, Go.Proofs.Tryz.func25, rfl, by kernel_rfl, ci25, cr25, Go.Proofs.Tryz.ntmps25.symm⟩⟩

/-- gabelle/valid.each[gabelle/api.FuncType] -/
def ir26 : IR :=
  (.seq (.ops [⟨some 8, none, .mv (.tm 1)⟩,
    ⟨some 9, none, .len .sl (.tm 8)⟩,
    ⟨some 10, none, .mv (.cn (.int .i64 (0)))⟩])
  (.block 0
   (.loop
    (.seq (.ops [⟨some 11, none, .bin .lss .int (.tm 10) (.tm 9)⟩])
    (.seq (.cond (.tm 11)
     .skip
     (.exit 0))
    (.seq (.block 1
     (.seq (.ops [⟨some 12, none, .idxAddr 2 none (.tm 8) (.tm 10)⟩,
       ⟨some 13, none, .load (some 2) (.tm 12)⟩,
       ⟨some 7, none, .newv 29 [.slice none 0 0, .slice none 0 0]⟩,
       ⟨none, none, .store 2 (.tm 7) (.tm 13)⟩])
     (.seq (.seq (.ops [⟨some 14, none, .mv (.tm 0)⟩,
       ⟨some 15, none, .nilCheck (.tm 14)⟩,
       ⟨some 16, none, .fieldAddr 13 (.tm 15)⟩,
       ⟨some 17, none, .load none (.tm 16)⟩,
       ⟨some 18, none, .bin .neq .int (.tm 17) (.cn (.int .i64 (0)))⟩])
     (.cond (.tm 18)
      .ret
      .skip))
     (.ops [⟨some 19, none, .mv (.tm 2)⟩,
       ⟨some 20, none, .load (some 2) (.tm 7)⟩,
       ⟨some 21, none, .call (.tm 19) [.tm 20]⟩]))))
    (.ops [⟨some 22, none, .bin .add .int (.tm 10) (.cn (.int .i64 (1)))⟩,
      ⟨some 10, none, .mv (.tm 22)⟩])))))))
def rt26 : List IRet := []
theorem ci26 : (Go.Proofs.Tryz.f26.body).bind (compile Go.Proofs.Tryz.prog Go.Proofs.Tryz.f26.ntmps) = some ir26 := by kernel_rfl
theorem cr26 : compileRets Go.Proofs.Tryz.prog Go.Proofs.Tryz.f26.results.toList = some rt26 := by kernel_rfl
def fn26 : XFn := ⟨ir26, rt26, 23⟩
theorem fk26 : FnOK Go.Proofs.Tryz.prog 26 fn26 := ⟨⟨_, _, Go.Proofs.Tryz.func26, rfl, by kernel_rfl, ci26, cr26, Go.Proofs.Tryz.ntmps26.symm⟩⟩

/-- gabelle/valid.Check$3 -/
def ir27 : IR :=
  (.seq (.ops [⟨some 2, none, .box 29 (.tm 0)⟩])
  (.draw (some [(some true, ⟨some 3, none, .load none (.tm 1)⟩),
    (some false, ⟨some 4, none, .fieldAddr 1 (.tm 2)⟩),
    (some false, ⟨some 5, none, .load none (.tm 4)⟩),
    (some false, ⟨some 6, none, .len .sl (.tm 5)⟩),
    (some false, ⟨some 7, none, .bin .leq .int (.tm 6) (.cn (.int .i64 (1)))⟩),
    (some false, ⟨some 8, none, .mv (.tm 7)⟩),
    (some false, ⟨some 9, (some (8, true)), .fieldAddr 0 (.tm 2)⟩),
    (some false, ⟨some 10, (some (8, true)), .load none (.tm 9)⟩),
    (none, ⟨some 11, (some (8, true)), .call (.cn (.func (.func 28) #[] #[])) [.tm 10]⟩),
    (some false, ⟨some 12, none, .pick (.tm 8) (.tm 11) (.cn (.bool false))⟩),
    (some false, ⟨some 13, none, .mv (.tm 12)⟩),
    (some false, ⟨some 14, (some (13, true)), .fieldAddr 1 (.tm 2)⟩),
    (some false, ⟨some 15, (some (13, true)), .load none (.tm 14)⟩),
    (none, ⟨some 16, (some (13, true)), .call (.cn (.func (.func 28) #[] #[])) [.tm 15]⟩),
    (some false, ⟨some 17, none, .pick (.tm 13) (.tm 16) (.cn (.bool false))⟩),
    (none, ⟨some 18, none, .call (.cn (.func (.func 21) #[] #[])) [.tm 3, .tm 17, .cn (.int .i64 (100))]⟩)])
   [([], ⟨some 3, none, .load none (.tm 1)⟩),
    ([], ⟨some 4, none, .fieldAddr 1 (.tm 2)⟩),
    ([1], ⟨some 5, none, .load none (.tm 4)⟩),
    ([1, 2], ⟨some 6, none, .len .sl (.tm 5)⟩),
    ([1, 2, 3], ⟨some 7, none, .bin .leq .int (.tm 6) (.cn (.int .i64 (1)))⟩),
    ([1, 2, 3, 4], ⟨some 8, none, .mv (.tm 7)⟩),
    ([1, 2, 3, 4, 5], ⟨some 9, (some (8, true)), .fieldAddr 0 (.tm 2)⟩),
    ([1, 2, 3, 4, 5, 6], ⟨some 10, (some (8, true)), .load none (.tm 9)⟩),
    ([1, 2, 3, 4, 5, 6, 7], ⟨some 11, (some (8, true)), .call (.cn (.func (.func 28) #[] #[])) [.tm 10]⟩),
    ([1, 2, 3, 4, 5, 6, 7, 8], ⟨some 12, none, .pick (.tm 8) (.tm 11) (.cn (.bool false))⟩),
    ([1, 2, 3, 4, 5, 6, 7, 8, 9], ⟨some 13, none, .mv (.tm 12)⟩),
    ([1, 2, 3, 4, 5, 6, 7, 8, 9, 10], ⟨some 14, (some (13, true)), .fieldAddr 1 (.tm 2)⟩),
    ([1, 2, 3, 4, 5, 6, 7, 8, 9, 10, 11], ⟨some 15, (some (13, true)), .load none (.tm 14)⟩),
    ([1, 2, 3, 4, 5, 6, 7, 8, 9, 10, 11, 12], ⟨some 16, (some (13, true)), .call (.cn (.func (.func 28) #[] #[])) [.tm 15]⟩),
    ([1, 2, 3, 4, 5, 6, 7, 8, 9, 10, 11, 12, 13], ⟨some 17, none, .pick (.tm 13) (.tm 16) (.cn (.bool false))⟩),
    ([0, 1, 2, 3, 4, 5, 6, 7, 8, 9, 10, 11, 12, 13, 14], ⟨some 18, none, .call (.cn (.func (.func 21) #[] #[])) [.tm 3, .tm 17, .cn (.int .i64 (100))]⟩)]))
def rt27 : List IRet := []
theorem ci27 : (Go.Proofs.Tryz.f27.body).bind (compile Go.Proofs.Tryz.prog Go.Proofs.Tryz.f27.ntmps) = some ir27 := by kernel_rfl
theorem cr27 : compileRets Go.Proofs.Tryz.prog Go.Proofs.Tryz.f27.results.toList = some rt27 := by kernel_rfl
def fn27 : XFn := ⟨ir27, rt27, 19⟩
theorem fk27 : FnOK Go.Proofs.Tryz.prog 27 fn27 := ⟨⟨_, _, Go.Proofs.Tryz.func27, rfl, by kernel_rfl, ci27, cr27, Go.Proofs.Tryz.ntmps27.symm⟩⟩

/-- gabelle/valid.whole -/
def ir28 : IR :=
  (.seq (.ops [⟨some 2, none, .mv (.cn (.bool false))⟩])
  (.seq (.ops [⟨some 3, none, .mv (.tm 0)⟩,
    ⟨some 4, none, .call (.cn (.func (.func 62) #[] #[])) [.tm 3, .cn (.func (.func 63) #[] #[])]⟩,
    ⟨some 5, none, .un .not (.tm 4)⟩,
    ⟨some 2, none, .mv (.tm 5)⟩])
  .ret))
def rt28 : List IRet := [.tm 2]
theorem ci28 : (Go.Proofs.Tryz.f28.body).bind (compile Go.Proofs.Tryz.prog Go.Proofs.Tryz.f28.ntmps) = some ir28 := by kernel_rfl
theorem cr28 : compileRets Go.Proofs.Tryz.prog Go.Proofs.Tryz.f28.results.toList = some rt28 := by kernel_rfl
def fn28 : XFn := ⟨ir28, rt28, 6⟩
theorem fk28 : FnOK Go.Proofs.Tryz.prog 28 fn28 := ⟨⟨_, _, Go.Proofs.Tryz.func28, rfl, by kernel_rfl, ci28, cr28, Go.Proofs.Tryz.ntmps28.symm⟩⟩

/-- (*gabelle/valid.checker).imported -/
def ir29 : IR :=
  (.seq (.ops [⟨some 3, none, .box 75 (.tm 1)⟩])
  (.seq (.ops [⟨some 6, none, .fieldAddr 2 (.tm 3)⟩,
    ⟨some 7, none, .load none (.tm 6)⟩])
  (.block 0
   (.seq (.ops [⟨some 9, none, .bin .eql .int (.tm 7) (.cn (.int .u8 (0)))⟩,
     ⟨some 8, none, .mv (.tm 9)⟩])
   (.cond (.tm 8)
    (.seq (.draw none
     [([], ⟨some 11, none, .mv (.tm 0)⟩),
      ([0], ⟨some 12, none, .nilCheck (.tm 11)⟩),
      ([0, 1], ⟨some 13, none, .fieldAddr 12 (.tm 12)⟩),
      ([0, 1, 2], ⟨some 14, none, .load none (.tm 13)⟩),
      ([], ⟨some 15, none, .fieldAddr 3 (.tm 3)⟩),
      ([4], ⟨some 16, none, .load none (.tm 15)⟩),
      ([0, 1, 2, 3, 4, 5], ⟨some 17, none, .call (.cn (.func (.func 32) #[] #[])) [.tm 14, .tm 16]⟩),
      ([0, 1, 2, 3, 4, 5, 6], ⟨some 10, none, .mv (.tm 17)⟩),
      ([0, 1, 2, 3, 4, 5, 6, 7], ⟨some 18, none, .extract (.tm 10) 0⟩),
      ([0, 1, 2, 3, 4, 5, 6, 7], ⟨some 19, none, .extract (.tm 10) 1⟩),
      ([], ⟨some 4, none, .newv 29 [.slice none 0 0, .slice none 0 0]⟩),
      ([0, 1, 2, 3, 4, 5, 6, 7, 8, 10], ⟨none, none, .store 2 (.tm 4) (.tm 18)⟩),
      ([0, 1, 2, 3, 4, 5, 6, 7, 8, 9, 10, 11], ⟨some 5, none, .mv (.tm 19)⟩)])
    (.ops [⟨some 20, none, .mv (.tm 0)⟩,
      ⟨some 21, none, .mv (.tm 5)⟩,
      ⟨some 22, none, .call (.cn (.func (.func 21) #[] #[])) [.tm 20, .tm 21, .cn (.int .i64 (80))]⟩]))
    (.seq (.ops [⟨some 24, none, .bin .eql .int (.tm 7) (.cn (.int .u8 (3)))⟩,
      ⟨some 23, none, .mv (.tm 24)⟩])
    (.cond (.tm 23)
     (.ops [⟨some 25, none, .mv (.tm 0)⟩,
       ⟨some 26, none, .fieldAddr 6 (.tm 3)⟩,
       ⟨some 27, none, .fieldAddr 0 (.tm 26)⟩,
       ⟨some 28, none, .load none (.tm 27)⟩,
       ⟨some 29, none, .bslice 5 1 [.int .u8 (0)] [(0, 1, (.tm 28))]⟩,
       ⟨some 30, none, .call (.cn (.func (.func 28) #[] #[])) [.tm 29]⟩,
       ⟨some 31, none, .call (.cn (.func (.func 21) #[] #[])) [.tm 25, .tm 30, .cn (.int .i64 (100))]⟩])
     .skip)))))))
def rt29 : List IRet := []
theorem ci29 : (Go.Proofs.Tryz.f29.body).bind (compile Go.Proofs.Tryz.prog Go.Proofs.Tryz.f29.ntmps) = some ir29 := by kernel_rfl
theorem cr29 : compileRets Go.Proofs.Tryz.prog Go.Proofs.Tryz.f29.results.toList = some rt29 := by kernel_rfl
def fn29 : XFn := ⟨ir29, rt29, 32⟩
theorem fk29 : FnOK Go.Proofs.Tryz.prog 29 fn29 := ⟨⟨_, _, Go.Proofs.Tryz.func29, rfl, by kernel_rfl, ci29, cr29, Go.Proofs.Tryz.ntmps29.symm⟩⟩

/-- gabelle/valid.each[uint32] -/
def ir30 : IR :=
  (.seq (.ops [⟨some 8, none, .mv (.tm 1)⟩,
    ⟨some 9, none, .len .sl (.tm 8)⟩,
    ⟨some 10, none, .mv (.cn (.int .i64 (0)))⟩])
  (.block 0
   (.loop
    (.seq (.ops [⟨some 11, none, .bin .lss .int (.tm 10) (.tm 9)⟩])
    (.seq (.cond (.tm 11)
     .skip
     (.exit 0))
    (.seq (.block 1
     (.seq (.ops [⟨some 12, none, .idxAddr 1 none (.tm 8) (.tm 10)⟩,
       ⟨some 13, none, .load none (.tm 12)⟩,
       ⟨some 7, none, .mv (.tm 13)⟩])
     (.seq (.seq (.ops [⟨some 14, none, .mv (.tm 0)⟩,
       ⟨some 15, none, .nilCheck (.tm 14)⟩,
       ⟨some 16, none, .fieldAddr 13 (.tm 15)⟩,
       ⟨some 17, none, .load none (.tm 16)⟩,
       ⟨some 18, none, .bin .neq .int (.tm 17) (.cn (.int .i64 (0)))⟩])
     (.cond (.tm 18)
      .ret
      .skip))
     (.ops [⟨some 19, none, .mv (.tm 2)⟩,
       ⟨some 20, none, .mv (.tm 7)⟩,
       ⟨some 21, none, .call (.tm 19) [.tm 20]⟩]))))
    (.ops [⟨some 22, none, .bin .add .int (.tm 10) (.cn (.int .i64 (1)))⟩,
      ⟨some 10, none, .mv (.tm 22)⟩])))))))
def rt30 : List IRet := []
theorem ci30 : (Go.Proofs.Tryz.f30.body).bind (compile Go.Proofs.Tryz.prog Go.Proofs.Tryz.f30.ntmps) = some ir30 := by kernel_rfl
theorem cr30 : compileRets Go.Proofs.Tryz.prog Go.Proofs.Tryz.f30.results.toList = some rt30 := by kernel_rfl
def fn30 : XFn := ⟨ir30, rt30, 23⟩
theorem fk30 : FnOK Go.Proofs.Tryz.prog 30 fn30 := ⟨⟨_, _, Go.Proofs.Tryz.func30, rfl, by kernel_rfl, ci30, cr30, Go.Proofs.Tryz.ntmps30.symm⟩⟩

/-- gabelle/valid.Check$4 -/
def ir31 : IR :=
  (.seq (.ops [⟨some 6, none, .load none (.tm 1)⟩,
    ⟨some 7, none, .nilCheck (.tm 6)⟩,
    ⟨some 8, none, .fieldAddr 12 (.tm 7)⟩,
    ⟨some 9, none, .load none (.tm 8)⟩,
    ⟨some 10, none, .mv (.tm 0)⟩,
    ⟨some 11, none, .call (.cn (.func (.func 32) #[] #[])) [.tm 9, .tm 10]⟩,
    ⟨some 5, none, .mv (.tm 11)⟩,
    ⟨some 12, none, .extract (.tm 5) 0⟩,
    ⟨some 13, none, .extract (.tm 5) 1⟩,
    ⟨some 3, none, .newv 29 [.slice none 0 0, .slice none 0 0]⟩,
    ⟨none, none, .store 2 (.tm 3) (.tm 12)⟩,
    ⟨some 4, none, .mv (.tm 13)⟩])
  (.ops [⟨some 14, none, .load none (.tm 1)⟩,
    ⟨some 15, none, .mv (.tm 4)⟩,
    ⟨some 16, none, .call (.cn (.func (.func 21) #[] #[])) [.tm 14, .tm 15, .cn (.int .i64 (80))]⟩]))
def rt31 : List IRet := []
theorem ci31 : (Go.Proofs.Tryz.f31.body).bind (compile Go.Proofs.Tryz.prog Go.Proofs.Tryz.f31.ntmps) = some ir31 := by kernel_rfl
theorem cr31 : compileRets Go.Proofs.Tryz.prog Go.Proofs.Tryz.f31.results.toList = some rt31 := by kernel_rfl
def fn31 : XFn := ⟨ir31, rt31, 17⟩
theorem fk31 : FnOK Go.Proofs.Tryz.prog 31 fn31 := ⟨⟨_, _, Go.Proofs.Tryz.func31, rfl, by kernel_rfl, ci31, cr31, Go.Proofs.Tryz.ntmps31.symm⟩⟩

/-- (*gabelle/space.Space).Type -/
def ir32 : IR :=
  (.seq (.ops [⟨some 4, none, .newv 29 [.slice none 0 0, .slice none 0 0]⟩,
    ⟨some 5, none, .mv (.cn (.bool false))⟩])
  (.seq (.seq (.ops [⟨some 8, none, .mv (.tm 0)⟩,
    ⟨some 9, none, .bin .eql .ptr (.tm 8) (.cn (.pointer none))⟩])
  (.cond (.tm 9)
   (.seq (.ops [⟨some 10, none, .build [.slice none 0 0, .slice none 0 0] []⟩,
     ⟨none, none, .store 2 (.tm 4) (.tm 10)⟩,
     ⟨some 5, none, .mv (.cn (.bool false))⟩])
   .ret)
   .skip))
  (.seq (.ops [⟨some 12, none, .mv (.tm 0)⟩,
    ⟨some 13, none, .nilCheck (.tm 12)⟩,
    ⟨some 14, none, .fieldAddr 0 (.tm 13)⟩,
    ⟨some 15, none, .load none (.tm 14)⟩,
    ⟨some 16, none, .mv (.tm 1)⟩,
    ⟨some 17, none, .call (.cn (.func (.func 57) #[] #[])) [.tm 15, .tm 16]⟩,
    ⟨some 11, none, .mv (.tm 17)⟩,
    ⟨some 18, none, .extract (.tm 11) 0⟩,
    ⟨some 19, none, .extract (.tm 11) 1⟩,
    ⟨some 6, none, .newv 29 [.slice none 0 0, .slice none 0 0]⟩,
    ⟨none, none, .store 2 (.tm 6) (.tm 18)⟩,
    ⟨some 7, none, .mv (.tm 19)⟩])
  (.seq (.ops [⟨some 20, none, .load (some 2) (.tm 6)⟩,
    ⟨some 21, none, .call (.cn (.func (.func 51) #[] #[])) [.tm 20]⟩,
    ⟨some 22, none, .mv (.tm 7)⟩,
    ⟨none, none, .store 2 (.tm 4) (.tm 21)⟩,
    ⟨some 5, none, .mv (.tm 22)⟩])
  .ret))))
def rt32 : List IRet := [.cell 4 (some 2), .tm 5]
theorem ci32 : (Go.Proofs.Tryz.f32.body).bind (compile Go.Proofs.Tryz.prog Go.Proofs.Tryz.f32.ntmps) = some ir32 := by kernel_rfl
theorem cr32 : compileRets Go.Proofs.Tryz.prog Go.Proofs.Tryz.f32.results.toList = some rt32 := by kernel_rfl
def fn32 : XFn := ⟨ir32, rt32, 23⟩
theorem fk32 : FnOK Go.Proofs.Tryz.prog 32 fn32 := ⟨⟨_, _, Go.Proofs.Tryz.func32, rfl, by kernel_rfl, ci32, cr32, Go.Proofs.Tryz.ntmps32.symm⟩⟩

/-- (*gabelle/valid.checker).stores -/
def ir33 : IR :=
  (.seq (.ops [⟨some 6, none, .mv (.tm 0)⟩,
    ⟨some 7, none, .mv (.tm 0)⟩,
    ⟨some 8, none, .nilCheck (.tm 7)⟩,
    ⟨some 9, none, .fieldAddr 12 (.tm 8)⟩,
    ⟨some 10, none, .load none (.tm 9)⟩,
    ⟨some 11, none, .call (.cn (.func (.func 59) #[] #[])) [.tm 10, .cn (.int .u8 (1))]⟩,
    ⟨some 12, none, .bin .leq .int (.tm 11) (.cn (.int .i64 (1)))⟩,
    ⟨some 13, none, .mv (.tm 12)⟩,
    ⟨some 14, (some (13, true)), .mv (.tm 0)⟩,
    ⟨some 15, (some (13, true)), .nilCheck (.tm 14)⟩,
    ⟨some 16, (some (13, true)), .fieldAddr 12 (.tm 15)⟩,
    ⟨some 17, (some (13, true)), .load none (.tm 16)⟩,
    ⟨some 18, (some (13, true)), .call (.cn (.func (.func 59) #[] #[])) [.tm 17, .cn (.int .u8 (2))]⟩,
    ⟨some 19, (some (13, true)), .bin .leq .int (.tm 18) (.cn (.int .i64 (1)))⟩,
    ⟨some 20, none, .pick (.tm 13) (.tm 19) (.cn (.bool false))⟩,
    ⟨some 21, none, .call (.cn (.func (.func 21) #[] #[])) [.tm 6, .tm 20, .cn (.int .i64 (112))]⟩])
  (.seq (.seq (.ops [⟨some 23, none, .mv (.tm 0)⟩,
    ⟨some 24, none, .nilCheck (.tm 23)⟩,
    ⟨some 25, none, .fieldAddr 12 (.tm 24)⟩,
    ⟨some 26, none, .load none (.tm 25)⟩,
    ⟨some 27, none, .call (.cn (.func (.func 60) #[] #[])) [.tm 26, .cn (.int .u32 (0))]⟩,
    ⟨some 22, none, .mv (.tm 27)⟩,
    ⟨some 28, none, .extract (.tm 22) 0⟩,
    ⟨some 29, none, .extract (.tm 22) 1⟩,
    ⟨some 2, none, .newv 66 [.int .u32 (0), .int .i64 (0)]⟩,
    ⟨none, none, .store 2 (.tm 2) (.tm 28)⟩,
    ⟨some 3, none, .mv (.tm 29)⟩])
  (.seq (.ops [⟨some 30, none, .mv (.tm 3)⟩])
  (.cond (.tm 30)
   (.ops [⟨some 31, none, .mv (.tm 0)⟩,
     ⟨some 32, none, .load (some 2) (.tm 2)⟩,
     ⟨some 33, none, .call (.cn (.func (.func 64) #[] #[])) [.tm 31, .tm 32, .cn (.int .i64 (4294967295))]⟩])
   .skip)))
  (.seq (.ops [⟨some 35, none, .mv (.tm 0)⟩,
    ⟨some 36, none, .nilCheck (.tm 35)⟩,
    ⟨some 37, none, .fieldAddr 12 (.tm 36)⟩,
    ⟨some 38, none, .load none (.tm 37)⟩,
    ⟨some 39, none, .call (.cn (.func (.func 61) #[] #[])) [.tm 38, .cn (.int .u32 (0))]⟩,
    ⟨some 34, none, .mv (.tm 39)⟩,
    ⟨some 40, none, .extract (.tm 34) 0⟩,
    ⟨some 41, none, .extract (.tm 34) 1⟩,
    ⟨some 4, none, .newv 66 [.int .u32 (0), .int .i64 (0)]⟩,
    ⟨none, none, .store 2 (.tm 4) (.tm 40)⟩,
    ⟨some 5, none, .mv (.tm 41)⟩])
  (.seq (.ops [⟨some 42, none, .mv (.tm 5)⟩])
  (.cond (.tm 42)
   (.ops [⟨some 43, none, .mv (.tm 0)⟩,
     ⟨some 44, none, .load (some 2) (.tm 4)⟩,
     ⟨some 45, none, .call (.cn (.func (.func 64) #[] #[])) [.tm 43, .tm 44, .cn (.int .i64 (65536))]⟩])
   .skip)))))
def rt33 : List IRet := []
theorem ci33 : (Go.Proofs.Tryz.f33.body).bind (compile Go.Proofs.Tryz.prog Go.Proofs.Tryz.f33.ntmps) = some ir33 := by kernel_rfl
theorem cr33 : compileRets Go.Proofs.Tryz.prog Go.Proofs.Tryz.f33.results.toList = some rt33 := by kernel_rfl
def fn33 : XFn := ⟨ir33, rt33, 46⟩
theorem fk33 : FnOK Go.Proofs.Tryz.prog 33 fn33 := ⟨⟨_, _, Go.Proofs.Tryz.func33, rfl, by kernel_rfl, ci33, cr33, Go.Proofs.Tryz.ntmps33.symm⟩⟩

/-- gabelle/valid.each[gabelle/api.Global] -/
def ir34 : IR :=
  (.seq (.ops [⟨some 8, none, .mv (.tm 1)⟩,
    ⟨some 9, none, .len .sl (.tm 8)⟩,
    ⟨some 10, none, .mv (.cn (.int .i64 (0)))⟩])
  (.block 0
   (.loop
    (.seq (.ops [⟨some 11, none, .bin .lss .int (.tm 10) (.tm 9)⟩])
    (.seq (.cond (.tm 11)
     .skip
     (.exit 0))
    (.seq (.block 1
     (.seq (.ops [⟨some 12, none, .idxAddr 3 none (.tm 8) (.tm 10)⟩,
       ⟨some 13, none, .load (some 3) (.tm 12)⟩,
       ⟨some 7, none, .newv 59 [.int .u8 (0), .bool false, .slice none 0 0]⟩,
       ⟨none, none, .store 3 (.tm 7) (.tm 13)⟩])
     (.seq (.seq (.ops [⟨some 14, none, .mv (.tm 0)⟩,
       ⟨some 15, none, .nilCheck (.tm 14)⟩,
       ⟨some 16, none, .fieldAddr 13 (.tm 15)⟩,
       ⟨some 17, none, .load none (.tm 16)⟩,
       ⟨some 18, none, .bin .neq .int (.tm 17) (.cn (.int .i64 (0)))⟩])
     (.cond (.tm 18)
      .ret
      .skip))
     (.ops [⟨some 19, none, .mv (.tm 2)⟩,
       ⟨some 20, none, .load (some 3) (.tm 7)⟩,
       ⟨some 21, none, .call (.tm 19) [.tm 20]⟩]))))
    (.ops [⟨some 22, none, .bin .add .int (.tm 10) (.cn (.int .i64 (1)))⟩,
      ⟨some 10, none, .mv (.tm 22)⟩])))))))
def rt34 : List IRet := []
theorem ci34 : (Go.Proofs.Tryz.f34.body).bind (compile Go.Proofs.Tryz.prog Go.Proofs.Tryz.f34.ntmps) = some ir34 := by kernel_rfl
theorem cr34 : compileRets Go.Proofs.Tryz.prog Go.Proofs.Tryz.f34.results.toList = some rt34 := by kernel_rfl
def fn34 : XFn := ⟨ir34, rt34, 23⟩
theorem fk34 : FnOK Go.Proofs.Tryz.prog 34 fn34 := ⟨⟨_, _, Go.Proofs.Tryz.func34, rfl, by kernel_rfl, ci34, cr34, Go.Proofs.Tryz.ntmps34.symm⟩⟩

/-- gabelle/valid.Check$5 -/
def ir35 : IR :=
  (.seq (.ops [⟨some 2, none, .box 59 (.tm 0)⟩])
  (.seq (.draw (some [(some true, ⟨some 3, none, .load none (.tm 1)⟩),
    (some false, ⟨some 4, none, .fieldAddr 0 (.tm 2)⟩),
    (some false, ⟨some 5, none, .fieldAddr 0 (.tm 4)⟩),
    (some false, ⟨some 6, none, .load none (.tm 5)⟩),
    (none, ⟨some 7, none, .bslice 5 1 [.int .u8 (0)] [(0, 1, (.tm 6))]⟩),
    (none, ⟨some 8, none, .call (.cn (.func (.func 28) #[] #[])) [.tm 7]⟩),
    (none, ⟨some 9, none, .call (.cn (.func (.func 21) #[] #[])) [.tm 3, .tm 8, .cn (.int .i64 (100))]⟩)])
   [([], ⟨some 3, none, .load none (.tm 1)⟩),
    ([], ⟨some 4, none, .fieldAddr 0 (.tm 2)⟩),
    ([1], ⟨some 5, none, .fieldAddr 0 (.tm 4)⟩),
    ([1, 2], ⟨some 6, none, .load none (.tm 5)⟩),
    ([1, 2, 3], ⟨some 7, none, .bslice 5 1 [.int .u8 (0)] [(0, 1, (.tm 6))]⟩),
    ([1, 2, 3, 4], ⟨some 8, none, .call (.cn (.func (.func 28) #[] #[])) [.tm 7]⟩),
    ([0, 1, 2, 3, 4, 5], ⟨some 9, none, .call (.cn (.func (.func 21) #[] #[])) [.tm 3, .tm 8, .cn (.int .i64 (100))]⟩)])
  (.ops [⟨some 10, none, .load none (.tm 1)⟩,
    ⟨some 11, none, .fieldAddr 2 (.tm 2)⟩,
    ⟨some 12, none, .load none (.tm 11)⟩,
    ⟨some 13, none, .fieldAddr 0 (.tm 2)⟩,
    ⟨some 14, none, .fieldAddr 0 (.tm 13)⟩,
    ⟨some 15, none, .load none (.tm 14)⟩,
    ⟨some 16, none, .call (.cn (.func (.func 36) #[] #[])) [.tm 10, .tm 12, .tm 15]⟩])))
def rt35 : List IRet := []
theorem ci35 : (Go.Proofs.Tryz.f35.body).bind (compile Go.Proofs.Tryz.prog Go.Proofs.Tryz.f35.ntmps) = some ir35 := by kernel_rfl
theorem cr35 : compileRets Go.Proofs.Tryz.prog Go.Proofs.Tryz.f35.results.toList = some rt35 := by kernel_rfl
def fn35 : XFn := ⟨ir35, rt35, 17⟩
theorem fk35 : FnOK Go.Proofs.Tryz.prog 35 fn35 := ⟨⟨_, _, Go.Proofs.Tryz.func35, rfl, by kernel_rfl, ci35, cr35, Go.Proofs.Tryz.ntmps35.symm⟩⟩

/-- (*gabelle/valid.checker).constant -/
def ir36 : IR :=
  (.seq (.ops [⟨some 9, none, .mv (.tm 0)⟩,
    ⟨some 10, none, .mv (.tm 1)⟩,
    ⟨some 11, none, .len .sl (.tm 10)⟩,
    ⟨some 12, none, .bin .eql .int (.tm 11) (.cn (.int .i64 (1)))⟩,
    ⟨some 13, none, .call (.cn (.func (.func 21) #[] #[])) [.tm 9, .tm 12, .cn (.int .i64 (110))]⟩])
  (.seq (.seq (.ops [⟨some 14, none, .mv (.tm 0)⟩,
    ⟨some 15, none, .nilCheck (.tm 14)⟩,
    ⟨some 16, none, .fieldAddr 13 (.tm 15)⟩,
    ⟨some 17, none, .load none (.tm 16)⟩,
    ⟨some 18, none, .bin .neq .int (.tm 17) (.cn (.int .i64 (0)))⟩])
  (.cond (.tm 18)
   .ret
   .skip))
  (.seq (.ops [⟨some 19, none, .mv (.tm 1)⟩,
    ⟨some 20, none, .idxAddr 5 none (.tm 19) (.cn (.int .i64 (0)))⟩,
    ⟨some 21, none, .load (some 5) (.tm 20)⟩,
    ⟨some 6, none, .newv 56 [.int .u8 (0), .int .u32 (0), .int .u32 (0), .int .i64 (0), .slice none 0 0]⟩,
    ⟨none, none, .store 5 (.tm 6) (.tm 21)⟩])
  (.seq (.ops [⟨some 22, none, .fieldAddr 0 (.tm 6)⟩,
    ⟨some 23, none, .load none (.tm 22)⟩])
  (.block 0
   (.seq (.ops [⟨some 27, none, .bin .eql .int (.tm 23) (.cn (.int .u8 (65)))⟩,
     ⟨some 26, none, .mv (.tm 27)⟩])
   (.cond (.tm 26)
    (.ops [⟨some 28, none, .mv (.tm 0)⟩,
      ⟨some 29, none, .mv (.tm 2)⟩,
      ⟨some 30, none, .bin .eql .int (.tm 29) (.cn (.int .u8 (127)))⟩,
      ⟨some 31, none, .call (.cn (.func (.func 21) #[] #[])) [.tm 28, .tm 30, .cn (.int .i64 (100))]⟩])
    (.seq (.ops [⟨some 33, none, .bin .eql .int (.tm 23) (.cn (.int .u8 (66)))⟩,
      ⟨some 32, none, .mv (.tm 33)⟩])
    (.cond (.tm 32)
     (.ops [⟨some 34, none, .mv (.tm 0)⟩,
       ⟨some 35, none, .mv (.tm 2)⟩,
       ⟨some 36, none, .bin .eql .int (.tm 35) (.cn (.int .u8 (126)))⟩,
       ⟨some 37, none, .call (.cn (.func (.func 21) #[] #[])) [.tm 34, .tm 36, .cn (.int .i64 (100))]⟩])
     (.seq (.ops [⟨some 39, none, .bin .eql .int (.tm 23) (.cn (.int .u8 (35)))⟩,
       ⟨some 38, none, .mv (.tm 39)⟩])
     (.cond (.tm 38)
      (.seq (.draw none
       [([], ⟨some 41, none, .mv (.tm 0)⟩),
        ([0], ⟨some 42, none, .nilCheck (.tm 41)⟩),
        ([0, 1], ⟨some 43, none, .fieldAddr 12 (.tm 42)⟩),
        ([0, 1, 2], ⟨some 44, none, .load none (.tm 43)⟩),
        ([], ⟨some 45, none, .fieldAddr 1 (.tm 6)⟩),
        ([4], ⟨some 46, none, .load none (.tm 45)⟩),
        ([0, 1, 2, 3, 4, 5], ⟨some 47, none, .call (.cn (.func (.func 65) #[] #[])) [.tm 44, .tm 46]⟩),
        ([0, 1, 2, 3, 4, 5, 6], ⟨some 40, none, .mv (.tm 47)⟩),
        ([0, 1, 2, 3, 4, 5, 6, 7], ⟨some 48, none, .extract (.tm 40) 0⟩),
        ([0, 1, 2, 3, 4, 5, 6, 7], ⟨some 49, none, .extract (.tm 40) 1⟩),
        ([], ⟨some 7, none, .newv 54 [.int .u8 (0), .bool false]⟩),
        ([0, 1, 2, 3, 4, 5, 6, 7, 8, 10], ⟨none, none, .store 2 (.tm 7) (.tm 48)⟩),
        ([0, 1, 2, 3, 4, 5, 6, 7, 8, 9, 10, 11], ⟨some 8, none, .mv (.tm 49)⟩)])
      (.seq (.draw (some [(some true, ⟨some 50, none, .mv (.tm 0)⟩),
        (some true, ⟨some 51, none, .fieldAddr 1 (.tm 6)⟩),
        (some true, ⟨some 52, none, .load none (.tm 51)⟩),
        (some true, ⟨some 53, none, .conv (.int .u64) (.tm 52)⟩),
        (some false, ⟨some 54, none, .mv (.tm 0)⟩),
        (some false, ⟨some 55, none, .nilCheck (.tm 54)⟩),
        (some false, ⟨some 56, none, .fieldAddr 12 (.tm 55)⟩),
        (some false, ⟨some 57, none, .load none (.tm 56)⟩),
        (none, ⟨some 58, none, .call (.cn (.func (.func 44) #[] #[])) [.tm 57, .cn (.int .u8 (3))]⟩),
        (some false, ⟨some 59, none, .conv (.int .u64) (.tm 58)⟩),
        (some false, ⟨some 60, none, .bin .lss .int (.tm 53) (.tm 59)⟩),
        (none, ⟨some 61, none, .call (.cn (.func (.func 21) #[] #[])) [.tm 50, .tm 60, .cn (.int .i64 (80))]⟩)])
       [([], ⟨some 50, none, .mv (.tm 0)⟩),
        ([], ⟨some 51, none, .fieldAddr 1 (.tm 6)⟩),
        ([1], ⟨some 52, none, .load none (.tm 51)⟩),
        ([1, 2], ⟨some 53, none, .conv (.int .u64) (.tm 52)⟩),
        ([], ⟨some 54, none, .mv (.tm 0)⟩),
        ([4], ⟨some 55, none, .nilCheck (.tm 54)⟩),
        ([4, 5], ⟨some 56, none, .fieldAddr 12 (.tm 55)⟩),
        ([4, 5, 6], ⟨some 57, none, .load none (.tm 56)⟩),
        ([4, 5, 6, 7], ⟨some 58, none, .call (.cn (.func (.func 44) #[] #[])) [.tm 57, .cn (.int .u8 (3))]⟩),
        ([4, 5, 6, 7, 8], ⟨some 59, none, .conv (.int .u64) (.tm 58)⟩),
        ([1, 2, 3, 4, 5, 6, 7, 8, 9], ⟨some 60, none, .bin .lss .int (.tm 53) (.tm 59)⟩),
        ([0, 1, 2, 3, 4, 5, 6, 7, 8, 9, 10], ⟨some 61, none, .call (.cn (.func (.func 21) #[] #[])) [.tm 50, .tm 60, .cn (.int .i64 (80))]⟩)])
      (.seq (.ops [⟨some 62, none, .mv (.tm 0)⟩,
        ⟨some 63, none, .fieldAddr 1 (.tm 7)⟩,
        ⟨some 64, none, .load none (.tm 63)⟩,
        ⟨some 65, none, .un .not (.tm 64)⟩,
        ⟨some 66, none, .call (.cn (.func (.func 21) #[] #[])) [.tm 62, .tm 65, .cn (.int .i64 (110))]⟩])
      (.ops [⟨some 67, none, .mv (.tm 0)⟩,
        ⟨some 68, none, .fieldAddr 0 (.tm 7)⟩,
        ⟨some 69, none, .load none (.tm 68)⟩,
        ⟨some 70, none, .mv (.tm 2)⟩,
        ⟨some 71, none, .bin .eql .int (.tm 69) (.tm 70)⟩,
        ⟨some 72, none, .call (.cn (.func (.func 21) #[] #[])) [.tm 67, .tm 71, .cn (.int .i64 (100))]⟩]))))
      (.ops [⟨some 24, none, .mv (.tm 0)⟩,
        ⟨some 25, none, .call (.cn (.func (.func 21) #[] #[])) [.tm 24, .cn (.bool false), .cn (.int .i64 (110))]⟩]))))))))))))
def rt36 : List IRet := []
theorem ci36 : (Go.Proofs.Tryz.f36.body).bind (compile Go.Proofs.Tryz.prog Go.Proofs.Tryz.f36.ntmps) = some ir36 := by kernel_rfl
theorem cr36 : compileRets Go.Proofs.Tryz.prog Go.Proofs.Tryz.f36.results.toList = some rt36 := by kernel_rfl
def fn36 : XFn := ⟨ir36, rt36, 73⟩
theorem fk36 : FnOK Go.Proofs.Tryz.prog 36 fn36 := ⟨⟨_, _, Go.Proofs.Tryz.func36, rfl, by kernel_rfl, ci36, cr36, Go.Proofs.Tryz.ntmps36.symm⟩⟩

/-- (*gabelle/valid.checker).exports -/
def ir37 : IR :=
  (.seq (.ops [⟨some 1, none, .box 87 (.tm 0)⟩])
  (.seq (.ops [⟨some 3, none, .mkMap⟩,
    ⟨some 2, none, .newv 137 [.map none]⟩,
    ⟨none, none, .store 1 (.tm 2) (.tm 3)⟩])
  (.draw (some [(some false, ⟨some 4, none, .load none (.tm 1)⟩),
    (some false, ⟨some 5, none, .load none (.tm 1)⟩),
    (some false, ⟨some 6, none, .nilCheck (.tm 5)⟩),
    (some false, ⟨some 7, none, .fieldAddr 0 (.tm 6)⟩),
    (some false, ⟨some 8, none, .fieldAddr 6 (.tm 7)⟩),
    (some false, ⟨some 9, none, .load none (.tm 8)⟩),
    (some false, ⟨some 10, none, .mkFunc (.func 66) [] [.tm 2, .tm 1]⟩),
    (none, ⟨some 11, none, .call (.cn (.func (.func 24) #[] #[])) [.tm 4, .tm 9, .tm 10]⟩)])
   [([], ⟨some 4, none, .load none (.tm 1)⟩),
    ([], ⟨some 5, none, .load none (.tm 1)⟩),
    ([1], ⟨some 6, none, .nilCheck (.tm 5)⟩),
    ([1, 2], ⟨some 7, none, .fieldAddr 0 (.tm 6)⟩),
    ([1, 2, 3], ⟨some 8, none, .fieldAddr 6 (.tm 7)⟩),
    ([1, 2, 3, 4], ⟨some 9, none, .load none (.tm 8)⟩),
    ([], ⟨some 10, none, .mkFunc (.func 66) [] [.tm 2, .tm 1]⟩),
    ([0, 1, 2, 3, 4, 5, 6], ⟨some 11, none, .call (.cn (.func (.func 24) #[] #[])) [.tm 4, .tm 9, .tm 10]⟩)])))
def rt37 : List IRet := []
theorem ci37 : (Go.Proofs.Tryz.f37.body).bind (compile Go.Proofs.Tryz.prog Go.Proofs.Tryz.f37.ntmps) = some ir37 := by kernel_rfl
theorem cr37 : compileRets Go.Proofs.Tryz.prog Go.Proofs.Tryz.f37.results.toList = some rt37 := by kernel_rfl
def fn37 : XFn := ⟨ir37, rt37, 12⟩
theorem fk37 : FnOK Go.Proofs.Tryz.prog 37 fn37 := ⟨⟨_, _, Go.Proofs.Tryz.func37, rfl, by kernel_rfl, ci37, cr37, Go.Proofs.Tryz.ntmps37.symm⟩⟩

/-- (*gabelle/space.Space).Func -/
def ir38 : IR :=
  (.seq (.ops [⟨some 4, none, .newv 29 [.slice none 0 0, .slice none 0 0]⟩,
    ⟨some 5, none, .mv (.cn (.bool false))⟩])
  (.seq (.seq (.ops [⟨some 8, none, .mv (.tm 0)⟩,
    ⟨some 9, none, .bin .eql .ptr (.tm 8) (.cn (.pointer none))⟩])
  (.cond (.tm 9)
   (.seq (.ops [⟨some 10, none, .build [.slice none 0 0, .slice none 0 0] []⟩,
     ⟨none, none, .store 2 (.tm 4) (.tm 10)⟩,
     ⟨some 5, none, .mv (.cn (.bool false))⟩])
   .ret)
   .skip))
  (.seq (.ops [⟨some 12, none, .mv (.tm 0)⟩,
    ⟨some 13, none, .nilCheck (.tm 12)⟩,
    ⟨some 14, none, .fieldAddr 1 (.tm 13)⟩,
    ⟨some 15, none, .load none (.tm 14)⟩,
    ⟨some 16, none, .mv (.tm 1)⟩,
    ⟨some 17, none, .call (.cn (.func (.func 67) #[] #[])) [.tm 15, .tm 16]⟩,
    ⟨some 11, none, .mv (.tm 17)⟩,
    ⟨some 18, none, .extract (.tm 11) 0⟩,
    ⟨some 19, none, .extract (.tm 11) 1⟩,
    ⟨some 6, none, .newv 127 [.slice none 0 0, .slice none 0 0, .bool false]⟩,
    ⟨none, none, .store 3 (.tm 6) (.tm 18)⟩,
    ⟨some 7, none, .mv (.tm 19)⟩])
  (.seq (.draw (some [(some false, ⟨some 20, none, .fieldAddr 0 (.tm 6)⟩),
    (some false, ⟨some 21, none, .load (some 2) (.tm 20)⟩),
    (some true, ⟨some 23, none, .fieldAddr 2 (.tm 6)⟩),
    (some true, ⟨some 24, none, .load none (.tm 23)⟩),
    (none, ⟨some 22, none, .call (.cn (.func (.func 51) #[] #[])) [.tm 21]⟩),
    (none, ⟨none, none, .store 2 (.tm 4) (.tm 22)⟩),
    (some false, ⟨some 5, none, .mv (.tm 24)⟩)])
   [([], ⟨some 20, none, .fieldAddr 0 (.tm 6)⟩),
    ([0], ⟨some 21, none, .load (some 2) (.tm 20)⟩),
    ([0, 1], ⟨some 22, none, .call (.cn (.func (.func 51) #[] #[])) [.tm 21]⟩),
    ([], ⟨some 23, none, .fieldAddr 2 (.tm 6)⟩),
    ([3], ⟨some 24, none, .load none (.tm 23)⟩),
    ([0, 1, 2], ⟨none, none, .store 2 (.tm 4) (.tm 22)⟩),
    ([0, 1, 2, 3, 4, 5], ⟨some 5, none, .mv (.tm 24)⟩)])
  .ret))))
def rt38 : List IRet := [.cell 4 (some 2), .tm 5]
theorem ci38 : (Go.Proofs.Tryz.f38.body).bind (compile Go.Proofs.Tryz.prog Go.Proofs.Tryz.f38.ntmps) = some ir38 := by kernel_rfl
theorem cr38 : compileRets Go.Proofs.Tryz.prog Go.Proofs.Tryz.f38.results.toList = some rt38 := by kernel_rfl
def fn38 : XFn := ⟨ir38, rt38, 25⟩
theorem fk38 : FnOK Go.Proofs.Tryz.prog 38 fn38 := ⟨⟨_, _, Go.Proofs.Tryz.func38, rfl, by kernel_rfl, ci38, cr38, Go.Proofs.Tryz.ntmps38.symm⟩⟩

/-- gabelle/space.Same -/
def ir39 : IR :=
  (.seq (.ops [⟨some 2, none, .box 29 (.tm 0)⟩,
    ⟨some 3, none, .box 29 (.tm 1)⟩,
    ⟨some 4, none, .mv (.cn (.bool false))⟩])
  (.seq (.ops [⟨some 5, none, .fieldAddr 0 (.tm 2)⟩,
    ⟨some 6, none, .load none (.tm 5)⟩,
    ⟨some 7, none, .fieldAddr 0 (.tm 3)⟩,
    ⟨some 8, none, .load none (.tm 7)⟩,
    ⟨some 9, none, .call (.cn (.func (.func 68) #[] #[])) [.tm 6, .tm 8]⟩,
    ⟨some 10, none, .mv (.tm 9)⟩,
    ⟨some 11, (some (10, true)), .fieldAddr 1 (.tm 2)⟩,
    ⟨some 12, (some (10, true)), .load none (.tm 11)⟩,
    ⟨some 13, (some (10, true)), .fieldAddr 1 (.tm 3)⟩,
    ⟨some 14, (some (10, true)), .load none (.tm 13)⟩,
    ⟨some 15, (some (10, true)), .call (.cn (.func (.func 68) #[] #[])) [.tm 12, .tm 14]⟩,
    ⟨some 16, none, .pick (.tm 10) (.tm 15) (.cn (.bool false))⟩,
    ⟨some 4, none, .mv (.tm 16)⟩])
  .ret))
def rt39 : List IRet := [.tm 4]
theorem ci39 : (Go.Proofs.Tryz.f39.body).bind (compile Go.Proofs.Tryz.prog Go.Proofs.Tryz.f39.ntmps) = some ir39 := by kernel_rfl
theorem cr39 : compileRets Go.Proofs.Tryz.prog Go.Proofs.Tryz.f39.results.toList = some rt39 := by kernel_rfl
def fn39 : XFn := ⟨ir39, rt39, 17⟩
theorem fk39 : FnOK Go.Proofs.Tryz.prog 39 fn39 := ⟨⟨_, _, Go.Proofs.Tryz.func39, rfl, by kernel_rfl, ci39, cr39, Go.Proofs.Tryz.ntmps39.symm⟩⟩

/-- gabelle/valid.each[gabelle/api.Elem] -/
def ir40 : IR :=
  (.seq (.ops [⟨some 8, none, .mv (.tm 1)⟩,
    ⟨some 9, none, .len .sl (.tm 8)⟩,
    ⟨some 10, none, .mv (.cn (.int .i64 (0)))⟩])
  (.block 0
   (.loop
    (.seq (.ops [⟨some 11, none, .bin .lss .int (.tm 10) (.tm 9)⟩])
    (.seq (.cond (.tm 11)
     .skip
     (.exit 0))
    (.seq (.block 1
     (.seq (.ops [⟨some 12, none, .idxAddr 3 none (.tm 8) (.tm 10)⟩,
       ⟨some 13, none, .load (some 3) (.tm 12)⟩,
       ⟨some 7, none, .newv 84 [.int .u32 (0), .slice none 0 0, .slice none 0 0]⟩,
       ⟨none, none, .store 3 (.tm 7) (.tm 13)⟩])
     (.seq (.seq (.ops [⟨some 14, none, .mv (.tm 0)⟩,
       ⟨some 15, none, .nilCheck (.tm 14)⟩,
       ⟨some 16, none, .fieldAddr 13 (.tm 15)⟩,
       ⟨some 17, none, .load none (.tm 16)⟩,
       ⟨some 18, none, .bin .neq .int (.tm 17) (.cn (.int .i64 (0)))⟩])
     (.cond (.tm 18)
      .ret
      .skip))
     (.ops [⟨some 19, none, .mv (.tm 2)⟩,
       ⟨some 20, none, .load (some 3) (.tm 7)⟩,
       ⟨some 21, none, .call (.tm 19) [.tm 20]⟩]))))
    (.ops [⟨some 22, none, .bin .add .int (.tm 10) (.cn (.int .i64 (1)))⟩,
      ⟨some 10, none, .mv (.tm 22)⟩])))))))
def rt40 : List IRet := []
theorem ci40 : (Go.Proofs.Tryz.f40.body).bind (compile Go.Proofs.Tryz.prog Go.Proofs.Tryz.f40.ntmps) = some ir40 := by kernel_rfl
theorem cr40 : compileRets Go.Proofs.Tryz.prog Go.Proofs.Tryz.f40.results.toList = some rt40 := by kernel_rfl
def fn40 : XFn := ⟨ir40, rt40, 23⟩
theorem fk40 : FnOK Go.Proofs.Tryz.prog 40 fn40 := ⟨⟨_, _, Go.Proofs.Tryz.func40, rfl, by kernel_rfl, ci40, cr40, Go.Proofs.Tryz.ntmps40.symm⟩⟩

/-- gabelle/valid.Check$6 -/
def ir41 : IR :=
  (.seq (.ops [⟨some 2, none, .box 84 (.tm 0)⟩])
  (.seq (.draw (some [(some true, ⟨some 3, none, .load none (.tm 1)⟩),
    (some false, ⟨some 4, none, .load none (.tm 1)⟩),
    (some false, ⟨some 5, none, .fieldAddr 0 (.tm 2)⟩),
    (some false, ⟨some 6, none, .load none (.tm 5)⟩),
    (none, ⟨some 7, none, .call (.cn (.func (.func 42) #[] #[])) [.tm 4, .cn (.int .u8 (1)), .tm 6]⟩),
    (none, ⟨some 8, none, .call (.cn (.func (.func 21) #[] #[])) [.tm 3, .tm 7, .cn (.int .i64 (80))]⟩)])
   [([], ⟨some 3, none, .load none (.tm 1)⟩),
    ([], ⟨some 4, none, .load none (.tm 1)⟩),
    ([], ⟨some 5, none, .fieldAddr 0 (.tm 2)⟩),
    ([2], ⟨some 6, none, .load none (.tm 5)⟩),
    ([1, 2, 3], ⟨some 7, none, .call (.cn (.func (.func 42) #[] #[])) [.tm 4, .cn (.int .u8 (1)), .tm 6]⟩),
    ([0, 1, 2, 3, 4], ⟨some 8, none, .call (.cn (.func (.func 21) #[] #[])) [.tm 3, .tm 7, .cn (.int .i64 (80))]⟩)])
  (.seq (.ops [⟨some 9, none, .load none (.tm 1)⟩,
    ⟨some 10, none, .fieldAddr 1 (.tm 2)⟩,
    ⟨some 11, none, .load none (.tm 10)⟩,
    ⟨some 12, none, .call (.cn (.func (.func 36) #[] #[])) [.tm 9, .tm 11, .cn (.int .u8 (127))]⟩])
  (.ops [⟨some 13, none, .load none (.tm 1)⟩,
    ⟨some 14, none, .fieldAddr 2 (.tm 2)⟩,
    ⟨some 15, none, .load none (.tm 14)⟩,
    ⟨some 16, none, .mkFunc (.func 43) [] [.tm 1]⟩,
    ⟨some 17, none, .call (.cn (.func (.func 30) #[] #[])) [.tm 13, .tm 15, .tm 16]⟩]))))
def rt41 : List IRet := []
theorem ci41 : (Go.Proofs.Tryz.f41.body).bind (compile Go.Proofs.Tryz.prog Go.Proofs.Tryz.f41.ntmps) = some ir41 := by kernel_rfl
theorem cr41 : compileRets Go.Proofs.Tryz.prog Go.Proofs.Tryz.f41.results.toList = some rt41 := by kernel_rfl
def fn41 : XFn := ⟨ir41, rt41, 18⟩
theorem fk41 : FnOK Go.Proofs.Tryz.prog 41 fn41 := ⟨⟨_, _, Go.Proofs.Tryz.func41, rfl, by kernel_rfl, ci41, cr41, Go.Proofs.Tryz.ntmps41.symm⟩⟩

/-- (*gabelle/valid.checker).there -/
def ir42 : IR :=
  (.seq (.ops [⟨some 6, none, .mv (.cn (.bool false))⟩])
  (.seq (.ops [⟨some 7, none, .mv (.tm 2)⟩,
    ⟨some 8, none, .conv (.int .u64) (.tm 7)⟩,
    ⟨some 9, none, .mv (.tm 0)⟩,
    ⟨some 10, none, .nilCheck (.tm 9)⟩,
    ⟨some 11, none, .fieldAddr 12 (.tm 10)⟩,
    ⟨some 12, none, .load none (.tm 11)⟩,
    ⟨some 13, none, .mv (.tm 1)⟩,
    ⟨some 14, none, .call (.cn (.func (.func 59) #[] #[])) [.tm 12, .tm 13]⟩,
    ⟨some 15, none, .conv (.int .u64) (.tm 14)⟩,
    ⟨some 16, none, .bin .lss .int (.tm 8) (.tm 15)⟩,
    ⟨some 6, none, .mv (.tm 16)⟩])
  .ret))
def rt42 : List IRet := [.tm 6]
theorem ci42 : (Go.Proofs.Tryz.f42.body).bind (compile Go.Proofs.Tryz.prog Go.Proofs.Tryz.f42.ntmps) = some ir42 := by kernel_rfl
theorem cr42 : compileRets Go.Proofs.Tryz.prog Go.Proofs.Tryz.f42.results.toList = some rt42 := by kernel_rfl
def fn42 : XFn := ⟨ir42, rt42, 17⟩
theorem fk42 : FnOK Go.Proofs.Tryz.prog 42 fn42 := ⟨⟨_, _, Go.Proofs.Tryz.func42, rfl, by kernel_rfl, ci42, cr42, Go.Proofs.Tryz.ntmps42.symm⟩⟩

/-- gabelle/valid.Check$6$1 -/
def ir43 : IR :=
  (.draw (some [(some true, ⟨some 3, none, .load none (.tm 1)⟩),
    (some false, ⟨some 4, none, .load none (.tm 1)⟩),
    (some false, ⟨some 5, none, .mv (.tm 0)⟩),
    (none, ⟨some 6, none, .call (.cn (.func (.func 42) #[] #[])) [.tm 4, .cn (.int .u8 (0)), .tm 5]⟩),
    (none, ⟨some 7, none, .call (.cn (.func (.func 21) #[] #[])) [.tm 3, .tm 6, .cn (.int .i64 (80))]⟩)])
   [([], ⟨some 3, none, .load none (.tm 1)⟩),
    ([], ⟨some 4, none, .load none (.tm 1)⟩),
    ([], ⟨some 5, none, .mv (.tm 0)⟩),
    ([1, 2], ⟨some 6, none, .call (.cn (.func (.func 42) #[] #[])) [.tm 4, .cn (.int .u8 (0)), .tm 5]⟩),
    ([0, 1, 2, 3], ⟨some 7, none, .call (.cn (.func (.func 21) #[] #[])) [.tm 3, .tm 6, .cn (.int .i64 (80))]⟩)])
def rt43 : List IRet := []
theorem ci43 : (Go.Proofs.Tryz.f43.body).bind (compile Go.Proofs.Tryz.prog Go.Proofs.Tryz.f43.ntmps) = some ir43 := by kernel_rfl
theorem cr43 : compileRets Go.Proofs.Tryz.prog Go.Proofs.Tryz.f43.results.toList = some rt43 := by kernel_rfl
def fn43 : XFn := ⟨ir43, rt43, 8⟩
theorem fk43 : FnOK Go.Proofs.Tryz.prog 43 fn43 := ⟨⟨_, _, Go.Proofs.Tryz.func43, rfl, by kernel_rfl, ci43, cr43, Go.Proofs.Tryz.ntmps43.symm⟩⟩

/-- (*gabelle/space.Space).Imported -/
def ir44 : IR :=
  (.seq (.ops [⟨some 4, none, .mv (.cn (.int .i64 (0)))⟩])
  (.seq (.seq (.ops [⟨some 5, none, .mv (.tm 0)⟩,
    ⟨some 6, none, .bin .eql .ptr (.tm 5) (.cn (.pointer none))⟩,
    ⟨some 7, none, .mv (.tm 6)⟩,
    ⟨some 8, (some (7, false)), .mv (.tm 1)⟩,
    ⟨some 9, (some (7, false)), .bin .gtr .int (.tm 8) (.cn (.int .u8 (3)))⟩,
    ⟨some 10, none, .pick (.tm 7) (.cn (.bool true)) (.tm 9)⟩])
  (.cond (.tm 10)
   (.seq (.ops [⟨some 4, none, .mv (.cn (.int .i64 (0)))⟩])
   .ret)
   .skip))
  (.seq (.ops [⟨some 11, none, .mv (.tm 0)⟩,
    ⟨some 12, none, .mv (.tm 1)⟩,
    ⟨some 13, none, .nilCheck (.tm 11)⟩,
    ⟨some 14, none, .fieldAddr 5 (.tm 13)⟩,
    ⟨some 15, none, .idxAddr 1 (some 4) (.tm 14) (.tm 12)⟩,
    ⟨some 16, none, .load none (.tm 15)⟩,
    ⟨some 4, none, .mv (.tm 16)⟩])
  .ret)))
def rt44 : List IRet := [.tm 4]
theorem ci44 : (Go.Proofs.Tryz.f44.body).bind (compile Go.Proofs.Tryz.prog Go.Proofs.Tryz.f44.ntmps) = some ir44 := by kernel_rfl
theorem cr44 : compileRets Go.Proofs.Tryz.prog Go.Proofs.Tryz.f44.results.toList = some rt44 := by kernel_rfl
def fn44 : XFn := ⟨ir44, rt44, 17⟩
theorem fk44 : FnOK Go.Proofs.Tryz.prog 44 fn44 := ⟨⟨_, _, Go.Proofs.Tryz.func44, rfl, by kernel_rfl, ci44, cr44, Go.Proofs.Tryz.ntmps44.symm⟩⟩

/-- gabelle/valid.each[gabelle/api.Code] -/
def ir45 : IR :=
  (.seq (.ops [⟨some 8, none, .mv (.tm 1)⟩,
    ⟨some 9, none, .len .sl (.tm 8)⟩,
    ⟨some 10, none, .mv (.cn (.int .i64 (0)))⟩])
  (.block 0
   (.loop
    (.seq (.ops [⟨some 11, none, .bin .lss .int (.tm 10) (.tm 9)⟩])
    (.seq (.cond (.tm 11)
     .skip
     (.exit 0))
    (.seq (.block 1
     (.seq (.ops [⟨some 12, none, .idxAddr 2 none (.tm 8) (.tm 10)⟩,
       ⟨some 13, none, .load (some 2) (.tm 12)⟩,
       ⟨some 7, none, .newv 64 [.slice none 0 0, .slice none 0 0]⟩,
       ⟨none, none, .store 2 (.tm 7) (.tm 13)⟩])
     (.seq (.seq (.ops [⟨some 14, none, .mv (.tm 0)⟩,
       ⟨some 15, none, .nilCheck (.tm 14)⟩,
       ⟨some 16, none, .fieldAddr 13 (.tm 15)⟩,
       ⟨some 17, none, .load none (.tm 16)⟩,
       ⟨some 18, none, .bin .neq .int (.tm 17) (.cn (.int .i64 (0)))⟩])
     (.cond (.tm 18)
      .ret
      .skip))
     (.ops [⟨some 19, none, .mv (.tm 2)⟩,
       ⟨some 20, none, .load (some 2) (.tm 7)⟩,
       ⟨some 21, none, .call (.tm 19) [.tm 20]⟩]))))
    (.ops [⟨some 22, none, .bin .add .int (.tm 10) (.cn (.int .i64 (1)))⟩,
      ⟨some 10, none, .mv (.tm 22)⟩])))))))
def rt45 : List IRet := []
theorem ci45 : (Go.Proofs.Tryz.f45.body).bind (compile Go.Proofs.Tryz.prog Go.Proofs.Tryz.f45.ntmps) = some ir45 := by kernel_rfl
theorem cr45 : compileRets Go.Proofs.Tryz.prog Go.Proofs.Tryz.f45.results.toList = some rt45 := by kernel_rfl
def fn45 : XFn := ⟨ir45, rt45, 23⟩
theorem fk45 : FnOK Go.Proofs.Tryz.prog 45 fn45 := ⟨⟨_, _, Go.Proofs.Tryz.func45, rfl, by kernel_rfl, ci45, cr45, Go.Proofs.Tryz.ntmps45.symm⟩⟩

/-- gabelle/valid.Check$7 -/
def ir46 : IR :=
  (.seq (.ops [⟨some 4, none, .box 64 (.tm 0)⟩])
  (.seq (.draw none
   [([], ⟨some 10, none, .load none (.tm 1)⟩),
    ([0], ⟨some 11, none, .nilCheck (.tm 10)⟩),
    ([0, 1], ⟨some 12, none, .fieldAddr 12 (.tm 11)⟩),
    ([0, 1, 2], ⟨some 13, none, .load none (.tm 12)⟩),
    ([], ⟨some 14, none, .load none (.tm 2)⟩),
    ([], ⟨some 15, none, .load none (.tm 3)⟩),
    ([5], ⟨some 16, none, .len .sl (.tm 15)⟩),
    ([5, 6], ⟨some 17, none, .conv (.int .u32) (.tm 16)⟩),
    ([4, 5, 6, 7], ⟨some 18, none, .bin .add .int (.tm 14) (.tm 17)⟩),
    ([0, 1, 2, 3, 4, 5, 6, 7, 8], ⟨some 19, none, .call (.cn (.func (.func 38) #[] #[])) [.tm 13, .tm 18]⟩),
    ([0, 1, 2, 3, 4, 5, 6, 7, 8, 9], ⟨some 9, none, .mv (.tm 19)⟩),
    ([0, 1, 2, 3, 4, 5, 6, 7, 8, 9, 10], ⟨some 20, none, .extract (.tm 9) 0⟩),
    ([0, 1, 2, 3, 4, 5, 6, 7, 8, 9, 10], ⟨some 21, none, .extract (.tm 9) 1⟩),
    ([], ⟨some 5, none, .newv 29 [.slice none 0 0, .slice none 0 0]⟩),
    ([0, 1, 2, 3, 4, 5, 6, 7, 8, 9, 10, 11, 13], ⟨none, none, .store 2 (.tm 5) (.tm 20)⟩),
    ([0, 1, 2, 3, 4, 5, 6, 7, 8, 9, 10, 11, 12, 13, 14], ⟨some 6, none, .mv (.tm 21)⟩)])
  (.seq (.draw (some [(some false, ⟨some 23, none, .load none (.tm 1)⟩),
    (some false, ⟨some 24, none, .nilCheck (.tm 23)⟩),
    (some false, ⟨some 25, none, .fieldAddr 12 (.tm 24)⟩),
    (some false, ⟨some 26, none, .load none (.tm 25)⟩),
    (some false, ⟨some 27, none, .load (some 2) (.tm 5)⟩),
    (some false, ⟨some 28, none, .load (some 2) (.tm 4)⟩),
    (none, ⟨some 29, none, .call (.cn (.func (.func 47) #[] #[])) [.tm 26, .tm 27, .tm 28]⟩),
    (some false, ⟨some 22, none, .mv (.tm 29)⟩),
    (some false, ⟨some 30, none, .extract (.tm 22) 0⟩),
    (some false, ⟨some 31, none, .extract (.tm 22) 1⟩),
    (some false, ⟨some 7, none, .mv (.tm 30)⟩),
    (some false, ⟨some 8, none, .mv (.tm 31)⟩)])
   [([], ⟨some 23, none, .load none (.tm 1)⟩),
    ([0], ⟨some 24, none, .nilCheck (.tm 23)⟩),
    ([0, 1], ⟨some 25, none, .fieldAddr 12 (.tm 24)⟩),
    ([0, 1, 2], ⟨some 26, none, .load none (.tm 25)⟩),
    ([], ⟨some 27, none, .load (some 2) (.tm 5)⟩),
    ([], ⟨some 28, none, .load (some 2) (.tm 4)⟩),
    ([0, 1, 2, 3, 4, 5], ⟨some 29, none, .call (.cn (.func (.func 47) #[] #[])) [.tm 26, .tm 27, .tm 28]⟩),
    ([0, 1, 2, 3, 4, 5, 6], ⟨some 22, none, .mv (.tm 29)⟩),
    ([0, 1, 2, 3, 4, 5, 6, 7], ⟨some 30, none, .extract (.tm 22) 0⟩),
    ([0, 1, 2, 3, 4, 5, 6, 7], ⟨some 31, none, .extract (.tm 22) 1⟩),
    ([0, 1, 2, 3, 4, 5, 6, 7, 8], ⟨some 7, none, .mv (.tm 30)⟩),
    ([0, 1, 2, 3, 4, 5, 6, 7, 8, 9, 10], ⟨some 8, none, .mv (.tm 31)⟩)])
  (.seq (.ops [⟨some 32, none, .load none (.tm 1)⟩,
    ⟨some 33, none, .mv (.tm 8)⟩,
    ⟨some 34, none, .bin .eql .int (.tm 33) (.cn (.int .i64 (0)))⟩,
    ⟨some 35, none, .mv (.tm 8)⟩,
    ⟨some 36, none, .call (.cn (.func (.func 21) #[] #[])) [.tm 32, .tm 34, .tm 35]⟩])
  (.ops [⟨some 37, none, .load none (.tm 3)⟩,
    ⟨some 38, none, .mv (.tm 7)⟩,
    ⟨some 39, none, .bslice 3 1 [.int .i64 (0)] [(0, 1, (.tm 38))]⟩,
    ⟨some 40, none, .append 3 1 8 [.int .i64 (0)] (.tm 37) (.tm 39)⟩,
    ⟨none, none, .store 1 (.tm 3) (.tm 40)⟩])))))
def rt46 : List IRet := []
theorem ci46 : (Go.Proofs.Tryz.f46.body).bind (compile Go.Proofs.Tryz.prog Go.Proofs.Tryz.f46.ntmps) = some ir46 := by kernel_rfl
theorem cr46 : compileRets Go.Proofs.Tryz.prog Go.Proofs.Tryz.f46.results.toList = some rt46 := by kernel_rfl
def fn46 : XFn := ⟨ir46, rt46, 41⟩
theorem fk46 : FnOK Go.Proofs.Tryz.prog 46 fn46 := ⟨⟨_, _, Go.Proofs.Tryz.func46, rfl, by kernel_rfl, ci46, cr46, Go.Proofs.Tryz.ntmps46.symm⟩⟩

/-- gabelle/body.Check -/
def ir47 : IR :=
  (.seq (.ops [⟨some 4, none, .box 29 (.tm 1)⟩,
    ⟨some 5, none, .box 64 (.tm 2)⟩,
    ⟨some 6, none, .mv (.cn (.int .i64 (0)))⟩,
    ⟨some 7, none, .mv (.cn (.int .i64 (0)))⟩])
  (.seq (.seq (.ops [⟨some 17, none, .mv (.tm 0)⟩,
    ⟨some 18, none, .bin .eql .ptr (.tm 17) (.cn (.pointer none))⟩])
  (.cond (.tm 18)
   (.seq (.ops [⟨some 6, none, .mv (.cn (.int .i64 (0)))⟩,
     ⟨some 7, none, .mv (.cn (.int .i64 (1)))⟩])
   .ret)
   .skip))
  (.seq (.seq (.ops [⟨some 20, none, .fieldAddr 1 (.tm 5)⟩,
    ⟨some 21, none, .load none (.tm 20)⟩,
    ⟨some 22, none, .call (.cn (.func (.func 69) #[] #[])) [.cn (.slice none 0 0), .tm 21]⟩,
    ⟨some 19, none, .mv (.tm 22)⟩,
    ⟨some 23, none, .extract (.tm 19) 0⟩,
    ⟨some 24, none, .extract (.tm 19) 1⟩,
    ⟨some 8, none, .mv (.tm 23)⟩,
    ⟨some 9, none, .mv (.tm 24)⟩])
  (.seq (.ops [⟨some 25, none, .mv (.tm 9)⟩,
    ⟨some 26, none, .bin .neq .int (.tm 25) (.cn (.int .i64 (0)))⟩])
  (.cond (.tm 26)
   (.seq (.ops [⟨some 6, none, .mv (.cn (.int .i64 (0)))⟩,
     ⟨some 7, none, .mv (.cn (.int .i64 (2)))⟩])
   .ret)
   .skip)))
  (.seq (.ops [⟨some 27, none, .fieldAddr 0 (.tm 5)⟩,
    ⟨some 28, none, .load none (.tm 27)⟩,
    ⟨some 29, none, .call (.cn (.func (.func 70) #[] #[])) [.tm 28, .cn (.func (.func 71) #[] #[])]⟩,
    ⟨some 10, none, .mv (.tm 29)⟩])
  (.seq (.seq (.ops [⟨some 30, none, .mv (.tm 10)⟩])
  (.cond (.tm 30)
   (.seq (.ops [⟨some 6, none, .mv (.cn (.int .i64 (0)))⟩,
     ⟨some 7, none, .mv (.cn (.int .i64 (100)))⟩])
   .ret)
   .skip))
  (.seq (.draw (some [(some true, ⟨some 31, none, .mv (.tm 0)⟩),
    (some true, ⟨some 32, none, .load (some 2) (.tm 4)⟩),
    (some true, ⟨some 33, none, .load (some 2) (.tm 5)⟩),
    (some false, ⟨some 34, none, .fieldAddr 1 (.tm 4)⟩),
    (some false, ⟨some 35, none, .load none (.tm 34)⟩),
    (none, ⟨some 36, none, .call (.cn (.func (.func 72) #[] #[])) [.tm 35]⟩),
    (some false, ⟨some 37, none, .build [.pointer none, .slice none 0 0, .slice none 0 0, .slice none 0 0, .slice none 0 0, .pointer none, .slice none 0 0] [(0, 1, (.tm 31)), (1, 2, (.tm 32)), (3, 2, (.tm 33)), (5, 1, (.tm 36))]⟩),
    (none, ⟨some 38, none, .box 151 (.tm 37)⟩),
    (some false, ⟨some 11, none, .mv (.tm 38)⟩)])
   [([], ⟨some 31, none, .mv (.tm 0)⟩),
    ([], ⟨some 32, none, .load (some 2) (.tm 4)⟩),
    ([], ⟨some 33, none, .load (some 2) (.tm 5)⟩),
    ([], ⟨some 34, none, .fieldAddr 1 (.tm 4)⟩),
    ([3], ⟨some 35, none, .load none (.tm 34)⟩),
    ([3, 4], ⟨some 36, none, .call (.cn (.func (.func 72) #[] #[])) [.tm 35]⟩),
    ([0, 1, 2, 3, 4, 5], ⟨some 37, none, .build [.pointer none, .slice none 0 0, .slice none 0 0, .slice none 0 0, .slice none 0 0, .pointer none, .slice none 0 0] [(0, 1, (.tm 31)), (1, 2, (.tm 32)), (3, 2, (.tm 33)), (5, 1, (.tm 36))]⟩),
    ([0, 1, 2, 3, 4, 5, 6], ⟨some 38, none, .box 151 (.tm 37)⟩),
    ([0, 1, 2, 3, 4, 5, 6, 7], ⟨some 11, none, .mv (.tm 38)⟩)])
  (.seq (.seq (.ops [⟨some 39, none, .fieldAddr 1 (.tm 5)⟩,
    ⟨some 40, none, .load none (.tm 39)⟩,
    ⟨some 41, none, .len .sl (.tm 40)⟩,
    ⟨some 42, none, .mv (.cn (.int .i64 (0)))⟩])
  (.block 0
   (.loop
    (.seq (.ops [⟨some 43, none, .bin .lss .int (.tm 42) (.tm 41)⟩])
    (.seq (.cond (.tm 43)
     .skip
     (.exit 0))
    (.seq (.block 1
     (.seq (.ops [⟨some 44, none, .idxAddr 5 none (.tm 40) (.tm 42)⟩,
       ⟨some 45, none, .load (some 5) (.tm 44)⟩,
       ⟨some 13, none, .newv 56 [.int .u8 (0), .int .u32 (0), .int .u32 (0), .int .i64 (0), .slice none 0 0]⟩,
       ⟨none, none, .store 5 (.tm 13) (.tm 45)⟩])
     (.seq (.draw (some [(some false, ⟨some 46, none, .mv (.tm 11)⟩),
       (some false, ⟨some 47, none, .fieldAddr 0 (.tm 13)⟩),
       (some false, ⟨some 48, none, .load none (.tm 47)⟩),
       (some true, ⟨some 50, none, .load (some 5) (.tm 13)⟩),
       (none, ⟨some 49, none, .call (.cn (.func (.func 73) #[] #[])) [.tm 46, .tm 48]⟩),
       (none, ⟨some 51, none, .call (.tm 49) [.tm 50]⟩),
       (some false, ⟨some 14, none, .mv (.tm 51)⟩)])
      [([], ⟨some 46, none, .mv (.tm 11)⟩),
       ([], ⟨some 47, none, .fieldAddr 0 (.tm 13)⟩),
       ([1], ⟨some 48, none, .load none (.tm 47)⟩),
       ([0, 1, 2], ⟨some 49, none, .call (.cn (.func (.func 73) #[] #[])) [.tm 46, .tm 48]⟩),
       ([], ⟨some 50, none, .load (some 5) (.tm 13)⟩),
       ([0, 1, 2, 3, 4], ⟨some 51, none, .call (.tm 49) [.tm 50]⟩),
       ([0, 1, 2, 3, 4, 5], ⟨some 14, none, .mv (.tm 51)⟩)])
     (.seq (.ops [⟨some 52, none, .mv (.tm 14)⟩,
       ⟨some 53, none, .bin .neq .int (.tm 52) (.cn (.int .i64 (0)))⟩])
     (.cond (.tm 53)
      (.seq (.ops [⟨some 54, none, .mv (.tm 14)⟩,
        ⟨some 6, none, .mv (.cn (.int .i64 (0)))⟩,
        ⟨some 7, none, .mv (.tm 54)⟩])
      .ret)
      .skip)))))
    (.ops [⟨some 55, none, .bin .add .int (.tm 42) (.cn (.int .i64 (1)))⟩,
      ⟨some 42, none, .mv (.tm 55)⟩])))))))
  (.seq (.seq (.ops [⟨some 57, none, .mv (.tm 11)⟩,
    ⟨some 58, none, .nilCheck (.tm 57)⟩,
    ⟨some 59, none, .fieldAddr 5 (.tm 58)⟩,
    ⟨some 60, none, .load none (.tm 59)⟩,
    ⟨some 61, none, .call (.cn (.func (.func 74) #[] #[])) [.tm 60]⟩,
    ⟨some 56, none, .mv (.tm 61)⟩,
    ⟨some 62, none, .extract (.tm 56) 0⟩,
    ⟨some 63, none, .extract (.tm 56) 1⟩,
    ⟨some 15, none, .mv (.tm 62)⟩,
    ⟨some 16, none, .mv (.tm 63)⟩])
  (.seq (.ops [⟨some 64, none, .mv (.tm 16)⟩,
    ⟨some 65, none, .un .not (.tm 64)⟩])
  (.cond (.tm 65)
   (.seq (.ops [⟨some 6, none, .mv (.cn (.int .i64 (0)))⟩,
     ⟨some 7, none, .mv (.cn (.int .i64 (100)))⟩])
   .ret)
   .skip)))
  (.seq (.ops [⟨some 66, none, .mv (.tm 11)⟩,
    ⟨some 67, none, .nilCheck (.tm 66)⟩,
    ⟨some 68, none, .fieldAddr 5 (.tm 67)⟩,
    ⟨some 69, none, .load none (.tm 68)⟩,
    ⟨some 70, none, .call (.cn (.func (.func 75) #[] #[])) [.tm 69]⟩,
    ⟨some 6, none, .mv (.tm 70)⟩,
    ⟨some 7, none, .mv (.cn (.int .i64 (0)))⟩])
  .ret)))))))))
def rt47 : List IRet := [.tm 6, .tm 7]
theorem ci47 : (Go.Proofs.Tryz.f47.body).bind (compile Go.Proofs.Tryz.prog Go.Proofs.Tryz.f47.ntmps) = some ir47 := by kernel_rfl
theorem cr47 : compileRets Go.Proofs.Tryz.prog Go.Proofs.Tryz.f47.results.toList = some rt47 := by kernel_rfl
def fn47 : XFn := ⟨ir47, rt47, 71⟩
theorem fk47 : FnOK Go.Proofs.Tryz.prog 47 fn47 := ⟨⟨_, _, Go.Proofs.Tryz.func47, rfl, by kernel_rfl, ci47, cr47, Go.Proofs.Tryz.ntmps47.symm⟩⟩

/-- gabelle/valid.each[gabelle/api.Data] -/
def ir48 : IR :=
  (.seq (.ops [⟨some 8, none, .mv (.tm 1)⟩,
    ⟨some 9, none, .len .sl (.tm 8)⟩,
    ⟨some 10, none, .mv (.cn (.int .i64 (0)))⟩])
  (.block 0
   (.loop
    (.seq (.ops [⟨some 11, none, .bin .lss .int (.tm 10) (.tm 9)⟩])
    (.seq (.cond (.tm 11)
     .skip
     (.exit 0))
    (.seq (.block 1
     (.seq (.ops [⟨some 12, none, .idxAddr 3 none (.tm 8) (.tm 10)⟩,
       ⟨some 13, none, .load (some 3) (.tm 12)⟩,
       ⟨some 7, none, .newv 86 [.int .u32 (0), .slice none 0 0, .slice none 0 0]⟩,
       ⟨none, none, .store 3 (.tm 7) (.tm 13)⟩])
     (.seq (.seq (.ops [⟨some 14, none, .mv (.tm 0)⟩,
       ⟨some 15, none, .nilCheck (.tm 14)⟩,
       ⟨some 16, none, .fieldAddr 13 (.tm 15)⟩,
       ⟨some 17, none, .load none (.tm 16)⟩,
       ⟨some 18, none, .bin .neq .int (.tm 17) (.cn (.int .i64 (0)))⟩])
     (.cond (.tm 18)
      .ret
      .skip))
     (.ops [⟨some 19, none, .mv (.tm 2)⟩,
       ⟨some 20, none, .load (some 3) (.tm 7)⟩,
       ⟨some 21, none, .call (.tm 19) [.tm 20]⟩]))))
    (.ops [⟨some 22, none, .bin .add .int (.tm 10) (.cn (.int .i64 (1)))⟩,
      ⟨some 10, none, .mv (.tm 22)⟩])))))))
def rt48 : List IRet := []
theorem ci48 : (Go.Proofs.Tryz.f48.body).bind (compile Go.Proofs.Tryz.prog Go.Proofs.Tryz.f48.ntmps) = some ir48 := by kernel_rfl
theorem cr48 : compileRets Go.Proofs.Tryz.prog Go.Proofs.Tryz.f48.results.toList = some rt48 := by kernel_rfl
def fn48 : XFn := ⟨ir48, rt48, 23⟩
theorem fk48 : FnOK Go.Proofs.Tryz.prog 48 fn48 := ⟨⟨_, _, Go.Proofs.Tryz.func48, rfl, by kernel_rfl, ci48, cr48, Go.Proofs.Tryz.ntmps48.symm⟩⟩

/-- gabelle/valid.Check$8 -/
def ir49 : IR :=
  (.seq (.ops [⟨some 2, none, .box 86 (.tm 0)⟩])
  (.seq (.draw (some [(some true, ⟨some 3, none, .load none (.tm 1)⟩),
    (some false, ⟨some 4, none, .load none (.tm 1)⟩),
    (some false, ⟨some 5, none, .fieldAddr 0 (.tm 2)⟩),
    (some false, ⟨some 6, none, .load none (.tm 5)⟩),
    (none, ⟨some 7, none, .call (.cn (.func (.func 42) #[] #[])) [.tm 4, .cn (.int .u8 (2)), .tm 6]⟩),
    (none, ⟨some 8, none, .call (.cn (.func (.func 21) #[] #[])) [.tm 3, .tm 7, .cn (.int .i64 (80))]⟩)])
   [([], ⟨some 3, none, .load none (.tm 1)⟩),
    ([], ⟨some 4, none, .load none (.tm 1)⟩),
    ([], ⟨some 5, none, .fieldAddr 0 (.tm 2)⟩),
    ([2], ⟨some 6, none, .load none (.tm 5)⟩),
    ([1, 2, 3], ⟨some 7, none, .call (.cn (.func (.func 42) #[] #[])) [.tm 4, .cn (.int .u8 (2)), .tm 6]⟩),
    ([0, 1, 2, 3, 4], ⟨some 8, none, .call (.cn (.func (.func 21) #[] #[])) [.tm 3, .tm 7, .cn (.int .i64 (80))]⟩)])
  (.ops [⟨some 9, none, .load none (.tm 1)⟩,
    ⟨some 10, none, .fieldAddr 1 (.tm 2)⟩,
    ⟨some 11, none, .load none (.tm 10)⟩,
    ⟨some 12, none, .call (.cn (.func (.func 36) #[] #[])) [.tm 9, .tm 11, .cn (.int .u8 (127))]⟩])))
def rt49 : List IRet := []
theorem ci49 : (Go.Proofs.Tryz.f49.body).bind (compile Go.Proofs.Tryz.prog Go.Proofs.Tryz.f49.ntmps) = some ir49 := by kernel_rfl
theorem cr49 : compileRets Go.Proofs.Tryz.prog Go.Proofs.Tryz.f49.results.toList = some rt49 := by kernel_rfl
def fn49 : XFn := ⟨ir49, rt49, 13⟩
theorem fk49 : FnOK Go.Proofs.Tryz.prog 49 fn49 := ⟨⟨_, _, Go.Proofs.Tryz.func49, rfl, by kernel_rfl, ci49, cr49, Go.Proofs.Tryz.ntmps49.symm⟩⟩

/-- slices.Clone[[]gabelle/api.Export,gabelle/api.Export] -/
def ir50 : IR :=
  (.seq (.ops [⟨some 2, none, .mv (.cn (.slice none 0 0))⟩])
  (.seq (.seq (.ops [⟨some 3, none, .mv (.tm 0)⟩,
    ⟨some 4, none, .bin .eql .slice (.tm 3) (.cn (.slice none 0 0))⟩])
  (.cond (.tm 4)
   (.seq (.ops [⟨some 2, none, .mv (.cn (.slice none 0 0))⟩])
   .ret)
   .skip))
  (.seq (.ops [⟨some 5, none, .bslice 52 0 [] []⟩,
    ⟨some 6, none, .mv (.tm 0)⟩,
    ⟨some 7, none, .append 52 3 24 [.string ⟨#[]⟩, .int .u8 (0), .int .u32 (0)] (.tm 5) (.tm 6)⟩,
    ⟨some 2, none, .mv (.tm 7)⟩])
  .ret)))
def rt50 : List IRet := [.tm 2]
theorem ci50 : (Go.Proofs.Tryz.f50.body).bind (compile Go.Proofs.Tryz.prog Go.Proofs.Tryz.f50.ntmps) = some ir50 := by kernel_rfl
theorem cr50 : compileRets Go.Proofs.Tryz.prog Go.Proofs.Tryz.f50.results.toList = some rt50 := by kernel_rfl
def fn50 : XFn := ⟨ir50, rt50, 8⟩
theorem fk50 : FnOK Go.Proofs.Tryz.prog 50 fn50 := ⟨⟨_, _, Go.Proofs.Tryz.func50, rfl, by kernel_rfl, ci50, cr50, Go.Proofs.Tryz.ntmps50.symm⟩⟩

/-- gabelle/space.own -/
def ir51 : IR :=
  (.seq (.ops [⟨some 1, none, .box 29 (.tm 0)⟩,
    ⟨some 2, none, .newv 29 [.slice none 0 0, .slice none 0 0]⟩])
  (.seq (.draw (some [(some false, ⟨some 3, none, .fieldAddr 0 (.tm 1)⟩),
    (some false, ⟨some 4, none, .load none (.tm 3)⟩),
    (some true, ⟨some 6, none, .fieldAddr 1 (.tm 1)⟩),
    (some true, ⟨some 7, none, .load none (.tm 6)⟩),
    (none, ⟨some 5, none, .call (.cn (.func (.func 76) #[] #[])) [.tm 4]⟩),
    (none, ⟨some 8, none, .call (.cn (.func (.func 76) #[] #[])) [.tm 7]⟩),
    (some false, ⟨some 9, none, .build [.slice none 0 0, .slice none 0 0] [(0, 1, (.tm 5)), (1, 1, (.tm 8))]⟩),
    (none, ⟨none, none, .store 2 (.tm 2) (.tm 9)⟩)])
   [([], ⟨some 3, none, .fieldAddr 0 (.tm 1)⟩),
    ([0], ⟨some 4, none, .load none (.tm 3)⟩),
    ([0, 1], ⟨some 5, none, .call (.cn (.func (.func 76) #[] #[])) [.tm 4]⟩),
    ([], ⟨some 6, none, .fieldAddr 1 (.tm 1)⟩),
    ([3], ⟨some 7, none, .load none (.tm 6)⟩),
    ([0, 1, 2, 3, 4], ⟨some 8, none, .call (.cn (.func (.func 76) #[] #[])) [.tm 7]⟩),
    ([0, 1, 2, 3, 4, 5], ⟨some 9, none, .build [.slice none 0 0, .slice none 0 0] [(0, 1, (.tm 5)), (1, 1, (.tm 8))]⟩),
    ([0, 1, 2, 3, 4, 5, 6], ⟨none, none, .store 2 (.tm 2) (.tm 9)⟩)])
  .ret))
def rt51 : List IRet := [.cell 2 (some 2)]
theorem ci51 : (Go.Proofs.Tryz.f51.body).bind (compile Go.Proofs.Tryz.prog Go.Proofs.Tryz.f51.ntmps) = some ir51 := by kernel_rfl
theorem cr51 : compileRets Go.Proofs.Tryz.prog Go.Proofs.Tryz.f51.results.toList = some rt51 := by kernel_rfl
def fn51 : XFn := ⟨ir51, rt51, 10⟩
theorem fk51 : FnOK Go.Proofs.Tryz.prog 51 fn51 := ⟨⟨_, _, Go.Proofs.Tryz.func51, rfl, by kernel_rfl, ci51, cr51, Go.Proofs.Tryz.ntmps51.symm⟩⟩

/-- gabelle/space.of -/
def ir52 : IR :=
  (.seq (.ops [⟨some 3, none, .box 123 (.tm 1)⟩,
    ⟨some 4, none, .mv (.cn (.slice none 0 0))⟩])
  (.seq (.ops [⟨some 5, none, .mv (.tm 0)⟩,
    ⟨some 6, none, .call (.cn (.func (.func 78) #[] #[])) [.tm 5]⟩,
    ⟨some 7, none, .mkFunc (.func 79) [] [.tm 3]⟩,
    ⟨some 8, none, .call (.cn (.func (.func 77) #[] #[])) [.tm 6, .tm 7]⟩,
    ⟨some 4, none, .mv (.tm 8)⟩])
  .ret))
def rt52 : List IRet := [.tm 4]
theorem ci52 : (Go.Proofs.Tryz.f52.body).bind (compile Go.Proofs.Tryz.prog Go.Proofs.Tryz.f52.ntmps) = some ir52 := by kernel_rfl
theorem cr52 : compileRets Go.Proofs.Tryz.prog Go.Proofs.Tryz.f52.results.toList = some rt52 := by kernel_rfl
def fn52 : XFn := ⟨ir52, rt52, 9⟩
theorem fk52 : FnOK Go.Proofs.Tryz.prog 52 fn52 := ⟨⟨_, _, Go.Proofs.Tryz.func52, rfl, by kernel_rfl, ci52, cr52, Go.Proofs.Tryz.ntmps52.symm⟩⟩

/-- (gabelle/space.kind).function -/
def ir53 : IR :=
  (.seq (.ops [⟨some 1, none, .box 124 (.tm 0)⟩,
    ⟨some 2, none, .mv (.cn (.bool false))⟩])
  (.seq (.ops [⟨some 3, none, .fieldAddr 2 (.tm 1)⟩,
    ⟨some 4, none, .load none (.tm 3)⟩,
    ⟨some 5, none, .bin .eql .int (.tm 4) (.cn (.int .u8 (0)))⟩,
    ⟨some 2, none, .mv (.tm 5)⟩])
  .ret))
def rt53 : List IRet := [.tm 2]
theorem ci53 : (Go.Proofs.Tryz.f53.body).bind (compile Go.Proofs.Tryz.prog Go.Proofs.Tryz.f53.ntmps) = some ir53 := by kernel_rfl
theorem cr53 : compileRets Go.Proofs.Tryz.prog Go.Proofs.Tryz.f53.results.toList = some rt53 := by kernel_rfl
def fn53 : XFn := ⟨ir53, rt53, 6⟩
theorem fk53 : FnOK Go.Proofs.Tryz.prog 53 fn53 := ⟨⟨_, _, Go.Proofs.Tryz.func53, rfl, by kernel_rfl, ci53, cr53, Go.Proofs.Tryz.ntmps53.symm⟩⟩

/-- (gabelle/space.kind).table -/
def ir54 : IR :=
  (.seq (.ops [⟨some 1, none, .box 124 (.tm 0)⟩,
    ⟨some 2, none, .mv (.cn (.bool false))⟩])
  (.seq (.ops [⟨some 3, none, .fieldAddr 2 (.tm 1)⟩,
    ⟨some 4, none, .load none (.tm 3)⟩,
    ⟨some 5, none, .bin .eql .int (.tm 4) (.cn (.int .u8 (1)))⟩,
    ⟨some 2, none, .mv (.tm 5)⟩])
  .ret))
def rt54 : List IRet := [.tm 2]
theorem ci54 : (Go.Proofs.Tryz.f54.body).bind (compile Go.Proofs.Tryz.prog Go.Proofs.Tryz.f54.ntmps) = some ir54 := by kernel_rfl
theorem cr54 : compileRets Go.Proofs.Tryz.prog Go.Proofs.Tryz.f54.results.toList = some rt54 := by kernel_rfl
def fn54 : XFn := ⟨ir54, rt54, 6⟩
theorem fk54 : FnOK Go.Proofs.Tryz.prog 54 fn54 := ⟨⟨_, _, Go.Proofs.Tryz.func54, rfl, by kernel_rfl, ci54, cr54, Go.Proofs.Tryz.ntmps54.symm⟩⟩

/-- (gabelle/space.kind).memory -/
def ir55 : IR :=
  (.seq (.ops [⟨some 1, none, .box 124 (.tm 0)⟩,
    ⟨some 2, none, .mv (.cn (.bool false))⟩])
  (.seq (.ops [⟨some 3, none, .fieldAddr 2 (.tm 1)⟩,
    ⟨some 4, none, .load none (.tm 3)⟩,
    ⟨some 5, none, .bin .eql .int (.tm 4) (.cn (.int .u8 (2)))⟩,
    ⟨some 2, none, .mv (.tm 5)⟩])
  .ret))
def rt55 : List IRet := [.tm 2]
theorem ci55 : (Go.Proofs.Tryz.f55.body).bind (compile Go.Proofs.Tryz.prog Go.Proofs.Tryz.f55.ntmps) = some ir55 := by kernel_rfl
theorem cr55 : compileRets Go.Proofs.Tryz.prog Go.Proofs.Tryz.f55.results.toList = some rt55 := by kernel_rfl
def fn55 : XFn := ⟨ir55, rt55, 6⟩
theorem fk55 : FnOK Go.Proofs.Tryz.prog 55 fn55 := ⟨⟨_, _, Go.Proofs.Tryz.func55, rfl, by kernel_rfl, ci55, cr55, Go.Proofs.Tryz.ntmps55.symm⟩⟩

/-- (gabelle/space.kind).global -/
def ir56 : IR :=
  (.seq (.ops [⟨some 1, none, .box 124 (.tm 0)⟩,
    ⟨some 2, none, .mv (.cn (.bool false))⟩])
  (.seq (.ops [⟨some 3, none, .fieldAddr 2 (.tm 1)⟩,
    ⟨some 4, none, .load none (.tm 3)⟩,
    ⟨some 5, none, .bin .eql .int (.tm 4) (.cn (.int .u8 (3)))⟩,
    ⟨some 2, none, .mv (.tm 5)⟩])
  .ret))
def rt56 : List IRet := [.tm 2]
theorem ci56 : (Go.Proofs.Tryz.f56.body).bind (compile Go.Proofs.Tryz.prog Go.Proofs.Tryz.f56.ntmps) = some ir56 := by kernel_rfl
theorem cr56 : compileRets Go.Proofs.Tryz.prog Go.Proofs.Tryz.f56.results.toList = some rt56 := by kernel_rfl
def fn56 : XFn := ⟨ir56, rt56, 6⟩
theorem fk56 : FnOK Go.Proofs.Tryz.prog 56 fn56 := ⟨⟨_, _, Go.Proofs.Tryz.func56, rfl, by kernel_rfl, ci56, cr56, Go.Proofs.Tryz.ntmps56.symm⟩⟩

/-- gabelle/space.at[gabelle/api.FuncType] -/
def ir57 : IR :=
  (.seq (.ops [⟨some 4, none, .newv 29 [.slice none 0 0, .slice none 0 0]⟩,
    ⟨some 5, none, .mv (.cn (.bool false))⟩])
  (.seq (.seq (.ops [⟨some 7, none, .mv (.tm 1)⟩,
    ⟨some 8, none, .conv (.int .u64) (.tm 7)⟩,
    ⟨some 9, none, .mv (.tm 0)⟩,
    ⟨some 10, none, .len .sl (.tm 9)⟩,
    ⟨some 11, none, .conv (.int .u64) (.tm 10)⟩,
    ⟨some 12, none, .bin .geq .int (.tm 8) (.tm 11)⟩])
  (.cond (.tm 12)
   (.seq (.ops [⟨some 6, none, .newv 29 [.slice none 0 0, .slice none 0 0]⟩])
   (.seq (.ops [⟨some 13, none, .load (some 2) (.tm 6)⟩,
     ⟨none, none, .store 2 (.tm 4) (.tm 13)⟩,
     ⟨some 5, none, .mv (.cn (.bool false))⟩])
   .ret))
   .skip))
  (.seq (.ops [⟨some 14, none, .mv (.tm 0)⟩,
    ⟨some 15, none, .mv (.tm 1)⟩,
    ⟨some 16, none, .idxAddr 2 none (.tm 14) (.tm 15)⟩,
    ⟨some 17, none, .load (some 2) (.tm 16)⟩,
    ⟨none, none, .store 2 (.tm 4) (.tm 17)⟩,
    ⟨some 5, none, .mv (.cn (.bool true))⟩])
  .ret)))
def rt57 : List IRet := [.cell 4 (some 2), .tm 5]
theorem ci57 : (Go.Proofs.Tryz.f57.body).bind (compile Go.Proofs.Tryz.prog Go.Proofs.Tryz.f57.ntmps) = some ir57 := by kernel_rfl
theorem cr57 : compileRets Go.Proofs.Tryz.prog Go.Proofs.Tryz.f57.results.toList = some rt57 := by kernel_rfl
def fn57 : XFn := ⟨ir57, rt57, 18⟩
theorem fk57 : FnOK Go.Proofs.Tryz.prog 57 fn57 := ⟨⟨_, _, Go.Proofs.Tryz.func57, rfl, by kernel_rfl, ci57, cr57, Go.Proofs.Tryz.ntmps57.symm⟩⟩

/-- gabelle/rule.sizes$1 -/
def ir58 : IR :=
  (.ops [⟨some 5, none, .load none (.tm 2)⟩,
    ⟨some 6, none, .mv (.tm 5)⟩,
    ⟨some 7, (some (6, true)), .mv (.tm 0)⟩,
    ⟨some 8, (some (6, true)), .mv (.tm 1)⟩,
    ⟨some 9, (some (6, true)), .bin .leq .int (.tm 7) (.tm 8)⟩,
    ⟨some 10, none, .pick (.tm 6) (.tm 9) (.cn (.bool false))⟩,
    ⟨none, none, .store 1 (.tm 2) (.tm 10)⟩])
def rt58 : List IRet := []
theorem ci58 : (Go.Proofs.Tryz.f58.body).bind (compile Go.Proofs.Tryz.prog Go.Proofs.Tryz.f58.ntmps) = some ir58 := by kernel_rfl
theorem cr58 : compileRets Go.Proofs.Tryz.prog Go.Proofs.Tryz.f58.results.toList = some rt58 := by kernel_rfl
def fn58 : XFn := ⟨ir58, rt58, 11⟩
theorem fk58 : FnOK Go.Proofs.Tryz.prog 58 fn58 := ⟨⟨_, _, Go.Proofs.Tryz.func58, rfl, by kernel_rfl, ci58, cr58, Go.Proofs.Tryz.ntmps58.symm⟩⟩

/-- (*gabelle/space.Space).Count -/
def ir59 : IR :=
  (.seq (.ops [⟨some 4, none, .mv (.cn (.int .i64 (0)))⟩])
  (.seq (.seq (.ops [⟨some 5, none, .mv (.tm 0)⟩,
    ⟨some 6, none, .bin .eql .ptr (.tm 5) (.cn (.pointer none))⟩,
    ⟨some 7, none, .mv (.tm 6)⟩,
    ⟨some 8, (some (7, false)), .mv (.tm 1)⟩,
    ⟨some 9, (some (7, false)), .bin .gtr .int (.tm 8) (.cn (.int .u8 (3)))⟩,
    ⟨some 10, none, .pick (.tm 7) (.cn (.bool true)) (.tm 9)⟩])
  (.cond (.tm 10)
   (.seq (.ops [⟨some 4, none, .mv (.cn (.int .i64 (0)))⟩])
   .ret)
   .skip))
  (.seq (.draw (some [(some false, ⟨some 11, none, .mv (.tm 0)⟩),
    (some false, ⟨some 12, none, .nilCheck (.tm 11)⟩),
    (some false, ⟨some 13, none, .fieldAddr 1 (.tm 12)⟩),
    (some false, ⟨some 14, none, .load none (.tm 13)⟩),
    (some false, ⟨some 15, none, .len .sl (.tm 14)⟩),
    (some false, ⟨some 16, none, .mv (.tm 0)⟩),
    (some false, ⟨some 17, none, .nilCheck (.tm 16)⟩),
    (some false, ⟨some 18, none, .fieldAddr 3 (.tm 17)⟩),
    (some false, ⟨some 19, none, .load none (.tm 18)⟩),
    (some false, ⟨some 20, none, .len .sl (.tm 19)⟩),
    (some false, ⟨some 21, none, .mv (.tm 0)⟩),
    (some false, ⟨some 22, none, .nilCheck (.tm 21)⟩),
    (some false, ⟨some 23, none, .fieldAddr 4 (.tm 22)⟩),
    (some false, ⟨some 24, none, .load none (.tm 23)⟩),
    (some false, ⟨some 25, none, .len .sl (.tm 24)⟩),
    (some false, ⟨some 26, none, .mv (.tm 0)⟩),
    (some false, ⟨some 27, none, .nilCheck (.tm 26)⟩),
    (some false, ⟨some 28, none, .fieldAddr 2 (.tm 27)⟩),
    (some false, ⟨some 29, none, .load none (.tm 28)⟩),
    (some false, ⟨some 30, none, .len .sl (.tm 29)⟩),
    (some false, ⟨some 31, none, .build [.int .i64 (0), .int .i64 (0), .int .i64 (0), .int .i64 (0)] [(0, 1, (.tm 15)), (1, 1, (.tm 20)), (2, 1, (.tm 25)), (3, 1, (.tm 30))]⟩),
    (some false, ⟨some 32, none, .mv (.tm 1)⟩),
    (some false, ⟨some 33, none, .idx (.arr 4 1) none (.tm 31) (.tm 32)⟩),
    (some false, ⟨some 4, none, .mv (.tm 33)⟩)])
   [([], ⟨some 11, none, .mv (.tm 0)⟩),
    ([0], ⟨some 12, none, .nilCheck (.tm 11)⟩),
    ([0, 1], ⟨some 13, none, .fieldAddr 1 (.tm 12)⟩),
    ([0, 1, 2], ⟨some 14, none, .load none (.tm 13)⟩),
    ([0, 1, 2, 3], ⟨some 15, none, .len .sl (.tm 14)⟩),
    ([], ⟨some 16, none, .mv (.tm 0)⟩),
    ([5], ⟨some 17, none, .nilCheck (.tm 16)⟩),
    ([5, 6], ⟨some 18, none, .fieldAddr 3 (.tm 17)⟩),
    ([5, 6, 7], ⟨some 19, none, .load none (.tm 18)⟩),
    ([5, 6, 7, 8], ⟨some 20, none, .len .sl (.tm 19)⟩),
    ([], ⟨some 21, none, .mv (.tm 0)⟩),
    ([10], ⟨some 22, none, .nilCheck (.tm 21)⟩),
    ([10, 11], ⟨some 23, none, .fieldAddr 4 (.tm 22)⟩),
    ([10, 11, 12], ⟨some 24, none, .load none (.tm 23)⟩),
    ([10, 11, 12, 13], ⟨some 25, none, .len .sl (.tm 24)⟩),
    ([], ⟨some 26, none, .mv (.tm 0)⟩),
    ([15], ⟨some 27, none, .nilCheck (.tm 26)⟩),
    ([15, 16], ⟨some 28, none, .fieldAddr 2 (.tm 27)⟩),
    ([15, 16, 17], ⟨some 29, none, .load none (.tm 28)⟩),
    ([15, 16, 17, 18], ⟨some 30, none, .len .sl (.tm 29)⟩),
    ([0, 1, 2, 3, 4, 5, 6, 7, 8, 9, 10, 11, 12, 13, 14, 15, 16, 17, 18, 19], ⟨some 31, none, .build [.int .i64 (0), .int .i64 (0), .int .i64 (0), .int .i64 (0)] [(0, 1, (.tm 15)), (1, 1, (.tm 20)), (2, 1, (.tm 25)), (3, 1, (.tm 30))]⟩),
    ([], ⟨some 32, none, .mv (.tm 1)⟩),
    ([0, 1, 2, 3, 4, 5, 6, 7, 8, 9, 10, 11, 12, 13, 14, 15, 16, 17, 18, 19, 20, 21], ⟨some 33, none, .idx (.arr 4 1) none (.tm 31) (.tm 32)⟩),
    ([0, 1, 2, 3, 4, 5, 6, 7, 8, 9, 10, 11, 12, 13, 14, 15, 16, 17, 18, 19, 20, 21, 22], ⟨some 4, none, .mv (.tm 33)⟩)])
  .ret)))
def rt59 : List IRet := [.tm 4]
theorem ci59 : (Go.Proofs.Tryz.f59.body).bind (compile Go.Proofs.Tryz.prog Go.Proofs.Tryz.f59.ntmps) = some ir59 := by kernel_rfl
theorem cr59 : compileRets Go.Proofs.Tryz.prog Go.Proofs.Tryz.f59.results.toList = some rt59 := by kernel_rfl
def fn59 : XFn := ⟨ir59, rt59, 34⟩
theorem fk59 : FnOK Go.Proofs.Tryz.prog 59 fn59 := ⟨⟨_, _, Go.Proofs.Tryz.func59, rfl, by kernel_rfl, ci59, cr59, Go.Proofs.Tryz.ntmps59.symm⟩⟩

/-- (*gabelle/space.Space).Table -/
def ir60 : IR :=
  (.seq (.ops [⟨some 4, none, .newv 66 [.int .u32 (0), .int .i64 (0)]⟩,
    ⟨some 5, none, .mv (.cn (.bool false))⟩])
  (.seq (.seq (.ops [⟨some 6, none, .mv (.tm 0)⟩,
    ⟨some 7, none, .bin .eql .ptr (.tm 6) (.cn (.pointer none))⟩])
  (.cond (.tm 7)
   (.seq (.ops [⟨some 8, none, .build [.int .u32 (0), .int .i64 (0)] []⟩,
     ⟨none, none, .store 2 (.tm 4) (.tm 8)⟩,
     ⟨some 5, none, .mv (.cn (.bool false))⟩])
   .ret)
   .skip))
  (.seq (.ops [⟨some 9, none, .mv (.tm 0)⟩,
    ⟨some 10, none, .nilCheck (.tm 9)⟩,
    ⟨some 11, none, .fieldAddr 3 (.tm 10)⟩,
    ⟨some 12, none, .load none (.tm 11)⟩,
    ⟨some 13, none, .mv (.tm 1)⟩,
    ⟨some 14, none, .call (.cn (.func (.func 80) #[] #[])) [.tm 12, .tm 13]⟩,
    ⟨some 15, none, .extract (.tm 14) 0⟩,
    ⟨some 16, none, .extract (.tm 14) 1⟩,
    ⟨none, none, .store 2 (.tm 4) (.tm 15)⟩,
    ⟨some 5, none, .mv (.tm 16)⟩])
  .ret)))
def rt60 : List IRet := [.cell 4 (some 2), .tm 5]
theorem ci60 : (Go.Proofs.Tryz.f60.body).bind (compile Go.Proofs.Tryz.prog Go.Proofs.Tryz.f60.ntmps) = some ir60 := by kernel_rfl
theorem cr60 : compileRets Go.Proofs.Tryz.prog Go.Proofs.Tryz.f60.results.toList = some rt60 := by kernel_rfl
def fn60 : XFn := ⟨ir60, rt60, 17⟩
theorem fk60 : FnOK Go.Proofs.Tryz.prog 60 fn60 := ⟨⟨_, _, Go.Proofs.Tryz.func60, rfl, by kernel_rfl, ci60, cr60, Go.Proofs.Tryz.ntmps60.symm⟩⟩

/-- (*gabelle/space.Space).Mem -/
def ir61 : IR :=
  (.seq (.ops [⟨some 4, none, .newv 66 [.int .u32 (0), .int .i64 (0)]⟩,
    ⟨some 5, none, .mv (.cn (.bool false))⟩])
  (.seq (.seq (.ops [⟨some 6, none, .mv (.tm 0)⟩,
    ⟨some 7, none, .bin .eql .ptr (.tm 6) (.cn (.pointer none))⟩])
  (.cond (.tm 7)
   (.seq (.ops [⟨some 8, none, .build [.int .u32 (0), .int .i64 (0)] []⟩,
     ⟨none, none, .store 2 (.tm 4) (.tm 8)⟩,
     ⟨some 5, none, .mv (.cn (.bool false))⟩])
   .ret)
   .skip))
  (.seq (.ops [⟨some 9, none, .mv (.tm 0)⟩,
    ⟨some 10, none, .nilCheck (.tm 9)⟩,
    ⟨some 11, none, .fieldAddr 4 (.tm 10)⟩,
    ⟨some 12, none, .load none (.tm 11)⟩,
    ⟨some 13, none, .mv (.tm 1)⟩,
    ⟨some 14, none, .call (.cn (.func (.func 80) #[] #[])) [.tm 12, .tm 13]⟩,
    ⟨some 15, none, .extract (.tm 14) 0⟩,
    ⟨some 16, none, .extract (.tm 14) 1⟩,
    ⟨none, none, .store 2 (.tm 4) (.tm 15)⟩,
    ⟨some 5, none, .mv (.tm 16)⟩])
  .ret)))
def rt61 : List IRet := [.cell 4 (some 2), .tm 5]
theorem ci61 : (Go.Proofs.Tryz.f61.body).bind (compile Go.Proofs.Tryz.prog Go.Proofs.Tryz.f61.ntmps) = some ir61 := by kernel_rfl
theorem cr61 : compileRets Go.Proofs.Tryz.prog Go.Proofs.Tryz.f61.results.toList = some rt61 := by kernel_rfl
def fn61 : XFn := ⟨ir61, rt61, 17⟩
theorem fk61 : FnOK Go.Proofs.Tryz.prog 61 fn61 := ⟨⟨_, _, Go.Proofs.Tryz.func61, rfl, by kernel_rfl, ci61, cr61, Go.Proofs.Tryz.ntmps61.symm⟩⟩

/-- slices.ContainsFunc[[]uint8,uint8] -/
def ir62 : IR :=
  (.seq (.ops [⟨some 4, none, .mv (.cn (.bool false))⟩])
  (.seq (.ops [⟨some 5, none, .mv (.tm 0)⟩,
    ⟨some 6, none, .mv (.tm 1)⟩,
    ⟨some 7, none, .call (.cn (.func (.func 81) #[] #[])) [.tm 5, .tm 6]⟩,
    ⟨some 8, none, .bin .geq .int (.tm 7) (.cn (.int .i64 (0)))⟩,
    ⟨some 4, none, .mv (.tm 8)⟩])
  .ret))
def rt62 : List IRet := [.tm 4]
theorem ci62 : (Go.Proofs.Tryz.f62.body).bind (compile Go.Proofs.Tryz.prog Go.Proofs.Tryz.f62.ntmps) = some ir62 := by kernel_rfl
theorem cr62 : compileRets Go.Proofs.Tryz.prog Go.Proofs.Tryz.f62.results.toList = some rt62 := by kernel_rfl
def fn62 : XFn := ⟨ir62, rt62, 9⟩
theorem fk62 : FnOK Go.Proofs.Tryz.prog 62 fn62 := ⟨⟨_, _, Go.Proofs.Tryz.func62, rfl, by kernel_rfl, ci62, cr62, Go.Proofs.Tryz.ntmps62.symm⟩⟩

/-- gabelle/valid.whole$1 -/
def ir63 : IR :=
  (.seq (.ops [⟨some 2, none, .mv (.cn (.bool false))⟩])
  (.seq (.ops [⟨some 3, none, .mv (.tm 0)⟩,
    ⟨some 4, none, .bin .neq .int (.tm 3) (.cn (.int .u8 (127)))⟩,
    ⟨some 5, none, .mv (.tm 4)⟩,
    ⟨some 6, (some (5, true)), .mv (.tm 0)⟩,
    ⟨some 7, (some (5, true)), .bin .neq .int (.tm 6) (.cn (.int .u8 (126)))⟩,
    ⟨some 8, none, .pick (.tm 5) (.tm 7) (.cn (.bool false))⟩,
    ⟨some 2, none, .mv (.tm 8)⟩])
  .ret))
def rt63 : List IRet := [.tm 2]
theorem ci63 : (Go.Proofs.Tryz.f63.body).bind (compile Go.Proofs.Tryz.prog Go.Proofs.Tryz.f63.ntmps) = some ir63 := by kernel_rfl
theorem cr63 : compileRets Go.Proofs.Tryz.prog Go.Proofs.Tryz.f63.results.toList = some rt63 := by kernel_rfl
def fn63 : XFn := ⟨ir63, rt63, 9⟩
theorem fk63 : FnOK Go.Proofs.Tryz.prog 63 fn63 := ⟨⟨_, _, Go.Proofs.Tryz.func63, rfl, by kernel_rfl, ci63, cr63, Go.Proofs.Tryz.ntmps63.symm⟩⟩

/-- (*gabelle/valid.checker).limits -/
def ir64 : IR :=
  (.seq (.ops [⟨some 4, none, .box 66 (.tm 1)⟩])
  (.seq (.ops [⟨some 6, none, .mv (.tm 0)⟩,
    ⟨some 7, none, .fieldAddr 1 (.tm 4)⟩,
    ⟨some 8, none, .load none (.tm 7)⟩,
    ⟨some 9, none, .bin .eql .int (.tm 8) (.cn (.int .i64 (-1)))⟩,
    ⟨some 10, none, .mv (.tm 9)⟩,
    ⟨some 11, (some (10, false)), .fieldAddr 1 (.tm 4)⟩,
    ⟨some 12, (some (10, false)), .load none (.tm 11)⟩,
    ⟨some 13, (some (10, false)), .fieldAddr 0 (.tm 4)⟩,
    ⟨some 14, (some (10, false)), .load none (.tm 13)⟩,
    ⟨some 15, (some (10, false)), .conv (.int .i64) (.tm 14)⟩,
    ⟨some 16, (some (10, false)), .bin .geq .int (.tm 12) (.tm 15)⟩,
    ⟨some 17, (some (10, false)), .mv (.tm 16)⟩,
    ⟨some 18, (some (17, true)), .fieldAddr 1 (.tm 4)⟩,
    ⟨some 19, (some (17, true)), .load none (.tm 18)⟩,
    ⟨some 20, (some (17, true)), .mv (.tm 2)⟩,
    ⟨some 21, (some (17, true)), .bin .leq .int (.tm 19) (.tm 20)⟩,
    ⟨some 22, (some (10, false)), .pick (.tm 17) (.tm 21) (.cn (.bool false))⟩,
    ⟨some 23, none, .pick (.tm 10) (.cn (.bool true)) (.tm 22)⟩,
    ⟨some 24, none, .call (.cn (.func (.func 21) #[] #[])) [.tm 6, .tm 23, .cn (.int .i64 (112))]⟩])
  (.ops [⟨some 25, none, .mv (.tm 0)⟩,
    ⟨some 26, none, .fieldAddr 0 (.tm 4)⟩,
    ⟨some 27, none, .load none (.tm 26)⟩,
    ⟨some 28, none, .conv (.int .i64) (.tm 27)⟩,
    ⟨some 29, none, .mv (.tm 2)⟩,
    ⟨some 30, none, .bin .leq .int (.tm 28) (.tm 29)⟩,
    ⟨some 31, none, .call (.cn (.func (.func 21) #[] #[])) [.tm 25, .tm 30, .cn (.int .i64 (112))]⟩])))
def rt64 : List IRet := []
theorem ci64 : (Go.Proofs.Tryz.f64.body).bind (compile Go.Proofs.Tryz.prog Go.Proofs.Tryz.f64.ntmps) = some ir64 := by kernel_rfl
theorem cr64 : compileRets Go.Proofs.Tryz.prog Go.Proofs.Tryz.f64.results.toList = some rt64 := by kernel_rfl
def fn64 : XFn := ⟨ir64, rt64, 32⟩
theorem fk64 : FnOK Go.Proofs.Tryz.prog 64 fn64 := ⟨⟨_, _, Go.Proofs.Tryz.func64, rfl, by kernel_rfl, ci64, cr64, Go.Proofs.Tryz.ntmps64.symm⟩⟩

/-- (*gabelle/space.Space).Global -/
def ir65 : IR :=
  (.seq (.ops [⟨some 4, none, .newv 54 [.int .u8 (0), .bool false]⟩,
    ⟨some 5, none, .mv (.cn (.bool false))⟩])
  (.seq (.seq (.ops [⟨some 6, none, .mv (.tm 0)⟩,
    ⟨some 7, none, .bin .eql .ptr (.tm 6) (.cn (.pointer none))⟩])
  (.cond (.tm 7)
   (.seq (.ops [⟨some 8, none, .build [.int .u8 (0), .bool false] []⟩,
     ⟨none, none, .store 2 (.tm 4) (.tm 8)⟩,
     ⟨some 5, none, .mv (.cn (.bool false))⟩])
   .ret)
   .skip))
  (.seq (.ops [⟨some 9, none, .mv (.tm 0)⟩,
    ⟨some 10, none, .nilCheck (.tm 9)⟩,
    ⟨some 11, none, .fieldAddr 2 (.tm 10)⟩,
    ⟨some 12, none, .load none (.tm 11)⟩,
    ⟨some 13, none, .mv (.tm 1)⟩,
    ⟨some 14, none, .call (.cn (.func (.func 82) #[] #[])) [.tm 12, .tm 13]⟩,
    ⟨some 15, none, .extract (.tm 14) 0⟩,
    ⟨some 16, none, .extract (.tm 14) 1⟩,
    ⟨none, none, .store 2 (.tm 4) (.tm 15)⟩,
    ⟨some 5, none, .mv (.tm 16)⟩])
  .ret)))
def rt65 : List IRet := [.cell 4 (some 2), .tm 5]
theorem ci65 : (Go.Proofs.Tryz.f65.body).bind (compile Go.Proofs.Tryz.prog Go.Proofs.Tryz.f65.ntmps) = some ir65 := by kernel_rfl
theorem cr65 : compileRets Go.Proofs.Tryz.prog Go.Proofs.Tryz.f65.results.toList = some rt65 := by kernel_rfl
def fn65 : XFn := ⟨ir65, rt65, 17⟩
theorem fk65 : FnOK Go.Proofs.Tryz.prog 65 fn65 := ⟨⟨_, _, Go.Proofs.Tryz.func65, rfl, by kernel_rfl, ci65, cr65, Go.Proofs.Tryz.ntmps65.symm⟩⟩

end Go.Sx.Rule
