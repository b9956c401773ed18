/- the functions' code in the abstract machine: printed by a program (wip/tools/genfile.py) out of the loaded program -/
import Derived.Test.YtenheijeahpbkaaAmFree
import Derived.Test.YtenheijeahpbkaaProg
import Derived.KernelRfl
namespace Go.Proofs.Ytenheijeahpbkaa.AM
open Go
set_option maxRecDepth 100000
/-- gosem.cut.init -/
def a2 : AFn := { np := 0, nt := 1, res := [], body :=
  (.region [⟨some 0, none, .h (.call (.f 1) [])⟩] []) }
theorem a2_ok : okFn Try.prog 2 a2 = true := by kernel_rfl
/-- loop.example/g01215/laws.FnExactIsBar -/
def a3 : AFn := { np := 1, nt := 14, res := [.t 2], body :=
  (.seq (.region [⟨some 1, none, .p (.box 26 (.t 0))⟩,
    ⟨some 2, none, .p (.mv (.k (.c (C.bool false))))⟩] [1])
  (.seq (.region [⟨some 5, none, .h (.load 26 true (.t 1))⟩,
    ⟨some 6, none, .h (.call (.f 11) [.t 5])⟩,
    ⟨some 7, none, .h (.call (.f 10) [.t 6])⟩,
    ⟨some 3, none, .p (.mv (.t 7))⟩] [1, 3])
  (.seq (.region [⟨some 8, none, .h (.load 26 true (.t 1))⟩,
    ⟨some 9, none, .h (.call (.f 11) [.t 8])⟩,
    ⟨some 10, none, .h (.call (.f 12) [.t 9])⟩,
    ⟨some 4, none, .p (.mv (.t 10))⟩] [3, 4])
  (.seq (.seq (.region [⟨some 11, none, .p (.mv (.t 4))⟩,
    ⟨some 12, none, .p (.mv (.t 3))⟩,
    ⟨some 13, none, .p (.eqb true (.t 11) (.t 12))⟩] [13])
  (.cond (.t 13)
  (.seq (.region [⟨some 2, none, .p (.mv (.k (.c (C.bool false))))⟩] [2])
  .ret)
  .skip))
  (.seq (.region [⟨some 2, none, .p (.mv (.k (.c (C.bool true))))⟩] [2])
  .ret))))) }
theorem a3_ok : okFn Try.prog 3 a3 = true := by kernel_rfl
/-- loop.example/g01215/laws.FnExactNewBar -/
def a4 : AFn := { np := 1, nt := 28, res := [.t 2], body :=
  (.seq (.region [⟨some 1, none, .p (.box 24 (.t 0))⟩,
    ⟨some 2, none, .p (.mv (.k (.c (C.bool false))))⟩] [1])
  (.seq (.region [⟨some 8, none, .h (.load 24 true (.t 1))⟩,
    ⟨some 9, none, .h (.call (.f 14) [.t 8])⟩,
    ⟨some 10, none, .h (.call (.f 13) [.t 9])⟩,
    ⟨some 7, none, .p (.mv (.t 10))⟩,
    ⟨some 11, none, .p (.ext (.t 7) 0)⟩,
    ⟨some 12, none, .p (.ext (.t 7) 1)⟩,
    ⟨some 3, none, .p (.alloc (List.replicate 26 (.k (C.int .i64 0))))⟩,
    ⟨none, none, .h (.store 26 (.t 3) (.t 11))⟩,
    ⟨some 4, none, .p (.mv (.t 12))⟩] [1, 3, 4])
  (.seq (.region [⟨some 14, none, .h (.load 24 true (.t 1))⟩,
    ⟨some 15, none, .h (.call (.f 14) [.t 14])⟩,
    ⟨some 16, none, .h (.call (.f 15) [.t 15])⟩,
    ⟨some 13, none, .p (.mv (.t 16))⟩,
    ⟨some 17, none, .p (.ext (.t 13) 0)⟩,
    ⟨some 18, none, .p (.ext (.t 13) 1)⟩,
    ⟨some 5, none, .p (.alloc (List.replicate 26 (.k (C.int .i64 0))))⟩,
    ⟨none, none, .h (.store 26 (.t 5) (.t 17))⟩,
    ⟨some 6, none, .p (.mv (.t 18))⟩] [3, 4, 5, 6])
  (.seq (.seq (.region [⟨some 19, none, .h (.load 26 true (.t 5))⟩,
    ⟨some 20, none, .h (.load 26 true (.t 3))⟩,
    ⟨some 21, none, .h (.call (.f 16) [.t 19, .t 20])⟩,
    ⟨some 22, none, .p (.un .not (.t 21))⟩,
    ⟨some 23, none, .p (.mv (.t 22))⟩,
    ⟨some 24, some (23, false), .p (.mv (.t 6))⟩,
    ⟨some 25, some (23, false), .p (.mv (.t 4))⟩,
    ⟨some 26, some (23, false), .p (.eqb true (.t 24) (.t 25))⟩,
    ⟨some 27, none, .p (.pick (.t 23) (.k (.c (C.bool true))) (.t 26))⟩] [27])
  (.cond (.t 27)
  (.seq (.region [⟨some 2, none, .p (.mv (.k (.c (C.bool false))))⟩] [2])
  .ret)
  .skip))
  (.seq (.region [⟨some 2, none, .p (.mv (.k (.c (C.bool true))))⟩] [2])
  .ret))))) }
theorem a4_ok : okFn Try.prog 4 a4 = true := by kernel_rfl
/-- loop.example/g01215/laws.FnExactNewConsole -/
def a5 : AFn := { np := 1, nt := 28, res := [.t 2], body :=
  (.seq (.region [⟨some 1, none, .p (.box 26 (.t 0))⟩,
    ⟨some 2, none, .p (.mv (.k (.c (C.bool false))))⟩] [1])
  (.seq (.region [⟨some 8, none, .h (.load 26 true (.t 1))⟩,
    ⟨some 9, none, .h (.call (.f 11) [.t 8])⟩,
    ⟨some 10, none, .h (.call (.f 17) [.t 9])⟩,
    ⟨some 7, none, .p (.mv (.t 10))⟩,
    ⟨some 11, none, .p (.ext (.t 7) 0)⟩,
    ⟨some 12, none, .p (.ext (.t 7) 1)⟩,
    ⟨some 3, none, .p (.alloc [.k (C.int .i64 0), .k (C.int .i64 0), .k (C.int .i64 0), .k (C.int .i64 0), .k (C.int .i64 0), .k (C.int .i64 0), .k (C.int .i64 0), .k (C.int .i64 0), .k (C.int .i64 0), .k (C.int .i64 0), .k (C.int .i64 0), .k (C.int .i64 0), .k (C.int .i64 0), .k (C.int .i64 0), .k (C.int .i64 0), .k (C.int .i64 0), .k (C.int .i64 0), .k (C.int .i64 0), .k (C.int .i64 0), .k (C.int .i64 0), .k (C.int .i64 0), .k (C.int .i64 0), .k (C.int .i64 0), .k (C.int .i64 0), .k (C.int .i64 0), .k (C.int .i64 0), .k (C.str []), .k (C.str []), .k (C.int .i64 0)])⟩,
    ⟨none, none, .h (.store 29 (.t 3) (.t 11))⟩,
    ⟨some 4, none, .p (.mv (.t 12))⟩] [1, 3, 4])
  (.seq (.region [⟨some 14, none, .h (.load 26 true (.t 1))⟩,
    ⟨some 15, none, .h (.call (.f 11) [.t 14])⟩,
    ⟨some 16, none, .h (.call (.f 18) [.t 15])⟩,
    ⟨some 13, none, .p (.mv (.t 16))⟩,
    ⟨some 17, none, .p (.ext (.t 13) 0)⟩,
    ⟨some 18, none, .p (.ext (.t 13) 1)⟩,
    ⟨some 5, none, .p (.alloc [.k (C.int .i64 0), .k (C.int .i64 0), .k (C.int .i64 0), .k (C.int .i64 0), .k (C.int .i64 0), .k (C.int .i64 0), .k (C.int .i64 0), .k (C.int .i64 0), .k (C.int .i64 0), .k (C.int .i64 0), .k (C.int .i64 0), .k (C.int .i64 0), .k (C.int .i64 0), .k (C.int .i64 0), .k (C.int .i64 0), .k (C.int .i64 0), .k (C.int .i64 0), .k (C.int .i64 0), .k (C.int .i64 0), .k (C.int .i64 0), .k (C.int .i64 0), .k (C.int .i64 0), .k (C.int .i64 0), .k (C.int .i64 0), .k (C.int .i64 0), .k (C.int .i64 0), .k (C.str []), .k (C.str []), .k (C.int .i64 0)])⟩,
    ⟨none, none, .h (.store 29 (.t 5) (.t 17))⟩,
    ⟨some 6, none, .p (.mv (.t 18))⟩] [3, 4, 5, 6])
  (.seq (.seq (.region [⟨some 19, none, .h (.load 29 true (.t 5))⟩,
    ⟨some 20, none, .h (.load 29 true (.t 3))⟩,
    ⟨some 21, none, .h (.call (.f 19) [.t 19, .t 20])⟩,
    ⟨some 22, none, .p (.un .not (.t 21))⟩,
    ⟨some 23, none, .p (.mv (.t 22))⟩,
    ⟨some 24, some (23, false), .p (.mv (.t 6))⟩,
    ⟨some 25, some (23, false), .p (.mv (.t 4))⟩,
    ⟨some 26, some (23, false), .p (.eqb true (.t 24) (.t 25))⟩,
    ⟨some 27, none, .p (.pick (.t 23) (.k (.c (C.bool true))) (.t 26))⟩] [27])
  (.cond (.t 27)
  (.seq (.region [⟨some 2, none, .p (.mv (.k (.c (C.bool false))))⟩] [2])
  .ret)
  .skip))
  (.seq (.region [⟨some 2, none, .p (.mv (.k (.c (C.bool true))))⟩] [2])
  .ret))))) }
theorem a5_ok : okFn Try.prog 5 a5 = true := by kernel_rfl
/-- loop.example/g01215/laws.FnExactDealSame -/
def a6 : AFn := { np := 2, nt := 34, res := [.t 4], body :=
  (.seq (.region [⟨some 2, none, .p (.box 6 (.t 0))⟩,
    ⟨some 3, none, .p (.box 6 (.t 1))⟩,
    ⟨some 4, none, .p (.mv (.k (.c (C.bool false))))⟩] [2, 3])
  (.seq (.regionD [⟨some 10, none, .h (.load 6 true (.t 2))⟩,
    ⟨some 11, none, .h (.call (.f 21) [.t 10])⟩,
    ⟨some 12, none, .h (.load 6 true (.t 3))⟩,
    ⟨some 13, none, .h (.call (.f 21) [.t 12])⟩,
    ⟨some 14, none, .h (.call (.f 20) [.t 11, .t 13])⟩,
    ⟨some 9, none, .p (.mv (.t 14))⟩,
    ⟨some 15, none, .p (.ext (.t 9) 0)⟩,
    ⟨some 16, none, .p (.ext (.t 9) 1)⟩,
    ⟨some 5, none, .p (.alloc [.k (C.int .i64 0), .k (C.int .i64 0)])⟩,
    ⟨none, none, .h (.store 2 (.t 5) (.t 15))⟩,
    ⟨some 6, none, .p (.mv (.t 16))⟩] [2, 3, 5, 6] [])
  (.seq (.regionD [⟨some 18, none, .h (.load 6 true (.t 2))⟩,
    ⟨some 19, none, .h (.call (.f 21) [.t 18])⟩,
    ⟨some 20, none, .h (.load 6 true (.t 3))⟩,
    ⟨some 21, none, .h (.call (.f 21) [.t 20])⟩,
    ⟨some 22, none, .h (.call (.f 22) [.t 19, .t 21])⟩,
    ⟨some 17, none, .p (.mv (.t 22))⟩,
    ⟨some 23, none, .p (.ext (.t 17) 0)⟩,
    ⟨some 24, none, .p (.ext (.t 17) 1)⟩,
    ⟨some 7, none, .p (.alloc [.k (C.int .i64 0), .k (C.int .i64 0)])⟩,
    ⟨none, none, .h (.store 2 (.t 7) (.t 23))⟩,
    ⟨some 8, none, .p (.mv (.t 24))⟩] [5, 6, 7, 8] [])
  (.seq (.seq (.region [⟨some 25, none, .h (.load 2 true (.t 7))⟩,
    ⟨some 26, none, .h (.load 2 true (.t 5))⟩,
    ⟨some 27, none, .h (.call (.f 23) [.t 25, .t 26])⟩,
    ⟨some 28, none, .p (.un .not (.t 27))⟩,
    ⟨some 29, none, .p (.mv (.t 28))⟩,
    ⟨some 30, some (29, false), .p (.mv (.t 8))⟩,
    ⟨some 31, some (29, false), .p (.mv (.t 6))⟩,
    ⟨some 32, some (29, false), .p (.eqb true (.t 30) (.t 31))⟩,
    ⟨some 33, none, .p (.pick (.t 29) (.k (.c (C.bool true))) (.t 32))⟩] [33])
  (.cond (.t 33)
  (.seq (.region [⟨some 4, none, .p (.mv (.k (.c (C.bool false))))⟩] [4])
  .ret)
  .skip))
  (.seq (.region [⟨some 4, none, .p (.mv (.k (.c (C.bool true))))⟩] [4])
  .ret))))) }
theorem a6_ok : okFn Try.prog 6 a6 = true := by kernel_rfl
/-- loop.example/g01215/laws.FnExactCompleteTubes -/
def a7 : AFn := { np := 1, nt := 66, res := [.t 2], body :=
  (.seq (.region [⟨some 1, none, .p (.box 24 (.t 0))⟩,
    ⟨some 2, none, .p (.mv (.k (.c (C.bool false))))⟩] [1])
  (.seq (.region [⟨some 12, none, .h (.load 24 true (.t 1))⟩,
    ⟨some 13, none, .h (.call (.f 14) [.t 12])⟩,
    ⟨some 14, none, .h (.call (.f 24) [.t 13])⟩,
    ⟨some 11, none, .p (.mv (.t 14))⟩,
    ⟨some 15, none, .p (.ext (.t 11) 0)⟩,
    ⟨some 16, none, .p (.ext (.t 11) 1)⟩,
    ⟨some 3, none, .p (.mv (.t 15))⟩,
    ⟨some 4, none, .p (.mv (.t 16))⟩] [1, 3, 4])
  (.seq (.region [⟨some 18, none, .h (.load 24 true (.t 1))⟩,
    ⟨some 19, none, .h (.call (.f 14) [.t 18])⟩,
    ⟨some 20, none, .h (.call (.f 25) [.t 19])⟩,
    ⟨some 17, none, .p (.mv (.t 20))⟩,
    ⟨some 21, none, .p (.ext (.t 17) 0)⟩,
    ⟨some 22, none, .p (.ext (.t 17) 1)⟩,
    ⟨some 5, none, .p (.mv (.t 21))⟩,
    ⟨some 6, none, .p (.mv (.t 22))⟩] [1, 3, 4, 5, 6])
  (.seq (.seq (.region [⟨some 23, none, .p (.mv (.t 5))⟩,
    ⟨some 24, none, .p (.mv (.t 3))⟩,
    ⟨some 25, none, .h (.call (.f 26) [.t 23, .t 24])⟩,
    ⟨some 26, none, .p (.un .not (.t 25))⟩,
    ⟨some 27, none, .p (.mv (.t 26))⟩,
    ⟨some 28, some (27, false), .p (.mv (.t 6))⟩,
    ⟨some 29, some (27, false), .p (.mv (.t 4))⟩,
    ⟨some 30, some (27, false), .p (.eqb true (.t 28) (.t 29))⟩,
    ⟨some 31, none, .p (.pick (.t 27) (.k (.c (C.bool true))) (.t 30))⟩] [1, 3, 4, 5, 31])
  (.cond (.t 31)
  (.seq (.region [⟨some 2, none, .p (.mv (.k (.c (C.bool false))))⟩] [2])
  .ret)
  .skip))
  (.seq (.region [⟨some 7, none, .p (.mv (.k (.c (C.int .i64 1))))⟩] [1, 3, 4, 5, 7])
  (.seq (.region [⟨some 32, none, .p (.mv (.t 5))⟩,
    ⟨some 33, none, .p (.mv (.t 7))⟩,
    ⟨some 34, none, .h (.call (.f 27) [.t 32, .t 33])⟩,
    ⟨some 7, none, .p (.mv (.t 34))⟩] [1, 3, 4, 5, 7])
  (.seq (.region [⟨some 8, none, .p (.mv (.k (.c (C.int .i64 1))))⟩] [1, 3, 4, 5, 7, 8])
  (.seq (.region [⟨some 35, none, .p (.mv (.t 5))⟩,
    ⟨some 36, none, .p (.mv (.t 8))⟩,
    ⟨some 37, none, .h (.call (.f 28) [.t 35, .t 36])⟩,
    ⟨some 8, none, .p (.mv (.t 37))⟩] [1, 3, 4, 5, 7, 8])
  (.seq (.seq (.region [⟨some 38, none, .p (.mv (.t 8))⟩,
    ⟨some 39, none, .p (.bin .lss (.t 38) (.k (.c (C.int .i64 0))))⟩] [1, 3, 4, 5, 7, 8, 39])
  (.cond (.t 39)
  (.seq (.region [⟨some 2, none, .p (.mv (.k (.c (C.bool false))))⟩] [2])
  .ret)
  .skip))
  (.seq (.seq (.region [⟨some 40, none, .p (.mv (.t 8))⟩,
    ⟨some 41, none, .p (.mv (.t 7))⟩,
    ⟨some 42, none, .p (.bin .neq (.t 40) (.t 41))⟩] [1, 3, 4, 5, 7, 42])
  (.cond (.t 42)
  (.seq (.region [⟨some 2, none, .p (.mv (.k (.c (C.bool false))))⟩] [2])
  .ret)
  .skip))
  (.seq (.region [⟨some 44, none, .h (.load 24 true (.t 1))⟩,
    ⟨some 45, none, .h (.call (.f 14) [.t 44])⟩,
    ⟨some 46, none, .h (.call (.f 25) [.t 45])⟩,
    ⟨some 43, none, .p (.mv (.t 46))⟩,
    ⟨some 47, none, .p (.ext (.t 43) 0)⟩,
    ⟨some 48, none, .p (.ext (.t 43) 1)⟩,
    ⟨some 9, none, .p (.mv (.t 47))⟩,
    ⟨some 10, none, .p (.mv (.t 48))⟩] [3, 4, 5, 7, 9, 10])
  (.seq (.seq (.region [⟨some 49, none, .p (.mv (.t 9))⟩,
    ⟨some 50, none, .p (.mv (.t 3))⟩,
    ⟨some 51, none, .h (.call (.f 26) [.t 49, .t 50])⟩,
    ⟨some 52, none, .p (.un .not (.t 51))⟩,
    ⟨some 53, none, .p (.mv (.t 52))⟩,
    ⟨some 54, some (53, false), .p (.mv (.t 10))⟩,
    ⟨some 55, some (53, false), .p (.mv (.t 4))⟩,
    ⟨some 56, some (53, false), .p (.eqb true (.t 54) (.t 55))⟩,
    ⟨some 57, none, .p (.pick (.t 53) (.k (.c (C.bool true))) (.t 56))⟩] [5, 7, 57])
  (.cond (.t 57)
  (.seq (.region [⟨some 2, none, .p (.mv (.k (.c (C.bool false))))⟩] [2])
  .ret)
  .skip))
  (.seq (.region [⟨some 8, none, .p (.mv (.k (.c (C.int .i64 1))))⟩] [5, 7, 8])
  (.seq (.region [⟨some 58, none, .p (.mv (.t 5))⟩,
    ⟨some 59, none, .p (.mv (.t 8))⟩,
    ⟨some 60, none, .h (.call (.f 28) [.t 58, .t 59])⟩,
    ⟨some 8, none, .p (.mv (.t 60))⟩] [7, 8])
  (.seq (.seq (.region [⟨some 61, none, .p (.mv (.t 8))⟩,
    ⟨some 62, none, .p (.bin .lss (.t 61) (.k (.c (C.int .i64 0))))⟩] [7, 8, 62])
  (.cond (.t 62)
  (.seq (.region [⟨some 2, none, .p (.mv (.k (.c (C.bool false))))⟩] [2])
  .ret)
  .skip))
  (.seq (.seq (.region [⟨some 63, none, .p (.mv (.t 8))⟩,
    ⟨some 64, none, .p (.mv (.t 7))⟩,
    ⟨some 65, none, .p (.bin .neq (.t 63) (.t 64))⟩] [65])
  (.cond (.t 65)
  (.seq (.region [⟨some 2, none, .p (.mv (.k (.c (C.bool false))))⟩] [2])
  .ret)
  .skip))
  (.seq (.region [⟨some 2, none, .p (.mv (.k (.c (C.bool true))))⟩] [2])
  .ret))))))))))))))))) }
theorem a7_ok : okFn Try.prog 7 a7 = true := by kernel_rfl
/-- loop.example/g01215/laws.FnExactIsValidRecord -/
def a8 : AFn := { np := 1, nt := 20, res := [.t 2], body :=
  (.seq (.region [⟨some 1, none, .p (.box 2 (.t 0))⟩,
    ⟨some 2, none, .p (.mv (.k (.c (C.bool false))))⟩] [1])
  (.seq (.region [⟨some 3, none, .p (.mv (.k (.c (C.int .i64 1048576))))⟩] [1, 3])
  (.seq (.region [⟨some 6, none, .h (.load 2 true (.t 1))⟩,
    ⟨some 7, none, .p (.mv (.t 3))⟩,
    ⟨some 8, none, .h (.call (.f 29) [.t 6, .t 7])⟩,
    ⟨some 3, none, .p (.mv (.t 8))⟩] [1, 3])
  (.seq (.seq (.region [⟨some 9, none, .p (.mv (.t 3))⟩,
    ⟨some 10, none, .p (.bin .lss (.t 9) (.k (.c (C.int .i64 0))))⟩] [1, 10])
  (.cond (.t 10)
  (.seq (.region [⟨some 2, none, .p (.mv (.k (.c (C.bool true))))⟩] [2])
  .ret)
  .skip))
  (.seq (.region [⟨some 11, none, .h (.load 2 true (.t 1))⟩,
    ⟨some 12, none, .h (.call (.f 31) [.t 11])⟩,
    ⟨some 13, none, .h (.call (.f 30) [.t 12])⟩,
    ⟨some 4, none, .p (.mv (.t 13))⟩] [1, 4])
  (.seq (.region [⟨some 14, none, .h (.load 2 true (.t 1))⟩,
    ⟨some 15, none, .h (.call (.f 31) [.t 14])⟩,
    ⟨some 16, none, .h (.call (.f 32) [.t 15])⟩,
    ⟨some 5, none, .p (.mv (.t 16))⟩] [4, 5])
  (.seq (.seq (.region [⟨some 17, none, .p (.mv (.t 5))⟩,
    ⟨some 18, none, .p (.mv (.t 4))⟩,
    ⟨some 19, none, .p (.eqb true (.t 17) (.t 18))⟩] [19])
  (.cond (.t 19)
  (.seq (.region [⟨some 2, none, .p (.mv (.k (.c (C.bool false))))⟩] [2])
  .ret)
  .skip))
  (.seq (.region [⟨some 2, none, .p (.mv (.k (.c (C.bool true))))⟩] [2])
  .ret)))))))) }
theorem a8_ok : okFn Try.prog 8 a8 = true := by kernel_rfl
/-- loop.example/g01215/laws.FnExactRunsLeft -/
def a9 : AFn := { np := 1, nt := 27, res := [.t 2], body :=
  (.seq (.region [⟨some 1, none, .p (.box 26 (.t 0))⟩,
    ⟨some 2, none, .p (.mv (.k (.c (C.bool false))))⟩] [1])
  (.seq (.region [⟨some 8, none, .h (.load 26 true (.t 1))⟩,
    ⟨some 9, none, .h (.call (.f 11) [.t 8])⟩,
    ⟨some 10, none, .h (.call (.f 33) [.t 9])⟩,
    ⟨some 7, none, .p (.mv (.t 10))⟩,
    ⟨some 11, none, .p (.ext (.t 7) 0)⟩,
    ⟨some 12, none, .p (.ext (.t 7) 1)⟩,
    ⟨some 3, none, .p (.mv (.t 11))⟩,
    ⟨some 4, none, .p (.mv (.t 12))⟩] [1, 3, 4])
  (.seq (.region [⟨some 14, none, .h (.load 26 true (.t 1))⟩,
    ⟨some 15, none, .h (.call (.f 11) [.t 14])⟩,
    ⟨some 16, none, .h (.call (.f 34) [.t 15])⟩,
    ⟨some 13, none, .p (.mv (.t 16))⟩,
    ⟨some 17, none, .p (.ext (.t 13) 0)⟩,
    ⟨some 18, none, .p (.ext (.t 13) 1)⟩,
    ⟨some 5, none, .p (.mv (.t 17))⟩,
    ⟨some 6, none, .p (.mv (.t 18))⟩] [3, 4, 5, 6])
  (.seq (.seq (.region [⟨some 19, none, .p (.mv (.t 5))⟩,
    ⟨some 20, none, .p (.mv (.t 3))⟩,
    ⟨some 21, none, .p (.bin .neq (.t 19) (.t 20))⟩,
    ⟨some 22, none, .p (.mv (.t 21))⟩,
    ⟨some 23, some (22, false), .p (.mv (.t 6))⟩,
    ⟨some 24, some (22, false), .p (.mv (.t 4))⟩,
    ⟨some 25, some (22, false), .p (.eqb true (.t 23) (.t 24))⟩,
    ⟨some 26, none, .p (.pick (.t 22) (.k (.c (C.bool true))) (.t 25))⟩] [26])
  (.cond (.t 26)
  (.seq (.region [⟨some 2, none, .p (.mv (.k (.c (C.bool false))))⟩] [2])
  .ret)
  .skip))
  (.seq (.region [⟨some 2, none, .p (.mv (.k (.c (C.bool true))))⟩] [2])
  .ret))))) }
theorem a9_ok : okFn Try.prog 9 a9 = true := by kernel_rfl
/-- loop.example/g01215/spec.IsBar -/
def a10 : AFn := { np := 1, nt := 5, res := [.t 2], body :=
  (.seq (.region [⟨some 1, none, .p (.box 26 (.t 0))⟩,
    ⟨some 2, none, .p (.mv (.k (.c (C.bool false))))⟩] [1])
  (.seq (.region [⟨some 3, none, .h (.load 26 true (.t 1))⟩,
    ⟨some 4, none, .h (.call (.f 35) [.t 3])⟩,
    ⟨some 2, none, .p (.mv (.t 4))⟩] [2])
  .ret)) }
theorem a10_ok : okFn Try.prog 10 a10 = true := by kernel_rfl
/-- loop.example/g01215/laws.toBar -/
def a11 : AFn := { np := 1, nt := 15, res := [.cell 2 26 true], body :=
  (.seq (.region [⟨some 1, none, .p (.box 26 (.t 0))⟩,
    ⟨some 2, none, .p (.alloc (List.replicate 26 (.k (C.int .i64 0))))⟩] [1, 2])
  (.seq (.region [⟨some 3, none, .p (.alloc (List.replicate 26 (.k (C.int .i64 0))))⟩] [1, 2, 3])
  (.seq (.region [⟨some 4, none, .p (.fld 0 (.t 1))⟩,
    ⟨some 5, none, .h (.load 24 true (.t 4))⟩,
    ⟨some 6, none, .h (.call (.f 14) [.t 5])⟩,
    ⟨some 7, none, .p (.fld 0 (.t 3))⟩,
    ⟨none, none, .h (.store 24 (.t 7) (.t 6))⟩] [1, 2, 3])
  (.seq (.region [⟨some 8, none, .p (.fld 24 (.t 1))⟩,
    ⟨some 9, none, .h (.load 1 false (.t 8))⟩,
    ⟨some 10, none, .p (.fld 24 (.t 3))⟩,
    ⟨none, none, .h (.store 1 (.t 10) (.t 9))⟩] [1, 2, 3])
  (.seq (.region [⟨some 11, none, .p (.fld 25 (.t 1))⟩,
    ⟨some 12, none, .h (.load 1 false (.t 11))⟩,
    ⟨some 13, none, .p (.fld 25 (.t 3))⟩,
    ⟨none, none, .h (.store 1 (.t 13) (.t 12))⟩] [2, 3])
  (.seq (.region [⟨some 14, none, .h (.load 26 true (.t 3))⟩,
    ⟨none, none, .h (.store 26 (.t 2) (.t 14))⟩] [2])
  .ret)))))) }
theorem a11_ok : okFn Try.prog 11 a11 = true := by kernel_rfl
/-- loop.example/g01215/impl.IsBar -/
def a12 : AFn := { np := 1, nt := 16, res := [.t 2], body :=
  (.seq (.region [⟨some 1, none, .p (.box 26 (.t 0))⟩,
    ⟨some 2, none, .p (.mv (.k (.c (C.bool false))))⟩] [1])
  (.seq (.region [⟨some 3, none, .p (.fld 0 (.t 1))⟩,
    ⟨some 4, none, .h (.load 24 true (.t 3))⟩,
    ⟨some 5, none, .h (.call (.f 36) [.t 4])⟩,
    ⟨some 6, none, .p (.mv (.t 5))⟩,
    ⟨some 7, some (6, true), .p (.fld 24 (.t 1))⟩,
    ⟨some 8, some (6, true), .h (.load 1 false (.t 7))⟩,
    ⟨some 9, some (6, true), .h (.call (.f 37) [.t 8, .k (.c (C.int .i64 0)), .k (.c (C.int .i64 9999))])⟩,
    ⟨some 10, none, .p (.pick (.t 6) (.t 9) (.k (.c (C.bool false))))⟩,
    ⟨some 11, none, .p (.mv (.t 10))⟩,
    ⟨some 12, some (11, true), .p (.fld 25 (.t 1))⟩,
    ⟨some 13, some (11, true), .h (.load 1 false (.t 12))⟩,
    ⟨some 14, some (11, true), .h (.call (.f 37) [.t 13, .k (.c (C.int .i64 0)), .k (.c (C.int .i64 1000))])⟩,
    ⟨some 15, none, .p (.pick (.t 11) (.t 14) (.k (.c (C.bool false))))⟩,
    ⟨some 2, none, .p (.mv (.t 15))⟩] [2])
  .ret)) }
theorem a12_ok : okFn Try.prog 12 a12 = true := by kernel_rfl
/-- loop.example/g01215/spec.NewBar -/
def a13 : AFn := { np := 1, nt := 10, res := [.cell 2 26 true, .t 3], body :=
  (.seq (.region [⟨some 1, none, .p (.box 24 (.t 0))⟩,
    ⟨some 2, none, .p (.alloc (List.replicate 26 (.k (C.int .i64 0))))⟩,
    ⟨some 3, none, .p (.mv (.k (.c (C.bool false))))⟩] [1, 2])
  (.seq (.seq (.region [⟨some 4, none, .h (.load 24 true (.t 1))⟩,
    ⟨some 5, none, .h (.call (.f 38) [.t 4])⟩,
    ⟨some 6, none, .p (.un .not (.t 5))⟩] [1, 2, 6])
  (.cond (.t 6)
  (.seq (.region [⟨some 7, none, .p (.build (List.replicate 26 (.k (C.int .i64 0))) [])⟩,
    ⟨none, none, .h (.store 26 (.t 2) (.t 7))⟩,
    ⟨some 3, none, .p (.mv (.k (.c (C.bool false))))⟩] [2, 3])
  .ret)
  .skip))
  (.seq (.region [⟨some 8, none, .h (.load 24 true (.t 1))⟩,
    ⟨some 9, none, .p (.build (List.replicate 26 (.k (C.int .i64 0))) [(0, 24, .t 8)])⟩,
    ⟨none, none, .h (.store 26 (.t 2) (.t 9))⟩,
    ⟨some 3, none, .p (.mv (.k (.c (C.bool true))))⟩] [2, 3])
  .ret))) }
theorem a13_ok : okFn Try.prog 13 a13 = true := by kernel_rfl
/-- loop.example/g01215/laws.toRack -/
def a14 : AFn := { np := 1, nt := 9, res := [.cell 2 24 true], body :=
  (.seq (.region [⟨some 1, none, .p (.box 24 (.t 0))⟩,
    ⟨some 2, none, .p (.alloc (List.replicate 24 (.k (C.int .i64 0))))⟩] [1, 2])
  (.seq (.region [⟨some 3, none, .p (.alloc (List.replicate 24 (.k (C.int .i64 0))))⟩] [1, 2, 3])
  (.seq (.region [⟨some 4, none, .p (.fld 0 (.t 1))⟩,
    ⟨some 5, none, .h (.load 24 true (.t 4))⟩,
    ⟨some 6, none, .h (.call (.f 39) [.t 5])⟩,
    ⟨some 7, none, .p (.fld 0 (.t 3))⟩,
    ⟨none, none, .h (.store 24 (.t 7) (.t 6))⟩] [2, 3])
  (.seq (.region [⟨some 8, none, .h (.load 24 true (.t 3))⟩,
    ⟨none, none, .h (.store 24 (.t 2) (.t 8))⟩] [2])
  .ret)))) }
theorem a14_ok : okFn Try.prog 14 a14 = true := by kernel_rfl
/-- loop.example/g01215/impl.NewBar -/
def a15 : AFn := { np := 1, nt := 12, res := [.cell 2 26 true, .t 3], body :=
  (.seq (.region [⟨some 1, none, .p (.box 24 (.t 0))⟩,
    ⟨some 2, none, .p (.alloc (List.replicate 26 (.k (C.int .i64 0))))⟩,
    ⟨some 3, none, .p (.mv (.k (.c (C.bool false))))⟩] [1, 2])
  (.seq (.region [⟨some 5, none, .h (.load 24 true (.t 1))⟩,
    ⟨some 6, none, .p (.build (List.replicate 26 (.k (C.int .i64 0))) [(0, 24, .t 5)])⟩,
    ⟨some 4, none, .p (.alloc (List.replicate 26 (.k (C.int .i64 0))))⟩,
    ⟨none, none, .h (.store 26 (.t 4) (.t 6))⟩] [2, 4])
  (.seq (.seq (.region [⟨some 7, none, .h (.load 26 true (.t 4))⟩,
    ⟨some 8, none, .h (.call (.f 12) [.t 7])⟩,
    ⟨some 9, none, .p (.un .not (.t 8))⟩] [2, 4, 9])
  (.cond (.t 9)
  (.seq (.region [⟨some 10, none, .p (.build (List.replicate 26 (.k (C.int .i64 0))) [])⟩,
    ⟨none, none, .h (.store 26 (.t 2) (.t 10))⟩,
    ⟨some 3, none, .p (.mv (.k (.c (C.bool false))))⟩] [2, 3])
  .ret)
  .skip))
  (.seq (.region [⟨some 11, none, .h (.load 26 true (.t 4))⟩,
    ⟨none, none, .h (.store 26 (.t 2) (.t 11))⟩,
    ⟨some 3, none, .p (.mv (.k (.c (C.bool true))))⟩] [2, 3])
  .ret)))) }
theorem a15_ok : okFn Try.prog 15 a15 = true := by kernel_rfl
/-- loop.example/g01215/laws.eqBar -/
def a16 : AFn := { np := 2, nt := 21, res := [.t 4], body :=
  (.seq (.region [⟨some 2, none, .p (.box 26 (.t 0))⟩,
    ⟨some 3, none, .p (.box 26 (.t 1))⟩,
    ⟨some 4, none, .p (.mv (.k (.c (C.bool false))))⟩] [2, 3])
  (.seq (.seq (.region [⟨some 5, none, .p (.fld 0 (.t 2))⟩,
    ⟨some 6, none, .h (.load 24 true (.t 5))⟩,
    ⟨some 7, none, .p (.fld 0 (.t 3))⟩,
    ⟨some 8, none, .h (.load 24 true (.t 7))⟩,
    ⟨some 9, none, .h (.call (.f 40) [.t 6, .t 8])⟩,
    ⟨some 10, none, .p (.un .not (.t 9))⟩] [2, 3, 10])
  (.cond (.t 10)
  (.seq (.region [⟨some 4, none, .p (.mv (.k (.c (C.bool false))))⟩] [4])
  .ret)
  .skip))
  (.seq (.seq (.region [⟨some 11, none, .p (.fld 24 (.t 2))⟩,
    ⟨some 12, none, .h (.load 1 false (.t 11))⟩,
    ⟨some 13, none, .p (.fld 24 (.t 3))⟩,
    ⟨some 14, none, .h (.load 1 false (.t 13))⟩,
    ⟨some 15, none, .p (.bin .neq (.t 12) (.t 14))⟩] [2, 3, 15])
  (.cond (.t 15)
  (.seq (.region [⟨some 4, none, .p (.mv (.k (.c (C.bool false))))⟩] [4])
  .ret)
  .skip))
  (.seq (.seq (.region [⟨some 16, none, .p (.fld 25 (.t 2))⟩,
    ⟨some 17, none, .h (.load 1 false (.t 16))⟩,
    ⟨some 18, none, .p (.fld 25 (.t 3))⟩,
    ⟨some 19, none, .h (.load 1 false (.t 18))⟩,
    ⟨some 20, none, .p (.bin .neq (.t 17) (.t 19))⟩] [20])
  (.cond (.t 20)
  (.seq (.region [⟨some 4, none, .p (.mv (.k (.c (C.bool false))))⟩] [4])
  .ret)
  .skip))
  (.seq (.region [⟨some 4, none, .p (.mv (.k (.c (C.bool true))))⟩] [4])
  .ret))))) }
theorem a16_ok : okFn Try.prog 16 a16 = true := by kernel_rfl
/-- loop.example/g01215/spec.NewConsole -/
def a17 : AFn := { np := 1, nt := 10, res := [.cell 2 29 true, .t 3], body :=
  (.seq (.region [⟨some 1, none, .p (.box 26 (.t 0))⟩,
    ⟨some 2, none, .p (.alloc [.k (C.int .i64 0), .k (C.int .i64 0), .k (C.int .i64 0), .k (C.int .i64 0), .k (C.int .i64 0), .k (C.int .i64 0), .k (C.int .i64 0), .k (C.int .i64 0), .k (C.int .i64 0), .k (C.int .i64 0), .k (C.int .i64 0), .k (C.int .i64 0), .k (C.int .i64 0), .k (C.int .i64 0), .k (C.int .i64 0), .k (C.int .i64 0), .k (C.int .i64 0), .k (C.int .i64 0), .k (C.int .i64 0), .k (C.int .i64 0), .k (C.int .i64 0), .k (C.int .i64 0), .k (C.int .i64 0), .k (C.int .i64 0), .k (C.int .i64 0), .k (C.int .i64 0), .k (C.str []), .k (C.str []), .k (C.int .i64 0)])⟩,
    ⟨some 3, none, .p (.mv (.k (.c (C.bool false))))⟩] [1, 2])
  (.seq (.seq (.region [⟨some 4, none, .h (.load 26 true (.t 1))⟩,
    ⟨some 5, none, .h (.call (.f 35) [.t 4])⟩,
    ⟨some 6, none, .p (.un .not (.t 5))⟩] [1, 2, 6])
  (.cond (.t 6)
  (.seq (.region [⟨some 7, none, .p (.build [.k (C.int .i64 0), .k (C.int .i64 0), .k (C.int .i64 0), .k (C.int .i64 0), .k (C.int .i64 0), .k (C.int .i64 0), .k (C.int .i64 0), .k (C.int .i64 0), .k (C.int .i64 0), .k (C.int .i64 0), .k (C.int .i64 0), .k (C.int .i64 0), .k (C.int .i64 0), .k (C.int .i64 0), .k (C.int .i64 0), .k (C.int .i64 0), .k (C.int .i64 0), .k (C.int .i64 0), .k (C.int .i64 0), .k (C.int .i64 0), .k (C.int .i64 0), .k (C.int .i64 0), .k (C.int .i64 0), .k (C.int .i64 0), .k (C.int .i64 0), .k (C.int .i64 0), .k (C.str []), .k (C.str []), .k (C.int .i64 0)] [])⟩,
    ⟨none, none, .h (.store 29 (.t 2) (.t 7))⟩,
    ⟨some 3, none, .p (.mv (.k (.c (C.bool false))))⟩] [2, 3])
  .ret)
  .skip))
  (.seq (.region [⟨some 8, none, .h (.load 26 true (.t 1))⟩,
    ⟨some 9, none, .p (.build [.k (C.int .i64 0), .k (C.int .i64 0), .k (C.int .i64 0), .k (C.int .i64 0), .k (C.int .i64 0), .k (C.int .i64 0), .k (C.int .i64 0), .k (C.int .i64 0), .k (C.int .i64 0), .k (C.int .i64 0), .k (C.int .i64 0), .k (C.int .i64 0), .k (C.int .i64 0), .k (C.int .i64 0), .k (C.int .i64 0), .k (C.int .i64 0), .k (C.int .i64 0), .k (C.int .i64 0), .k (C.int .i64 0), .k (C.int .i64 0), .k (C.int .i64 0), .k (C.int .i64 0), .k (C.int .i64 0), .k (C.int .i64 0), .k (C.int .i64 0), .k (C.int .i64 0), .k (C.str []), .k (C.str []), .k (C.int .i64 0)] [(0, 26, .t 8)])⟩,
    ⟨none, none, .h (.store 29 (.t 2) (.t 9))⟩,
    ⟨some 3, none, .p (.mv (.k (.c (C.bool true))))⟩] [2, 3])
  .ret))) }
theorem a17_ok : okFn Try.prog 17 a17 = true := by kernel_rfl
/-- loop.example/g01215/impl.NewConsole -/
def a18 : AFn := { np := 1, nt := 10, res := [.cell 2 29 true, .t 3], body :=
  (.seq (.region [⟨some 1, none, .p (.box 26 (.t 0))⟩,
    ⟨some 2, none, .p (.alloc [.k (C.int .i64 0), .k (C.int .i64 0), .k (C.int .i64 0), .k (C.int .i64 0), .k (C.int .i64 0), .k (C.int .i64 0), .k (C.int .i64 0), .k (C.int .i64 0), .k (C.int .i64 0), .k (C.int .i64 0), .k (C.int .i64 0), .k (C.int .i64 0), .k (C.int .i64 0), .k (C.int .i64 0), .k (C.int .i64 0), .k (C.int .i64 0), .k (C.int .i64 0), .k (C.int .i64 0), .k (C.int .i64 0), .k (C.int .i64 0), .k (C.int .i64 0), .k (C.int .i64 0), .k (C.int .i64 0), .k (C.int .i64 0), .k (C.int .i64 0), .k (C.int .i64 0), .k (C.str []), .k (C.str []), .k (C.int .i64 0)])⟩,
    ⟨some 3, none, .p (.mv (.k (.c (C.bool false))))⟩] [1, 2])
  (.seq (.seq (.region [⟨some 4, none, .h (.load 26 true (.t 1))⟩,
    ⟨some 5, none, .h (.call (.f 12) [.t 4])⟩,
    ⟨some 6, none, .p (.un .not (.t 5))⟩] [1, 2, 6])
  (.cond (.t 6)
  (.seq (.region [⟨some 7, none, .p (.build [.k (C.int .i64 0), .k (C.int .i64 0), .k (C.int .i64 0), .k (C.int .i64 0), .k (C.int .i64 0), .k (C.int .i64 0), .k (C.int .i64 0), .k (C.int .i64 0), .k (C.int .i64 0), .k (C.int .i64 0), .k (C.int .i64 0), .k (C.int .i64 0), .k (C.int .i64 0), .k (C.int .i64 0), .k (C.int .i64 0), .k (C.int .i64 0), .k (C.int .i64 0), .k (C.int .i64 0), .k (C.int .i64 0), .k (C.int .i64 0), .k (C.int .i64 0), .k (C.int .i64 0), .k (C.int .i64 0), .k (C.int .i64 0), .k (C.int .i64 0), .k (C.int .i64 0), .k (C.str []), .k (C.str []), .k (C.int .i64 0)] [])⟩,
    ⟨none, none, .h (.store 29 (.t 2) (.t 7))⟩,
    ⟨some 3, none, .p (.mv (.k (.c (C.bool false))))⟩] [2, 3])
  .ret)
  .skip))
  (.seq (.region [⟨some 8, none, .h (.load 26 true (.t 1))⟩,
    ⟨some 9, none, .p (.build [.k (C.int .i64 0), .k (C.int .i64 0), .k (C.int .i64 0), .k (C.int .i64 0), .k (C.int .i64 0), .k (C.int .i64 0), .k (C.int .i64 0), .k (C.int .i64 0), .k (C.int .i64 0), .k (C.int .i64 0), .k (C.int .i64 0), .k (C.int .i64 0), .k (C.int .i64 0), .k (C.int .i64 0), .k (C.int .i64 0), .k (C.int .i64 0), .k (C.int .i64 0), .k (C.int .i64 0), .k (C.int .i64 0), .k (C.int .i64 0), .k (C.int .i64 0), .k (C.int .i64 0), .k (C.int .i64 0), .k (C.int .i64 0), .k (C.int .i64 0), .k (C.int .i64 0), .k (C.str []), .k (C.str []), .k (C.int .i64 0)] [(0, 26, .t 8)])⟩,
    ⟨none, none, .h (.store 29 (.t 2) (.t 9))⟩,
    ⟨some 3, none, .p (.mv (.k (.c (C.bool true))))⟩] [2, 3])
  .ret))) }
theorem a18_ok : okFn Try.prog 18 a18 = true := by kernel_rfl
/-- loop.example/g01215/laws.eqConsole -/
def a19 : AFn := { np := 2, nt := 17, res := [.t 4], body :=
  (.seq (.region [⟨some 2, none, .p (.box 29 (.t 0))⟩,
    ⟨some 3, none, .p (.box 29 (.t 1))⟩,
    ⟨some 4, none, .p (.mv (.k (.c (C.bool false))))⟩] [2, 3])
  (.seq (.seq (.region [⟨some 5, none, .p (.fld 0 (.t 2))⟩,
    ⟨some 6, none, .h (.load 26 true (.t 5))⟩,
    ⟨some 7, none, .p (.fld 0 (.t 3))⟩,
    ⟨some 8, none, .h (.load 26 true (.t 7))⟩,
    ⟨some 9, none, .h (.call (.f 16) [.t 6, .t 8])⟩,
    ⟨some 10, none, .p (.un .not (.t 9))⟩] [2, 3, 10])
  (.cond (.t 10)
  (.seq (.region [⟨some 4, none, .p (.mv (.k (.c (C.bool false))))⟩] [4])
  .ret)
  .skip))
  (.seq (.seq (.region [⟨some 11, none, .p (.fld 26 (.t 2))⟩,
    ⟨some 12, none, .h (.load 3 true (.t 11))⟩,
    ⟨some 13, none, .p (.fld 26 (.t 3))⟩,
    ⟨some 14, none, .h (.load 3 true (.t 13))⟩,
    ⟨some 15, none, .h (.call (.f 41) [.t 12, .t 14])⟩,
    ⟨some 16, none, .p (.un .not (.t 15))⟩] [16])
  (.cond (.t 16)
  (.seq (.region [⟨some 4, none, .p (.mv (.k (.c (C.bool false))))⟩] [4])
  .ret)
  .skip))
  (.seq (.region [⟨some 4, none, .p (.mv (.k (.c (C.bool true))))⟩] [4])
  .ret)))) }
theorem a19_ok : okFn Try.prog 19 a19 = true := by kernel_rfl
/-- loop.example/g01215/spec.DealSame -/
def a20 : AFn := { np := 2, nt := 23, res := [.cell 4 2 true, .t 5], body :=
  (.seq (.region [⟨some 2, none, .p (.box 6 (.t 0))⟩,
    ⟨some 3, none, .p (.box 6 (.t 1))⟩,
    ⟨some 4, none, .p (.alloc [.k (C.int .i64 0), .k (C.int .i64 0)])⟩,
    ⟨some 5, none, .p (.mv (.k (.c (C.bool false))))⟩] [2, 3, 4])
  (.seq (.seq (.region [⟨some 9, none, .h (.load 6 true (.t 2))⟩,
    ⟨some 10, none, .h (.load 6 true (.t 3))⟩,
    ⟨some 11, none, .h (.call (.f 42) [.t 9, .t 10])⟩,
    ⟨some 8, none, .p (.mv (.t 11))⟩,
    ⟨some 12, none, .p (.ext (.t 8) 0)⟩,
    ⟨some 13, none, .p (.ext (.t 8) 1)⟩,
    ⟨some 6, none, .p (.mv (.t 12))⟩,
    ⟨some 7, none, .p (.mv (.t 13))⟩] [2, 3, 4, 7])
  (.seq (.region [⟨some 14, none, .p (.mv (.t 7))⟩,
    ⟨some 15, none, .p (.un .not (.t 14))⟩] [2, 3, 4, 15])
  (.cond (.t 15)
  (.seq (.region [⟨some 16, none, .p (.build [.k (C.int .i64 0), .k (C.int .i64 0)] [])⟩,
    ⟨none, none, .h (.store 2 (.t 4) (.t 16))⟩,
    ⟨some 5, none, .p (.mv (.k (.c (C.bool false))))⟩] [4, 5])
  .ret)
  .skip)))
  (.seq (.regionD [⟨some 17, none, .h (.load 6 true (.t 2))⟩,
    ⟨some 18, none, .h (.load 6 true (.t 3))⟩,
    ⟨some 19, none, .h (.call (.f 44) [.t 17, .t 18, .k (.c (C.int .i64 0))])⟩,
    ⟨some 20, none, .h (.load 6 true (.t 3))⟩,
    ⟨some 21, none, .h (.call (.f 45) [.t 20])⟩,
    ⟨some 22, none, .h (.call (.f 43) [.t 19, .t 21])⟩,
    ⟨none, none, .h (.store 2 (.t 4) (.t 22))⟩,
    ⟨some 5, none, .p (.mv (.k (.c (C.bool true))))⟩] [4, 5] [])
  .ret))) }
theorem a20_ok : okFn Try.prog 20 a20 = true := by kernel_rfl
/-- loop.example/g01215/laws.toIntA6 -/
def a21 : AFn := { np := 1, nt := 15, res := [.cell 2 6 true], body :=
  (.seq (.region [⟨some 1, none, .p (.box 6 (.t 0))⟩,
    ⟨some 2, none, .p (.alloc [.k (C.int .i64 0), .k (C.int .i64 0), .k (C.int .i64 0), .k (C.int .i64 0), .k (C.int .i64 0), .k (C.int .i64 0)])⟩] [1, 2])
  (.seq (.region [⟨some 3, none, .p (.alloc [.k (C.int .i64 0), .k (C.int .i64 0), .k (C.int .i64 0), .k (C.int .i64 0), .k (C.int .i64 0), .k (C.int .i64 0)])⟩] [1, 2, 3])
  (.seq (.seq (.region [⟨some 4, none, .p (.mv (.k (.c (C.int .i64 0))))⟩] [1, 2, 3, 4])
  (.block 0 (.loop (.seq (.seq (.region [⟨some 5, none, .p (.mv (.t 4))⟩,
    ⟨some 6, none, .p (.bin .lss (.t 5) (.k (.c (C.int .i64 6))))⟩] [1, 2, 3, 4, 6])
  (.cond (.t 6)
  .skip
  (.exit 0)))
  (.seq (.block 1 (.region [⟨some 9, none, .p (.mv (.t 4))⟩,
    ⟨some 10, none, .p (.mv (.t 4))⟩,
    ⟨some 11, none, .p (.ixA 6 1 (.t 1) (.t 10))⟩,
    ⟨some 12, none, .h (.load 1 false (.t 11))⟩,
    ⟨some 13, none, .p (.ixA 6 1 (.t 3) (.t 9))⟩,
    ⟨none, none, .h (.store 1 (.t 13) (.t 12))⟩] [1, 2, 3, 4]))
  (.region [⟨some 7, none, .p (.mv (.t 4))⟩,
    ⟨some 8, none, .p (.bin .add (.t 7) (.k (.c (C.int .i64 1))))⟩,
    ⟨some 4, none, .p (.mv (.t 8))⟩] [1, 2, 3, 4]))) [1, 2, 3, 4])))
  (.seq (.region [⟨some 14, none, .h (.load 6 true (.t 3))⟩,
    ⟨none, none, .h (.store 6 (.t 2) (.t 14))⟩] [2])
  .ret)))) }
theorem a21_ok : okFn Try.prog 21 a21 = true := by kernel_rfl
/-- loop.example/g01215/impl.DealSame -/
def a22 : AFn := { np := 2, nt := 17, res := [.cell 4 2 true, .t 5], body :=
  (.seq (.region [⟨some 2, none, .p (.box 6 (.t 0))⟩,
    ⟨some 3, none, .p (.box 6 (.t 1))⟩,
    ⟨some 4, none, .p (.alloc [.k (C.int .i64 0), .k (C.int .i64 0)])⟩,
    ⟨some 5, none, .p (.mv (.k (.c (C.bool false))))⟩] [2, 3, 4])
  (.seq (.seq (.region [⟨some 6, none, .h (.load 6 true (.t 2))⟩,
    ⟨some 7, none, .h (.load 6 true (.t 3))⟩,
    ⟨some 8, none, .h (.call (.f 46) [.t 6, .t 7])⟩,
    ⟨some 9, none, .p (.un .not (.t 8))⟩] [2, 3, 4, 9])
  (.cond (.t 9)
  (.seq (.region [⟨some 10, none, .p (.build [.k (C.int .i64 0), .k (C.int .i64 0)] [])⟩,
    ⟨none, none, .h (.store 2 (.t 4) (.t 10))⟩,
    ⟨some 5, none, .p (.mv (.k (.c (C.bool false))))⟩] [4, 5])
  .ret)
  .skip))
  (.seq (.regionD [⟨some 11, none, .h (.slA 6 1 (.t 2) none none)⟩,
    ⟨some 12, none, .h (.load 6 true (.t 3))⟩,
    ⟨some 13, none, .h (.call (.f 48) [.t 11, .t 12])⟩,
    ⟨some 14, none, .h (.load 6 true (.t 3))⟩,
    ⟨some 15, none, .h (.call (.f 49) [.t 14])⟩,
    ⟨some 16, none, .h (.call (.f 47) [.t 13, .t 15])⟩,
    ⟨none, none, .h (.store 2 (.t 4) (.t 16))⟩,
    ⟨some 5, none, .p (.mv (.k (.c (C.bool true))))⟩] [4, 5] [])
  .ret))) }
theorem a22_ok : okFn Try.prog 22 a22 = true := by kernel_rfl
/-- loop.example/g01215/laws.eqIntA2 -/
def a23 : AFn := { np := 2, nt := 17, res := [.t 4], body :=
  (.seq (.region [⟨some 2, none, .p (.box 2 (.t 0))⟩,
    ⟨some 3, none, .p (.box 2 (.t 1))⟩,
    ⟨some 4, none, .p (.mv (.k (.c (C.bool false))))⟩] [2, 3])
  (.seq (.seq (.region [⟨some 5, none, .p (.mv (.k (.c (C.int .i64 0))))⟩] [2, 3, 5])
  (.block 0 (.loop (.seq (.seq (.region [⟨some 6, none, .p (.mv (.t 5))⟩,
    ⟨some 7, none, .p (.bin .lss (.t 6) (.k (.c (C.int .i64 2))))⟩] [2, 3, 5, 7])
  (.cond (.t 7)
  .skip
  (.exit 0)))
  (.seq (.block 1 (.seq (.regionD [⟨some 10, none, .p (.mv (.t 5))⟩,
    ⟨some 11, none, .p (.ixA 2 1 (.t 2) (.t 10))⟩,
    ⟨some 12, none, .h (.load 1 false (.t 11))⟩,
    ⟨some 13, none, .p (.mv (.t 5))⟩,
    ⟨some 14, none, .p (.ixA 2 1 (.t 3) (.t 13))⟩,
    ⟨some 15, none, .h (.load 1 false (.t 14))⟩,
    ⟨some 16, none, .p (.bin .neq (.t 12) (.t 15))⟩] [2, 3, 5, 16] [])
  (.cond (.t 16)
  (.seq (.region [⟨some 4, none, .p (.mv (.k (.c (C.bool false))))⟩] [4])
  .ret)
  .skip)))
  (.region [⟨some 8, none, .p (.mv (.t 5))⟩,
    ⟨some 9, none, .p (.bin .add (.t 8) (.k (.c (C.int .i64 1))))⟩,
    ⟨some 5, none, .p (.mv (.t 9))⟩] [2, 3, 5]))) [2, 3, 5])))
  (.seq (.region [⟨some 4, none, .p (.mv (.k (.c (C.bool true))))⟩] [4])
  .ret))) }
theorem a23_ok : okFn Try.prog 23 a23 = true := by kernel_rfl
/-- loop.example/g01215/spec.CompleteTubes -/
def a24 : AFn := { np := 1, nt := 10, res := [.t 2, .t 3], body :=
  (.seq (.region [⟨some 1, none, .p (.box 24 (.t 0))⟩,
    ⟨some 2, none, .p (.nilsl 1)⟩,
    ⟨some 3, none, .p (.mv (.k (.c (C.bool false))))⟩] [1])
  (.seq (.seq (.region [⟨some 4, none, .h (.load 24 true (.t 1))⟩,
    ⟨some 5, none, .h (.call (.f 38) [.t 4])⟩,
    ⟨some 6, none, .p (.un .not (.t 5))⟩] [1, 6])
  (.cond (.t 6)
  (.seq (.region [⟨some 7, none, .p (.mksl 1 0 [.k (C.int .i64 0)] [])⟩,
    ⟨some 2, none, .p (.mv (.t 7))⟩,
    ⟨some 3, none, .p (.mv (.k (.c (C.bool false))))⟩] [2, 3])
  .ret)
  .skip))
  (.seq (.region [⟨some 8, none, .h (.load 24 true (.t 1))⟩,
    ⟨some 9, none, .h (.call (.f 50) [.t 8])⟩,
    ⟨some 2, none, .p (.mv (.t 9))⟩,
    ⟨some 3, none, .p (.mv (.k (.c (C.bool true))))⟩] [2, 3])
  .ret))) }
theorem a24_ok : okFn Try.prog 24 a24 = true := by kernel_rfl
/-- loop.example/g01215/impl.CompleteTubes -/
def a25 : AFn := { np := 1, nt := 9, res := [.t 2, .t 3], body :=
  (.seq (.region [⟨some 1, none, .p (.box 24 (.t 0))⟩,
    ⟨some 2, none, .p (.nilsl 1)⟩,
    ⟨some 3, none, .p (.mv (.k (.c (C.bool false))))⟩] [1])
  (.seq (.seq (.region [⟨some 4, none, .h (.load 24 true (.t 1))⟩,
    ⟨some 5, none, .h (.call (.f 36) [.t 4])⟩,
    ⟨some 6, none, .p (.un .not (.t 5))⟩] [1, 6])
  (.cond (.t 6)
  (.seq (.region [⟨some 2, none, .p (.nilsl 1)⟩,
    ⟨some 3, none, .p (.mv (.k (.c (C.bool false))))⟩] [2, 3])
  .ret)
  .skip))
  (.seq (.region [⟨some 7, none, .h (.load 24 true (.t 1))⟩,
    ⟨some 8, none, .h (.call (.f 51) [.t 7])⟩,
    ⟨some 2, none, .p (.mv (.t 8))⟩,
    ⟨some 3, none, .p (.mv (.k (.c (C.bool true))))⟩] [2, 3])
  .ret))) }
theorem a25_ok : okFn Try.prog 25 a25 = true := by kernel_rfl
/-- loop.example/g01215/laws.eqIntS -/
def a26 : AFn := { np := 2, nt := 26, res := [.t 4], body :=
  (.seq (.region [⟨some 4, none, .p (.mv (.k (.c (C.bool false))))⟩] [0, 1])
  (.seq (.seq (.region [⟨some 6, none, .p (.mv (.t 0))⟩,
    ⟨some 7, none, .p (.len (.t 6))⟩,
    ⟨some 8, none, .p (.mv (.t 1))⟩,
    ⟨some 9, none, .p (.len (.t 8))⟩,
    ⟨some 10, none, .p (.bin .neq (.t 7) (.t 9))⟩] [0, 1, 10])
  (.cond (.t 10)
  (.seq (.region [⟨some 4, none, .p (.mv (.k (.c (C.bool false))))⟩] [4])
  .ret)
  .skip))
  (.seq (.seq (.region [⟨some 5, none, .p (.mv (.k (.c (C.int .i64 0))))⟩] [0, 1, 5])
  (.block 0 (.loop (.seq (.seq (.region [⟨some 11, none, .p (.mv (.t 5))⟩,
    ⟨some 12, none, .p (.mv (.t 0))⟩,
    ⟨some 13, none, .p (.len (.t 12))⟩,
    ⟨some 14, none, .p (.bin .lss (.t 11) (.t 13))⟩] [0, 1, 5, 14])
  (.cond (.t 14)
  .skip
  (.exit 0)))
  (.seq (.block 1 (.seq (.regionD [⟨some 17, none, .p (.mv (.t 0))⟩,
    ⟨some 18, none, .p (.mv (.t 5))⟩,
    ⟨some 19, none, .p (.ixS 1 (.t 17) (.t 18))⟩,
    ⟨some 20, none, .h (.load 1 false (.t 19))⟩,
    ⟨some 21, none, .p (.mv (.t 1))⟩,
    ⟨some 22, none, .p (.mv (.t 5))⟩,
    ⟨some 23, none, .p (.ixS 1 (.t 21) (.t 22))⟩,
    ⟨some 24, none, .h (.load 1 false (.t 23))⟩,
    ⟨some 25, none, .p (.bin .neq (.t 20) (.t 24))⟩] [0, 1, 5, 25] [])
  (.cond (.t 25)
  (.seq (.region [⟨some 4, none, .p (.mv (.k (.c (C.bool false))))⟩] [4])
  .ret)
  .skip)))
  (.region [⟨some 15, none, .p (.mv (.t 5))⟩,
    ⟨some 16, none, .p (.bin .add (.t 15) (.k (.c (C.int .i64 1))))⟩,
    ⟨some 5, none, .p (.mv (.t 16))⟩] [0, 1, 5]))) [0, 1, 5])))
  (.seq (.region [⟨some 4, none, .p (.mv (.k (.c (C.bool true))))⟩] [4])
  .ret)))) }
theorem a26_ok : okFn Try.prog 26 a26 = true := by kernel_rfl
/-- loop.example/g01215/laws.markIntS -/
def a27 : AFn := { np := 2, nt := 19, res := [.t 4], body :=
  (.seq (.region [⟨some 4, none, .p (.mv (.k (.c (C.int .i64 0))))⟩] [0, 1])
  (.seq (.seq (.region [⟨some 5, none, .p (.mv (.k (.c (C.int .i64 0))))⟩] [0, 1, 5])
  (.block 0 (.loop (.seq (.seq (.region [⟨some 6, none, .p (.mv (.t 5))⟩,
    ⟨some 7, none, .p (.mv (.t 0))⟩,
    ⟨some 8, none, .p (.len (.t 7))⟩,
    ⟨some 9, none, .p (.bin .lss (.t 6) (.t 8))⟩] [0, 1, 5, 9])
  (.cond (.t 9)
  .skip
  (.exit 0)))
  (.seq (.block 1 (.seq (.region [⟨some 12, none, .p (.mv (.t 0))⟩,
    ⟨some 13, none, .p (.mv (.t 5))⟩,
    ⟨some 14, none, .p (.mv (.t 1))⟩,
    ⟨some 15, none, .p (.ixS 1 (.t 12) (.t 13))⟩,
    ⟨none, none, .h (.store 1 (.t 15) (.t 14))⟩] [0, 1, 5])
  (.region [⟨some 16, none, .p (.mv (.t 1))⟩,
    ⟨some 17, none, .p (.bin .add (.t 16) (.k (.c (C.int .i64 1))))⟩,
    ⟨some 1, none, .p (.mv (.t 17))⟩] [0, 1, 5])))
  (.region [⟨some 10, none, .p (.mv (.t 5))⟩,
    ⟨some 11, none, .p (.bin .add (.t 10) (.k (.c (C.int .i64 1))))⟩,
    ⟨some 5, none, .p (.mv (.t 11))⟩] [0, 1, 5]))) [0, 1, 5])))
  (.seq (.region [⟨some 18, none, .p (.mv (.t 1))⟩,
    ⟨some 4, none, .p (.mv (.t 18))⟩] [4])
  .ret))) }
theorem a27_ok : okFn Try.prog 27 a27 = true := by kernel_rfl
/-- loop.example/g01215/laws.heldIntS -/
def a28 : AFn := { np := 2, nt := 21, res := [.t 4], body :=
  (.seq (.region [⟨some 4, none, .p (.mv (.k (.c (C.int .i64 0))))⟩] [0, 1])
  (.seq (.seq (.region [⟨some 5, none, .p (.mv (.k (.c (C.int .i64 0))))⟩] [0, 1, 5])
  (.block 0 (.loop (.seq (.seq (.region [⟨some 6, none, .p (.mv (.t 5))⟩,
    ⟨some 7, none, .p (.mv (.t 0))⟩,
    ⟨some 8, none, .p (.len (.t 7))⟩,
    ⟨some 9, none, .p (.bin .lss (.t 6) (.t 8))⟩] [0, 1, 5, 9])
  (.cond (.t 9)
  .skip
  (.exit 0)))
  (.seq (.block 1 (.seq (.seq (.region [⟨some 12, none, .p (.mv (.t 0))⟩,
    ⟨some 13, none, .p (.mv (.t 5))⟩,
    ⟨some 14, none, .p (.ixS 1 (.t 12) (.t 13))⟩,
    ⟨some 15, none, .h (.load 1 false (.t 14))⟩,
    ⟨some 16, none, .p (.mv (.t 1))⟩,
    ⟨some 17, none, .p (.bin .neq (.t 15) (.t 16))⟩] [0, 1, 5, 17])
  (.cond (.t 17)
  (.seq (.region [⟨some 4, none, .p (.mv (.k (.c (C.int .i64 (-1)))))⟩] [4])
  .ret)
  .skip))
  (.region [⟨some 18, none, .p (.mv (.t 1))⟩,
    ⟨some 19, none, .p (.bin .add (.t 18) (.k (.c (C.int .i64 1))))⟩,
    ⟨some 1, none, .p (.mv (.t 19))⟩] [0, 1, 5])))
  (.region [⟨some 10, none, .p (.mv (.t 5))⟩,
    ⟨some 11, none, .p (.bin .add (.t 10) (.k (.c (C.int .i64 1))))⟩,
    ⟨some 5, none, .p (.mv (.t 11))⟩] [0, 1, 5]))) [0, 1, 5])))
  (.seq (.region [⟨some 20, none, .p (.mv (.t 1))⟩,
    ⟨some 4, none, .p (.mv (.t 20))⟩] [4])
  .ret))) }
theorem a28_ok : okFn Try.prog 28 a28 = true := by kernel_rfl
/-- loop.example/g01215/laws.szLogRecord -/
def a29 : AFn := { np := 2, nt := 20, res := [.t 4], body :=
  (.seq (.region [⟨some 2, none, .p (.box 2 (.t 0))⟩,
    ⟨some 4, none, .p (.mv (.k (.c (C.int .i64 0))))⟩] [1, 2])
  (.seq (.region [⟨some 5, none, .p (.mv (.t 1))⟩,
    ⟨some 6, none, .p (.fld 0 (.t 2))⟩,
    ⟨some 7, none, .h (.load 1 false (.t 6))⟩,
    ⟨some 8, none, .p (.lenStr (.t 7))⟩,
    ⟨some 9, none, .p (.bin .sub (.t 5) (.t 8))⟩,
    ⟨some 1, none, .p (.mv (.t 9))⟩] [1, 2])
  (.seq (.seq (.region [⟨some 10, none, .p (.mv (.t 1))⟩,
    ⟨some 11, none, .p (.bin .lss (.t 10) (.k (.c (C.int .i64 0))))⟩] [1, 2, 11])
  (.cond (.t 11)
  (.seq (.region [⟨some 4, none, .p (.mv (.k (.c (C.int .i64 (-1)))))⟩] [4])
  .ret)
  .skip))
  (.seq (.region [⟨some 12, none, .p (.mv (.t 1))⟩,
    ⟨some 13, none, .p (.fld 1 (.t 2))⟩,
    ⟨some 14, none, .h (.load 1 false (.t 13))⟩,
    ⟨some 15, none, .p (.lenStr (.t 14))⟩,
    ⟨some 16, none, .p (.bin .sub (.t 12) (.t 15))⟩,
    ⟨some 1, none, .p (.mv (.t 16))⟩] [1])
  (.seq (.seq (.region [⟨some 17, none, .p (.mv (.t 1))⟩,
    ⟨some 18, none, .p (.bin .lss (.t 17) (.k (.c (C.int .i64 0))))⟩] [1, 18])
  (.cond (.t 18)
  (.seq (.region [⟨some 4, none, .p (.mv (.k (.c (C.int .i64 (-1)))))⟩] [4])
  .ret)
  .skip))
  (.seq (.region [⟨some 19, none, .p (.mv (.t 1))⟩,
    ⟨some 4, none, .p (.mv (.t 19))⟩] [4])
  .ret)))))) }
theorem a29_ok : okFn Try.prog 29 a29 = true := by kernel_rfl
/-- loop.example/g01215/spec.IsValidRecord -/
def a30 : AFn := { np := 1, nt := 5, res := [.t 2], body :=
  (.seq (.region [⟨some 1, none, .p (.box 2 (.t 0))⟩,
    ⟨some 2, none, .p (.mv (.k (.c (C.bool false))))⟩] [1])
  (.seq (.region [⟨some 3, none, .h (.load 2 true (.t 1))⟩,
    ⟨some 4, none, .h (.call (.f 52) [.t 3])⟩,
    ⟨some 2, none, .p (.mv (.t 4))⟩] [2])
  .ret)) }
theorem a30_ok : okFn Try.prog 30 a30 = true := by kernel_rfl
/-- loop.example/g01215/laws.toLogRecord -/
def a31 : AFn := { np := 1, nt := 11, res := [.cell 2 2 true], body :=
  (.seq (.region [⟨some 1, none, .p (.box 2 (.t 0))⟩,
    ⟨some 2, none, .p (.alloc [.k (C.str []), .k (C.str [])])⟩] [1, 2])
  (.seq (.region [⟨some 3, none, .p (.alloc [.k (C.str []), .k (C.str [])])⟩] [1, 2, 3])
  (.seq (.region [⟨some 4, none, .p (.fld 0 (.t 1))⟩,
    ⟨some 5, none, .h (.load 1 false (.t 4))⟩,
    ⟨some 6, none, .p (.fld 0 (.t 3))⟩,
    ⟨none, none, .h (.store 1 (.t 6) (.t 5))⟩] [1, 2, 3])
  (.seq (.region [⟨some 7, none, .p (.fld 1 (.t 1))⟩,
    ⟨some 8, none, .h (.load 1 false (.t 7))⟩,
    ⟨some 9, none, .p (.fld 1 (.t 3))⟩,
    ⟨none, none, .h (.store 1 (.t 9) (.t 8))⟩] [2, 3])
  (.seq (.region [⟨some 10, none, .h (.load 2 true (.t 3))⟩,
    ⟨none, none, .h (.store 2 (.t 2) (.t 10))⟩] [2])
  .ret))))) }
theorem a31_ok : okFn Try.prog 31 a31 = true := by kernel_rfl
/-- loop.example/g01215/impl.IsValidRecord -/
def a32 : AFn := { np := 1, nt := 17, res := [.t 2], body :=
  (.seq (.region [⟨some 1, none, .p (.box 2 (.t 0))⟩,
    ⟨some 2, none, .p (.mv (.k (.c (C.bool false))))⟩] [1])
  (.seq (.region [⟨some 3, none, .p (.fld 0 (.t 1))⟩,
    ⟨some 4, none, .h (.load 1 false (.t 3))⟩,
    ⟨some 5, none, .h (.call (.f 53) [.t 4])⟩,
    ⟨some 6, none, .p (.mv (.t 5))⟩,
    ⟨some 7, some (6, true), .p (.fld 1 (.t 1))⟩,
    ⟨some 8, some (6, true), .h (.load 1 false (.t 7))⟩,
    ⟨some 9, some (6, true), .p (.lenStr (.t 8))⟩,
    ⟨some 10, some (6, true), .p (.bin .leq (.t 9) (.k (.c (C.int .i64 250))))⟩,
    ⟨some 11, none, .p (.pick (.t 6) (.t 10) (.k (.c (C.bool false))))⟩,
    ⟨some 12, none, .p (.mv (.t 11))⟩,
    ⟨some 13, some (12, true), .p (.fld 1 (.t 1))⟩,
    ⟨some 14, some (12, true), .h (.load 1 false (.t 13))⟩,
    ⟨some 15, some (12, true), .h (.call (.f 54) [.t 14])⟩,
    ⟨some 16, none, .p (.pick (.t 12) (.t 15) (.k (.c (C.bool false))))⟩,
    ⟨some 2, none, .p (.mv (.t 16))⟩] [2])
  .ret)) }
theorem a32_ok : okFn Try.prog 32 a32 = true := by kernel_rfl
/-- loop.example/g01215/spec.RunsLeft -/
def a33 : AFn := { np := 1, nt := 28, res := [.t 2, .t 3], body :=
  (.seq (.region [⟨some 1, none, .p (.box 26 (.t 0))⟩,
    ⟨some 2, none, .p (.mv (.k (.c (C.int .i64 0))))⟩,
    ⟨some 3, none, .p (.mv (.k (.c (C.bool false))))⟩] [1])
  (.seq (.seq (.region [⟨some 7, none, .h (.load 26 true (.t 1))⟩,
    ⟨some 8, none, .h (.call (.f 35) [.t 7])⟩,
    ⟨some 9, none, .p (.un .not (.t 8))⟩] [1, 9])
  (.cond (.t 9)
  (.seq (.region [⟨some 2, none, .p (.mv (.k (.c (C.int .i64 0))))⟩,
    ⟨some 3, none, .p (.mv (.k (.c (C.bool false))))⟩] [2, 3])
  .ret)
  .skip))
  (.seq (.region [⟨some 10, none, .p (.fld 0 (.t 1))⟩,
    ⟨some 11, none, .h (.load 24 true (.t 10))⟩,
    ⟨some 12, none, .h (.call (.f 55) [.t 11])⟩,
    ⟨some 5, none, .p (.alloc [.k (C.int .i64 0), .k (C.int .i64 0), .k (C.int .i64 0), .k (C.int .i64 0), .k (C.int .i64 0), .k (C.int .i64 0)])⟩,
    ⟨some 4, none, .p (.mv (.k (.c (C.int .i64 0))))⟩,
    ⟨none, none, .h (.store 6 (.t 5) (.t 12))⟩] [1, 4, 5])
  (.seq (.seq (.region [⟨some 6, none, .p (.mv (.k (.c (C.int .i64 1))))⟩] [1, 4, 5, 6])
  (.block 0 (.loop (.seq (.seq (.region [⟨some 13, none, .p (.mv (.t 6))⟩,
    ⟨some 14, none, .p (.bin .leq (.t 13) (.k (.c (C.int .i64 5))))⟩] [1, 4, 5, 6, 14])
  (.cond (.t 14)
  .skip
  (.exit 0)))
  (.seq (.block 1 (.seq (.region [⟨some 17, none, .p (.mv (.t 6))⟩,
    ⟨some 18, none, .p (.ixA 6 1 (.t 5) (.t 17))⟩,
    ⟨some 19, none, .h (.load 1 false (.t 18))⟩,
    ⟨some 20, none, .p (.bin .gtr (.t 19) (.k (.c (C.int .i64 0))))⟩] [1, 4, 5, 6, 20])
  (.cond (.t 20)
  (.region [⟨some 21, none, .p (.mv (.t 4))⟩,
    ⟨some 22, none, .p (.bin .add (.t 21) (.k (.c (C.int .i64 1))))⟩,
    ⟨some 4, none, .p (.mv (.t 22))⟩] [1, 4, 5, 6])
  .skip)))
  (.region [⟨some 15, none, .p (.mv (.t 6))⟩,
    ⟨some 16, none, .p (.bin .add (.t 15) (.k (.c (C.int .i64 1))))⟩,
    ⟨some 6, none, .p (.mv (.t 16))⟩] [1, 4, 5, 6]))) [1, 4, 5, 6])))
  (.seq (.region [⟨some 23, none, .p (.fld 0 (.t 1))⟩,
    ⟨some 24, none, .h (.load 24 true (.t 23))⟩,
    ⟨some 25, none, .h (.call (.f 56) [.t 24])⟩,
    ⟨some 26, none, .p (.mv (.t 4))⟩,
    ⟨some 27, none, .p (.bin .sub (.t 25) (.t 26))⟩,
    ⟨some 2, none, .p (.mv (.t 27))⟩,
    ⟨some 3, none, .p (.mv (.k (.c (C.bool true))))⟩] [2, 3])
  .ret))))) }
theorem a33_ok : okFn Try.prog 33 a33 = true := by kernel_rfl
/-- loop.example/g01215/impl.RunsLeft -/
def a34 : AFn := { np := 1, nt := 12, res := [.t 2, .t 3], body :=
  (.seq (.region [⟨some 1, none, .p (.box 26 (.t 0))⟩,
    ⟨some 2, none, .p (.mv (.k (.c (C.int .i64 0))))⟩,
    ⟨some 3, none, .p (.mv (.k (.c (C.bool false))))⟩] [1])
  (.seq (.seq (.region [⟨some 4, none, .h (.load 26 true (.t 1))⟩,
    ⟨some 5, none, .h (.call (.f 12) [.t 4])⟩,
    ⟨some 6, none, .p (.un .not (.t 5))⟩] [1, 6])
  (.cond (.t 6)
  (.seq (.region [⟨some 2, none, .p (.mv (.k (.c (C.int .i64 0))))⟩,
    ⟨some 3, none, .p (.mv (.k (.c (C.bool false))))⟩] [2, 3])
  .ret)
  .skip))
  (.seq (.region [⟨some 7, none, .p (.fld 0 (.t 1))⟩,
    ⟨some 8, none, .h (.load 24 true (.t 7))⟩,
    ⟨some 9, none, .h (.call (.f 57) [.t 8])⟩,
    ⟨some 10, none, .p (.ext (.t 9) 0)⟩,
    ⟨some 11, none, .p (.ext (.t 9) 1)⟩,
    ⟨some 2, none, .p (.mv (.t 10))⟩,
    ⟨some 3, none, .p (.mv (.t 11))⟩] [2, 3])
  .ret))) }
theorem a34_ok : okFn Try.prog 34 a34 = true := by kernel_rfl
/-- loop.example/g01215/spec.l12Good -/
def a35 : AFn := { np := 1, nt := 16, res := [.t 2], body :=
  (.seq (.region [⟨some 1, none, .p (.box 26 (.t 0))⟩,
    ⟨some 2, none, .p (.mv (.k (.c (C.bool false))))⟩] [1])
  (.seq (.region [⟨some 3, none, .p (.fld 0 (.t 1))⟩,
    ⟨some 4, none, .h (.load 24 true (.t 3))⟩,
    ⟨some 5, none, .h (.call (.f 38) [.t 4])⟩,
    ⟨some 6, none, .p (.mv (.t 5))⟩,
    ⟨some 7, some (6, true), .p (.fld 24 (.t 1))⟩,
    ⟨some 8, some (6, true), .h (.load 1 false (.t 7))⟩,
    ⟨some 9, some (6, true), .h (.call (.f 58) [.t 8, .k (.c (C.int .i64 0)), .k (.c (C.int .i64 9999))])⟩,
    ⟨some 10, none, .p (.pick (.t 6) (.t 9) (.k (.c (C.bool false))))⟩,
    ⟨some 11, none, .p (.mv (.t 10))⟩,
    ⟨some 12, some (11, true), .p (.fld 25 (.t 1))⟩,
    ⟨some 13, some (11, true), .h (.load 1 false (.t 12))⟩,
    ⟨some 14, some (11, true), .h (.call (.f 58) [.t 13, .k (.c (C.int .i64 0)), .k (.c (C.int .i64 1000))])⟩,
    ⟨some 15, none, .p (.pick (.t 11) (.t 14) (.k (.c (C.bool false))))⟩,
    ⟨some 2, none, .p (.mv (.t 15))⟩] [2])
  .ret)) }
theorem a35_ok : okFn Try.prog 35 a35 = true := by kernel_rfl
/-- loop.example/g01215/impl.IsRack -/
def a36 : AFn := { np := 1, nt := 6, res := [.t 2], body :=
  (.seq (.region [⟨some 1, none, .p (.box 24 (.t 0))⟩,
    ⟨some 2, none, .p (.mv (.k (.c (C.bool false))))⟩] [1])
  (.seq (.region [⟨some 3, none, .p (.fld 0 (.t 1))⟩,
    ⟨some 4, none, .h (.slA 6 4 (.t 3) none none)⟩,
    ⟨some 5, none, .h (.call (.f 59) [.t 4, .f 60])⟩,
    ⟨some 2, none, .p (.mv (.t 5))⟩] [2])
  .ret)) }
theorem a36_ok : okFn Try.prog 36 a36 = true := by kernel_rfl
/-- loop.example/g01215/impl.within -/
def a37 : AFn := { np := 3, nt := 15, res := [.t 6], body :=
  (.seq (.region [⟨some 6, none, .p (.mv (.k (.c (C.bool false))))⟩] [0, 1, 2])
  (.seq (.region [⟨some 7, none, .p (.mv (.t 1))⟩,
    ⟨some 8, none, .p (.mv (.t 0))⟩,
    ⟨some 9, none, .p (.bin .leq (.t 7) (.t 8))⟩,
    ⟨some 10, none, .p (.mv (.t 9))⟩,
    ⟨some 11, some (10, true), .p (.mv (.t 0))⟩,
    ⟨some 12, some (10, true), .p (.mv (.t 2))⟩,
    ⟨some 13, some (10, true), .p (.bin .leq (.t 11) (.t 12))⟩,
    ⟨some 14, none, .p (.pick (.t 10) (.t 13) (.k (.c (C.bool false))))⟩,
    ⟨some 6, none, .p (.mv (.t 14))⟩] [6])
  .ret)) }
theorem a37_ok : okFn Try.prog 37 a37 = true := by kernel_rfl
/-- loop.example/g01215/spec.l2Rack -/
def a38 : AFn := { np := 1, nt := 44, res := [.t 2], body :=
  (.seq (.region [⟨some 1, none, .p (.box 24 (.t 0))⟩,
    ⟨some 2, none, .p (.mv (.k (.c (C.bool false))))⟩] [1])
  (.seq (.seq (.region [⟨some 3, none, .p (.mv (.k (.c (C.int .i64 0))))⟩] [1, 3])
  (.block 0 (.loop (.seq (.seq (.region [⟨some 5, none, .p (.mv (.t 3))⟩,
    ⟨some 6, none, .p (.bin .lss (.t 5) (.k (.c (C.int .i64 6))))⟩] [1, 3, 6])
  (.cond (.t 6)
  .skip
  (.exit 0)))
  (.seq (.block 1 (.seq (.region [⟨some 4, none, .p (.mv (.k (.c (C.int .i64 0))))⟩] [1, 3, 4])
  (.block 2 (.loop (.seq (.seq (.region [⟨some 9, none, .p (.mv (.t 4))⟩,
    ⟨some 10, none, .p (.bin .lss (.t 9) (.k (.c (C.int .i64 4))))⟩] [1, 3, 4, 10])
  (.cond (.t 10)
  .skip
  (.exit 2)))
  (.seq (.block 3 (.seq (.region [⟨some 13, none, .p (.mv (.t 3))⟩,
    ⟨some 14, none, .p (.mv (.t 4))⟩,
    ⟨some 15, none, .p (.fld 0 (.t 1))⟩,
    ⟨some 16, none, .p (.ixA 6 4 (.t 15) (.t 13))⟩,
    ⟨some 17, none, .p (.ixA 4 1 (.t 16) (.t 14))⟩,
    ⟨some 18, none, .h (.load 1 false (.t 17))⟩,
    ⟨some 19, none, .h (.call (.f 58) [.t 18, .k (.c (C.int .i64 0)), .k (.c (C.int .i64 5))])⟩,
    ⟨some 20, none, .p (.un .not (.t 19))⟩,
    ⟨some 21, none, .p (.mv (.t 20))⟩,
    ⟨some 22, some (21, false), .p (.mv (.t 4))⟩,
    ⟨some 23, some (21, false), .p (.bin .gtr (.t 22) (.k (.c (C.int .i64 0))))⟩,
    ⟨some 24, some (21, false), .p (.mv (.t 23))⟩,
    ⟨some 25, some (24, true), .p (.mv (.t 3))⟩,
    ⟨some 26, some (24, true), .p (.mv (.t 4))⟩,
    ⟨some 27, some (24, true), .p (.fld 0 (.t 1))⟩,
    ⟨some 28, some (24, true), .p (.ixA 6 4 (.t 27) (.t 25))⟩,
    ⟨some 29, some (24, true), .p (.ixA 4 1 (.t 28) (.t 26))⟩,
    ⟨some 30, some (24, true), .h (.load 1 false (.t 29))⟩,
    ⟨some 31, some (24, true), .p (.bin .gtr (.t 30) (.k (.c (C.int .i64 0))))⟩,
    ⟨some 32, some (21, false), .p (.pick (.t 24) (.t 31) (.k (.c (C.bool false))))⟩,
    ⟨some 33, some (21, false), .p (.mv (.t 32))⟩,
    ⟨some 34, some (33, true), .p (.mv (.t 3))⟩,
    ⟨some 35, some (33, true), .p (.mv (.t 4))⟩,
    ⟨some 36, some (33, true), .p (.bin .sub (.t 35) (.k (.c (C.int .i64 1))))⟩,
    ⟨some 37, some (33, true), .p (.fld 0 (.t 1))⟩,
    ⟨some 38, some (33, true), .p (.ixA 6 4 (.t 37) (.t 34))⟩,
    ⟨some 39, some (33, true), .p (.ixA 4 1 (.t 38) (.t 36))⟩,
    ⟨some 40, some (33, true), .h (.load 1 false (.t 39))⟩,
    ⟨some 41, some (33, true), .p (.bin .eql (.t 40) (.k (.c (C.int .i64 0))))⟩,
    ⟨some 42, some (21, false), .p (.pick (.t 33) (.t 41) (.k (.c (C.bool false))))⟩,
    ⟨some 43, none, .p (.pick (.t 21) (.k (.c (C.bool true))) (.t 42))⟩] [1, 3, 4, 43])
  (.cond (.t 43)
  (.seq (.region [⟨some 2, none, .p (.mv (.k (.c (C.bool false))))⟩] [2])
  .ret)
  .skip)))
  (.region [⟨some 11, none, .p (.mv (.t 4))⟩,
    ⟨some 12, none, .p (.bin .add (.t 11) (.k (.c (C.int .i64 1))))⟩,
    ⟨some 4, none, .p (.mv (.t 12))⟩] [1, 3, 4]))) [1, 3, 4]))))
  (.region [⟨some 7, none, .p (.mv (.t 3))⟩,
    ⟨some 8, none, .p (.bin .add (.t 7) (.k (.c (C.int .i64 1))))⟩,
    ⟨some 3, none, .p (.mv (.t 8))⟩] [1, 3]))) [1, 3])))
  (.seq (.region [⟨some 2, none, .p (.mv (.k (.c (C.bool true))))⟩] [2])
  .ret))) }
theorem a38_ok : okFn Try.prog 38 a38 = true := by kernel_rfl
/-- loop.example/g01215/laws.toIntA4A6 -/
def a39 : AFn := { np := 1, nt := 16, res := [.cell 2 24 true], body :=
  (.seq (.region [⟨some 1, none, .p (.box 24 (.t 0))⟩,
    ⟨some 2, none, .p (.alloc (List.replicate 24 (.k (C.int .i64 0))))⟩] [1, 2])
  (.seq (.region [⟨some 3, none, .p (.alloc (List.replicate 24 (.k (C.int .i64 0))))⟩] [1, 2, 3])
  (.seq (.seq (.region [⟨some 4, none, .p (.mv (.k (.c (C.int .i64 0))))⟩] [1, 2, 3, 4])
  (.block 0 (.loop (.seq (.seq (.region [⟨some 5, none, .p (.mv (.t 4))⟩,
    ⟨some 6, none, .p (.bin .lss (.t 5) (.k (.c (C.int .i64 6))))⟩] [1, 2, 3, 4, 6])
  (.cond (.t 6)
  .skip
  (.exit 0)))
  (.seq (.block 1 (.region [⟨some 9, none, .p (.mv (.t 4))⟩,
    ⟨some 10, none, .p (.mv (.t 4))⟩,
    ⟨some 11, none, .p (.ixA 6 4 (.t 1) (.t 10))⟩,
    ⟨some 12, none, .h (.load 4 true (.t 11))⟩,
    ⟨some 13, none, .h (.call (.f 61) [.t 12])⟩,
    ⟨some 14, none, .p (.ixA 6 4 (.t 3) (.t 9))⟩,
    ⟨none, none, .h (.store 4 (.t 14) (.t 13))⟩] [1, 2, 3, 4]))
  (.region [⟨some 7, none, .p (.mv (.t 4))⟩,
    ⟨some 8, none, .p (.bin .add (.t 7) (.k (.c (C.int .i64 1))))⟩,
    ⟨some 4, none, .p (.mv (.t 8))⟩] [1, 2, 3, 4]))) [1, 2, 3, 4])))
  (.seq (.region [⟨some 15, none, .h (.load 24 true (.t 3))⟩,
    ⟨none, none, .h (.store 24 (.t 2) (.t 15))⟩] [2])
  .ret)))) }
theorem a39_ok : okFn Try.prog 39 a39 = true := by kernel_rfl
/-- loop.example/g01215/laws.eqRack -/
def a40 : AFn := { np := 2, nt := 11, res := [.t 4], body :=
  (.seq (.region [⟨some 2, none, .p (.box 24 (.t 0))⟩,
    ⟨some 3, none, .p (.box 24 (.t 1))⟩,
    ⟨some 4, none, .p (.mv (.k (.c (C.bool false))))⟩] [2, 3])
  (.seq (.seq (.region [⟨some 5, none, .p (.fld 0 (.t 2))⟩,
    ⟨some 6, none, .h (.load 24 true (.t 5))⟩,
    ⟨some 7, none, .p (.fld 0 (.t 3))⟩,
    ⟨some 8, none, .h (.load 24 true (.t 7))⟩,
    ⟨some 9, none, .h (.call (.f 62) [.t 6, .t 8])⟩,
    ⟨some 10, none, .p (.un .not (.t 9))⟩] [10])
  (.cond (.t 10)
  (.seq (.region [⟨some 4, none, .p (.mv (.k (.c (C.bool false))))⟩] [4])
  .ret)
  .skip))
  (.seq (.region [⟨some 4, none, .p (.mv (.k (.c (C.bool true))))⟩] [4])
  .ret))) }
theorem a40_ok : okFn Try.prog 40 a40 = true := by kernel_rfl
/-- loop.example/g01215/laws.eqLog -/
def a41 : AFn := { np := 2, nt := 20, res := [.t 4], body :=
  (.seq (.region [⟨some 2, none, .p (.box 3 (.t 0))⟩,
    ⟨some 3, none, .p (.box 3 (.t 1))⟩,
    ⟨some 4, none, .p (.mv (.k (.c (C.bool false))))⟩] [2, 3])
  (.seq (.seq (.region [⟨some 5, none, .p (.fld 0 (.t 2))⟩,
    ⟨some 6, none, .h (.load 1 false (.t 5))⟩,
    ⟨some 7, none, .p (.fld 0 (.t 3))⟩,
    ⟨some 8, none, .h (.load 1 false (.t 7))⟩,
    ⟨some 9, none, .p (.bin .neq (.t 6) (.t 8))⟩] [2, 3, 9])
  (.cond (.t 9)
  (.seq (.region [⟨some 4, none, .p (.mv (.k (.c (C.bool false))))⟩] [4])
  .ret)
  .skip))
  (.seq (.seq (.region [⟨some 10, none, .p (.fld 1 (.t 2))⟩,
    ⟨some 11, none, .h (.load 1 false (.t 10))⟩,
    ⟨some 12, none, .p (.fld 1 (.t 3))⟩,
    ⟨some 13, none, .h (.load 1 false (.t 12))⟩,
    ⟨some 14, none, .p (.bin .neq (.t 11) (.t 13))⟩] [2, 3, 14])
  (.cond (.t 14)
  (.seq (.region [⟨some 4, none, .p (.mv (.k (.c (C.bool false))))⟩] [4])
  .ret)
  .skip))
  (.seq (.seq (.region [⟨some 15, none, .p (.fld 2 (.t 2))⟩,
    ⟨some 16, none, .h (.load 1 false (.t 15))⟩,
    ⟨some 17, none, .p (.fld 2 (.t 3))⟩,
    ⟨some 18, none, .h (.load 1 false (.t 17))⟩,
    ⟨some 19, none, .p (.bin .neq (.t 16) (.t 18))⟩] [19])
  (.cond (.t 19)
  (.seq (.region [⟨some 4, none, .p (.mv (.k (.c (C.bool false))))⟩] [4])
  .ret)
  .skip))
  (.seq (.region [⟨some 4, none, .p (.mv (.k (.c (C.bool true))))⟩] [4])
  .ret))))) }
theorem a41_ok : okFn Try.prog 41 a41 = true := by kernel_rfl
/-- loop.example/g01215/spec.l9Deal -/
def a42 : AFn := { np := 2, nt := 47, res := [.t 4, .t 5], body :=
  (.seq (.region [⟨some 2, none, .p (.box 6 (.t 0))⟩,
    ⟨some 3, none, .p (.box 6 (.t 1))⟩,
    ⟨some 4, none, .p (.mv (.k (.c (C.int .i64 0))))⟩,
    ⟨some 5, none, .p (.mv (.k (.c (C.bool false))))⟩] [2, 3])
  (.seq (.region [⟨some 6, none, .p (.mv (.k (.c (C.int .i64 0))))⟩,
    ⟨some 7, none, .p (.mv (.k (.c (C.int .i64 0))))⟩] [2, 3, 6, 7])
  (.seq (.seq (.region [⟨some 8, none, .p (.mv (.k (.c (C.int .i64 0))))⟩] [2, 3, 6, 7, 8])
  (.block 0 (.loop (.seq (.seq (.region [⟨some 10, none, .p (.mv (.t 8))⟩,
    ⟨some 11, none, .p (.bin .lss (.t 10) (.k (.c (C.int .i64 6))))⟩] [2, 3, 6, 7, 8, 11])
  (.cond (.t 11)
  .skip
  (.exit 0)))
  (.seq (.block 1 (.seq (.seq (.region [⟨some 14, none, .p (.mv (.t 8))⟩,
    ⟨some 15, none, .p (.ixA 6 1 (.t 2) (.t 14))⟩,
    ⟨some 16, none, .h (.load 1 false (.t 15))⟩,
    ⟨some 17, none, .h (.call (.f 58) [.t 16, .k (.c (C.int .i64 0)), .k (.c (C.int .i64 4))])⟩,
    ⟨some 18, none, .p (.un .not (.t 17))⟩] [2, 3, 6, 7, 8, 18])
  (.cond (.t 18)
  (.seq (.region [⟨some 4, none, .p (.mv (.k (.c (C.int .i64 0))))⟩,
    ⟨some 5, none, .p (.mv (.k (.c (C.bool false))))⟩] [4, 5])
  .ret)
  .skip))
  (.region [⟨some 19, none, .p (.mv (.t 6))⟩,
    ⟨some 20, none, .p (.mv (.t 8))⟩,
    ⟨some 21, none, .p (.ixA 6 1 (.t 2) (.t 20))⟩,
    ⟨some 22, none, .h (.load 1 false (.t 21))⟩,
    ⟨some 23, none, .p (.bin .add (.t 19) (.t 22))⟩,
    ⟨some 6, none, .p (.mv (.t 23))⟩] [2, 3, 6, 7, 8])))
  (.region [⟨some 12, none, .p (.mv (.t 8))⟩,
    ⟨some 13, none, .p (.bin .add (.t 12) (.k (.c (C.int .i64 1))))⟩,
    ⟨some 8, none, .p (.mv (.t 13))⟩] [2, 3, 6, 7, 8]))) [2, 3, 6, 7, 8])))
  (.seq (.seq (.region [⟨some 9, none, .p (.mv (.k (.c (C.int .i64 1))))⟩] [3, 6, 7, 9])
  (.block 2 (.loop (.seq (.seq (.region [⟨some 24, none, .p (.mv (.t 9))⟩,
    ⟨some 25, none, .p (.bin .leq (.t 24) (.k (.c (C.int .i64 5))))⟩] [3, 6, 7, 9, 25])
  (.cond (.t 25)
  .skip
  (.exit 2)))
  (.seq (.block 3 (.seq (.seq (.region [⟨some 28, none, .p (.mv (.t 9))⟩,
    ⟨some 29, none, .p (.ixA 6 1 (.t 3) (.t 28))⟩,
    ⟨some 30, none, .h (.load 1 false (.t 29))⟩,
    ⟨some 31, none, .h (.call (.f 58) [.t 30, .k (.c (C.int .i64 0)), .k (.c (C.int .i64 24))])⟩,
    ⟨some 32, none, .p (.un .not (.t 31))⟩] [3, 6, 7, 9, 32])
  (.cond (.t 32)
  (.seq (.region [⟨some 4, none, .p (.mv (.k (.c (C.int .i64 0))))⟩,
    ⟨some 5, none, .p (.mv (.k (.c (C.bool false))))⟩] [4, 5])
  .ret)
  .skip))
  (.region [⟨some 33, none, .p (.mv (.t 7))⟩,
    ⟨some 34, none, .p (.mv (.t 9))⟩,
    ⟨some 35, none, .p (.ixA 6 1 (.t 3) (.t 34))⟩,
    ⟨some 36, none, .h (.load 1 false (.t 35))⟩,
    ⟨some 37, none, .p (.bin .add (.t 33) (.t 36))⟩,
    ⟨some 7, none, .p (.mv (.t 37))⟩] [3, 6, 7, 9])))
  (.region [⟨some 26, none, .p (.mv (.t 9))⟩,
    ⟨some 27, none, .p (.bin .add (.t 26) (.k (.c (C.int .i64 1))))⟩,
    ⟨some 9, none, .p (.mv (.t 27))⟩] [3, 6, 7, 9]))) [3, 6, 7, 9])))
  (.seq (.region [⟨some 38, none, .p (.mv (.t 6))⟩,
    ⟨some 39, none, .p (.ixA 6 1 (.t 3) (.k (.c (C.int .i64 0))))⟩,
    ⟨some 40, none, .h (.load 1 false (.t 39))⟩,
    ⟨some 41, none, .p (.bin .eql (.t 40) (.k (.c (C.int .i64 0))))⟩,
    ⟨some 42, none, .p (.mv (.t 41))⟩,
    ⟨some 43, some (42, true), .p (.mv (.t 6))⟩,
    ⟨some 44, some (42, true), .p (.mv (.t 7))⟩,
    ⟨some 45, some (42, true), .p (.bin .eql (.t 43) (.t 44))⟩,
    ⟨some 46, none, .p (.pick (.t 42) (.t 45) (.k (.c (C.bool false))))⟩,
    ⟨some 4, none, .p (.mv (.t 38))⟩,
    ⟨some 5, none, .p (.mv (.t 46))⟩] [4, 5])
  .ret))))) }
theorem a42_ok : okFn Try.prog 42 a42 = true := by kernel_rfl
/-- loop.example/g01215/spec.l7Cut -/
def a43 : AFn := { np := 2, nt := 24, res := [.cell 4 2 true], body :=
  (.seq (.region [⟨some 4, none, .p (.alloc [.k (C.int .i64 0), .k (C.int .i64 0)])⟩] [0, 1, 4])
  (.seq (.region [⟨some 7, none, .p (.mv (.t 0))⟩,
    ⟨some 8, none, .p (.mv (.t 1))⟩,
    ⟨some 5, none, .p (.mv (.t 7))⟩,
    ⟨some 6, none, .p (.mv (.t 8))⟩] [0, 1, 4, 5, 6])
  (.seq (.block 0 (.loop (.seq (.seq (.region [⟨some 9, none, .p (.mv (.t 6))⟩,
    ⟨some 10, none, .p (.bin .gtr (.t 9) (.k (.c (C.int .i64 0))))⟩] [0, 1, 4, 5, 6, 10])
  (.cond (.t 10)
  .skip
  (.exit 0)))
  (.block 1 (.regionD [⟨some 11, none, .p (.mv (.t 6))⟩,
    ⟨some 12, none, .p (.mv (.t 5))⟩,
    ⟨some 13, none, .p (.mv (.t 6))⟩,
    ⟨some 14, none, .p (.bin .rem (.t 12) (.t 13))⟩,
    ⟨some 5, none, .p (.mv (.t 11))⟩,
    ⟨some 6, none, .p (.mv (.t 14))⟩] [0, 1, 4, 5, 6] []))) [0, 1, 4, 5, 6]))
  (.seq (.regionD [⟨some 15, none, .p (.mv (.t 0))⟩,
    ⟨some 16, none, .p (.mv (.t 5))⟩,
    ⟨some 17, none, .h (.call (.f 63) [.t 16, .k (.c (C.int .i64 1))])⟩,
    ⟨some 18, none, .p (.bin .quo (.t 15) (.t 17))⟩,
    ⟨some 19, none, .p (.mv (.t 1))⟩,
    ⟨some 20, none, .p (.mv (.t 5))⟩,
    ⟨some 21, none, .h (.call (.f 63) [.t 20, .k (.c (C.int .i64 1))])⟩,
    ⟨some 22, none, .p (.bin .quo (.t 19) (.t 21))⟩,
    ⟨some 23, none, .p (.build [.k (C.int .i64 0), .k (C.int .i64 0)] [(0, 1, .t 18), (1, 1, .t 22)])⟩,
    ⟨none, none, .h (.store 2 (.t 4) (.t 23))⟩] [4] [])
  .ret)))) }
theorem a43_ok : okFn Try.prog 43 a43 = true := by kernel_rfl
/-- loop.example/g01215/spec.l9Same -/
def a44 : AFn := { np := 3, nt := 50, res := [.t 6], body :=
  (.seq (.region [⟨some 3, none, .p (.box 6 (.t 0))⟩,
    ⟨some 4, none, .p (.box 6 (.t 1))⟩,
    ⟨some 6, none, .p (.mv (.k (.c (C.int .i64 0))))⟩] [2, 3, 4])
  (.seq (.seq (.region [⟨some 10, none, .p (.mv (.t 2))⟩,
    ⟨some 11, none, .p (.bin .eql (.t 10) (.k (.c (C.int .i64 6))))⟩] [2, 3, 4, 11])
  (.cond (.t 11)
  (.seq (.region [⟨some 6, none, .p (.mv (.k (.c (C.int .i64 1))))⟩] [6])
  .ret)
  .skip))
  (.seq (.seq (.region [⟨some 12, none, .p (.mv (.t 2))⟩,
    ⟨some 13, none, .p (.ixA 6 1 (.t 3) (.t 12))⟩,
    ⟨some 14, none, .h (.load 1 false (.t 13))⟩,
    ⟨some 15, none, .p (.bin .eql (.t 14) (.k (.c (C.int .i64 0))))⟩] [2, 3, 4, 15])
  (.cond (.t 15)
  (.seq (.region [⟨some 16, none, .h (.load 6 true (.t 3))⟩,
    ⟨some 17, none, .h (.load 6 true (.t 4))⟩,
    ⟨some 18, none, .p (.mv (.t 2))⟩,
    ⟨some 19, none, .p (.bin .add (.t 18) (.k (.c (C.int .i64 1))))⟩,
    ⟨some 20, none, .h (.call (.f 44) [.t 16, .t 17, .t 19])⟩,
    ⟨some 6, none, .p (.mv (.t 20))⟩] [6])
  .ret)
  .skip))
  (.seq (.region [⟨some 7, none, .p (.mv (.k (.c (C.int .i64 0))))⟩] [2, 3, 4, 7])
  (.seq (.seq (.region [⟨some 8, none, .p (.mv (.k (.c (C.int .i64 1))))⟩] [2, 3, 4, 7, 8])
  (.block 0 (.loop (.seq (.seq (.region [⟨some 21, none, .p (.mv (.t 8))⟩,
    ⟨some 22, none, .p (.bin .leq (.t 21) (.k (.c (C.int .i64 5))))⟩] [2, 3, 4, 7, 8, 22])
  (.cond (.t 22)
  .skip
  (.exit 0)))
  (.seq (.block 1 (.seq (.regionD [⟨some 25, none, .p (.mv (.t 8))⟩,
    ⟨some 26, none, .p (.ixA 6 1 (.t 4) (.t 25))⟩,
    ⟨some 27, none, .h (.load 1 false (.t 26))⟩,
    ⟨some 28, none, .p (.mv (.t 2))⟩,
    ⟨some 29, none, .p (.ixA 6 1 (.t 3) (.t 28))⟩,
    ⟨some 30, none, .h (.load 1 false (.t 29))⟩,
    ⟨some 31, none, .p (.bin .geq (.t 27) (.t 30))⟩] [2, 3, 4, 7, 8, 31] [])
  (.cond (.t 31)
  (.seq (.region [⟨some 32, none, .h (.load 6 true (.t 4))⟩,
    ⟨some 9, none, .p (.alloc [.k (C.int .i64 0), .k (C.int .i64 0), .k (C.int .i64 0), .k (C.int .i64 0), .k (C.int .i64 0), .k (C.int .i64 0)])⟩,
    ⟨none, none, .h (.store 6 (.t 9) (.t 32))⟩] [2, 3, 4, 7, 8, 9])
  (.seq (.regionD [⟨some 33, none, .p (.mv (.t 8))⟩,
    ⟨some 34, none, .p (.mv (.t 8))⟩,
    ⟨some 35, none, .p (.ixA 6 1 (.t 9) (.t 34))⟩,
    ⟨some 36, none, .h (.load 1 false (.t 35))⟩,
    ⟨some 37, none, .p (.mv (.t 2))⟩,
    ⟨some 38, none, .p (.ixA 6 1 (.t 3) (.t 37))⟩,
    ⟨some 39, none, .h (.load 1 false (.t 38))⟩,
    ⟨some 40, none, .p (.bin .sub (.t 36) (.t 39))⟩,
    ⟨some 41, none, .p (.ixA 6 1 (.t 9) (.t 33))⟩,
    ⟨none, none, .h (.store 1 (.t 41) (.t 40))⟩] [2, 3, 4, 7, 8, 9] [])
  (.region [⟨some 42, none, .p (.mv (.t 7))⟩,
    ⟨some 43, none, .h (.load 6 true (.t 3))⟩,
    ⟨some 44, none, .h (.load 6 true (.t 9))⟩,
    ⟨some 45, none, .p (.mv (.t 2))⟩,
    ⟨some 46, none, .p (.bin .add (.t 45) (.k (.c (C.int .i64 1))))⟩,
    ⟨some 47, none, .h (.call (.f 44) [.t 43, .t 44, .t 46])⟩,
    ⟨some 48, none, .p (.bin .add (.t 42) (.t 47))⟩,
    ⟨some 7, none, .p (.mv (.t 48))⟩] [2, 3, 4, 7, 8])))
  .skip)))
  (.region [⟨some 23, none, .p (.mv (.t 8))⟩,
    ⟨some 24, none, .p (.bin .add (.t 23) (.k (.c (C.int .i64 1))))⟩,
    ⟨some 8, none, .p (.mv (.t 24))⟩] [2, 3, 4, 7, 8]))) [2, 3, 4, 7, 8])))
  (.seq (.region [⟨some 49, none, .p (.mv (.t 7))⟩,
    ⟨some 6, none, .p (.mv (.t 49))⟩] [6])
  .ret)))))) }
theorem a44_ok : okFn Try.prog 44 a44 = true := by kernel_rfl
/-- loop.example/g01215/spec.l7Ways -/
def a45 : AFn := { np := 1, nt := 26, res := [.t 2], body :=
  (.seq (.region [⟨some 1, none, .p (.box 6 (.t 0))⟩,
    ⟨some 2, none, .p (.mv (.k (.c (C.int .i64 0))))⟩] [1])
  (.seq (.region [⟨some 3, none, .p (.mv (.k (.c (C.int .i64 1))))⟩,
    ⟨some 4, none, .p (.mv (.k (.c (C.int .i64 0))))⟩] [1, 3, 4])
  (.seq (.seq (.region [⟨some 5, none, .p (.mv (.k (.c (C.int .i64 1))))⟩] [1, 3, 4, 5])
  (.block 0 (.loop (.seq (.seq (.region [⟨some 7, none, .p (.mv (.t 5))⟩,
    ⟨some 8, none, .p (.bin .leq (.t 7) (.k (.c (C.int .i64 5))))⟩] [1, 3, 4, 5, 8])
  (.cond (.t 8)
  .skip
  (.exit 0)))
  (.seq (.block 1 (.seq (.region [⟨some 6, none, .p (.mv (.k (.c (C.int .i64 1))))⟩] [1, 3, 4, 5, 6])
  (.block 2 (.loop (.seq (.seq (.region [⟨some 11, none, .p (.mv (.t 6))⟩,
    ⟨some 12, none, .p (.mv (.t 5))⟩,
    ⟨some 13, none, .p (.ixA 6 1 (.t 1) (.t 12))⟩,
    ⟨some 14, none, .h (.load 1 false (.t 13))⟩,
    ⟨some 15, none, .p (.bin .leq (.t 11) (.t 14))⟩] [1, 3, 4, 5, 6, 15])
  (.cond (.t 15)
  .skip
  (.exit 2)))
  (.seq (.block 3 (.seq (.region [⟨some 18, none, .p (.mv (.t 4))⟩,
    ⟨some 19, none, .p (.bin .add (.t 18) (.k (.c (C.int .i64 1))))⟩,
    ⟨some 4, none, .p (.mv (.t 19))⟩] [1, 3, 4, 5, 6])
  (.region [⟨some 20, none, .p (.mv (.t 3))⟩,
    ⟨some 21, none, .p (.mv (.t 4))⟩,
    ⟨some 22, none, .p (.bin .mul (.t 20) (.t 21))⟩,
    ⟨some 23, none, .p (.mv (.t 6))⟩,
    ⟨some 24, none, .p (.bin .quo (.t 22) (.t 23))⟩,
    ⟨some 3, none, .p (.mv (.t 24))⟩] [1, 3, 4, 5, 6])))
  (.region [⟨some 16, none, .p (.mv (.t 6))⟩,
    ⟨some 17, none, .p (.bin .add (.t 16) (.k (.c (C.int .i64 1))))⟩,
    ⟨some 6, none, .p (.mv (.t 17))⟩] [1, 3, 4, 5, 6]))) [1, 3, 4, 5, 6]))))
  (.region [⟨some 9, none, .p (.mv (.t 5))⟩,
    ⟨some 10, none, .p (.bin .add (.t 9) (.k (.c (C.int .i64 1))))⟩,
    ⟨some 5, none, .p (.mv (.t 10))⟩] [1, 3, 4, 5]))) [1, 3, 4, 5])))
  (.seq (.region [⟨some 25, none, .p (.mv (.t 3))⟩,
    ⟨some 2, none, .p (.mv (.t 25))⟩] [2])
  .ret)))) }
theorem a45_ok : okFn Try.prog 45 a45 = true := by kernel_rfl
/-- loop.example/g01215/impl.isDeal -/
def a46 : AFn := { np := 2, nt := 23, res := [.t 4], body :=
  (.seq (.region [⟨some 2, none, .p (.box 6 (.t 0))⟩,
    ⟨some 3, none, .p (.box 6 (.t 1))⟩,
    ⟨some 4, none, .p (.mv (.k (.c (C.bool false))))⟩] [2, 3])
  (.seq (.regionD [⟨some 5, none, .p (.ixA 6 1 (.t 3) (.k (.c (C.int .i64 0))))⟩,
    ⟨some 6, none, .h (.load 1 false (.t 5))⟩,
    ⟨some 7, none, .p (.bin .eql (.t 6) (.k (.c (C.int .i64 0))))⟩,
    ⟨some 8, none, .p (.mv (.t 7))⟩,
    ⟨some 9, some (8, true), .h (.slA 6 1 (.t 2) none none)⟩,
    ⟨some 10, some (8, true), .h (.call (.f 64) [.t 9, .f 65])⟩,
    ⟨some 11, none, .p (.pick (.t 8) (.t 10) (.k (.c (C.bool false))))⟩,
    ⟨some 12, none, .p (.mv (.t 11))⟩,
    ⟨some 13, some (12, true), .h (.slA 6 1 (.t 3) none none)⟩,
    ⟨some 14, some (12, true), .h (.call (.f 64) [.t 13, .f 66])⟩,
    ⟨some 15, none, .p (.pick (.t 12) (.t 14) (.k (.c (C.bool false))))⟩,
    ⟨some 16, none, .p (.mv (.t 15))⟩,
    ⟨some 17, some (16, true), .h (.slA 6 1 (.t 2) none none)⟩,
    ⟨some 18, some (16, true), .h (.call (.f 67) [.t 17])⟩,
    ⟨some 19, some (16, true), .h (.slA 6 1 (.t 3) none none)⟩,
    ⟨some 20, some (16, true), .h (.call (.f 67) [.t 19])⟩,
    ⟨some 21, some (16, true), .p (.bin .eql (.t 18) (.t 20))⟩,
    ⟨some 22, none, .p (.pick (.t 16) (.t 21) (.k (.c (C.bool false))))⟩,
    ⟨some 4, none, .p (.mv (.t 22))⟩] [4] [])
  .ret)) }
theorem a46_ok : okFn Try.prog 46 a46 = true := by kernel_rfl
/-- loop.example/g01215/impl.fraction -/
def a47 : AFn := { np := 2, nt := 16, res := [.cell 4 2 true], body :=
  (.seq (.region [⟨some 4, none, .p (.alloc [.k (C.int .i64 0), .k (C.int .i64 0)])⟩] [0, 1, 4])
  (.seq (.region [⟨some 6, none, .p (.mv (.t 0))⟩,
    ⟨some 7, none, .p (.mv (.t 1))⟩,
    ⟨some 8, none, .h (.call (.f 68) [.t 6, .t 7])⟩,
    ⟨some 5, none, .p (.mv (.t 8))⟩] [0, 1, 4, 5])
  (.seq (.regionD [⟨some 9, none, .p (.mv (.t 0))⟩,
    ⟨some 10, none, .p (.mv (.t 5))⟩,
    ⟨some 11, none, .p (.bin .quo (.t 9) (.t 10))⟩,
    ⟨some 12, none, .p (.mv (.t 1))⟩,
    ⟨some 13, none, .p (.mv (.t 5))⟩,
    ⟨some 14, none, .p (.bin .quo (.t 12) (.t 13))⟩,
    ⟨some 15, none, .p (.build [.k (C.int .i64 0), .k (C.int .i64 0)] [(0, 1, .t 11), (1, 1, .t 14)])⟩,
    ⟨none, none, .h (.store 2 (.t 4) (.t 15))⟩] [4] [])
  .ret))) }
theorem a47_ok : okFn Try.prog 47 a47 = true := by kernel_rfl
/-- loop.example/g01215/impl.plain -/
def a48 : AFn := { np := 2, nt := 47, res := [.t 4], body :=
  (.seq (.region [⟨some 3, none, .p (.box 6 (.t 1))⟩,
    ⟨some 4, none, .p (.mv (.k (.c (C.int .i64 0))))⟩] [0, 3])
  (.seq (.seq (.region [⟨some 9, none, .p (.mv (.t 0))⟩,
    ⟨some 10, none, .p (.len (.t 9))⟩,
    ⟨some 11, none, .p (.bin .eql (.t 10) (.k (.c (C.int .i64 0))))⟩] [0, 3, 11])
  (.cond (.t 11)
  (.seq (.region [⟨some 4, none, .p (.mv (.k (.c (C.int .i64 1))))⟩] [4])
  .ret)
  .skip))
  (.seq (.seq (.region [⟨some 12, none, .p (.mv (.t 0))⟩,
    ⟨some 13, none, .p (.ixS 1 (.t 12) (.k (.c (C.int .i64 0))))⟩,
    ⟨some 14, none, .h (.load 1 false (.t 13))⟩,
    ⟨some 15, none, .p (.bin .eql (.t 14) (.k (.c (C.int .i64 0))))⟩] [0, 3, 15])
  (.cond (.t 15)
  (.seq (.regionD [⟨some 16, none, .p (.mv (.t 0))⟩,
    ⟨some 17, none, .p (.slS 1 (.t 16) (some (.k (.c (C.int .i64 1)))) none)⟩,
    ⟨some 18, none, .h (.load 6 true (.t 3))⟩,
    ⟨some 19, none, .h (.call (.f 48) [.t 17, .t 18])⟩,
    ⟨some 4, none, .p (.mv (.t 19))⟩] [4] [])
  .ret)
  .skip))
  (.seq (.region [⟨some 5, none, .p (.mv (.k (.c (C.int .i64 0))))⟩] [0, 3, 5])
  (.seq (.seq (.region [⟨some 20, none, .h (.load 6 true (.t 3))⟩,
    ⟨some 21, none, .p (.mv (.k (.c (C.int .i64 0))))⟩] [0, 3, 5, 20, 21])
  (.block 0 (.loop (.seq (.region [⟨some 22, none, .p (.bin .lss (.t 21) (.k (.c (C.int .i64 6))))⟩] [0, 3, 5, 20, 21, 22])
  (.seq (.cond (.t 22)
  .skip
  (.exit 0))
  (.seq (.block 1 (.seq (.region [⟨some 23, none, .p (.mv (.t 21))⟩,
    ⟨some 24, none, .p (.ixV 6 1 false (.t 20) (.t 21))⟩,
    ⟨some 6, none, .p (.mv (.t 23))⟩,
    ⟨some 7, none, .p (.mv (.t 24))⟩] [0, 3, 5, 6, 7, 20, 21])
  (.seq (.region [⟨some 25, none, .p (.mv (.t 7))⟩,
    ⟨some 26, none, .p (.mv (.t 0))⟩,
    ⟨some 27, none, .p (.ixS 1 (.t 26) (.k (.c (C.int .i64 0))))⟩,
    ⟨some 28, none, .h (.load 1 false (.t 27))⟩,
    ⟨some 29, none, .p (.bin .geq (.t 25) (.t 28))⟩] [0, 3, 5, 6, 20, 21, 29])
  (.cond (.t 29)
  (.seq (.region [⟨some 30, none, .h (.load 6 true (.t 3))⟩,
    ⟨some 8, none, .p (.alloc [.k (C.int .i64 0), .k (C.int .i64 0), .k (C.int .i64 0), .k (C.int .i64 0), .k (C.int .i64 0), .k (C.int .i64 0)])⟩,
    ⟨none, none, .h (.store 6 (.t 8) (.t 30))⟩] [0, 3, 5, 6, 8, 20, 21])
  (.seq (.regionD [⟨some 31, none, .p (.mv (.t 6))⟩,
    ⟨some 32, none, .p (.ixA 6 1 (.t 8) (.t 31))⟩,
    ⟨some 33, none, .h (.load 1 false (.t 32))⟩,
    ⟨some 34, none, .p (.mv (.t 0))⟩,
    ⟨some 35, none, .p (.ixS 1 (.t 34) (.k (.c (C.int .i64 0))))⟩,
    ⟨some 36, none, .h (.load 1 false (.t 35))⟩,
    ⟨some 37, none, .p (.bin .sub (.t 33) (.t 36))⟩,
    ⟨some 38, none, .p (.ixA 6 1 (.t 8) (.t 31))⟩,
    ⟨none, none, .h (.store 1 (.t 38) (.t 37))⟩] [0, 3, 5, 8, 20, 21] [])
  (.regionD [⟨some 39, none, .p (.mv (.t 5))⟩,
    ⟨some 40, none, .p (.mv (.t 0))⟩,
    ⟨some 41, none, .p (.slS 1 (.t 40) (some (.k (.c (C.int .i64 1)))) none)⟩,
    ⟨some 42, none, .h (.load 6 true (.t 8))⟩,
    ⟨some 43, none, .h (.call (.f 48) [.t 41, .t 42])⟩,
    ⟨some 44, none, .p (.bin .add (.t 39) (.t 43))⟩,
    ⟨some 5, none, .p (.mv (.t 44))⟩] [0, 3, 5, 20, 21] [])))
  .skip))))
  (.region [⟨some 45, none, .p (.bin .add (.t 21) (.k (.c (C.int .i64 1))))⟩,
    ⟨some 21, none, .p (.mv (.t 45))⟩] [0, 3, 5, 20, 21])))) [0, 3, 5, 20, 21])))
  (.seq (.region [⟨some 46, none, .p (.mv (.t 5))⟩,
    ⟨some 4, none, .p (.mv (.t 46))⟩] [4])
  .ret)))))) }
theorem a48_ok : okFn Try.prog 48 a48 = true := by kernel_rfl
/-- loop.example/g01215/impl.arrangements -/
def a49 : AFn := { np := 1, nt := 27, res := [.t 2], body :=
  (.seq (.region [⟨some 1, none, .p (.box 6 (.t 0))⟩,
    ⟨some 2, none, .p (.mv (.k (.c (C.int .i64 0))))⟩] [1])
  (.seq (.region [⟨some 3, none, .p (.mv (.k (.c (C.int .i64 1))))⟩,
    ⟨some 4, none, .p (.mv (.k (.c (C.int .i64 0))))⟩] [1, 3, 4])
  (.seq (.seq (.region [⟨some 8, none, .h (.load 6 true (.t 1))⟩,
    ⟨some 9, none, .p (.mv (.k (.c (C.int .i64 0))))⟩] [3, 4, 8, 9])
  (.block 0 (.loop (.seq (.region [⟨some 10, none, .p (.bin .lss (.t 9) (.k (.c (C.int .i64 6))))⟩] [3, 4, 8, 9, 10])
  (.seq (.cond (.t 10)
  .skip
  (.exit 0))
  (.seq (.block 1 (.seq (.region [⟨some 11, none, .p (.ixV 6 1 false (.t 8) (.t 9))⟩,
    ⟨some 6, none, .p (.mv (.t 11))⟩] [3, 4, 6, 8, 9])
  (.seq (.region [⟨some 12, none, .p (.mv (.t 6))⟩,
    ⟨some 13, none, .p (.mv (.k (.c (C.int .i64 0))))⟩] [3, 4, 8, 9, 12, 13])
  (.block 2 (.loop (.seq (.region [⟨some 14, none, .p (.bin .lss (.t 13) (.t 12))⟩] [3, 4, 8, 9, 12, 13, 14])
  (.seq (.cond (.t 14)
  .skip
  (.exit 2))
  (.seq (.block 3 (.seq (.region [⟨some 15, none, .p (.mv (.t 13))⟩,
    ⟨some 7, none, .p (.mv (.t 15))⟩] [3, 4, 7, 8, 9, 12, 13])
  (.seq (.region [⟨some 16, none, .p (.mv (.t 4))⟩,
    ⟨some 17, none, .p (.bin .add (.t 16) (.k (.c (C.int .i64 1))))⟩,
    ⟨some 4, none, .p (.mv (.t 17))⟩] [3, 4, 7, 8, 9, 12, 13])
  (.region [⟨some 18, none, .p (.mv (.t 3))⟩,
    ⟨some 19, none, .p (.mv (.t 4))⟩,
    ⟨some 20, none, .p (.bin .mul (.t 18) (.t 19))⟩,
    ⟨some 21, none, .p (.mv (.t 7))⟩,
    ⟨some 22, none, .p (.bin .add (.t 21) (.k (.c (C.int .i64 1))))⟩,
    ⟨some 23, none, .p (.bin .quo (.t 20) (.t 22))⟩,
    ⟨some 3, none, .p (.mv (.t 23))⟩] [3, 4, 8, 9, 12, 13]))))
  (.region [⟨some 24, none, .p (.bin .add (.t 13) (.k (.c (C.int .i64 1))))⟩,
    ⟨some 13, none, .p (.mv (.t 24))⟩] [3, 4, 8, 9, 12, 13])))) [3, 4, 8, 9, 12, 13])))))
  (.region [⟨some 25, none, .p (.bin .add (.t 9) (.k (.c (C.int .i64 1))))⟩,
    ⟨some 9, none, .p (.mv (.t 25))⟩] [3, 4, 8, 9])))) [3, 4, 8, 9])))
  (.seq (.region [⟨some 26, none, .p (.mv (.t 3))⟩,
    ⟨some 2, none, .p (.mv (.t 26))⟩] [2])
  .ret)))) }
theorem a49_ok : okFn Try.prog 49 a49 = true := by kernel_rfl
/-- loop.example/g01215/spec.l10Complete -/
def a50 : AFn := { np := 1, nt := 27, res := [.t 2], body :=
  (.seq (.region [⟨some 1, none, .p (.box 24 (.t 0))⟩,
    ⟨some 2, none, .p (.nilsl 1)⟩] [1])
  (.seq (.region [⟨some 7, none, .p (.mksl 1 0 [.k (C.int .i64 0)] [])⟩,
    ⟨some 3, none, .p (.mv (.t 7))⟩] [1, 3])
  (.seq (.seq (.region [⟨some 4, none, .p (.mv (.k (.c (C.int .i64 0))))⟩] [1, 3, 4])
  (.block 0 (.loop (.seq (.seq (.region [⟨some 8, none, .p (.mv (.t 4))⟩,
    ⟨some 9, none, .p (.bin .lss (.t 8) (.k (.c (C.int .i64 6))))⟩] [1, 3, 4, 9])
  (.cond (.t 9)
  .skip
  (.exit 0)))
  (.seq (.block 1 (.seq (.region [⟨some 13, none, .p (.mv (.t 4))⟩,
    ⟨some 14, none, .p (.fld 0 (.t 1))⟩,
    ⟨some 15, none, .p (.ixA 6 4 (.t 14) (.t 13))⟩,
    ⟨some 16, none, .h (.load 4 true (.t 15))⟩,
    ⟨some 17, none, .h (.call (.f 69) [.t 16])⟩,
    ⟨some 12, none, .p (.mv (.t 17))⟩,
    ⟨some 18, none, .p (.ext (.t 12) 0)⟩,
    ⟨some 19, none, .p (.ext (.t 12) 1)⟩,
    ⟨some 5, none, .p (.mv (.t 18))⟩,
    ⟨some 6, none, .p (.mv (.t 19))⟩] [1, 3, 4, 6])
  (.seq (.region [⟨some 20, none, .p (.mv (.t 6))⟩,
    ⟨some 21, none, .p (.bin .eql (.t 20) (.k (.c (C.int .i64 4))))⟩] [1, 3, 4, 21])
  (.cond (.t 21)
  (.region [⟨some 22, none, .p (.mv (.t 3))⟩,
    ⟨some 23, none, .p (.mv (.t 4))⟩,
    ⟨some 24, none, .p (.mksl 1 1 [.k (C.int .i64 0)] [(0, 1, .t 23)])⟩,
    ⟨some 25, none, .h (.app 1 (.t 22) (.t 24))⟩,
    ⟨some 3, none, .p (.mv (.t 25))⟩] [1, 3, 4])
  .skip))))
  (.region [⟨some 10, none, .p (.mv (.t 4))⟩,
    ⟨some 11, none, .p (.bin .add (.t 10) (.k (.c (C.int .i64 1))))⟩,
    ⟨some 4, none, .p (.mv (.t 11))⟩] [1, 3, 4]))) [1, 3, 4])))
  (.seq (.region [⟨some 26, none, .p (.mv (.t 3))⟩,
    ⟨some 2, none, .p (.mv (.t 26))⟩] [2])
  .ret)))) }
theorem a50_ok : okFn Try.prog 50 a50 = true := by kernel_rfl
/-- loop.example/g01215/impl.complete -/
def a51 : AFn := { np := 1, nt := 20, res := [.t 2], body :=
  (.seq (.region [⟨some 1, none, .p (.box 24 (.t 0))⟩,
    ⟨some 2, none, .p (.nilsl 1)⟩] [1])
  (.seq (.region [⟨some 3, none, .p (.nilsl 1)⟩] [1, 3])
  (.seq (.seq (.region [⟨some 6, none, .p (.fld 0 (.t 1))⟩,
    ⟨some 7, none, .h (.load 24 true (.t 6))⟩,
    ⟨some 8, none, .p (.mv (.k (.c (C.int .i64 0))))⟩] [3, 7, 8])
  (.block 0 (.loop (.seq (.region [⟨some 9, none, .p (.bin .lss (.t 8) (.k (.c (C.int .i64 6))))⟩] [3, 7, 8, 9])
  (.seq (.cond (.t 9)
  .skip
  (.exit 0))
  (.seq (.block 1 (.seq (.region [⟨some 10, none, .p (.mv (.t 8))⟩,
    ⟨some 11, none, .p (.ixV 6 4 true (.t 7) (.t 8))⟩,
    ⟨some 5, none, .p (.alloc [.k (C.int .i64 0), .k (C.int .i64 0), .k (C.int .i64 0), .k (C.int .i64 0)])⟩,
    ⟨some 4, none, .p (.mv (.t 10))⟩,
    ⟨none, none, .h (.store 4 (.t 5) (.t 11))⟩] [3, 4, 5, 7, 8])
  (.seq (.region [⟨some 12, none, .h (.load 4 true (.t 5))⟩,
    ⟨some 13, none, .h (.call (.f 70) [.t 12])⟩] [3, 4, 7, 8, 13])
  (.cond (.t 13)
  (.region [⟨some 14, none, .p (.mv (.t 3))⟩,
    ⟨some 15, none, .p (.mv (.t 4))⟩,
    ⟨some 16, none, .p (.mksl 1 1 [.k (C.int .i64 0)] [(0, 1, .t 15)])⟩,
    ⟨some 17, none, .h (.app 1 (.t 14) (.t 16))⟩,
    ⟨some 3, none, .p (.mv (.t 17))⟩] [3, 7, 8])
  .skip))))
  (.region [⟨some 18, none, .p (.bin .add (.t 8) (.k (.c (C.int .i64 1))))⟩,
    ⟨some 8, none, .p (.mv (.t 18))⟩] [3, 7, 8])))) [3, 7, 8])))
  (.seq (.region [⟨some 19, none, .p (.mv (.t 3))⟩,
    ⟨some 2, none, .p (.mv (.t 19))⟩] [2])
  .ret)))) }
theorem a51_ok : okFn Try.prog 51 a51 = true := by kernel_rfl
/-- loop.example/g01215/spec.l12Record -/
def a52 : AFn := { np := 1, nt := 22, res := [.t 2], body :=
  (.seq (.region [⟨some 1, none, .p (.box 2 (.t 0))⟩,
    ⟨some 2, none, .p (.mv (.k (.c (C.bool false))))⟩] [1])
  (.seq (.region [⟨some 3, none, .p (.fld 0 (.t 1))⟩,
    ⟨some 4, none, .h (.load 1 false (.t 3))⟩,
    ⟨some 5, none, .p (.bin .neq (.t 4) (.k (.c (C.str []))))⟩,
    ⟨some 6, none, .p (.mv (.t 5))⟩,
    ⟨some 7, some (6, true), .p (.fld 0 (.t 1))⟩,
    ⟨some 8, some (6, true), .h (.load 1 false (.t 7))⟩,
    ⟨some 9, some (6, true), .h (.call (.f 71) [.t 8, .k (.c (C.int .i64 160))])⟩,
    ⟨some 10, none, .p (.pick (.t 6) (.t 9) (.k (.c (C.bool false))))⟩,
    ⟨some 11, none, .p (.mv (.t 10))⟩,
    ⟨some 12, some (11, true), .p (.fld 0 (.t 1))⟩,
    ⟨some 13, some (11, true), .h (.load 1 false (.t 12))⟩,
    ⟨some 14, some (11, true), .h (.call (.f 72) [.t 13, .k (.c (C.int .u8 64))])⟩,
    ⟨some 15, some (11, true), .p (.un .not (.t 14))⟩,
    ⟨some 16, none, .p (.pick (.t 11) (.t 15) (.k (.c (C.bool false))))⟩,
    ⟨some 17, none, .p (.mv (.t 16))⟩,
    ⟨some 18, some (17, true), .p (.fld 1 (.t 1))⟩,
    ⟨some 19, some (17, true), .h (.load 1 false (.t 18))⟩,
    ⟨some 20, some (17, true), .h (.call (.f 71) [.t 19, .k (.c (C.int .i64 250))])⟩,
    ⟨some 21, none, .p (.pick (.t 17) (.t 20) (.k (.c (C.bool false))))⟩,
    ⟨some 2, none, .p (.mv (.t 21))⟩] [2])
  .ret)) }
theorem a52_ok : okFn Try.prog 52 a52 = true := by kernel_rfl
/-- loop.example/g01215/impl.isCommand -/
def a53 : AFn := { np := 1, nt := 15, res := [.t 2], body :=
  (.seq (.region [⟨some 2, none, .p (.mv (.k (.c (C.bool false))))⟩] [0])
  (.seq (.region [⟨some 3, none, .p (.mv (.t 0))⟩,
    ⟨some 4, none, .p (.lenStr (.t 3))⟩,
    ⟨some 5, none, .h (.call (.f 37) [.t 4, .k (.c (C.int .i64 1)), .k (.c (C.int .i64 160))])⟩,
    ⟨some 6, none, .p (.mv (.t 5))⟩,
    ⟨some 7, some (6, true), .p (.mv (.t 0))⟩,
    ⟨some 8, some (6, true), .h (.call (.f 54) [.t 7])⟩,
    ⟨some 9, none, .p (.pick (.t 6) (.t 8) (.k (.c (C.bool false))))⟩,
    ⟨some 10, none, .p (.mv (.t 9))⟩,
    ⟨some 11, some (10, true), .p (.mv (.t 0))⟩,
    ⟨some 12, some (10, true), .h (.call (.f 73) [.t 11, .k (.c (C.str [64]))])⟩,
    ⟨some 13, some (10, true), .p (.un .not (.t 12))⟩,
    ⟨some 14, none, .p (.pick (.t 10) (.t 13) (.k (.c (C.bool false))))⟩,
    ⟨some 2, none, .p (.mv (.t 14))⟩] [2])
  .ret)) }
theorem a53_ok : okFn Try.prog 53 a53 = true := by kernel_rfl
/-- loop.example/g01215/impl.isPlainText -/
def a54 : AFn := { np := 1, nt := 11, res := [.t 2], body :=
  (.seq (.region [⟨some 2, none, .p (.mv (.k (.c (C.bool false))))⟩] [0])
  (.seq (.region [⟨some 3, none, .p (.mv (.t 0))⟩,
    ⟨some 4, none, .h (.s2b (.t 3))⟩,
    ⟨some 5, none, .h (.call (.f 74) [.t 4, .f 75])⟩,
    ⟨some 6, none, .p (.mv (.t 5))⟩,
    ⟨some 7, some (6, true), .p (.mv (.t 0))⟩,
    ⟨some 8, some (6, true), .h (.call (.f 73) [.t 7, .k (.c (C.str [35]))])⟩,
    ⟨some 9, some (6, true), .p (.un .not (.t 8))⟩,
    ⟨some 10, none, .p (.pick (.t 6) (.t 9) (.k (.c (C.bool false))))⟩,
    ⟨some 2, none, .p (.mv (.t 10))⟩] [2])
  .ret)) }
theorem a54_ok : okFn Try.prog 54 a54 = true := by kernel_rfl
/-- loop.example/g01215/spec.l2Counts -/
def a55 : AFn := { np := 1, nt := 26, res := [.cell 2 6 true], body :=
  (.seq (.region [⟨some 1, none, .p (.box 24 (.t 0))⟩,
    ⟨some 2, none, .p (.alloc [.k (C.int .i64 0), .k (C.int .i64 0), .k (C.int .i64 0), .k (C.int .i64 0), .k (C.int .i64 0), .k (C.int .i64 0)])⟩] [1, 2])
  (.seq (.region [⟨some 6, none, .p (.build [.k (C.int .i64 0), .k (C.int .i64 0), .k (C.int .i64 0), .k (C.int .i64 0), .k (C.int .i64 0), .k (C.int .i64 0)] [])⟩,
    ⟨some 3, none, .p (.alloc [.k (C.int .i64 0), .k (C.int .i64 0), .k (C.int .i64 0), .k (C.int .i64 0), .k (C.int .i64 0), .k (C.int .i64 0)])⟩,
    ⟨none, none, .h (.store 6 (.t 3) (.t 6))⟩] [1, 2, 3])
  (.seq (.seq (.region [⟨some 4, none, .p (.mv (.k (.c (C.int .i64 0))))⟩] [1, 2, 3, 4])
  (.block 0 (.loop (.seq (.seq (.region [⟨some 7, none, .p (.mv (.t 4))⟩,
    ⟨some 8, none, .p (.bin .lss (.t 7) (.k (.c (C.int .i64 6))))⟩] [1, 2, 3, 4, 8])
  (.cond (.t 8)
  .skip
  (.exit 0)))
  (.seq (.block 1 (.seq (.region [⟨some 5, none, .p (.mv (.k (.c (C.int .i64 0))))⟩] [1, 2, 3, 4, 5])
  (.block 2 (.loop (.seq (.seq (.region [⟨some 11, none, .p (.mv (.t 5))⟩,
    ⟨some 12, none, .p (.bin .lss (.t 11) (.k (.c (C.int .i64 4))))⟩] [1, 2, 3, 4, 5, 12])
  (.cond (.t 12)
  .skip
  (.exit 2)))
  (.seq (.block 3 (.region [⟨some 15, none, .p (.mv (.t 4))⟩,
    ⟨some 16, none, .p (.mv (.t 5))⟩,
    ⟨some 17, none, .p (.fld 0 (.t 1))⟩,
    ⟨some 18, none, .p (.ixA 6 4 (.t 17) (.t 15))⟩,
    ⟨some 19, none, .p (.ixA 4 1 (.t 18) (.t 16))⟩,
    ⟨some 20, none, .h (.load 1 false (.t 19))⟩,
    ⟨some 21, none, .p (.ixA 6 1 (.t 3) (.t 20))⟩,
    ⟨some 22, none, .h (.load 1 false (.t 21))⟩,
    ⟨some 23, none, .p (.bin .add (.t 22) (.k (.c (C.int .i64 1))))⟩,
    ⟨some 24, none, .p (.ixA 6 1 (.t 3) (.t 20))⟩,
    ⟨none, none, .h (.store 1 (.t 24) (.t 23))⟩] [1, 2, 3, 4, 5]))
  (.region [⟨some 13, none, .p (.mv (.t 5))⟩,
    ⟨some 14, none, .p (.bin .add (.t 13) (.k (.c (C.int .i64 1))))⟩,
    ⟨some 5, none, .p (.mv (.t 14))⟩] [1, 2, 3, 4, 5]))) [1, 2, 3, 4, 5]))))
  (.region [⟨some 9, none, .p (.mv (.t 4))⟩,
    ⟨some 10, none, .p (.bin .add (.t 9) (.k (.c (C.int .i64 1))))⟩,
    ⟨some 4, none, .p (.mv (.t 10))⟩] [1, 2, 3, 4]))) [1, 2, 3, 4])))
  (.seq (.region [⟨some 25, none, .h (.load 6 true (.t 3))⟩,
    ⟨none, none, .h (.store 6 (.t 2) (.t 25))⟩] [2])
  .ret)))) }
theorem a55_ok : okFn Try.prog 55 a55 = true := by kernel_rfl
/-- loop.example/g01215/spec.l6Runs -/
def a56 : AFn := { np := 1, nt := 18, res := [.t 2], body :=
  (.seq (.region [⟨some 1, none, .p (.box 24 (.t 0))⟩,
    ⟨some 2, none, .p (.mv (.k (.c (C.int .i64 0))))⟩] [1])
  (.seq (.region [⟨some 3, none, .p (.mv (.k (.c (C.int .i64 0))))⟩] [1, 3])
  (.seq (.seq (.region [⟨some 4, none, .p (.mv (.k (.c (C.int .i64 0))))⟩] [1, 3, 4])
  (.block 0 (.loop (.seq (.seq (.region [⟨some 5, none, .p (.mv (.t 4))⟩,
    ⟨some 6, none, .p (.bin .lss (.t 5) (.k (.c (C.int .i64 6))))⟩] [1, 3, 4, 6])
  (.cond (.t 6)
  .skip
  (.exit 0)))
  (.seq (.block 1 (.region [⟨some 9, none, .p (.mv (.t 3))⟩,
    ⟨some 10, none, .p (.mv (.t 4))⟩,
    ⟨some 11, none, .p (.fld 0 (.t 1))⟩,
    ⟨some 12, none, .p (.ixA 6 4 (.t 11) (.t 10))⟩,
    ⟨some 13, none, .h (.load 4 true (.t 12))⟩,
    ⟨some 14, none, .h (.call (.f 76) [.t 13])⟩,
    ⟨some 15, none, .p (.len (.t 14))⟩,
    ⟨some 16, none, .p (.bin .add (.t 9) (.t 15))⟩,
    ⟨some 3, none, .p (.mv (.t 16))⟩] [1, 3, 4]))
  (.region [⟨some 7, none, .p (.mv (.t 4))⟩,
    ⟨some 8, none, .p (.bin .add (.t 7) (.k (.c (C.int .i64 1))))⟩,
    ⟨some 4, none, .p (.mv (.t 8))⟩] [1, 3, 4]))) [1, 3, 4])))
  (.seq (.region [⟨some 17, none, .p (.mv (.t 3))⟩,
    ⟨some 2, none, .p (.mv (.t 17))⟩] [2])
  .ret)))) }
theorem a56_ok : okFn Try.prog 56 a56 = true := by kernel_rfl
/-- loop.example/g01215/impl.SpareRuns -/
def a57 : AFn := { np := 1, nt := 27, res := [.t 2, .t 3], body :=
  (.seq (.region [⟨some 1, none, .p (.box 24 (.t 0))⟩,
    ⟨some 2, none, .p (.mv (.k (.c (C.int .i64 0))))⟩,
    ⟨some 3, none, .p (.mv (.k (.c (C.bool false))))⟩] [1])
  (.seq (.seq (.region [⟨some 8, none, .h (.load 24 true (.t 1))⟩,
    ⟨some 9, none, .h (.call (.f 36) [.t 8])⟩,
    ⟨some 10, none, .p (.un .not (.t 9))⟩] [1, 10])
  (.cond (.t 10)
  (.seq (.region [⟨some 2, none, .p (.mv (.k (.c (C.int .i64 0))))⟩,
    ⟨some 3, none, .p (.mv (.k (.c (C.bool false))))⟩] [2, 3])
  .ret)
  .skip))
  (.seq (.region [⟨some 11, none, .h (.load 24 true (.t 1))⟩,
    ⟨some 12, none, .h (.call (.f 77) [.t 11])⟩,
    ⟨some 4, none, .p (.mv (.t 12))⟩] [1, 4])
  (.seq (.region [⟨some 13, none, .h (.load 24 true (.t 1))⟩,
    ⟨some 14, none, .h (.call (.f 78) [.t 13])⟩,
    ⟨some 5, none, .p (.alloc [.k (C.int .i64 0), .k (C.int .i64 0), .k (C.int .i64 0), .k (C.int .i64 0), .k (C.int .i64 0), .k (C.int .i64 0)])⟩,
    ⟨none, none, .h (.store 6 (.t 5) (.t 14))⟩] [4, 5])
  (.seq (.seq (.region [⟨some 15, none, .h (.slA 6 1 (.t 5) (some (.k (.c (C.int .i64 1)))) none)⟩,
    ⟨some 16, none, .p (.len (.t 15))⟩,
    ⟨some 17, none, .p (.mv (.k (.c (C.int .i64 0))))⟩] [4, 15, 16, 17])
  (.block 0 (.loop (.seq (.region [⟨some 18, none, .p (.bin .lss (.t 17) (.t 16))⟩] [4, 15, 16, 17, 18])
  (.seq (.cond (.t 18)
  .skip
  (.exit 0))
  (.seq (.block 1 (.seq (.region [⟨some 19, none, .p (.ixS 1 (.t 15) (.t 17))⟩,
    ⟨some 20, none, .h (.load 1 false (.t 19))⟩,
    ⟨some 7, none, .p (.mv (.t 20))⟩] [4, 7, 15, 16, 17])
  (.region [⟨some 21, none, .p (.mv (.t 4))⟩,
    ⟨some 22, none, .p (.mv (.t 7))⟩,
    ⟨some 23, none, .p (.mnmx false [.t 22, .k (.c (C.int .i64 1))])⟩,
    ⟨some 24, none, .p (.bin .sub (.t 21) (.t 23))⟩,
    ⟨some 4, none, .p (.mv (.t 24))⟩] [4, 15, 16, 17])))
  (.region [⟨some 25, none, .p (.bin .add (.t 17) (.k (.c (C.int .i64 1))))⟩,
    ⟨some 17, none, .p (.mv (.t 25))⟩] [4, 15, 16, 17])))) [4, 15, 16, 17])))
  (.seq (.region [⟨some 26, none, .p (.mv (.t 4))⟩,
    ⟨some 2, none, .p (.mv (.t 26))⟩,
    ⟨some 3, none, .p (.mv (.k (.c (C.bool true))))⟩] [2, 3])
  .ret)))))) }
theorem a57_ok : okFn Try.prog 57 a57 = true := by kernel_rfl
/-- loop.example/g01215/spec.l1In -/
def a58 : AFn := { np := 3, nt := 15, res := [.t 6], body :=
  (.seq (.region [⟨some 6, none, .p (.mv (.k (.c (C.bool false))))⟩] [0, 1, 2])
  (.seq (.region [⟨some 7, none, .p (.mv (.t 0))⟩,
    ⟨some 8, none, .p (.mv (.t 1))⟩,
    ⟨some 9, none, .p (.bin .geq (.t 7) (.t 8))⟩,
    ⟨some 10, none, .p (.mv (.t 9))⟩,
    ⟨some 11, some (10, true), .p (.mv (.t 0))⟩,
    ⟨some 12, some (10, true), .p (.mv (.t 2))⟩,
    ⟨some 13, some (10, true), .p (.bin .leq (.t 11) (.t 12))⟩,
    ⟨some 14, none, .p (.pick (.t 10) (.t 13) (.k (.c (C.bool false))))⟩,
    ⟨some 6, none, .p (.mv (.t 14))⟩] [6])
  .ret)) }
theorem a58_ok : okFn Try.prog 58 a58 = true := by kernel_rfl
/-- loop.example/g01215/impl.areAll[[4]int] -/
def a59 : AFn := { np := 2, nt := 9, res := [.t 4], body :=
  (.seq (.region [⟨some 3, none, .p (.box 1 (.t 1))⟩,
    ⟨some 4, none, .p (.mv (.k (.c (C.bool false))))⟩] [0, 3])
  (.seq (.region [⟨some 5, none, .p (.mv (.t 0))⟩,
    ⟨some 6, none, .p (.mkfn 80 [.t 3])⟩,
    ⟨some 7, none, .h (.call (.f 79) [.t 5, .t 6])⟩,
    ⟨some 8, none, .p (.un .not (.t 7))⟩,
    ⟨some 4, none, .p (.mv (.t 8))⟩] [4])
  .ret)) }
theorem a59_ok : okFn Try.prog 59 a59 = true := by kernel_rfl
/-- loop.example/g01215/impl.isTube -/
def a60 : AFn := { np := 1, nt := 14, res := [.t 2], body :=
  (.seq (.region [⟨some 1, none, .p (.box 4 (.t 0))⟩,
    ⟨some 2, none, .p (.mv (.k (.c (C.bool false))))⟩] [1])
  (.seq (.region [⟨some 4, none, .h (.load 4 true (.t 1))⟩,
    ⟨some 5, none, .h (.call (.f 81) [.t 4])⟩,
    ⟨some 3, none, .p (.mv (.t 5))⟩] [1, 3])
  (.seq (.region [⟨some 6, none, .p (.mv (.t 3))⟩,
    ⟨some 7, none, .h (.slA 4 1 (.t 1) none (some (.t 6)))⟩,
    ⟨some 8, none, .h (.call (.f 64) [.t 7, .f 82])⟩,
    ⟨some 9, none, .p (.mv (.t 8))⟩,
    ⟨some 10, some (9, true), .p (.mv (.t 3))⟩,
    ⟨some 11, some (9, true), .h (.slA 4 1 (.t 1) (some (.t 10)) none)⟩,
    ⟨some 12, some (9, true), .h (.call (.f 64) [.t 11, .f 83])⟩,
    ⟨some 13, none, .p (.pick (.t 9) (.t 12) (.k (.c (C.bool false))))⟩,
    ⟨some 2, none, .p (.mv (.t 13))⟩] [2])
  .ret))) }
theorem a60_ok : okFn Try.prog 60 a60 = true := by kernel_rfl
/-- loop.example/g01215/laws.toIntA4 -/
def a61 : AFn := { np := 1, nt := 15, res := [.cell 2 4 true], body :=
  (.seq (.region [⟨some 1, none, .p (.box 4 (.t 0))⟩,
    ⟨some 2, none, .p (.alloc [.k (C.int .i64 0), .k (C.int .i64 0), .k (C.int .i64 0), .k (C.int .i64 0)])⟩] [1, 2])
  (.seq (.region [⟨some 3, none, .p (.alloc [.k (C.int .i64 0), .k (C.int .i64 0), .k (C.int .i64 0), .k (C.int .i64 0)])⟩] [1, 2, 3])
  (.seq (.seq (.region [⟨some 4, none, .p (.mv (.k (.c (C.int .i64 0))))⟩] [1, 2, 3, 4])
  (.block 0 (.loop (.seq (.seq (.region [⟨some 5, none, .p (.mv (.t 4))⟩,
    ⟨some 6, none, .p (.bin .lss (.t 5) (.k (.c (C.int .i64 4))))⟩] [1, 2, 3, 4, 6])
  (.cond (.t 6)
  .skip
  (.exit 0)))
  (.seq (.block 1 (.region [⟨some 9, none, .p (.mv (.t 4))⟩,
    ⟨some 10, none, .p (.mv (.t 4))⟩,
    ⟨some 11, none, .p (.ixA 4 1 (.t 1) (.t 10))⟩,
    ⟨some 12, none, .h (.load 1 false (.t 11))⟩,
    ⟨some 13, none, .p (.ixA 4 1 (.t 3) (.t 9))⟩,
    ⟨none, none, .h (.store 1 (.t 13) (.t 12))⟩] [1, 2, 3, 4]))
  (.region [⟨some 7, none, .p (.mv (.t 4))⟩,
    ⟨some 8, none, .p (.bin .add (.t 7) (.k (.c (C.int .i64 1))))⟩,
    ⟨some 4, none, .p (.mv (.t 8))⟩] [1, 2, 3, 4]))) [1, 2, 3, 4])))
  (.seq (.region [⟨some 14, none, .h (.load 4 true (.t 3))⟩,
    ⟨none, none, .h (.store 4 (.t 2) (.t 14))⟩] [2])
  .ret)))) }
theorem a61_ok : okFn Try.prog 61 a61 = true := by kernel_rfl
/-- loop.example/g01215/laws.eqIntA4A6 -/
def a62 : AFn := { np := 2, nt := 18, res := [.t 4], body :=
  (.seq (.region [⟨some 2, none, .p (.box 24 (.t 0))⟩,
    ⟨some 3, none, .p (.box 24 (.t 1))⟩,
    ⟨some 4, none, .p (.mv (.k (.c (C.bool false))))⟩] [2, 3])
  (.seq (.seq (.region [⟨some 5, none, .p (.mv (.k (.c (C.int .i64 0))))⟩] [2, 3, 5])
  (.block 0 (.loop (.seq (.seq (.region [⟨some 6, none, .p (.mv (.t 5))⟩,
    ⟨some 7, none, .p (.bin .lss (.t 6) (.k (.c (C.int .i64 6))))⟩] [2, 3, 5, 7])
  (.cond (.t 7)
  .skip
  (.exit 0)))
  (.seq (.block 1 (.seq (.regionD [⟨some 10, none, .p (.mv (.t 5))⟩,
    ⟨some 11, none, .p (.ixA 6 4 (.t 2) (.t 10))⟩,
    ⟨some 12, none, .h (.load 4 true (.t 11))⟩,
    ⟨some 13, none, .p (.mv (.t 5))⟩,
    ⟨some 14, none, .p (.ixA 6 4 (.t 3) (.t 13))⟩,
    ⟨some 15, none, .h (.load 4 true (.t 14))⟩,
    ⟨some 16, none, .h (.call (.f 84) [.t 12, .t 15])⟩,
    ⟨some 17, none, .p (.un .not (.t 16))⟩] [2, 3, 5, 17] [])
  (.cond (.t 17)
  (.seq (.region [⟨some 4, none, .p (.mv (.k (.c (C.bool false))))⟩] [4])
  .ret)
  .skip)))
  (.region [⟨some 8, none, .p (.mv (.t 5))⟩,
    ⟨some 9, none, .p (.bin .add (.t 8) (.k (.c (C.int .i64 1))))⟩,
    ⟨some 5, none, .p (.mv (.t 9))⟩] [2, 3, 5]))) [2, 3, 5])))
  (.seq (.region [⟨some 4, none, .p (.mv (.k (.c (C.bool true))))⟩] [4])
  .ret))) }
theorem a62_ok : okFn Try.prog 62 a62 = true := by kernel_rfl
/-- loop.example/g01215/spec.l1Most -/
def a63 : AFn := { np := 2, nt := 10, res := [.t 4], body :=
  (.seq (.region [⟨some 4, none, .p (.mv (.k (.c (C.int .i64 0))))⟩] [0, 1])
  (.seq (.seq (.region [⟨some 5, none, .p (.mv (.t 0))⟩,
    ⟨some 6, none, .p (.mv (.t 1))⟩,
    ⟨some 7, none, .p (.bin .gtr (.t 5) (.t 6))⟩] [0, 1, 7])
  (.cond (.t 7)
  (.seq (.region [⟨some 8, none, .p (.mv (.t 0))⟩,
    ⟨some 4, none, .p (.mv (.t 8))⟩] [4])
  .ret)
  .skip))
  (.seq (.region [⟨some 9, none, .p (.mv (.t 1))⟩,
    ⟨some 4, none, .p (.mv (.t 9))⟩] [4])
  .ret))) }
theorem a63_ok : okFn Try.prog 63 a63 = true := by kernel_rfl
/-- loop.example/g01215/impl.areAll[int] -/
def a64 : AFn := { np := 2, nt := 9, res := [.t 4], body :=
  (.seq (.region [⟨some 3, none, .p (.box 1 (.t 1))⟩,
    ⟨some 4, none, .p (.mv (.k (.c (C.bool false))))⟩] [0, 3])
  (.seq (.region [⟨some 5, none, .p (.mv (.t 0))⟩,
    ⟨some 6, none, .p (.mkfn 86 [.t 3])⟩,
    ⟨some 7, none, .h (.call (.f 85) [.t 5, .t 6])⟩,
    ⟨some 8, none, .p (.un .not (.t 7))⟩,
    ⟨some 4, none, .p (.mv (.t 8))⟩] [4])
  .ret)) }
theorem a64_ok : okFn Try.prog 64 a64 = true := by kernel_rfl
/-- loop.example/g01215/impl.isDeal$1 -/
def a65 : AFn := { np := 1, nt := 5, res := [.t 2], body :=
  (.seq (.region [⟨some 2, none, .p (.mv (.k (.c (C.bool false))))⟩] [0])
  (.seq (.region [⟨some 3, none, .p (.mv (.t 0))⟩,
    ⟨some 4, none, .h (.call (.f 37) [.t 3, .k (.c (C.int .i64 0)), .k (.c (C.int .i64 4))])⟩,
    ⟨some 2, none, .p (.mv (.t 4))⟩] [2])
  .ret)) }
theorem a65_ok : okFn Try.prog 65 a65 = true := by kernel_rfl
/-- loop.example/g01215/impl.isDeal$2 -/
def a66 : AFn := { np := 1, nt := 5, res := [.t 2], body :=
  (.seq (.region [⟨some 2, none, .p (.mv (.k (.c (C.bool false))))⟩] [0])
  (.seq (.region [⟨some 3, none, .p (.mv (.t 0))⟩,
    ⟨some 4, none, .h (.call (.f 37) [.t 3, .k (.c (C.int .i64 0)), .k (.c (C.int .i64 24))])⟩,
    ⟨some 2, none, .p (.mv (.t 4))⟩] [2])
  .ret)) }
theorem a66_ok : okFn Try.prog 66 a66 = true := by kernel_rfl
/-- loop.example/g01215/impl.sum -/
def a67 : AFn := { np := 1, nt := 17, res := [.t 2], body :=
  (.seq (.region [⟨some 2, none, .p (.mv (.k (.c (C.int .i64 0))))⟩] [0])
  (.seq (.region [⟨some 3, none, .p (.mv (.k (.c (C.int .i64 0))))⟩] [0, 3])
  (.seq (.seq (.region [⟨some 6, none, .p (.mv (.t 0))⟩,
    ⟨some 7, none, .p (.len (.t 6))⟩,
    ⟨some 8, none, .p (.mv (.k (.c (C.int .i64 0))))⟩] [3, 6, 7, 8])
  (.block 0 (.loop (.seq (.region [⟨some 9, none, .p (.bin .lss (.t 8) (.t 7))⟩] [3, 6, 7, 8, 9])
  (.seq (.cond (.t 9)
  .skip
  (.exit 0))
  (.seq (.block 1 (.seq (.region [⟨some 10, none, .p (.ixS 1 (.t 6) (.t 8))⟩,
    ⟨some 11, none, .h (.load 1 false (.t 10))⟩,
    ⟨some 5, none, .p (.mv (.t 11))⟩] [3, 5, 6, 7, 8])
  (.region [⟨some 12, none, .p (.mv (.t 3))⟩,
    ⟨some 13, none, .p (.mv (.t 5))⟩,
    ⟨some 14, none, .p (.bin .add (.t 12) (.t 13))⟩,
    ⟨some 3, none, .p (.mv (.t 14))⟩] [3, 6, 7, 8])))
  (.region [⟨some 15, none, .p (.bin .add (.t 8) (.k (.c (C.int .i64 1))))⟩,
    ⟨some 8, none, .p (.mv (.t 15))⟩] [3, 6, 7, 8])))) [3, 6, 7, 8])))
  (.seq (.region [⟨some 16, none, .p (.mv (.t 3))⟩,
    ⟨some 2, none, .p (.mv (.t 16))⟩] [2])
  .ret)))) }
theorem a67_ok : okFn Try.prog 67 a67 = true := by kernel_rfl
/-- loop.example/g01215/impl.divisor -/
def a68 : AFn := { np := 2, nt := 12, res := [.t 4], body :=
  (.seq (.region [⟨some 4, none, .p (.mv (.k (.c (C.int .i64 0))))⟩] [0, 1])
  (.seq (.block 0 (.loop (.seq (.seq (.region [⟨some 5, none, .p (.mv (.t 1))⟩,
    ⟨some 6, none, .p (.bin .neq (.t 5) (.k (.c (C.int .i64 0))))⟩] [0, 1, 6])
  (.cond (.t 6)
  .skip
  (.exit 0)))
  (.block 1 (.regionD [⟨some 7, none, .p (.mv (.t 1))⟩,
    ⟨some 8, none, .p (.mv (.t 0))⟩,
    ⟨some 9, none, .p (.mv (.t 1))⟩,
    ⟨some 10, none, .p (.bin .rem (.t 8) (.t 9))⟩,
    ⟨some 0, none, .p (.mv (.t 7))⟩,
    ⟨some 1, none, .p (.mv (.t 10))⟩] [0, 1] []))) [0, 1]))
  (.seq (.region [⟨some 11, none, .p (.mv (.t 0))⟩,
    ⟨some 4, none, .p (.mv (.t 11))⟩] [4])
  .ret))) }
theorem a68_ok : okFn Try.prog 68 a68 = true := by kernel_rfl
/-- loop.example/g01215/spec.l2Top -/
def a69 : AFn := { np := 1, nt := 33, res := [.t 2, .t 3], body :=
  (.seq (.region [⟨some 1, none, .p (.box 4 (.t 0))⟩,
    ⟨some 2, none, .p (.mv (.k (.c (C.int .i64 0))))⟩,
    ⟨some 3, none, .p (.mv (.k (.c (C.int .i64 0))))⟩] [1])
  (.seq (.region [⟨some 6, none, .h (.load 4 true (.t 1))⟩,
    ⟨some 7, none, .h (.call (.f 87) [.t 6])⟩,
    ⟨some 4, none, .p (.mv (.t 7))⟩] [1, 4])
  (.seq (.seq (.region [⟨some 8, none, .p (.mv (.t 4))⟩,
    ⟨some 9, none, .p (.bin .eql (.t 8) (.k (.c (C.int .i64 0))))⟩] [1, 4, 9])
  (.cond (.t 9)
  (.seq (.region [⟨some 2, none, .p (.mv (.k (.c (C.int .i64 0))))⟩,
    ⟨some 3, none, .p (.mv (.k (.c (C.int .i64 0))))⟩] [2, 3])
  .ret)
  .skip))
  (.seq (.region [⟨some 5, none, .p (.mv (.k (.c (C.int .i64 0))))⟩] [1, 4, 5])
  (.seq (.block 0 (.loop (.seq (.seq (.regionD [⟨some 10, none, .p (.mv (.t 5))⟩,
    ⟨some 11, none, .p (.mv (.t 4))⟩,
    ⟨some 12, none, .p (.bin .lss (.t 10) (.t 11))⟩,
    ⟨some 13, none, .p (.mv (.t 12))⟩,
    ⟨some 14, some (13, true), .p (.mv (.t 4))⟩,
    ⟨some 15, some (13, true), .p (.bin .sub (.t 14) (.k (.c (C.int .i64 1))))⟩,
    ⟨some 16, some (13, true), .p (.mv (.t 5))⟩,
    ⟨some 17, some (13, true), .p (.bin .sub (.t 15) (.t 16))⟩,
    ⟨some 18, some (13, true), .p (.ixA 4 1 (.t 1) (.t 17))⟩,
    ⟨some 19, some (13, true), .h (.load 1 false (.t 18))⟩,
    ⟨some 20, some (13, true), .p (.mv (.t 4))⟩,
    ⟨some 21, some (13, true), .p (.bin .sub (.t 20) (.k (.c (C.int .i64 1))))⟩,
    ⟨some 22, some (13, true), .p (.ixA 4 1 (.t 1) (.t 21))⟩,
    ⟨some 23, some (13, true), .h (.load 1 false (.t 22))⟩,
    ⟨some 24, some (13, true), .p (.bin .eql (.t 19) (.t 23))⟩,
    ⟨some 25, none, .p (.pick (.t 13) (.t 24) (.k (.c (C.bool false))))⟩] [1, 4, 5, 25] [])
  (.cond (.t 25)
  .skip
  (.exit 0)))
  (.block 1 (.region [⟨some 26, none, .p (.mv (.t 5))⟩,
    ⟨some 27, none, .p (.bin .add (.t 26) (.k (.c (C.int .i64 1))))⟩,
    ⟨some 5, none, .p (.mv (.t 27))⟩] [1, 4, 5]))) [1, 4, 5]))
  (.seq (.region [⟨some 28, none, .p (.mv (.t 4))⟩,
    ⟨some 29, none, .p (.bin .sub (.t 28) (.k (.c (C.int .i64 1))))⟩,
    ⟨some 30, none, .p (.ixA 4 1 (.t 1) (.t 29))⟩,
    ⟨some 31, none, .h (.load 1 false (.t 30))⟩,
    ⟨some 32, none, .p (.mv (.t 5))⟩,
    ⟨some 2, none, .p (.mv (.t 31))⟩,
    ⟨some 3, none, .p (.mv (.t 32))⟩] [2, 3])
  .ret)))))) }
theorem a69_ok : okFn Try.prog 69 a69 = true := by kernel_rfl
/-- loop.example/g01215/impl.isComplete -/
def a70 : AFn := { np := 1, nt := 12, res := [.t 2], body :=
  (.seq (.region [⟨some 1, none, .p (.box 4 (.t 0))⟩,
    ⟨some 2, none, .p (.mv (.k (.c (C.bool false))))⟩] [1])
  (.seq (.region [⟨some 3, none, .h (.load 4 true (.t 1))⟩,
    ⟨some 4, none, .h (.call (.f 81) [.t 3])⟩,
    ⟨some 5, none, .p (.bin .eql (.t 4) (.k (.c (C.int .i64 4))))⟩,
    ⟨some 6, none, .p (.mv (.t 5))⟩,
    ⟨some 7, some (6, true), .h (.load 4 true (.t 1))⟩,
    ⟨some 8, some (6, true), .h (.call (.f 88) [.t 7])⟩,
    ⟨some 9, some (6, true), .p (.len (.t 8))⟩,
    ⟨some 10, some (6, true), .p (.bin .eql (.t 9) (.k (.c (C.int .i64 1))))⟩,
    ⟨some 11, none, .p (.pick (.t 6) (.t 10) (.k (.c (C.bool false))))⟩,
    ⟨some 2, none, .p (.mv (.t 11))⟩] [2])
  .ret)) }
theorem a70_ok : okFn Try.prog 70 a70 = true := by kernel_rfl
/-- loop.example/g01215/spec.l12Bytes -/
def a71 : AFn := { np := 2, nt := 28, res := [.t 4], body :=
  (.seq (.region [⟨some 4, none, .p (.mv (.k (.c (C.bool false))))⟩] [0, 1])
  (.seq (.seq (.region [⟨some 5, none, .p (.mv (.k (.c (C.int .i64 0))))⟩] [0, 1, 5])
  (.block 0 (.loop (.seq (.seq (.region [⟨some 6, none, .p (.mv (.t 5))⟩,
    ⟨some 7, none, .p (.mv (.t 0))⟩,
    ⟨some 8, none, .p (.lenStr (.t 7))⟩,
    ⟨some 9, none, .p (.bin .lss (.t 6) (.t 8))⟩] [0, 1, 5, 9])
  (.cond (.t 9)
  .skip
  (.exit 0)))
  (.seq (.block 1 (.seq (.region [⟨some 12, none, .p (.mv (.t 0))⟩,
    ⟨some 13, none, .p (.mv (.t 5))⟩,
    ⟨some 14, none, .p (.ixStr (.t 12) (.t 13))⟩,
    ⟨some 15, none, .p (.conv .i64 (.t 14))⟩,
    ⟨some 16, none, .h (.call (.f 58) [.t 15, .k (.c (C.int .i64 32)), .k (.c (C.int .i64 126))])⟩,
    ⟨some 17, none, .p (.un .not (.t 16))⟩,
    ⟨some 18, none, .p (.mv (.t 17))⟩,
    ⟨some 19, some (18, false), .p (.mv (.t 0))⟩,
    ⟨some 20, some (18, false), .p (.mv (.t 5))⟩,
    ⟨some 21, some (18, false), .p (.ixStr (.t 19) (.t 20))⟩,
    ⟨some 22, some (18, false), .p (.bin .eql (.t 21) (.k (.c (C.int .u8 35))))⟩,
    ⟨some 23, none, .p (.pick (.t 18) (.k (.c (C.bool true))) (.t 22))⟩] [0, 1, 5, 23])
  (.cond (.t 23)
  (.seq (.region [⟨some 4, none, .p (.mv (.k (.c (C.bool false))))⟩] [4])
  .ret)
  .skip)))
  (.region [⟨some 10, none, .p (.mv (.t 5))⟩,
    ⟨some 11, none, .p (.bin .add (.t 10) (.k (.c (C.int .i64 1))))⟩,
    ⟨some 5, none, .p (.mv (.t 11))⟩] [0, 1, 5]))) [0, 1, 5])))
  (.seq (.region [⟨some 24, none, .p (.mv (.t 0))⟩,
    ⟨some 25, none, .p (.lenStr (.t 24))⟩,
    ⟨some 26, none, .p (.mv (.t 1))⟩,
    ⟨some 27, none, .p (.bin .leq (.t 25) (.t 26))⟩,
    ⟨some 4, none, .p (.mv (.t 27))⟩] [4])
  .ret))) }
theorem a71_ok : okFn Try.prog 71 a71 = true := by kernel_rfl
/-- loop.example/g01215/spec.l1Stands -/
def a72 : AFn := { np := 2, nt := 17, res := [.t 4], body :=
  (.seq (.region [⟨some 4, none, .p (.mv (.k (.c (C.bool false))))⟩] [0, 1])
  (.seq (.seq (.region [⟨some 5, none, .p (.mv (.k (.c (C.int .i64 0))))⟩] [0, 1, 5])
  (.block 0 (.loop (.seq (.seq (.region [⟨some 6, none, .p (.mv (.t 5))⟩,
    ⟨some 7, none, .p (.mv (.t 0))⟩,
    ⟨some 8, none, .p (.lenStr (.t 7))⟩,
    ⟨some 9, none, .p (.bin .lss (.t 6) (.t 8))⟩] [0, 1, 5, 9])
  (.cond (.t 9)
  .skip
  (.exit 0)))
  (.seq (.block 1 (.seq (.region [⟨some 12, none, .p (.mv (.t 0))⟩,
    ⟨some 13, none, .p (.mv (.t 5))⟩,
    ⟨some 14, none, .p (.ixStr (.t 12) (.t 13))⟩,
    ⟨some 15, none, .p (.mv (.t 1))⟩,
    ⟨some 16, none, .p (.bin .eql (.t 14) (.t 15))⟩] [0, 1, 5, 16])
  (.cond (.t 16)
  (.seq (.region [⟨some 4, none, .p (.mv (.k (.c (C.bool true))))⟩] [4])
  .ret)
  .skip)))
  (.region [⟨some 10, none, .p (.mv (.t 5))⟩,
    ⟨some 11, none, .p (.bin .add (.t 10) (.k (.c (C.int .i64 1))))⟩,
    ⟨some 5, none, .p (.mv (.t 11))⟩] [0, 1, 5]))) [0, 1, 5])))
  (.seq (.region [⟨some 4, none, .p (.mv (.k (.c (C.bool false))))⟩] [4])
  .ret))) }
theorem a72_ok : okFn Try.prog 72 a72 = true := by kernel_rfl
/-- strings.Contains -/
def a73 : AFn := { np := 2, nt := 9, res := [.t 4], body :=
  (.seq (.region [⟨some 4, none, .p (.mv (.k (.c (C.bool false))))⟩] [0, 1])
  (.seq (.region [⟨some 5, none, .p (.mv (.t 0))⟩,
    ⟨some 6, none, .p (.mv (.t 1))⟩,
    ⟨some 7, none, .h (.call (.f 89) [.t 5, .t 6])⟩,
    ⟨some 8, none, .p (.bin .geq (.t 7) (.k (.c (C.int .i64 0))))⟩,
    ⟨some 4, none, .p (.mv (.t 8))⟩] [4])
  .ret)) }
theorem a73_ok : okFn Try.prog 73 a73 = true := by kernel_rfl
/-- loop.example/g01215/impl.areAll[byte] -/
def a74 : AFn := { np := 2, nt := 9, res := [.t 4], body :=
  (.seq (.region [⟨some 3, none, .p (.box 1 (.t 1))⟩,
    ⟨some 4, none, .p (.mv (.k (.c (C.bool false))))⟩] [0, 3])
  (.seq (.region [⟨some 5, none, .p (.mv (.t 0))⟩,
    ⟨some 6, none, .p (.mkfn 91 [.t 3])⟩,
    ⟨some 7, none, .h (.call (.f 90) [.t 5, .t 6])⟩,
    ⟨some 8, none, .p (.un .not (.t 7))⟩,
    ⟨some 4, none, .p (.mv (.t 8))⟩] [4])
  .ret)) }
theorem a74_ok : okFn Try.prog 74 a74 = true := by kernel_rfl
/-- loop.example/g01215/impl.isPlainText$1 -/
def a75 : AFn := { np := 1, nt := 9, res := [.t 2], body :=
  (.seq (.region [⟨some 2, none, .p (.mv (.k (.c (C.bool false))))⟩] [0])
  (.seq (.region [⟨some 3, none, .p (.mv (.t 0))⟩,
    ⟨some 4, none, .p (.bin .geq (.t 3) (.k (.c (C.int .u8 32))))⟩,
    ⟨some 5, none, .p (.mv (.t 4))⟩,
    ⟨some 6, some (5, true), .p (.mv (.t 0))⟩,
    ⟨some 7, some (5, true), .p (.bin .leq (.t 6) (.k (.c (C.int .u8 126))))⟩,
    ⟨some 8, none, .p (.pick (.t 5) (.t 7) (.k (.c (C.bool false))))⟩,
    ⟨some 2, none, .p (.mv (.t 8))⟩] [2])
  .ret)) }
theorem a75_ok : okFn Try.prog 75 a75 = true := by kernel_rfl
/-- loop.example/g01215/spec.l2Runs -/
def a76 : AFn := { np := 1, nt := 42, res := [.t 2], body :=
  (.seq (.region [⟨some 1, none, .p (.box 4 (.t 0))⟩,
    ⟨some 2, none, .p (.nilsl 2)⟩] [1])
  (.seq (.region [⟨some 5, none, .p (.mksl 2 0 [.k (C.int .i64 0), .k (C.int .i64 0)] [])⟩,
    ⟨some 3, none, .p (.mv (.t 5))⟩] [1, 3])
  (.seq (.seq (.region [⟨some 4, none, .p (.mv (.k (.c (C.int .i64 0))))⟩] [1, 3, 4])
  (.block 0 (.loop (.seq (.seq (.region [⟨some 6, none, .p (.mv (.t 4))⟩,
    ⟨some 7, none, .h (.load 4 true (.t 1))⟩,
    ⟨some 8, none, .h (.call (.f 87) [.t 7])⟩,
    ⟨some 9, none, .p (.bin .lss (.t 6) (.t 8))⟩] [1, 3, 4, 9])
  (.cond (.t 9)
  .skip
  (.exit 0)))
  (.seq (.block 1 (.seq (.regionD [⟨some 12, none, .p (.mv (.t 4))⟩,
    ⟨some 13, none, .p (.bin .gtr (.t 12) (.k (.c (C.int .i64 0))))⟩,
    ⟨some 14, none, .p (.mv (.t 13))⟩,
    ⟨some 15, some (14, true), .p (.mv (.t 4))⟩,
    ⟨some 16, some (14, true), .p (.ixA 4 1 (.t 1) (.t 15))⟩,
    ⟨some 17, some (14, true), .h (.load 1 false (.t 16))⟩,
    ⟨some 18, some (14, true), .p (.mv (.t 4))⟩,
    ⟨some 19, some (14, true), .p (.bin .sub (.t 18) (.k (.c (C.int .i64 1))))⟩,
    ⟨some 20, some (14, true), .p (.ixA 4 1 (.t 1) (.t 19))⟩,
    ⟨some 21, some (14, true), .h (.load 1 false (.t 20))⟩,
    ⟨some 22, some (14, true), .p (.bin .eql (.t 17) (.t 21))⟩,
    ⟨some 23, none, .p (.pick (.t 14) (.t 22) (.k (.c (C.bool false))))⟩] [1, 3, 4, 23] [])
  (.cond (.t 23)
  (.regionD [⟨some 24, none, .p (.mv (.t 3))⟩,
    ⟨some 25, none, .p (.mv (.t 3))⟩,
    ⟨some 26, none, .p (.len (.t 25))⟩,
    ⟨some 27, none, .p (.bin .sub (.t 26) (.k (.c (C.int .i64 1))))⟩,
    ⟨some 28, none, .p (.ixS 2 (.t 24) (.t 27))⟩,
    ⟨some 29, none, .p (.ixA 2 1 (.t 28) (.k (.c (C.int .i64 1))))⟩,
    ⟨some 30, none, .h (.load 1 false (.t 29))⟩,
    ⟨some 31, none, .p (.bin .add (.t 30) (.k (.c (C.int .i64 1))))⟩,
    ⟨some 32, none, .p (.ixS 2 (.t 24) (.t 27))⟩,
    ⟨some 33, none, .p (.ixA 2 1 (.t 32) (.k (.c (C.int .i64 1))))⟩,
    ⟨none, none, .h (.store 1 (.t 33) (.t 31))⟩] [1, 3, 4] [])
  (.region [⟨some 34, none, .p (.mv (.t 3))⟩,
    ⟨some 35, none, .p (.mv (.t 4))⟩,
    ⟨some 36, none, .p (.ixA 4 1 (.t 1) (.t 35))⟩,
    ⟨some 37, none, .h (.load 1 false (.t 36))⟩,
    ⟨some 38, none, .p (.build [.k (C.int .i64 0), .k (C.int .i64 0)] [(0, 1, .t 37), (1, 1, .k (.c (C.int .i64 1)))])⟩,
    ⟨some 39, none, .p (.mksl 2 1 [.k (C.int .i64 0), .k (C.int .i64 0)] [(0, 2, .t 38)])⟩,
    ⟨some 40, none, .h (.app 2 (.t 34) (.t 39))⟩,
    ⟨some 3, none, .p (.mv (.t 40))⟩] [1, 3, 4]))))
  (.region [⟨some 10, none, .p (.mv (.t 4))⟩,
    ⟨some 11, none, .p (.bin .add (.t 10) (.k (.c (C.int .i64 1))))⟩,
    ⟨some 4, none, .p (.mv (.t 11))⟩] [1, 3, 4]))) [1, 3, 4])))
  (.seq (.region [⟨some 41, none, .p (.mv (.t 3))⟩,
    ⟨some 2, none, .p (.mv (.t 41))⟩] [2])
  .ret)))) }
theorem a76_ok : okFn Try.prog 76 a76 = true := by kernel_rfl
/-- loop.example/g01215/impl.countRuns -/
def a77 : AFn := { np := 1, nt := 18, res := [.t 2], body :=
  (.seq (.region [⟨some 1, none, .p (.box 24 (.t 0))⟩,
    ⟨some 2, none, .p (.mv (.k (.c (C.int .i64 0))))⟩] [1])
  (.seq (.region [⟨some 3, none, .p (.mv (.k (.c (C.int .i64 0))))⟩] [1, 3])
  (.seq (.seq (.region [⟨some 6, none, .p (.fld 0 (.t 1))⟩,
    ⟨some 7, none, .h (.load 24 true (.t 6))⟩,
    ⟨some 8, none, .p (.mv (.k (.c (C.int .i64 0))))⟩] [3, 7, 8])
  (.block 0 (.loop (.seq (.region [⟨some 9, none, .p (.bin .lss (.t 8) (.k (.c (C.int .i64 6))))⟩] [3, 7, 8, 9])
  (.seq (.cond (.t 9)
  .skip
  (.exit 0))
  (.seq (.block 1 (.seq (.region [⟨some 10, none, .p (.ixV 6 4 true (.t 7) (.t 8))⟩,
    ⟨some 5, none, .p (.alloc [.k (C.int .i64 0), .k (C.int .i64 0), .k (C.int .i64 0), .k (C.int .i64 0)])⟩,
    ⟨none, none, .h (.store 4 (.t 5) (.t 10))⟩] [3, 5, 7, 8])
  (.region [⟨some 11, none, .p (.mv (.t 3))⟩,
    ⟨some 12, none, .h (.load 4 true (.t 5))⟩,
    ⟨some 13, none, .h (.call (.f 88) [.t 12])⟩,
    ⟨some 14, none, .p (.len (.t 13))⟩,
    ⟨some 15, none, .p (.bin .add (.t 11) (.t 14))⟩,
    ⟨some 3, none, .p (.mv (.t 15))⟩] [3, 7, 8])))
  (.region [⟨some 16, none, .p (.bin .add (.t 8) (.k (.c (C.int .i64 1))))⟩,
    ⟨some 8, none, .p (.mv (.t 16))⟩] [3, 7, 8])))) [3, 7, 8])))
  (.seq (.region [⟨some 17, none, .p (.mv (.t 3))⟩,
    ⟨some 2, none, .p (.mv (.t 17))⟩] [2])
  .ret)))) }
theorem a77_ok : okFn Try.prog 77 a77 = true := by kernel_rfl
/-- loop.example/g01215/impl.countColors -/
def a78 : AFn := { np := 1, nt := 25, res := [.cell 2 6 true], body :=
  (.seq (.region [⟨some 1, none, .p (.box 24 (.t 0))⟩,
    ⟨some 2, none, .p (.alloc [.k (C.int .i64 0), .k (C.int .i64 0), .k (C.int .i64 0), .k (C.int .i64 0), .k (C.int .i64 0), .k (C.int .i64 0)])⟩] [1, 2])
  (.seq (.region [⟨some 3, none, .p (.alloc [.k (C.int .i64 0), .k (C.int .i64 0), .k (C.int .i64 0), .k (C.int .i64 0), .k (C.int .i64 0), .k (C.int .i64 0)])⟩] [1, 2, 3])
  (.seq (.seq (.region [⟨some 8, none, .p (.fld 0 (.t 1))⟩,
    ⟨some 9, none, .h (.load 24 true (.t 8))⟩,
    ⟨some 10, none, .p (.mv (.k (.c (C.int .i64 0))))⟩] [2, 3, 9, 10])
  (.block 0 (.loop (.seq (.region [⟨some 11, none, .p (.bin .lss (.t 10) (.k (.c (C.int .i64 6))))⟩] [2, 3, 9, 10, 11])
  (.seq (.cond (.t 11)
  .skip
  (.exit 0))
  (.seq (.block 1 (.seq (.region [⟨some 12, none, .p (.ixV 6 4 true (.t 9) (.t 10))⟩,
    ⟨some 5, none, .p (.alloc [.k (C.int .i64 0), .k (C.int .i64 0), .k (C.int .i64 0), .k (C.int .i64 0)])⟩,
    ⟨none, none, .h (.store 4 (.t 5) (.t 12))⟩] [2, 3, 5, 9, 10])
  (.seq (.region [⟨some 13, none, .h (.load 4 true (.t 5))⟩,
    ⟨some 14, none, .p (.mv (.k (.c (C.int .i64 0))))⟩] [2, 3, 9, 10, 13, 14])
  (.block 2 (.loop (.seq (.region [⟨some 15, none, .p (.bin .lss (.t 14) (.k (.c (C.int .i64 4))))⟩] [2, 3, 9, 10, 13, 14, 15])
  (.seq (.cond (.t 15)
  .skip
  (.exit 2))
  (.seq (.block 3 (.seq (.region [⟨some 16, none, .p (.ixV 4 1 false (.t 13) (.t 14))⟩,
    ⟨some 7, none, .p (.mv (.t 16))⟩] [2, 3, 7, 9, 10, 13, 14])
  (.region [⟨some 17, none, .p (.mv (.t 7))⟩,
    ⟨some 18, none, .p (.ixA 6 1 (.t 3) (.t 17))⟩,
    ⟨some 19, none, .h (.load 1 false (.t 18))⟩,
    ⟨some 20, none, .p (.bin .add (.t 19) (.k (.c (C.int .i64 1))))⟩,
    ⟨some 21, none, .p (.ixA 6 1 (.t 3) (.t 17))⟩,
    ⟨none, none, .h (.store 1 (.t 21) (.t 20))⟩] [2, 3, 9, 10, 13, 14])))
  (.region [⟨some 22, none, .p (.bin .add (.t 14) (.k (.c (C.int .i64 1))))⟩,
    ⟨some 14, none, .p (.mv (.t 22))⟩] [2, 3, 9, 10, 13, 14])))) [2, 3, 9, 10, 13, 14])))))
  (.region [⟨some 23, none, .p (.bin .add (.t 10) (.k (.c (C.int .i64 1))))⟩,
    ⟨some 10, none, .p (.mv (.t 23))⟩] [2, 3, 9, 10])))) [2, 3, 9, 10])))
  (.seq (.region [⟨some 24, none, .h (.load 6 true (.t 3))⟩,
    ⟨none, none, .h (.store 6 (.t 2) (.t 24))⟩] [2])
  .ret)))) }
theorem a78_ok : okFn Try.prog 78 a78 = true := by kernel_rfl
/-- slices.ContainsFunc[[][4]int,[4]int] -/
def a79 : AFn := { np := 2, nt := 9, res := [.t 4], body :=
  (.seq (.region [⟨some 4, none, .p (.mv (.k (.c (C.bool false))))⟩] [0, 1])
  (.seq (.region [⟨some 5, none, .p (.mv (.t 0))⟩,
    ⟨some 6, none, .p (.mv (.t 1))⟩,
    ⟨some 7, none, .h (.call (.f 92) [.t 5, .t 6])⟩,
    ⟨some 8, none, .p (.bin .geq (.t 7) (.k (.c (C.int .i64 0))))⟩,
    ⟨some 4, none, .p (.mv (.t 8))⟩] [4])
  .ret)) }
theorem a79_ok : okFn Try.prog 79 a79 = true := by kernel_rfl
/-- loop.example/g01215/impl.areAll[[4]int]$1 -/
def a80 : AFn := { np := 2, nt := 8, res := [.t 3], body :=
  (.seq (.region [⟨some 2, none, .p (.box 4 (.t 0))⟩,
    ⟨some 3, none, .p (.mv (.k (.c (C.bool false))))⟩] [1, 2])
  (.seq (.region [⟨some 4, none, .h (.load 1 false (.t 1))⟩,
    ⟨some 5, none, .h (.load 4 true (.t 2))⟩,
    ⟨some 6, none, .h (.call (.t 4) [.t 5])⟩,
    ⟨some 7, none, .p (.un .not (.t 6))⟩,
    ⟨some 3, none, .p (.mv (.t 7))⟩] [3])
  .ret)) }
theorem a80_ok : okFn Try.prog 80 a80 = true := by kernel_rfl
/-- loop.example/g01215/impl.layers -/
def a81 : AFn := { np := 1, nt := 9, res := [.t 2], body :=
  (.seq (.region [⟨some 1, none, .p (.box 4 (.t 0))⟩,
    ⟨some 2, none, .p (.mv (.k (.c (C.int .i64 0))))⟩] [1])
  (.seq (.region [⟨some 4, none, .h (.slA 4 1 (.t 1) none none)⟩,
    ⟨some 5, none, .h (.call (.f 93) [.t 4, .k (.c (C.int .i64 0))])⟩,
    ⟨some 3, none, .p (.mv (.t 5))⟩] [3])
  (.seq (.seq (.region [⟨some 6, none, .p (.mv (.t 3))⟩,
    ⟨some 7, none, .p (.bin .lss (.t 6) (.k (.c (C.int .i64 0))))⟩] [3, 7])
  (.cond (.t 7)
  (.seq (.region [⟨some 2, none, .p (.mv (.k (.c (C.int .i64 4))))⟩] [2])
  .ret)
  .skip))
  (.seq (.region [⟨some 8, none, .p (.mv (.t 3))⟩,
    ⟨some 2, none, .p (.mv (.t 8))⟩] [2])
  .ret)))) }
theorem a81_ok : okFn Try.prog 81 a81 = true := by kernel_rfl
/-- loop.example/g01215/impl.isColor -/
def a82 : AFn := { np := 1, nt := 5, res := [.t 2], body :=
  (.seq (.region [⟨some 2, none, .p (.mv (.k (.c (C.bool false))))⟩] [0])
  (.seq (.region [⟨some 3, none, .p (.mv (.t 0))⟩,
    ⟨some 4, none, .h (.call (.f 37) [.t 3, .k (.c (C.int .i64 1)), .k (.c (C.int .i64 5))])⟩,
    ⟨some 2, none, .p (.mv (.t 4))⟩] [2])
  .ret)) }
theorem a82_ok : okFn Try.prog 82 a82 = true := by kernel_rfl
/-- loop.example/g01215/impl.isTube$1 -/
def a83 : AFn := { np := 1, nt := 5, res := [.t 2], body :=
  (.seq (.region [⟨some 2, none, .p (.mv (.k (.c (C.bool false))))⟩] [0])
  (.seq (.region [⟨some 3, none, .p (.mv (.t 0))⟩,
    ⟨some 4, none, .p (.bin .eql (.t 3) (.k (.c (C.int .i64 0))))⟩,
    ⟨some 2, none, .p (.mv (.t 4))⟩] [2])
  .ret)) }
theorem a83_ok : okFn Try.prog 83 a83 = true := by kernel_rfl
/-- loop.example/g01215/laws.eqIntA4 -/
def a84 : AFn := { np := 2, nt := 17, res := [.t 4], body :=
  (.seq (.region [⟨some 2, none, .p (.box 4 (.t 0))⟩,
    ⟨some 3, none, .p (.box 4 (.t 1))⟩,
    ⟨some 4, none, .p (.mv (.k (.c (C.bool false))))⟩] [2, 3])
  (.seq (.seq (.region [⟨some 5, none, .p (.mv (.k (.c (C.int .i64 0))))⟩] [2, 3, 5])
  (.block 0 (.loop (.seq (.seq (.region [⟨some 6, none, .p (.mv (.t 5))⟩,
    ⟨some 7, none, .p (.bin .lss (.t 6) (.k (.c (C.int .i64 4))))⟩] [2, 3, 5, 7])
  (.cond (.t 7)
  .skip
  (.exit 0)))
  (.seq (.block 1 (.seq (.regionD [⟨some 10, none, .p (.mv (.t 5))⟩,
    ⟨some 11, none, .p (.ixA 4 1 (.t 2) (.t 10))⟩,
    ⟨some 12, none, .h (.load 1 false (.t 11))⟩,
    ⟨some 13, none, .p (.mv (.t 5))⟩,
    ⟨some 14, none, .p (.ixA 4 1 (.t 3) (.t 13))⟩,
    ⟨some 15, none, .h (.load 1 false (.t 14))⟩,
    ⟨some 16, none, .p (.bin .neq (.t 12) (.t 15))⟩] [2, 3, 5, 16] [])
  (.cond (.t 16)
  (.seq (.region [⟨some 4, none, .p (.mv (.k (.c (C.bool false))))⟩] [4])
  .ret)
  .skip)))
  (.region [⟨some 8, none, .p (.mv (.t 5))⟩,
    ⟨some 9, none, .p (.bin .add (.t 8) (.k (.c (C.int .i64 1))))⟩,
    ⟨some 5, none, .p (.mv (.t 9))⟩] [2, 3, 5]))) [2, 3, 5])))
  (.seq (.region [⟨some 4, none, .p (.mv (.k (.c (C.bool true))))⟩] [4])
  .ret))) }
theorem a84_ok : okFn Try.prog 84 a84 = true := by kernel_rfl
/-- slices.ContainsFunc[[]int,int] -/
def a85 : AFn := { np := 2, nt := 9, res := [.t 4], body :=
  (.seq (.region [⟨some 4, none, .p (.mv (.k (.c (C.bool false))))⟩] [0, 1])
  (.seq (.region [⟨some 5, none, .p (.mv (.t 0))⟩,
    ⟨some 6, none, .p (.mv (.t 1))⟩,
    ⟨some 7, none, .h (.call (.f 94) [.t 5, .t 6])⟩,
    ⟨some 8, none, .p (.bin .geq (.t 7) (.k (.c (C.int .i64 0))))⟩,
    ⟨some 4, none, .p (.mv (.t 8))⟩] [4])
  .ret)) }
theorem a85_ok : okFn Try.prog 85 a85 = true := by kernel_rfl
/-- loop.example/g01215/impl.areAll[int]$1 -/
def a86 : AFn := { np := 2, nt := 8, res := [.t 3], body :=
  (.seq (.region [⟨some 3, none, .p (.mv (.k (.c (C.bool false))))⟩] [0, 1])
  (.seq (.region [⟨some 4, none, .h (.load 1 false (.t 1))⟩,
    ⟨some 5, none, .p (.mv (.t 0))⟩,
    ⟨some 6, none, .h (.call (.t 4) [.t 5])⟩,
    ⟨some 7, none, .p (.un .not (.t 6))⟩,
    ⟨some 3, none, .p (.mv (.t 7))⟩] [3])
  .ret)) }
theorem a86_ok : okFn Try.prog 86 a86 = true := by kernel_rfl
/-- loop.example/g01215/spec.l2Many -/
def a87 : AFn := { np := 1, nt := 16, res := [.t 2], body :=
  (.seq (.region [⟨some 1, none, .p (.box 4 (.t 0))⟩,
    ⟨some 2, none, .p (.mv (.k (.c (C.int .i64 0))))⟩] [1])
  (.seq (.region [⟨some 3, none, .p (.mv (.k (.c (C.int .i64 0))))⟩] [1, 3])
  (.seq (.seq (.region [⟨some 4, none, .p (.mv (.k (.c (C.int .i64 0))))⟩] [1, 3, 4])
  (.block 0 (.loop (.seq (.seq (.region [⟨some 5, none, .p (.mv (.t 4))⟩,
    ⟨some 6, none, .p (.bin .lss (.t 5) (.k (.c (C.int .i64 4))))⟩] [1, 3, 4, 6])
  (.cond (.t 6)
  .skip
  (.exit 0)))
  (.seq (.block 1 (.seq (.region [⟨some 9, none, .p (.mv (.t 4))⟩,
    ⟨some 10, none, .p (.ixA 4 1 (.t 1) (.t 9))⟩,
    ⟨some 11, none, .h (.load 1 false (.t 10))⟩,
    ⟨some 12, none, .p (.bin .gtr (.t 11) (.k (.c (C.int .i64 0))))⟩] [1, 3, 4, 12])
  (.cond (.t 12)
  (.region [⟨some 13, none, .p (.mv (.t 3))⟩,
    ⟨some 14, none, .p (.bin .add (.t 13) (.k (.c (C.int .i64 1))))⟩,
    ⟨some 3, none, .p (.mv (.t 14))⟩] [1, 3, 4])
  .skip)))
  (.region [⟨some 7, none, .p (.mv (.t 4))⟩,
    ⟨some 8, none, .p (.bin .add (.t 7) (.k (.c (C.int .i64 1))))⟩,
    ⟨some 4, none, .p (.mv (.t 8))⟩] [1, 3, 4]))) [1, 3, 4])))
  (.seq (.region [⟨some 15, none, .p (.mv (.t 3))⟩,
    ⟨some 2, none, .p (.mv (.t 15))⟩] [2])
  .ret)))) }
theorem a87_ok : okFn Try.prog 87 a87 = true := by kernel_rfl
/-- loop.example/g01215/impl.runs -/
def a88 : AFn := { np := 1, nt := 45, res := [.t 2], body :=
  (.seq (.region [⟨some 1, none, .p (.box 4 (.t 0))⟩,
    ⟨some 2, none, .p (.nilsl 2)⟩] [1])
  (.seq (.region [⟨some 3, none, .p (.nilsl 2)⟩] [1, 3])
  (.seq (.seq (.region [⟨some 7, none, .h (.load 4 true (.t 1))⟩,
    ⟨some 8, none, .h (.call (.f 81) [.t 7])⟩,
    ⟨some 9, none, .h (.slA 4 1 (.t 1) none (some (.t 8)))⟩,
    ⟨some 10, none, .p (.len (.t 9))⟩,
    ⟨some 11, none, .p (.mv (.k (.c (C.int .i64 0))))⟩] [3, 9, 10, 11])
  (.block 0 (.loop (.seq (.region [⟨some 12, none, .p (.bin .lss (.t 11) (.t 10))⟩] [3, 9, 10, 11, 12])
  (.seq (.cond (.t 12)
  .skip
  (.exit 0))
  (.seq (.block 1 (.seq (.region [⟨some 13, none, .p (.ixS 1 (.t 9) (.t 11))⟩,
    ⟨some 14, none, .h (.load 1 false (.t 13))⟩,
    ⟨some 5, none, .p (.mv (.t 14))⟩] [3, 5, 9, 10, 11])
  (.seq (.region [⟨some 15, none, .p (.mv (.t 3))⟩,
    ⟨some 16, none, .p (.len (.t 15))⟩,
    ⟨some 6, none, .p (.mv (.t 16))⟩] [3, 5, 6, 9, 10, 11])
  (.seq (.region [⟨some 17, none, .p (.mv (.t 6))⟩,
    ⟨some 18, none, .p (.bin .gtr (.t 17) (.k (.c (C.int .i64 0))))⟩,
    ⟨some 19, none, .p (.mv (.t 18))⟩,
    ⟨some 20, some (19, true), .p (.mv (.t 3))⟩,
    ⟨some 21, some (19, true), .p (.mv (.t 6))⟩,
    ⟨some 22, some (19, true), .p (.bin .sub (.t 21) (.k (.c (C.int .i64 1))))⟩,
    ⟨some 23, some (19, true), .p (.ixS 2 (.t 20) (.t 22))⟩,
    ⟨some 24, some (19, true), .p (.ixA 2 1 (.t 23) (.k (.c (C.int .i64 0))))⟩,
    ⟨some 25, some (19, true), .h (.load 1 false (.t 24))⟩,
    ⟨some 26, some (19, true), .p (.mv (.t 5))⟩,
    ⟨some 27, some (19, true), .p (.bin .eql (.t 25) (.t 26))⟩,
    ⟨some 28, none, .p (.pick (.t 19) (.t 27) (.k (.c (C.bool false))))⟩] [3, 5, 6, 9, 10, 11, 28])
  (.cond (.t 28)
  (.regionD [⟨some 29, none, .p (.mv (.t 3))⟩,
    ⟨some 30, none, .p (.mv (.t 6))⟩,
    ⟨some 31, none, .p (.bin .sub (.t 30) (.k (.c (C.int .i64 1))))⟩,
    ⟨some 32, none, .p (.ixS 2 (.t 29) (.t 31))⟩,
    ⟨some 33, none, .p (.ixA 2 1 (.t 32) (.k (.c (C.int .i64 1))))⟩,
    ⟨some 34, none, .h (.load 1 false (.t 33))⟩,
    ⟨some 35, none, .p (.bin .add (.t 34) (.k (.c (C.int .i64 1))))⟩,
    ⟨some 36, none, .p (.ixS 2 (.t 29) (.t 31))⟩,
    ⟨some 37, none, .p (.ixA 2 1 (.t 36) (.k (.c (C.int .i64 1))))⟩,
    ⟨none, none, .h (.store 1 (.t 37) (.t 35))⟩] [3, 9, 10, 11] [])
  (.region [⟨some 38, none, .p (.mv (.t 3))⟩,
    ⟨some 39, none, .p (.mv (.t 5))⟩,
    ⟨some 40, none, .p (.build [.k (C.int .i64 0), .k (C.int .i64 0)] [(0, 1, .t 39), (1, 1, .k (.c (C.int .i64 1)))])⟩,
    ⟨some 41, none, .p (.mksl 2 1 [.k (C.int .i64 0), .k (C.int .i64 0)] [(0, 2, .t 40)])⟩,
    ⟨some 42, none, .h (.app 2 (.t 38) (.t 41))⟩,
    ⟨some 3, none, .p (.mv (.t 42))⟩] [3, 9, 10, 11]))))))
  (.region [⟨some 43, none, .p (.bin .add (.t 11) (.k (.c (C.int .i64 1))))⟩,
    ⟨some 11, none, .p (.mv (.t 43))⟩] [3, 9, 10, 11])))) [3, 9, 10, 11])))
  (.seq (.region [⟨some 44, none, .p (.mv (.t 3))⟩,
    ⟨some 2, none, .p (.mv (.t 44))⟩] [2])
  .ret)))) }
theorem a88_ok : okFn Try.prog 88 a88 = true := by kernel_rfl
/-- strings.Index -/
def a89 : AFn := { np := 2, nt := 8, res := [.t 4], body :=
  (.seq (.region [⟨some 4, none, .p (.mv (.k (.c (C.int .i64 0))))⟩] [0, 1])
  (.seq (.region [⟨some 5, none, .p (.mv (.t 0))⟩,
    ⟨some 6, none, .p (.mv (.t 1))⟩,
    ⟨some 7, none, .h (.call (.f 95) [.t 5, .t 6])⟩,
    ⟨some 4, none, .p (.mv (.t 7))⟩] [4])
  .ret)) }
theorem a89_ok : okFn Try.prog 89 a89 = true := by kernel_rfl
/-- slices.ContainsFunc[[]byte,byte] -/
def a90 : AFn := { np := 2, nt := 9, res := [.t 4], body :=
  (.seq (.region [⟨some 4, none, .p (.mv (.k (.c (C.bool false))))⟩] [0, 1])
  (.seq (.region [⟨some 5, none, .p (.mv (.t 0))⟩,
    ⟨some 6, none, .p (.mv (.t 1))⟩,
    ⟨some 7, none, .h (.call (.f 96) [.t 5, .t 6])⟩,
    ⟨some 8, none, .p (.bin .geq (.t 7) (.k (.c (C.int .i64 0))))⟩,
    ⟨some 4, none, .p (.mv (.t 8))⟩] [4])
  .ret)) }
theorem a90_ok : okFn Try.prog 90 a90 = true := by kernel_rfl
/-- loop.example/g01215/impl.areAll[byte]$1 -/
def a91 : AFn := { np := 2, nt := 8, res := [.t 3], body :=
  (.seq (.region [⟨some 3, none, .p (.mv (.k (.c (C.bool false))))⟩] [0, 1])
  (.seq (.region [⟨some 4, none, .h (.load 1 false (.t 1))⟩,
    ⟨some 5, none, .p (.mv (.t 0))⟩,
    ⟨some 6, none, .h (.call (.t 4) [.t 5])⟩,
    ⟨some 7, none, .p (.un .not (.t 6))⟩,
    ⟨some 3, none, .p (.mv (.t 7))⟩] [3])
  .ret)) }
theorem a91_ok : okFn Try.prog 91 a91 = true := by kernel_rfl
/-- slices.IndexFunc[[][4]int,[4]int] -/
def a92 : AFn := { np := 2, nt := 19, res := [.t 4], body :=
  (.seq (.region [⟨some 4, none, .p (.mv (.k (.c (C.int .i64 0))))⟩] [0, 1])
  (.seq (.seq (.region [⟨some 6, none, .p (.mv (.t 0))⟩,
    ⟨some 7, none, .p (.len (.t 6))⟩,
    ⟨some 8, none, .p (.mv (.k (.c (C.int .i64 0))))⟩] [0, 1, 7, 8])
  (.block 0 (.loop (.seq (.region [⟨some 9, none, .p (.bin .lss (.t 8) (.t 7))⟩] [0, 1, 7, 8, 9])
  (.seq (.cond (.t 9)
  .skip
  (.exit 0))
  (.seq (.block 1 (.seq (.region [⟨some 10, none, .p (.mv (.t 8))⟩,
    ⟨some 5, none, .p (.mv (.t 10))⟩] [0, 1, 5, 7, 8])
  (.seq (.region [⟨some 11, none, .p (.mv (.t 1))⟩,
    ⟨some 12, none, .p (.mv (.t 0))⟩,
    ⟨some 13, none, .p (.mv (.t 5))⟩,
    ⟨some 14, none, .p (.ixS 4 (.t 12) (.t 13))⟩,
    ⟨some 15, none, .h (.load 4 true (.t 14))⟩,
    ⟨some 16, none, .h (.call (.t 11) [.t 15])⟩] [0, 1, 5, 7, 8, 16])
  (.cond (.t 16)
  (.seq (.region [⟨some 17, none, .p (.mv (.t 5))⟩,
    ⟨some 4, none, .p (.mv (.t 17))⟩] [4])
  .ret)
  .skip))))
  (.region [⟨some 18, none, .p (.bin .add (.t 8) (.k (.c (C.int .i64 1))))⟩,
    ⟨some 8, none, .p (.mv (.t 18))⟩] [0, 1, 7, 8])))) [0, 1, 7, 8])))
  (.seq (.region [⟨some 4, none, .p (.mv (.k (.c (C.int .i64 (-1)))))⟩] [4])
  .ret))) }
theorem a92_ok : okFn Try.prog 92 a92 = true := by kernel_rfl
/-- slices.Index[[]int,int] -/
def a93 : AFn := { np := 2, nt := 19, res := [.t 4], body :=
  (.seq (.region [⟨some 4, none, .p (.mv (.k (.c (C.int .i64 0))))⟩] [0, 1])
  (.seq (.seq (.region [⟨some 6, none, .p (.mv (.t 0))⟩,
    ⟨some 7, none, .p (.len (.t 6))⟩,
    ⟨some 8, none, .p (.mv (.k (.c (C.int .i64 0))))⟩] [0, 1, 7, 8])
  (.block 0 (.loop (.seq (.region [⟨some 9, none, .p (.bin .lss (.t 8) (.t 7))⟩] [0, 1, 7, 8, 9])
  (.seq (.cond (.t 9)
  .skip
  (.exit 0))
  (.seq (.block 1 (.seq (.region [⟨some 10, none, .p (.mv (.t 8))⟩,
    ⟨some 5, none, .p (.mv (.t 10))⟩] [0, 1, 5, 7, 8])
  (.seq (.region [⟨some 11, none, .p (.mv (.t 1))⟩,
    ⟨some 12, none, .p (.mv (.t 0))⟩,
    ⟨some 13, none, .p (.mv (.t 5))⟩,
    ⟨some 14, none, .p (.ixS 1 (.t 12) (.t 13))⟩,
    ⟨some 15, none, .h (.load 1 false (.t 14))⟩,
    ⟨some 16, none, .p (.bin .eql (.t 11) (.t 15))⟩] [0, 1, 5, 7, 8, 16])
  (.cond (.t 16)
  (.seq (.region [⟨some 17, none, .p (.mv (.t 5))⟩,
    ⟨some 4, none, .p (.mv (.t 17))⟩] [4])
  .ret)
  .skip))))
  (.region [⟨some 18, none, .p (.bin .add (.t 8) (.k (.c (C.int .i64 1))))⟩,
    ⟨some 8, none, .p (.mv (.t 18))⟩] [0, 1, 7, 8])))) [0, 1, 7, 8])))
  (.seq (.region [⟨some 4, none, .p (.mv (.k (.c (C.int .i64 (-1)))))⟩] [4])
  .ret))) }
theorem a93_ok : okFn Try.prog 93 a93 = true := by kernel_rfl
/-- slices.IndexFunc[[]int,int] -/
def a94 : AFn := { np := 2, nt := 19, res := [.t 4], body :=
  (.seq (.region [⟨some 4, none, .p (.mv (.k (.c (C.int .i64 0))))⟩] [0, 1])
  (.seq (.seq (.region [⟨some 6, none, .p (.mv (.t 0))⟩,
    ⟨some 7, none, .p (.len (.t 6))⟩,
    ⟨some 8, none, .p (.mv (.k (.c (C.int .i64 0))))⟩] [0, 1, 7, 8])
  (.block 0 (.loop (.seq (.region [⟨some 9, none, .p (.bin .lss (.t 8) (.t 7))⟩] [0, 1, 7, 8, 9])
  (.seq (.cond (.t 9)
  .skip
  (.exit 0))
  (.seq (.block 1 (.seq (.region [⟨some 10, none, .p (.mv (.t 8))⟩,
    ⟨some 5, none, .p (.mv (.t 10))⟩] [0, 1, 5, 7, 8])
  (.seq (.region [⟨some 11, none, .p (.mv (.t 1))⟩,
    ⟨some 12, none, .p (.mv (.t 0))⟩,
    ⟨some 13, none, .p (.mv (.t 5))⟩,
    ⟨some 14, none, .p (.ixS 1 (.t 12) (.t 13))⟩,
    ⟨some 15, none, .h (.load 1 false (.t 14))⟩,
    ⟨some 16, none, .h (.call (.t 11) [.t 15])⟩] [0, 1, 5, 7, 8, 16])
  (.cond (.t 16)
  (.seq (.region [⟨some 17, none, .p (.mv (.t 5))⟩,
    ⟨some 4, none, .p (.mv (.t 17))⟩] [4])
  .ret)
  .skip))))
  (.region [⟨some 18, none, .p (.bin .add (.t 8) (.k (.c (C.int .i64 1))))⟩,
    ⟨some 8, none, .p (.mv (.t 18))⟩] [0, 1, 7, 8])))) [0, 1, 7, 8])))
  (.seq (.region [⟨some 4, none, .p (.mv (.k (.c (C.int .i64 (-1)))))⟩] [4])
  .ret))) }
theorem a94_ok : okFn Try.prog 94 a94 = true := by kernel_rfl
/-- slices.IndexFunc[[]byte,byte] -/
def a96 : AFn := { np := 2, nt := 19, res := [.t 4], body :=
  (.seq (.region [⟨some 4, none, .p (.mv (.k (.c (C.int .i64 0))))⟩] [0, 1])
  (.seq (.seq (.region [⟨some 6, none, .p (.mv (.t 0))⟩,
    ⟨some 7, none, .p (.len (.t 6))⟩,
    ⟨some 8, none, .p (.mv (.k (.c (C.int .i64 0))))⟩] [0, 1, 7, 8])
  (.block 0 (.loop (.seq (.region [⟨some 9, none, .p (.bin .lss (.t 8) (.t 7))⟩] [0, 1, 7, 8, 9])
  (.seq (.cond (.t 9)
  .skip
  (.exit 0))
  (.seq (.block 1 (.seq (.region [⟨some 10, none, .p (.mv (.t 8))⟩,
    ⟨some 5, none, .p (.mv (.t 10))⟩] [0, 1, 5, 7, 8])
  (.seq (.region [⟨some 11, none, .p (.mv (.t 1))⟩,
    ⟨some 12, none, .p (.mv (.t 0))⟩,
    ⟨some 13, none, .p (.mv (.t 5))⟩,
    ⟨some 14, none, .p (.ixS 1 (.t 12) (.t 13))⟩,
    ⟨some 15, none, .h (.load 1 false (.t 14))⟩,
    ⟨some 16, none, .h (.call (.t 11) [.t 15])⟩] [0, 1, 5, 7, 8, 16])
  (.cond (.t 16)
  (.seq (.region [⟨some 17, none, .p (.mv (.t 5))⟩,
    ⟨some 4, none, .p (.mv (.t 17))⟩] [4])
  .ret)
  .skip))))
  (.region [⟨some 18, none, .p (.bin .add (.t 8) (.k (.c (C.int .i64 1))))⟩,
    ⟨some 8, none, .p (.mv (.t 18))⟩] [0, 1, 7, 8])))) [0, 1, 7, 8])))
  (.seq (.region [⟨some 4, none, .p (.mv (.k (.c (C.int .i64 (-1)))))⟩] [4])
  .ret))) }
theorem a96_ok : okFn Try.prog 96 a96 = true := by kernel_rfl
/-- internal/stringslite.IndexByte -/
def a97 : AFn := { np := 2, nt := 8, res := [.t 4], body :=
  (.seq (.region [⟨some 4, none, .p (.mv (.k (.c (C.int .i64 0))))⟩] [0, 1])
  (.seq (.region [⟨some 5, none, .p (.mv (.t 0))⟩,
    ⟨some 6, none, .p (.mv (.t 1))⟩,
    ⟨some 7, none, .h (.call (.f 101) [.t 5, .t 6])⟩,
    ⟨some 4, none, .p (.mv (.t 7))⟩] [4])
  .ret)) }
theorem a97_ok : okFn Try.prog 97 a97 = true := by kernel_rfl
/-- internal/bytealg.Cutover -/
def a99 : AFn := { np := 1, nt := 6, res := [.t 2], body :=
  (.seq (.region [⟨some 2, none, .p (.mv (.k (.c (C.int .i64 0))))⟩] [0])
  (.seq (.region [⟨some 3, none, .p (.mv (.t 0))⟩,
    ⟨some 4, none, .p (.bin .add (.t 3) (.k (.c (C.int .i64 16))))⟩,
    ⟨some 5, none, .p (.bin .quo (.t 4) (.k (.c (C.int .i64 8))))⟩,
    ⟨some 2, none, .p (.mv (.t 5))⟩] [2])
  .ret)) }
theorem a99_ok : okFn Try.prog 99 a99 = true := by kernel_rfl
/-- internal/bytealg.IndexRabinKarp[string] -/
def a100 : AFn := { np := 2, nt := 81, res := [.t 4], body :=
  (.seq (.region [⟨some 4, none, .p (.mv (.k (.c (C.int .i64 0))))⟩] [0, 1])
  (.seq (.region [⟨some 12, none, .p (.mv (.t 1))⟩,
    ⟨some 13, none, .h (.call (.f 102) [.t 12])⟩,
    ⟨some 11, none, .p (.mv (.t 13))⟩,
    ⟨some 14, none, .p (.ext (.t 11) 0)⟩,
    ⟨some 15, none, .p (.ext (.t 11) 1)⟩,
    ⟨some 5, none, .p (.mv (.t 14))⟩,
    ⟨some 6, none, .p (.mv (.t 15))⟩] [0, 1, 5, 6])
  (.seq (.region [⟨some 16, none, .p (.mv (.t 1))⟩,
    ⟨some 17, none, .p (.lenStr (.t 16))⟩,
    ⟨some 7, none, .p (.mv (.t 17))⟩] [0, 1, 5, 6, 7])
  (.seq (.region [⟨some 8, none, .p (.mv (.k (.c (C.int .u32 0))))⟩] [0, 1, 5, 6, 7, 8])
  (.seq (.seq (.region [⟨some 9, none, .p (.mv (.k (.c (C.int .i64 0))))⟩] [0, 1, 5, 6, 7, 8, 9])
  (.block 0 (.loop (.seq (.seq (.region [⟨some 18, none, .p (.mv (.t 9))⟩,
    ⟨some 19, none, .p (.mv (.t 7))⟩,
    ⟨some 20, none, .p (.bin .lss (.t 18) (.t 19))⟩] [0, 1, 5, 6, 7, 8, 9, 20])
  (.cond (.t 20)
  .skip
  (.exit 0)))
  (.seq (.block 1 (.region [⟨some 23, none, .p (.mv (.t 8))⟩,
    ⟨some 24, none, .p (.bin .mul (.t 23) (.k (.c (C.int .u32 16777619))))⟩,
    ⟨some 25, none, .p (.mv (.t 0))⟩,
    ⟨some 26, none, .p (.mv (.t 9))⟩,
    ⟨some 27, none, .p (.ixStr (.t 25) (.t 26))⟩,
    ⟨some 28, none, .p (.conv .u32 (.t 27))⟩,
    ⟨some 29, none, .p (.bin .add (.t 24) (.t 28))⟩,
    ⟨some 8, none, .p (.mv (.t 29))⟩] [0, 1, 5, 6, 7, 8, 9]))
  (.region [⟨some 21, none, .p (.mv (.t 9))⟩,
    ⟨some 22, none, .p (.bin .add (.t 21) (.k (.c (C.int .i64 1))))⟩,
    ⟨some 9, none, .p (.mv (.t 22))⟩] [0, 1, 5, 6, 7, 8, 9]))) [0, 1, 5, 6, 7, 8, 9])))
  (.seq (.seq (.region [⟨some 30, none, .p (.mv (.t 8))⟩,
    ⟨some 31, none, .p (.mv (.t 5))⟩,
    ⟨some 32, none, .p (.bin .eql (.t 30) (.t 31))⟩,
    ⟨some 33, none, .p (.mv (.t 32))⟩,
    ⟨some 34, some (33, true), .p (.mv (.t 0))⟩,
    ⟨some 35, some (33, true), .p (.mv (.t 7))⟩,
    ⟨some 36, some (33, true), .p (.slStr (.t 34) none (some (.t 35)))⟩,
    ⟨some 37, some (33, true), .p (.mv (.t 1))⟩,
    ⟨some 38, some (33, true), .p (.bin .eql (.t 36) (.t 37))⟩,
    ⟨some 39, none, .p (.pick (.t 33) (.t 38) (.k (.c (C.bool false))))⟩] [0, 1, 5, 6, 7, 8, 39])
  (.cond (.t 39)
  (.seq (.region [⟨some 4, none, .p (.mv (.k (.c (C.int .i64 0))))⟩] [4])
  .ret)
  .skip))
  (.seq (.seq (.region [⟨some 40, none, .p (.mv (.t 7))⟩,
    ⟨some 10, none, .p (.mv (.t 40))⟩] [0, 1, 5, 6, 7, 8, 10])
  (.block 2 (.loop (.seq (.seq (.region [⟨some 41, none, .p (.mv (.t 10))⟩,
    ⟨some 42, none, .p (.mv (.t 0))⟩,
    ⟨some 43, none, .p (.lenStr (.t 42))⟩,
    ⟨some 44, none, .p (.bin .lss (.t 41) (.t 43))⟩] [0, 1, 5, 6, 7, 8, 10, 44])
  (.cond (.t 44)
  .skip
  (.exit 2)))
  (.block 3 (.seq (.region [⟨some 45, none, .p (.mv (.t 8))⟩,
    ⟨some 46, none, .p (.bin .mul (.t 45) (.k (.c (C.int .u32 16777619))))⟩,
    ⟨some 8, none, .p (.mv (.t 46))⟩] [0, 1, 5, 6, 7, 8, 10])
  (.seq (.region [⟨some 47, none, .p (.mv (.t 8))⟩,
    ⟨some 48, none, .p (.mv (.t 0))⟩,
    ⟨some 49, none, .p (.mv (.t 10))⟩,
    ⟨some 50, none, .p (.ixStr (.t 48) (.t 49))⟩,
    ⟨some 51, none, .p (.conv .u32 (.t 50))⟩,
    ⟨some 52, none, .p (.bin .add (.t 47) (.t 51))⟩,
    ⟨some 8, none, .p (.mv (.t 52))⟩] [0, 1, 5, 6, 7, 8, 10])
  (.seq (.region [⟨some 53, none, .p (.mv (.t 8))⟩,
    ⟨some 54, none, .p (.mv (.t 6))⟩,
    ⟨some 55, none, .p (.mv (.t 0))⟩,
    ⟨some 56, none, .p (.mv (.t 10))⟩,
    ⟨some 57, none, .p (.mv (.t 7))⟩,
    ⟨some 58, none, .p (.bin .sub (.t 56) (.t 57))⟩,
    ⟨some 59, none, .p (.ixStr (.t 55) (.t 58))⟩,
    ⟨some 60, none, .p (.conv .u32 (.t 59))⟩,
    ⟨some 61, none, .p (.bin .mul (.t 54) (.t 60))⟩,
    ⟨some 62, none, .p (.bin .sub (.t 53) (.t 61))⟩,
    ⟨some 8, none, .p (.mv (.t 62))⟩] [0, 1, 5, 6, 7, 8, 10])
  (.seq (.region [⟨some 63, none, .p (.mv (.t 10))⟩,
    ⟨some 64, none, .p (.bin .add (.t 63) (.k (.c (C.int .i64 1))))⟩,
    ⟨some 10, none, .p (.mv (.t 64))⟩] [0, 1, 5, 6, 7, 8, 10])
  (.seq (.region [⟨some 65, none, .p (.mv (.t 8))⟩,
    ⟨some 66, none, .p (.mv (.t 5))⟩,
    ⟨some 67, none, .p (.bin .eql (.t 65) (.t 66))⟩,
    ⟨some 68, none, .p (.mv (.t 67))⟩,
    ⟨some 69, some (68, true), .p (.mv (.t 0))⟩,
    ⟨some 70, some (68, true), .p (.mv (.t 10))⟩,
    ⟨some 71, some (68, true), .p (.mv (.t 7))⟩,
    ⟨some 72, some (68, true), .p (.bin .sub (.t 70) (.t 71))⟩,
    ⟨some 73, some (68, true), .p (.mv (.t 10))⟩,
    ⟨some 74, some (68, true), .p (.slStr (.t 69) (some (.t 72)) (some (.t 73)))⟩,
    ⟨some 75, some (68, true), .p (.mv (.t 1))⟩,
    ⟨some 76, some (68, true), .p (.bin .eql (.t 74) (.t 75))⟩,
    ⟨some 77, none, .p (.pick (.t 68) (.t 76) (.k (.c (C.bool false))))⟩] [0, 1, 5, 6, 7, 8, 10, 77])
  (.cond (.t 77)
  (.seq (.region [⟨some 78, none, .p (.mv (.t 10))⟩,
    ⟨some 79, none, .p (.mv (.t 7))⟩,
    ⟨some 80, none, .p (.bin .sub (.t 78) (.t 79))⟩,
    ⟨some 4, none, .p (.mv (.t 80))⟩] [4])
  .ret)
  .skip)))))))) [0, 1, 5, 6, 7, 8, 10])))
  (.seq (.region [⟨some 4, none, .p (.mv (.k (.c (C.int .i64 (-1)))))⟩] [4])
  .ret)))))))) }
theorem a100_ok : okFn Try.prog 100 a100 = true := by kernel_rfl
/-- internal/bytealg.hashStr[string] -/
def a102 : AFn := { np := 1, nt := 39, res := [.t 2, .t 3], body :=
  (.seq (.region [⟨some 2, none, .p (.mv (.k (.c (C.int .u32 0))))⟩,
    ⟨some 3, none, .p (.mv (.k (.c (C.int .u32 0))))⟩] [0])
  (.seq (.region [⟨some 4, none, .p (.mv (.k (.c (C.int .u32 0))))⟩] [0, 4])
  (.seq (.seq (.region [⟨some 5, none, .p (.mv (.k (.c (C.int .i64 0))))⟩] [0, 4, 5])
  (.block 0 (.loop (.seq (.seq (.region [⟨some 9, none, .p (.mv (.t 5))⟩,
    ⟨some 10, none, .p (.mv (.t 0))⟩,
    ⟨some 11, none, .p (.lenStr (.t 10))⟩,
    ⟨some 12, none, .p (.bin .lss (.t 9) (.t 11))⟩] [0, 4, 5, 12])
  (.cond (.t 12)
  .skip
  (.exit 0)))
  (.seq (.block 1 (.region [⟨some 15, none, .p (.mv (.t 4))⟩,
    ⟨some 16, none, .p (.bin .mul (.t 15) (.k (.c (C.int .u32 16777619))))⟩,
    ⟨some 17, none, .p (.mv (.t 0))⟩,
    ⟨some 18, none, .p (.mv (.t 5))⟩,
    ⟨some 19, none, .p (.ixStr (.t 17) (.t 18))⟩,
    ⟨some 20, none, .p (.conv .u32 (.t 19))⟩,
    ⟨some 21, none, .p (.bin .add (.t 16) (.t 20))⟩,
    ⟨some 4, none, .p (.mv (.t 21))⟩] [0, 4, 5]))
  (.region [⟨some 13, none, .p (.mv (.t 5))⟩,
    ⟨some 14, none, .p (.bin .add (.t 13) (.k (.c (C.int .i64 1))))⟩,
    ⟨some 5, none, .p (.mv (.t 14))⟩] [0, 4, 5]))) [0, 4, 5])))
  (.seq (.region [⟨some 6, none, .p (.mv (.k (.c (C.int .u32 1))))⟩,
    ⟨some 7, none, .p (.mv (.k (.c (C.int .u32 16777619))))⟩] [0, 4, 6, 7])
  (.seq (.seq (.region [⟨some 22, none, .p (.mv (.t 0))⟩,
    ⟨some 23, none, .p (.lenStr (.t 22))⟩,
    ⟨some 8, none, .p (.mv (.t 23))⟩] [4, 6, 7, 8])
  (.block 2 (.loop (.seq (.seq (.region [⟨some 24, none, .p (.mv (.t 8))⟩,
    ⟨some 25, none, .p (.bin .gtr (.t 24) (.k (.c (C.int .i64 0))))⟩] [4, 6, 7, 8, 25])
  (.cond (.t 25)
  .skip
  (.exit 2)))
  (.seq (.block 3 (.seq (.seq (.region [⟨some 28, none, .p (.mv (.t 8))⟩,
    ⟨some 29, none, .p (.bin .and (.t 28) (.k (.c (C.int .i64 1))))⟩,
    ⟨some 30, none, .p (.bin .neq (.t 29) (.k (.c (C.int .i64 0))))⟩] [4, 6, 7, 8, 30])
  (.cond (.t 30)
  (.region [⟨some 31, none, .p (.mv (.t 6))⟩,
    ⟨some 32, none, .p (.mv (.t 7))⟩,
    ⟨some 33, none, .p (.bin .mul (.t 31) (.t 32))⟩,
    ⟨some 6, none, .p (.mv (.t 33))⟩] [4, 6, 7, 8])
  .skip))
  (.region [⟨some 34, none, .p (.mv (.t 7))⟩,
    ⟨some 35, none, .p (.mv (.t 7))⟩,
    ⟨some 36, none, .p (.bin .mul (.t 34) (.t 35))⟩,
    ⟨some 7, none, .p (.mv (.t 36))⟩] [4, 6, 7, 8])))
  (.region [⟨some 26, none, .p (.mv (.t 8))⟩,
    ⟨some 27, none, .p (.bin .shr (.t 26) (.k (.c (C.int .u64 1))))⟩,
    ⟨some 8, none, .p (.mv (.t 27))⟩] [4, 6, 7, 8]))) [4, 6, 7, 8])))
  (.seq (.region [⟨some 37, none, .p (.mv (.t 4))⟩,
    ⟨some 38, none, .p (.mv (.t 6))⟩,
    ⟨some 2, none, .p (.mv (.t 37))⟩,
    ⟨some 3, none, .p (.mv (.t 38))⟩] [2, 3])
  .ret)))))) }
theorem a102_ok : okFn Try.prog 102 a102 = true := by kernel_rfl
def pr : Prog
  | 2 => some a2
  | 3 => some a3
  | 4 => some a4
  | 5 => some a5
  | 6 => some a6
  | 7 => some a7
  | 8 => some a8
  | 9 => some a9
  | 10 => some a10
  | 11 => some a11
  | 12 => some a12
  | 13 => some a13
  | 14 => some a14
  | 15 => some a15
  | 16 => some a16
  | 17 => some a17
  | 18 => some a18
  | 19 => some a19
  | 20 => some a20
  | 21 => some a21
  | 22 => some a22
  | 23 => some a23
  | 24 => some a24
  | 25 => some a25
  | 26 => some a26
  | 27 => some a27
  | 28 => some a28
  | 29 => some a29
  | 30 => some a30
  | 31 => some a31
  | 32 => some a32
  | 33 => some a33
  | 34 => some a34
  | 35 => some a35
  | 36 => some a36
  | 37 => some a37
  | 38 => some a38
  | 39 => some a39
  | 40 => some a40
  | 41 => some a41
  | 42 => some a42
  | 43 => some a43
  | 44 => some a44
  | 45 => some a45
  | 46 => some a46
  | 47 => some a47
  | 48 => some a48
  | 49 => some a49
  | 50 => some a50
  | 51 => some a51
  | 52 => some a52
  | 53 => some a53
  | 54 => some a54
  | 55 => some a55
  | 56 => some a56
  | 57 => some a57
  | 58 => some a58
  | 59 => some a59
  | 60 => some a60
  | 61 => some a61
  | 62 => some a62
  | 63 => some a63
  | 64 => some a64
  | 65 => some a65
  | 66 => some a66
  | 67 => some a67
  | 68 => some a68
  | 69 => some a69
  | 70 => some a70
  | 71 => some a71
  | 72 => some a72
  | 73 => some a73
  | 74 => some a74
  | 75 => some a75
  | 76 => some a76
  | 77 => some a77
  | 78 => some a78
  | 79 => some a79
  | 80 => some a80
  | 81 => some a81
  | 82 => some a82
  | 83 => some a83
  | 84 => some a84
  | 85 => some a85
  | 86 => some a86
  | 87 => some a87
  | 88 => some a88
  | 89 => some a89
  | 90 => some a90
  | 91 => some a91
  | 92 => some a92
  | 93 => some a93
  | 94 => some a94
  | 96 => some a96
  | 97 => some a97
  | 99 => some a99
  | 100 => some a100
  | 102 => some a102
  | _ => none
theorem pr_ok : ProgOK Try.prog pr := by
  intro f fn h
  unfold pr at h
  split at h
  · injection h with h; subst h; exact a2_ok
  · injection h with h; subst h; exact a3_ok
  · injection h with h; subst h; exact a4_ok
  · injection h with h; subst h; exact a5_ok
  · injection h with h; subst h; exact a6_ok
  · injection h with h; subst h; exact a7_ok
  · injection h with h; subst h; exact a8_ok
  · injection h with h; subst h; exact a9_ok
  · injection h with h; subst h; exact a10_ok
  · injection h with h; subst h; exact a11_ok
  · injection h with h; subst h; exact a12_ok
  · injection h with h; subst h; exact a13_ok
  · injection h with h; subst h; exact a14_ok
  · injection h with h; subst h; exact a15_ok
  · injection h with h; subst h; exact a16_ok
  · injection h with h; subst h; exact a17_ok
  · injection h with h; subst h; exact a18_ok
  · injection h with h; subst h; exact a19_ok
  · injection h with h; subst h; exact a20_ok
  · injection h with h; subst h; exact a21_ok
  · injection h with h; subst h; exact a22_ok
  · injection h with h; subst h; exact a23_ok
  · injection h with h; subst h; exact a24_ok
  · injection h with h; subst h; exact a25_ok
  · injection h with h; subst h; exact a26_ok
  · injection h with h; subst h; exact a27_ok
  · injection h with h; subst h; exact a28_ok
  · injection h with h; subst h; exact a29_ok
  · injection h with h; subst h; exact a30_ok
  · injection h with h; subst h; exact a31_ok
  · injection h with h; subst h; exact a32_ok
  · injection h with h; subst h; exact a33_ok
  · injection h with h; subst h; exact a34_ok
  · injection h with h; subst h; exact a35_ok
  · injection h with h; subst h; exact a36_ok
  · injection h with h; subst h; exact a37_ok
  · injection h with h; subst h; exact a38_ok
  · injection h with h; subst h; exact a39_ok
  · injection h with h; subst h; exact a40_ok
  · injection h with h; subst h; exact a41_ok
  · injection h with h; subst h; exact a42_ok
  · injection h with h; subst h; exact a43_ok
  · injection h with h; subst h; exact a44_ok
  · injection h with h; subst h; exact a45_ok
  · injection h with h; subst h; exact a46_ok
  · injection h with h; subst h; exact a47_ok
  · injection h with h; subst h; exact a48_ok
  · injection h with h; subst h; exact a49_ok
  · injection h with h; subst h; exact a50_ok
  · injection h with h; subst h; exact a51_ok
  · injection h with h; subst h; exact a52_ok
  · injection h with h; subst h; exact a53_ok
  · injection h with h; subst h; exact a54_ok
  · injection h with h; subst h; exact a55_ok
  · injection h with h; subst h; exact a56_ok
  · injection h with h; subst h; exact a57_ok
  · injection h with h; subst h; exact a58_ok
  · injection h with h; subst h; exact a59_ok
  · injection h with h; subst h; exact a60_ok
  · injection h with h; subst h; exact a61_ok
  · injection h with h; subst h; exact a62_ok
  · injection h with h; subst h; exact a63_ok
  · injection h with h; subst h; exact a64_ok
  · injection h with h; subst h; exact a65_ok
  · injection h with h; subst h; exact a66_ok
  · injection h with h; subst h; exact a67_ok
  · injection h with h; subst h; exact a68_ok
  · injection h with h; subst h; exact a69_ok
  · injection h with h; subst h; exact a70_ok
  · injection h with h; subst h; exact a71_ok
  · injection h with h; subst h; exact a72_ok
  · injection h with h; subst h; exact a73_ok
  · injection h with h; subst h; exact a74_ok
  · injection h with h; subst h; exact a75_ok
  · injection h with h; subst h; exact a76_ok
  · injection h with h; subst h; exact a77_ok
  · injection h with h; subst h; exact a78_ok
  · injection h with h; subst h; exact a79_ok
  · injection h with h; subst h; exact a80_ok
  · injection h with h; subst h; exact a81_ok
  · injection h with h; subst h; exact a82_ok
  · injection h with h; subst h; exact a83_ok
  · injection h with h; subst h; exact a84_ok
  · injection h with h; subst h; exact a85_ok
  · injection h with h; subst h; exact a86_ok
  · injection h with h; subst h; exact a87_ok
  · injection h with h; subst h; exact a88_ok
  · injection h with h; subst h; exact a89_ok
  · injection h with h; subst h; exact a90_ok
  · injection h with h; subst h; exact a91_ok
  · injection h with h; subst h; exact a92_ok
  · injection h with h; subst h; exact a93_ok
  · injection h with h; subst h; exact a94_ok
  · injection h with h; subst h; exact a96_ok
  · injection h with h; subst h; exact a97_ok
  · injection h with h; subst h; exact a99_ok
  · injection h with h; subst h; exact a100_ok
  · injection h with h; subst h; exact a102_ok
  · cases h
theorem mixed : Try.prog.follows .mixedOrders = true := by kernel_rfl
end Go.Proofs.Ytenheijeahpbkaa.AM
