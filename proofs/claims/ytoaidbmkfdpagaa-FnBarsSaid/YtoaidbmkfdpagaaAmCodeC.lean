/- the functions' code in the abstract machine: printed by a program (wip/tools/genparts.py) out of the loaded program -/
import Derived.Test.YtoaidbmkfdpagaaAmD
import Derived.Test.YtoaidbmkfdpagaaProg
import Derived.KernelRfl
namespace Go.Proofs.Ytoaidbmkfdpagaa.AM
open Go
set_option maxRecDepth 100000
/-- (*loop.example/g01215/spec.l1Cur).source5 -/
def a218 : AFn := { np := 2, nt := 33, res := [.cell 4 3 true], body :=
  (.seq (.region [⟨some 3, none, .p (.box 24 (.t 1))⟩,
    ⟨some 4, none, .p (.alloc [.k (C.int .i64 0), .k (C.int .i64 0), .k (C.int .i64 0)])⟩] [0, 3, 4])
  (.seq (.seq (.region [⟨some 6, none, .h (.load 24 true (.t 3))⟩,
    ⟨some 7, none, .h (.call (.f 141) [.t 6])⟩,
    ⟨some 8, none, .p (.mv (.t 7))⟩,
    ⟨some 9, some (8, true), .p (.mv (.t 0))⟩,
    ⟨some 10, some (8, true), .h (.call (.f 172) [.t 9, .k (.c (C.int .i64 5))])⟩,
    ⟨some 11, some (8, true), .p (.un .not (.t 10))⟩,
    ⟨some 12, none, .p (.pick (.t 8) (.t 11) (.k (.c (C.bool false))))⟩] [0, 3, 4, 12])
  (.cond (.t 12)
  (.seq (.region [⟨some 13, none, .h (.load 24 true (.t 3))⟩,
    ⟨some 14, none, .h (.call (.f 227) [.t 13])⟩,
    ⟨some 5, none, .p (.mv (.t 14))⟩] [0, 4, 5])
  (.seq (.region [⟨some 15, none, .p (.mv (.t 5))⟩,
    ⟨some 16, none, .p (.len (.t 15))⟩,
    ⟨some 17, none, .p (.bin .gtr (.t 16) (.k (.c (C.int .i64 0))))⟩] [0, 4, 5, 17])
  (.cond (.t 17)
  (.seq (.region [⟨some 18, none, .p (.mv (.t 5))⟩,
    ⟨some 19, none, .p (.mv (.t 0))⟩,
    ⟨some 20, none, .p (.mv (.t 5))⟩,
    ⟨some 21, none, .p (.len (.t 20))⟩,
    ⟨some 22, none, .h (.call (.f 165) [.t 19, .t 21])⟩,
    ⟨some 23, none, .p (.ixS 3 (.t 18) (.t 22))⟩,
    ⟨some 24, none, .h (.load 3 true (.t 23))⟩,
    ⟨none, none, .h (.store 3 (.t 4) (.t 24))⟩] [4])
  .ret)
  .skip)))
  .skip))
  (.seq (.region [⟨some 25, none, .p (.mv (.t 0))⟩,
    ⟨some 26, none, .h (.call (.f 113) [.t 25])⟩,
    ⟨some 27, none, .p (.mv (.t 0))⟩,
    ⟨some 28, none, .h (.call (.f 113) [.t 27])⟩,
    ⟨some 29, none, .p (.mv (.t 0))⟩,
    ⟨some 30, none, .p (.mksl 1 7 [.k (C.int .i64 0)] [(0, 1, .k (.c (C.int .i64 1))), (1, 1, .k (.c (C.int .i64 2))), (2, 1, .k (.c (C.int .i64 3))), (3, 1, .k (.c (C.int .i64 4))), (4, 1, .k (.c (C.int .i64 0))), (5, 1, .k (.c (C.int .i64 5))), (6, 1, .k (.c (C.int .i64 (-1))))])⟩,
    ⟨some 31, none, .h (.call (.f 181) [.t 29, .t 30])⟩,
    ⟨some 32, none, .p (.build [.k (C.int .i64 0), .k (C.int .i64 0), .k (C.int .i64 0)] [(0, 1, .t 26), (1, 1, .t 28), (2, 1, .t 31)])⟩,
    ⟨none, none, .h (.store 3 (.t 4) (.t 32))⟩] [4])
  .ret))) }
theorem a218_ok : okFn Try.prog 218 a218 = true := by kernel_rfl
/-- loop.example/g01215/impl.PutLayer -/
def a219 : AFn := { np := 3, nt := 38, res := [.cell 6 24 true, .t 7], body :=
  (.seq (.region [⟨some 3, none, .p (.box 24 (.t 0))⟩,
    ⟨some 6, none, .p (.alloc (List.replicate 24 (.k (C.int .i64 0))))⟩,
    ⟨some 7, none, .p (.mv (.k (.c (C.bool false))))⟩] [1, 2, 3, 6])
  (.seq (.seq (.region [⟨some 8, none, .h (.load 24 true (.t 3))⟩,
    ⟨some 9, none, .p (.mv (.t 1))⟩,
    ⟨some 10, none, .p (.mksl 1 1 [.k (C.int .i64 0)] [(0, 1, .t 9)])⟩,
    ⟨some 11, none, .h (.call (.f 157) [.t 8, .t 10])⟩,
    ⟨some 12, none, .p (.un .not (.t 11))⟩,
    ⟨some 13, none, .p (.mv (.t 12))⟩,
    ⟨some 14, some (13, false), .p (.mv (.t 2))⟩,
    ⟨some 15, some (13, false), .h (.call (.f 116) [.t 14])⟩,
    ⟨some 16, some (13, false), .p (.un .not (.t 15))⟩,
    ⟨some 17, none, .p (.pick (.t 13) (.k (.c (C.bool true))) (.t 16))⟩,
    ⟨some 18, none, .p (.mv (.t 17))⟩,
    ⟨some 19, some (18, false), .p (.mv (.t 1))⟩,
    ⟨some 20, some (18, false), .p (.fld 0 (.t 3))⟩,
    ⟨some 21, some (18, false), .p (.ixA 6 4 (.t 20) (.t 19))⟩,
    ⟨some 22, some (18, false), .h (.load 4 true (.t 21))⟩,
    ⟨some 23, some (18, false), .h (.call (.f 188) [.t 22])⟩,
    ⟨some 24, some (18, false), .p (.bin .eql (.t 23) (.k (.c (C.int .i64 4))))⟩,
    ⟨some 25, none, .p (.pick (.t 18) (.k (.c (C.bool true))) (.t 24))⟩] [1, 2, 3, 6, 25])
  (.cond (.t 25)
  (.seq (.region [⟨some 26, none, .p (.build (List.replicate 24 (.k (C.int .i64 0))) [])⟩,
    ⟨none, none, .h (.store 24 (.t 6) (.t 26))⟩,
    ⟨some 7, none, .p (.mv (.k (.c (C.bool false))))⟩] [6, 7])
  .ret)
  .skip))
  (.seq (.regionD [⟨some 27, none, .p (.mv (.t 1))⟩,
    ⟨some 28, none, .p (.mv (.t 1))⟩,
    ⟨some 29, none, .p (.fld 0 (.t 3))⟩,
    ⟨some 30, none, .p (.ixA 6 4 (.t 29) (.t 28))⟩,
    ⟨some 31, none, .h (.load 4 true (.t 30))⟩,
    ⟨some 32, none, .h (.call (.f 188) [.t 31])⟩,
    ⟨some 33, none, .p (.mv (.t 2))⟩,
    ⟨some 34, none, .p (.fld 0 (.t 3))⟩,
    ⟨some 35, none, .p (.ixA 6 4 (.t 34) (.t 27))⟩,
    ⟨some 36, none, .p (.ixA 4 1 (.t 35) (.t 32))⟩,
    ⟨none, none, .h (.store 1 (.t 36) (.t 33))⟩] [3, 6] [])
  (.seq (.region [⟨some 37, none, .h (.load 24 true (.t 3))⟩,
    ⟨none, none, .h (.store 24 (.t 6) (.t 37))⟩,
    ⟨some 7, none, .p (.mv (.k (.c (C.bool true))))⟩] [6, 7])
  .ret)))) }
theorem a219_ok : okFn Try.prog 219 a219 = true := by kernel_rfl
/-- loop.example/g01215/impl.TakeLayer -/
def a220 : AFn := { np := 2, nt := 42, res := [.cell 4 24 true, .t 5, .t 6], body :=
  (.seq (.region [⟨some 2, none, .p (.box 24 (.t 0))⟩,
    ⟨some 4, none, .p (.alloc (List.replicate 24 (.k (C.int .i64 0))))⟩,
    ⟨some 5, none, .p (.mv (.k (.c (C.int .i64 0))))⟩,
    ⟨some 6, none, .p (.mv (.k (.c (C.bool false))))⟩] [1, 2, 4])
  (.seq (.seq (.region [⟨some 9, none, .h (.load 24 true (.t 2))⟩,
    ⟨some 10, none, .p (.mv (.t 1))⟩,
    ⟨some 11, none, .p (.mksl 1 1 [.k (C.int .i64 0)] [(0, 1, .t 10)])⟩,
    ⟨some 12, none, .h (.call (.f 157) [.t 9, .t 11])⟩,
    ⟨some 13, none, .p (.un .not (.t 12))⟩,
    ⟨some 14, none, .p (.mv (.t 13))⟩,
    ⟨some 15, some (14, false), .p (.mv (.t 1))⟩,
    ⟨some 16, some (14, false), .p (.fld 0 (.t 2))⟩,
    ⟨some 17, some (14, false), .p (.ixA 6 4 (.t 16) (.t 15))⟩,
    ⟨some 18, some (14, false), .h (.load 4 true (.t 17))⟩,
    ⟨some 19, some (14, false), .h (.call (.f 188) [.t 18])⟩,
    ⟨some 20, some (14, false), .p (.bin .eql (.t 19) (.k (.c (C.int .i64 0))))⟩,
    ⟨some 21, none, .p (.pick (.t 14) (.k (.c (C.bool true))) (.t 20))⟩] [1, 2, 4, 21])
  (.cond (.t 21)
  (.seq (.region [⟨some 22, none, .p (.build (List.replicate 24 (.k (C.int .i64 0))) [])⟩,
    ⟨none, none, .h (.store 24 (.t 4) (.t 22))⟩,
    ⟨some 5, none, .p (.mv (.k (.c (C.int .i64 0))))⟩,
    ⟨some 6, none, .p (.mv (.k (.c (C.bool false))))⟩] [4, 5, 6])
  .ret)
  .skip))
  (.seq (.region [⟨some 23, none, .p (.mv (.t 1))⟩,
    ⟨some 24, none, .p (.fld 0 (.t 2))⟩,
    ⟨some 25, none, .p (.ixA 6 4 (.t 24) (.t 23))⟩,
    ⟨some 26, none, .h (.load 4 true (.t 25))⟩,
    ⟨some 27, none, .h (.call (.f 188) [.t 26])⟩,
    ⟨some 28, none, .p (.bin .sub (.t 27) (.k (.c (C.int .i64 1))))⟩,
    ⟨some 7, none, .p (.mv (.t 28))⟩] [1, 2, 4, 7])
  (.seq (.region [⟨some 29, none, .p (.mv (.t 1))⟩,
    ⟨some 30, none, .p (.mv (.t 7))⟩,
    ⟨some 31, none, .p (.fld 0 (.t 2))⟩,
    ⟨some 32, none, .p (.ixA 6 4 (.t 31) (.t 29))⟩,
    ⟨some 33, none, .p (.ixA 4 1 (.t 32) (.t 30))⟩,
    ⟨some 34, none, .h (.load 1 false (.t 33))⟩,
    ⟨some 8, none, .p (.mv (.t 34))⟩] [1, 2, 4, 7, 8])
  (.seq (.region [⟨some 35, none, .p (.mv (.t 1))⟩,
    ⟨some 36, none, .p (.mv (.t 7))⟩,
    ⟨some 37, none, .p (.fld 0 (.t 2))⟩,
    ⟨some 38, none, .p (.ixA 6 4 (.t 37) (.t 35))⟩,
    ⟨some 39, none, .p (.ixA 4 1 (.t 38) (.t 36))⟩,
    ⟨none, none, .h (.store 1 (.t 39) (.k (.c (C.int .i64 0))))⟩] [2, 4, 8])
  (.seq (.region [⟨some 40, none, .h (.load 24 true (.t 2))⟩,
    ⟨some 41, none, .p (.mv (.t 8))⟩,
    ⟨none, none, .h (.store 24 (.t 4) (.t 40))⟩,
    ⟨some 5, none, .p (.mv (.t 41))⟩,
    ⟨some 6, none, .p (.mv (.k (.c (C.bool true))))⟩] [4, 5, 6])
  .ret)))))) }
theorem a220_ok : okFn Try.prog 220 a220 = true := by kernel_rfl
/-- loop.example/g01215/impl.SwapTubes -/
def a221 : AFn := { np := 3, nt := 30, res := [.cell 6 24 true, .t 7], body :=
  (.seq (.region [⟨some 3, none, .p (.box 24 (.t 0))⟩,
    ⟨some 6, none, .p (.alloc (List.replicate 24 (.k (C.int .i64 0))))⟩,
    ⟨some 7, none, .p (.mv (.k (.c (C.bool false))))⟩] [1, 2, 3, 6])
  (.seq (.seq (.region [⟨some 8, none, .h (.load 24 true (.t 3))⟩,
    ⟨some 9, none, .p (.mv (.t 1))⟩,
    ⟨some 10, none, .p (.mv (.t 2))⟩,
    ⟨some 11, none, .p (.mksl 1 2 [.k (C.int .i64 0)] [(0, 1, .t 9), (1, 1, .t 10)])⟩,
    ⟨some 12, none, .h (.call (.f 157) [.t 8, .t 11])⟩,
    ⟨some 13, none, .p (.un .not (.t 12))⟩] [1, 2, 3, 6, 13])
  (.cond (.t 13)
  (.seq (.region [⟨some 14, none, .p (.build (List.replicate 24 (.k (C.int .i64 0))) [])⟩,
    ⟨none, none, .h (.store 24 (.t 6) (.t 14))⟩,
    ⟨some 7, none, .p (.mv (.k (.c (C.bool false))))⟩] [6, 7])
  .ret)
  .skip))
  (.seq (.regionD [⟨some 15, none, .p (.mv (.t 1))⟩,
    ⟨some 16, none, .p (.mv (.t 2))⟩,
    ⟨some 17, none, .p (.mv (.t 2))⟩,
    ⟨some 18, none, .p (.fld 0 (.t 3))⟩,
    ⟨some 19, none, .p (.ixA 6 4 (.t 18) (.t 17))⟩,
    ⟨some 20, none, .h (.load 4 true (.t 19))⟩,
    ⟨some 21, none, .p (.mv (.t 1))⟩,
    ⟨some 22, none, .p (.fld 0 (.t 3))⟩,
    ⟨some 23, none, .p (.ixA 6 4 (.t 22) (.t 21))⟩,
    ⟨some 24, none, .h (.load 4 true (.t 23))⟩,
    ⟨some 25, none, .p (.fld 0 (.t 3))⟩,
    ⟨some 26, none, .p (.ixA 6 4 (.t 25) (.t 15))⟩,
    ⟨none, none, .h (.store 4 (.t 26) (.t 20))⟩,
    ⟨some 27, none, .p (.fld 0 (.t 3))⟩,
    ⟨some 28, none, .p (.ixA 6 4 (.t 27) (.t 16))⟩,
    ⟨none, none, .h (.store 4 (.t 28) (.t 24))⟩] [3, 6] [])
  (.seq (.region [⟨some 29, none, .h (.load 24 true (.t 3))⟩,
    ⟨none, none, .h (.store 24 (.t 6) (.t 29))⟩,
    ⟨some 7, none, .p (.mv (.k (.c (C.bool true))))⟩] [6, 7])
  .ret)))) }
theorem a221_ok : okFn Try.prog 221 a221 = true := by kernel_rfl
/-- loop.example/g01215/impl.PourBack -/
def a222 : AFn := { np := 2, nt := 22, res := [.cell 4 24 true, .t 5], body :=
  (.seq (.region [⟨some 2, none, .p (.box 24 (.t 0))⟩,
    ⟨some 3, none, .p (.box 3 (.t 1))⟩,
    ⟨some 4, none, .p (.alloc (List.replicate 24 (.k (C.int .i64 0))))⟩,
    ⟨some 5, none, .p (.mv (.k (.c (C.bool false))))⟩] [2, 3, 4])
  (.seq (.seq (.region [⟨some 8, none, .h (.load 24 true (.t 2))⟩,
    ⟨some 9, none, .h (.call (.f 59) [.t 8])⟩,
    ⟨some 10, none, .p (.un .not (.t 9))⟩] [2, 3, 4, 10])
  (.cond (.t 10)
  (.seq (.region [⟨some 11, none, .p (.build (List.replicate 24 (.k (C.int .i64 0))) [])⟩,
    ⟨none, none, .h (.store 24 (.t 4) (.t 11))⟩,
    ⟨some 5, none, .p (.mv (.k (.c (C.bool false))))⟩] [4, 5])
  .ret)
  .skip))
  (.seq (.region [⟨some 13, none, .h (.load 24 true (.t 2))⟩,
    ⟨some 14, none, .h (.load 3 true (.t 3))⟩,
    ⟨some 15, none, .h (.call (.f 239) [.t 13, .t 14])⟩,
    ⟨some 12, none, .p (.mv (.t 15))⟩,
    ⟨some 16, none, .p (.ext (.t 12) 0)⟩,
    ⟨some 17, none, .p (.ext (.t 12) 1)⟩,
    ⟨some 6, none, .p (.alloc (List.replicate 24 (.k (C.int .i64 0))))⟩,
    ⟨none, none, .h (.store 24 (.t 6) (.t 16))⟩,
    ⟨some 7, none, .p (.mv (.t 17))⟩] [4, 6, 7])
  (.seq (.seq (.region [⟨some 18, none, .p (.mv (.t 7))⟩,
    ⟨some 19, none, .p (.un .not (.t 18))⟩] [4, 6, 19])
  (.cond (.t 19)
  (.seq (.region [⟨some 20, none, .p (.build (List.replicate 24 (.k (C.int .i64 0))) [])⟩,
    ⟨none, none, .h (.store 24 (.t 4) (.t 20))⟩,
    ⟨some 5, none, .p (.mv (.k (.c (C.bool false))))⟩] [4, 5])
  .ret)
  .skip))
  (.seq (.region [⟨some 21, none, .h (.load 24 true (.t 6))⟩,
    ⟨none, none, .h (.store 24 (.t 4) (.t 21))⟩,
    ⟨some 5, none, .p (.mv (.k (.c (C.bool true))))⟩] [4, 5])
  .ret))))) }
theorem a222_ok : okFn Try.prog 222 a222 = true := by kernel_rfl
/-- loop.example/g01215/spec.l12Make -/
def a223 : AFn := { np := 2, nt := 117, res := [.cell 4 26 true, .t 5], body :=
  (.seq (.region [⟨some 2, none, .p (.box 26 (.t 0))⟩,
    ⟨some 3, none, .p (.box 4 (.t 1))⟩,
    ⟨some 4, none, .p (.alloc (List.replicate 26 (.k (C.int .i64 0))))⟩,
    ⟨some 5, none, .p (.mv (.k (.c (C.bool false))))⟩] [2, 3, 4])
  (.seq (.seq (.region [⟨some 18, none, .p (.fld 0 (.t 3))⟩,
    ⟨some 19, none, .h (.load 1 false (.t 18))⟩] [2, 3, 4, 19])
  (.block 0 (.seq (.region [⟨some 21, none, .p (.bin .eql (.t 19) (.k (.c (C.int .i64 1))))⟩,
    ⟨some 20, none, .p (.mv (.t 21))⟩] [2, 3, 4, 19, 20])
  (.cond (.t 20)
  (.seq (.region [⟨some 23, none, .p (.fld 0 (.t 2))⟩,
    ⟨some 24, none, .h (.load 24 true (.t 23))⟩,
    ⟨some 25, none, .p (.fld 1 (.t 3))⟩,
    ⟨some 26, none, .h (.load 1 false (.t 25))⟩,
    ⟨some 27, none, .p (.fld 2 (.t 3))⟩,
    ⟨some 28, none, .h (.load 1 false (.t 27))⟩,
    ⟨some 29, none, .h (.call (.f 240) [.t 24, .t 26, .t 28])⟩,
    ⟨some 22, none, .p (.mv (.t 29))⟩,
    ⟨some 30, none, .p (.ext (.t 22) 0)⟩,
    ⟨some 31, none, .p (.ext (.t 22) 1)⟩,
    ⟨some 32, none, .p (.ext (.t 22) 2)⟩,
    ⟨some 6, none, .p (.alloc (List.replicate 24 (.k (C.int .i64 0))))⟩,
    ⟨none, none, .h (.store 24 (.t 6) (.t 30))⟩,
    ⟨some 7, none, .p (.mv (.t 31))⟩,
    ⟨some 8, none, .p (.mv (.t 32))⟩] [2, 4, 6, 7, 8])
  (.seq (.region [⟨some 33, none, .h (.load 24 true (.t 6))⟩,
    ⟨some 34, none, .p (.fld 0 (.t 2))⟩,
    ⟨none, none, .h (.store 24 (.t 34) (.t 33))⟩] [2, 4, 7, 8])
  (.seq (.region [⟨some 35, none, .p (.fld 24 (.t 2))⟩,
    ⟨some 36, none, .h (.load 1 false (.t 35))⟩,
    ⟨some 37, none, .p (.mv (.t 7))⟩,
    ⟨some 38, none, .p (.bin .add (.t 36) (.t 37))⟩,
    ⟨some 39, none, .p (.fld 24 (.t 2))⟩,
    ⟨none, none, .h (.store 1 (.t 39) (.t 38))⟩] [2, 4, 8])
  (.seq (.region [⟨some 40, none, .h (.load 26 true (.t 2))⟩,
    ⟨some 41, none, .p (.mv (.t 8))⟩,
    ⟨none, none, .h (.store 26 (.t 4) (.t 40))⟩,
    ⟨some 5, none, .p (.mv (.t 41))⟩] [4, 5])
  .ret))))
  (.seq (.region [⟨some 43, none, .p (.bin .eql (.t 19) (.k (.c (C.int .i64 2))))⟩,
    ⟨some 42, none, .p (.mv (.t 43))⟩] [2, 3, 4, 19, 42])
  (.cond (.t 42)
  (.seq (.region [⟨some 45, none, .p (.fld 0 (.t 2))⟩,
    ⟨some 46, none, .h (.load 24 true (.t 45))⟩,
    ⟨some 47, none, .p (.fld 1 (.t 3))⟩,
    ⟨some 48, none, .h (.load 1 false (.t 47))⟩,
    ⟨some 49, none, .p (.fld 2 (.t 3))⟩,
    ⟨some 50, none, .h (.load 1 false (.t 49))⟩,
    ⟨some 51, none, .h (.call (.f 241) [.t 46, .t 48, .t 50])⟩,
    ⟨some 44, none, .p (.mv (.t 51))⟩,
    ⟨some 52, none, .p (.ext (.t 44) 0)⟩,
    ⟨some 53, none, .p (.ext (.t 44) 1)⟩,
    ⟨some 9, none, .p (.alloc (List.replicate 24 (.k (C.int .i64 0))))⟩,
    ⟨none, none, .h (.store 24 (.t 9) (.t 52))⟩,
    ⟨some 10, none, .p (.mv (.t 53))⟩] [2, 4, 9, 10])
  (.seq (.region [⟨some 54, none, .h (.load 24 true (.t 9))⟩,
    ⟨some 55, none, .p (.fld 0 (.t 2))⟩,
    ⟨none, none, .h (.store 24 (.t 55) (.t 54))⟩] [2, 4, 10])
  (.seq (.region [⟨some 56, none, .h (.load 26 true (.t 2))⟩,
    ⟨some 57, none, .p (.mv (.t 10))⟩,
    ⟨none, none, .h (.store 26 (.t 4) (.t 56))⟩,
    ⟨some 5, none, .p (.mv (.t 57))⟩] [4, 5])
  .ret)))
  (.seq (.region [⟨some 59, none, .p (.bin .eql (.t 19) (.k (.c (C.int .i64 3))))⟩,
    ⟨some 58, none, .p (.mv (.t 59))⟩] [2, 3, 4, 19, 58])
  (.cond (.t 58)
  (.seq (.region [⟨some 61, none, .p (.fld 0 (.t 2))⟩,
    ⟨some 62, none, .h (.load 24 true (.t 61))⟩,
    ⟨some 63, none, .p (.fld 1 (.t 3))⟩,
    ⟨some 64, none, .h (.load 1 false (.t 63))⟩,
    ⟨some 65, none, .h (.call (.f 242) [.t 62, .t 64])⟩,
    ⟨some 60, none, .p (.mv (.t 65))⟩,
    ⟨some 66, none, .p (.ext (.t 60) 0)⟩,
    ⟨some 67, none, .p (.ext (.t 60) 1)⟩,
    ⟨some 68, none, .p (.ext (.t 60) 2)⟩,
    ⟨some 11, none, .p (.alloc (List.replicate 24 (.k (C.int .i64 0))))⟩,
    ⟨none, none, .h (.store 24 (.t 11) (.t 66))⟩,
    ⟨some 12, none, .p (.mv (.t 67))⟩,
    ⟨some 13, none, .p (.mv (.t 68))⟩] [2, 4, 11, 13])
  (.seq (.region [⟨some 69, none, .h (.load 24 true (.t 11))⟩,
    ⟨some 70, none, .p (.fld 0 (.t 2))⟩,
    ⟨none, none, .h (.store 24 (.t 70) (.t 69))⟩] [2, 4, 13])
  (.seq (.region [⟨some 71, none, .h (.load 26 true (.t 2))⟩,
    ⟨some 72, none, .p (.mv (.t 13))⟩,
    ⟨none, none, .h (.store 26 (.t 4) (.t 71))⟩,
    ⟨some 5, none, .p (.mv (.t 72))⟩] [4, 5])
  .ret)))
  (.seq (.region [⟨some 74, none, .p (.bin .eql (.t 19) (.k (.c (C.int .i64 4))))⟩,
    ⟨some 73, none, .p (.mv (.t 74))⟩] [2, 3, 4, 19, 73])
  (.cond (.t 73)
  (.seq (.region [⟨some 76, none, .p (.fld 0 (.t 2))⟩,
    ⟨some 77, none, .h (.load 24 true (.t 76))⟩,
    ⟨some 78, none, .p (.fld 1 (.t 3))⟩,
    ⟨some 79, none, .h (.load 1 false (.t 78))⟩,
    ⟨some 80, none, .p (.fld 2 (.t 3))⟩,
    ⟨some 81, none, .h (.load 1 false (.t 80))⟩,
    ⟨some 82, none, .h (.call (.f 243) [.t 77, .t 79, .t 81])⟩,
    ⟨some 75, none, .p (.mv (.t 82))⟩,
    ⟨some 83, none, .p (.ext (.t 75) 0)⟩,
    ⟨some 84, none, .p (.ext (.t 75) 1)⟩,
    ⟨some 14, none, .p (.alloc (List.replicate 24 (.k (C.int .i64 0))))⟩,
    ⟨none, none, .h (.store 24 (.t 14) (.t 83))⟩,
    ⟨some 15, none, .p (.mv (.t 84))⟩] [2, 4, 14, 15])
  (.seq (.region [⟨some 85, none, .h (.load 24 true (.t 14))⟩,
    ⟨some 86, none, .p (.fld 0 (.t 2))⟩,
    ⟨none, none, .h (.store 24 (.t 86) (.t 85))⟩] [2, 4, 15])
  (.seq (.region [⟨some 87, none, .h (.load 26 true (.t 2))⟩,
    ⟨some 88, none, .p (.mv (.t 15))⟩,
    ⟨none, none, .h (.store 26 (.t 4) (.t 87))⟩,
    ⟨some 5, none, .p (.mv (.t 88))⟩] [4, 5])
  .ret)))
  (.seq (.region [⟨some 90, none, .p (.bin .eql (.t 19) (.k (.c (C.int .i64 5))))⟩,
    ⟨some 89, none, .p (.mv (.t 90))⟩] [2, 3, 4, 89])
  (.cond (.t 89)
  (.seq (.region [⟨some 92, none, .p (.fld 0 (.t 2))⟩,
    ⟨some 93, none, .h (.load 24 true (.t 92))⟩,
    ⟨some 94, none, .p (.fld 1 (.t 3))⟩,
    ⟨some 95, none, .h (.load 1 false (.t 94))⟩,
    ⟨some 96, none, .p (.fld 2 (.t 3))⟩,
    ⟨some 97, none, .h (.load 1 false (.t 96))⟩,
    ⟨some 98, none, .p (.fld 3 (.t 3))⟩,
    ⟨some 99, none, .h (.load 1 false (.t 98))⟩,
    ⟨some 100, none, .p (.build [.k (C.int .i64 0), .k (C.int .i64 0), .k (C.int .i64 0)] [(0, 1, .t 95), (1, 1, .t 97), (2, 1, .t 99)])⟩,
    ⟨some 101, none, .h (.call (.f 244) [.t 93, .t 100])⟩,
    ⟨some 91, none, .p (.mv (.t 101))⟩,
    ⟨some 102, none, .p (.ext (.t 91) 0)⟩,
    ⟨some 103, none, .p (.ext (.t 91) 1)⟩,
    ⟨some 16, none, .p (.alloc (List.replicate 24 (.k (C.int .i64 0))))⟩,
    ⟨none, none, .h (.store 24 (.t 16) (.t 102))⟩,
    ⟨some 17, none, .p (.mv (.t 103))⟩] [2, 3, 4, 16, 17])
  (.seq (.seq (.region [⟨some 104, none, .p (.mv (.t 17))⟩,
    ⟨some 105, none, .p (.un .not (.t 104))⟩] [2, 3, 4, 16, 105])
  (.cond (.t 105)
  (.seq (.region [⟨some 106, none, .h (.load 26 true (.t 2))⟩,
    ⟨none, none, .h (.store 26 (.t 4) (.t 106))⟩,
    ⟨some 5, none, .p (.mv (.k (.c (C.bool false))))⟩] [4, 5])
  .ret)
  .skip))
  (.seq (.region [⟨some 107, none, .h (.load 24 true (.t 16))⟩,
    ⟨some 108, none, .p (.fld 0 (.t 2))⟩,
    ⟨none, none, .h (.store 24 (.t 108) (.t 107))⟩] [2, 3, 4])
  (.seq (.region [⟨some 109, none, .p (.fld 24 (.t 2))⟩,
    ⟨some 110, none, .h (.load 1 false (.t 109))⟩,
    ⟨some 111, none, .p (.fld 3 (.t 3))⟩,
    ⟨some 112, none, .h (.load 1 false (.t 111))⟩,
    ⟨some 113, none, .p (.bin .sub (.t 110) (.t 112))⟩,
    ⟨some 114, none, .p (.fld 24 (.t 2))⟩,
    ⟨none, none, .h (.store 1 (.t 114) (.t 113))⟩] [2, 4])
  (.seq (.region [⟨some 115, none, .h (.load 26 true (.t 2))⟩,
    ⟨none, none, .h (.store 26 (.t 4) (.t 115))⟩,
    ⟨some 5, none, .p (.mv (.k (.c (C.bool true))))⟩] [4, 5])
  .ret)))))
  .skip))))))))))))
  (.seq (.region [⟨some 116, none, .h (.load 26 true (.t 2))⟩,
    ⟨none, none, .h (.store 26 (.t 4) (.t 116))⟩,
    ⟨some 5, none, .p (.mv (.k (.c (C.bool false))))⟩] [4, 5])
  .ret))) }
theorem a223_ok : okFn Try.prog 223 a223 = true := by kernel_rfl
/-- loop.example/g01215/spec.l12Plain -/
def a224 : AFn := { np := 1, nt := 20, res := [.t 2], body :=
  (.seq (.region [⟨some 1, none, .p (.box 4 (.t 0))⟩,
    ⟨some 2, none, .p (.mv (.k (.c (C.bool false))))⟩] [1])
  (.seq (.seq (.region [⟨some 3, none, .p (.fld 0 (.t 1))⟩,
    ⟨some 4, none, .h (.load 1 false (.t 3))⟩] [1, 4])
  (.block 0 (.seq (.region [⟨some 6, none, .p (.bin .eql (.t 4) (.k (.c (C.int .i64 3))))⟩,
    ⟨some 5, none, .p (.mv (.t 6))⟩] [1, 4, 5])
  (.cond (.t 5)
  (.seq (.region [⟨some 7, none, .p (.fld 2 (.t 1))⟩,
    ⟨some 8, none, .h (.load 1 false (.t 7))⟩,
    ⟨some 9, none, .p (.bin .eql (.t 8) (.k (.c (C.int .i64 0))))⟩,
    ⟨some 10, none, .p (.mv (.t 9))⟩,
    ⟨some 11, some (10, true), .p (.fld 3 (.t 1))⟩,
    ⟨some 12, some (10, true), .h (.load 1 false (.t 11))⟩,
    ⟨some 13, some (10, true), .p (.bin .eql (.t 12) (.k (.c (C.int .i64 0))))⟩,
    ⟨some 14, none, .p (.pick (.t 10) (.t 13) (.k (.c (C.bool false))))⟩,
    ⟨some 2, none, .p (.mv (.t 14))⟩] [2])
  .ret)
  (.seq (.region [⟨some 16, none, .p (.bin .eql (.t 4) (.k (.c (C.int .i64 5))))⟩,
    ⟨some 15, none, .p (.mv (.t 16))⟩] [1, 15])
  (.cond (.t 15)
  (.seq (.region [⟨some 2, none, .p (.mv (.k (.c (C.bool true))))⟩] [2])
  .ret)
  .skip))))))
  (.seq (.region [⟨some 17, none, .p (.fld 3 (.t 1))⟩,
    ⟨some 18, none, .h (.load 1 false (.t 17))⟩,
    ⟨some 19, none, .p (.bin .eql (.t 18) (.k (.c (C.int .i64 0))))⟩,
    ⟨some 2, none, .p (.mv (.t 19))⟩] [2])
  .ret))) }
theorem a224_ok : okFn Try.prog 224 a224 = true := by kernel_rfl
/-- (*loop.example/g01215/spec.l1Cur).next -/
def a225 : AFn := { np := 1, nt := 62, res := [.t 2], body :=
  (.seq (.region [⟨some 2, none, .p (.mv (.k (.c (C.int .i64 0))))⟩] [0])
  (.seq (.region [⟨some 3, none, .p (.mv (.k (.c (C.int .i64 0))))⟩] [0, 3])
  (.seq (.seq (.regionD [⟨some 4, none, .p (.mv (.t 0))⟩,
    ⟨some 5, none, .p (.nn (.t 4))⟩,
    ⟨some 6, none, .p (.fld 1 (.t 5))⟩,
    ⟨some 7, none, .h (.load 1 false (.t 6))⟩,
    ⟨some 8, none, .p (.mv (.t 0))⟩,
    ⟨some 9, none, .p (.nn (.t 8))⟩,
    ⟨some 10, none, .p (.fld 0 (.t 9))⟩,
    ⟨some 11, none, .h (.load 1 false (.t 10))⟩,
    ⟨some 12, none, .p (.len (.t 11))⟩,
    ⟨some 13, none, .p (.bin .lss (.t 7) (.t 12))⟩] [0, 3, 13] [])
  (.cond (.t 13)
  (.regionD [⟨some 14, none, .p (.mv (.t 0))⟩,
    ⟨some 15, none, .p (.nn (.t 14))⟩,
    ⟨some 16, none, .p (.fld 0 (.t 15))⟩,
    ⟨some 17, none, .h (.load 1 false (.t 16))⟩,
    ⟨some 18, none, .p (.mv (.t 0))⟩,
    ⟨some 19, none, .p (.nn (.t 18))⟩,
    ⟨some 20, none, .p (.fld 1 (.t 19))⟩,
    ⟨some 21, none, .h (.load 1 false (.t 20))⟩,
    ⟨some 22, none, .p (.ixS 1 (.t 17) (.t 21))⟩,
    ⟨some 23, none, .h (.load 1 false (.t 22))⟩,
    ⟨some 24, none, .p (.conv .i64 (.t 23))⟩,
    ⟨some 3, none, .p (.mv (.t 24))⟩] [0, 3] [])
  .skip))
  (.seq (.region [⟨some 25, none, .p (.mv (.t 0))⟩,
    ⟨some 26, none, .p (.nn (.t 25))⟩,
    ⟨some 27, none, .p (.fld 1 (.t 26))⟩,
    ⟨some 28, none, .h (.load 1 false (.t 27))⟩,
    ⟨some 29, none, .p (.bin .add (.t 28) (.k (.c (C.int .i64 1))))⟩,
    ⟨some 30, none, .p (.nn (.t 25))⟩,
    ⟨some 31, none, .p (.fld 1 (.t 30))⟩,
    ⟨none, none, .h (.store 1 (.t 31) (.t 29))⟩] [0, 3])
  (.seq (.region [⟨some 32, none, .p (.mv (.t 0))⟩,
    ⟨some 33, none, .p (.mv (.t 0))⟩,
    ⟨some 34, none, .p (.nn (.t 33))⟩,
    ⟨some 35, none, .p (.fld 2 (.t 34))⟩,
    ⟨some 36, none, .h (.load 1 false (.t 35))⟩,
    ⟨some 37, none, .p (.bin .mul (.t 36) (.k (.c (C.int .u64 6364136223846793005))))⟩,
    ⟨some 38, none, .p (.mv (.t 3))⟩,
    ⟨some 39, none, .p (.conv .u64 (.t 38))⟩,
    ⟨some 40, none, .p (.bin .add (.t 37) (.t 39))⟩,
    ⟨some 41, none, .p (.bin .add (.t 40) (.k (.c (C.int .u64 462197))))⟩,
    ⟨some 42, none, .p (.nn (.t 32))⟩,
    ⟨some 43, none, .p (.fld 2 (.t 42))⟩,
    ⟨none, none, .h (.store 1 (.t 43) (.t 41))⟩] [0, 3])
  (.seq (.seq (.regionD [⟨some 44, none, .p (.mv (.t 0))⟩,
    ⟨some 45, none, .p (.nn (.t 44))⟩,
    ⟨some 46, none, .p (.fld 1 (.t 45))⟩,
    ⟨some 47, none, .h (.load 1 false (.t 46))⟩,
    ⟨some 48, none, .p (.mv (.t 0))⟩,
    ⟨some 49, none, .p (.nn (.t 48))⟩,
    ⟨some 50, none, .p (.fld 0 (.t 49))⟩,
    ⟨some 51, none, .h (.load 1 false (.t 50))⟩,
    ⟨some 52, none, .p (.len (.t 51))⟩,
    ⟨some 53, none, .p (.bin .leq (.t 47) (.t 52))⟩] [0, 3, 53] [])
  (.cond (.t 53)
  (.seq (.region [⟨some 54, none, .p (.mv (.t 3))⟩,
    ⟨some 2, none, .p (.mv (.t 54))⟩] [2])
  .ret)
  .skip))
  (.seq (.region [⟨some 55, none, .p (.mv (.t 0))⟩,
    ⟨some 56, none, .p (.nn (.t 55))⟩,
    ⟨some 57, none, .p (.fld 2 (.t 56))⟩,
    ⟨some 58, none, .h (.load 1 false (.t 57))⟩,
    ⟨some 59, none, .p (.bin .shr (.t 58) (.k (.c (C.int .u64 40))))⟩,
    ⟨some 60, none, .p (.bin .and (.t 59) (.k (.c (C.int .u64 255))))⟩,
    ⟨some 61, none, .p (.conv .i64 (.t 60))⟩,
    ⟨some 2, none, .p (.mv (.t 61))⟩] [2])
  .ret))))))) }
theorem a225_ok : okFn Try.prog 225 a225 = true := by kernel_rfl
/-- loop.example/g01215/impl.countColors -/
def a226 : AFn := { np := 1, nt := 25, res := [.cell 2 6 true], body :=
  (.seq (.region [⟨some 1, none, .p (.box 24 (.t 0))⟩,
    ⟨some 2, none, .p (.alloc [.k (C.int .i64 0), .k (C.int .i64 0), .k (C.int .i64 0), .k (C.int .i64 0), .k (C.int .i64 0), .k (C.int .i64 0)])⟩] [1, 2])
  (.seq (.region [⟨some 3, none, .p (.alloc [.k (C.int .i64 0), .k (C.int .i64 0), .k (C.int .i64 0), .k (C.int .i64 0), .k (C.int .i64 0), .k (C.int .i64 0)])⟩] [1, 2, 3])
  (.seq (.seq (.region [⟨some 8, none, .p (.fld 0 (.t 1))⟩,
    ⟨some 9, none, .h (.load 24 true (.t 8))⟩,
    ⟨some 10, none, .p (.mv (.k (.c (C.int .i64 0))))⟩] [2, 3, 9, 10])
  (.block 0 (.loop (.seq (.region [⟨some 11, none, .p (.bin .lss (.t 10) (.k (.c (C.int .i64 6))))⟩] [2, 3, 9, 10, 11])
  (.seq (.cond (.t 11)
  .skip
  (.exit 0))
  (.seq (.block 1 (.seq (.region [⟨some 12, none, .p (.ixV 6 4 true (.t 9) (.t 10))⟩,
    ⟨some 5, none, .p (.alloc [.k (C.int .i64 0), .k (C.int .i64 0), .k (C.int .i64 0), .k (C.int .i64 0)])⟩,
    ⟨none, none, .h (.store 4 (.t 5) (.t 12))⟩] [2, 3, 5, 9, 10])
  (.seq (.region [⟨some 13, none, .h (.load 4 true (.t 5))⟩,
    ⟨some 14, none, .p (.mv (.k (.c (C.int .i64 0))))⟩] [2, 3, 9, 10, 13, 14])
  (.block 2 (.loop (.seq (.region [⟨some 15, none, .p (.bin .lss (.t 14) (.k (.c (C.int .i64 4))))⟩] [2, 3, 9, 10, 13, 14, 15])
  (.seq (.cond (.t 15)
  .skip
  (.exit 2))
  (.seq (.block 3 (.seq (.region [⟨some 16, none, .p (.ixV 4 1 false (.t 13) (.t 14))⟩,
    ⟨some 7, none, .p (.mv (.t 16))⟩] [2, 3, 7, 9, 10, 13, 14])
  (.region [⟨some 17, none, .p (.mv (.t 7))⟩,
    ⟨some 18, none, .p (.ixA 6 1 (.t 3) (.t 17))⟩,
    ⟨some 19, none, .h (.load 1 false (.t 18))⟩,
    ⟨some 20, none, .p (.bin .add (.t 19) (.k (.c (C.int .i64 1))))⟩,
    ⟨some 21, none, .p (.ixA 6 1 (.t 3) (.t 17))⟩,
    ⟨none, none, .h (.store 1 (.t 21) (.t 20))⟩] [2, 3, 9, 10, 13, 14])))
  (.region [⟨some 22, none, .p (.bin .add (.t 14) (.k (.c (C.int .i64 1))))⟩,
    ⟨some 14, none, .p (.mv (.t 22))⟩] [2, 3, 9, 10, 13, 14])))) [2, 3, 9, 10, 13, 14])))))
  (.region [⟨some 23, none, .p (.bin .add (.t 10) (.k (.c (C.int .i64 1))))⟩,
    ⟨some 10, none, .p (.mv (.t 23))⟩] [2, 3, 9, 10])))) [2, 3, 9, 10])))
  (.seq (.region [⟨some 24, none, .h (.load 6 true (.t 3))⟩,
    ⟨none, none, .h (.store 6 (.t 2) (.t 24))⟩] [2])
  .ret)))) }
theorem a226_ok : okFn Try.prog 226 a226 = true := by kernel_rfl
/-- loop.example/g01215/spec.l5Sources -/
def a227 : AFn := { np := 1, nt := 39, res := [.t 2], body :=
  (.seq (.region [⟨some 1, none, .p (.box 24 (.t 0))⟩,
    ⟨some 2, none, .p (.nilsl 3)⟩] [1])
  (.seq (.region [⟨some 10, none, .p (.mksl 3 0 [.k (C.int .i64 0), .k (C.int .i64 0), .k (C.int .i64 0)] [])⟩,
    ⟨some 3, none, .p (.mv (.t 10))⟩] [1, 3])
  (.seq (.seq (.region [⟨some 4, none, .p (.mv (.k (.c (C.int .i64 0))))⟩] [1, 3, 4])
  (.block 0 (.loop (.seq (.seq (.region [⟨some 11, none, .p (.mv (.t 4))⟩,
    ⟨some 12, none, .p (.bin .lss (.t 11) (.k (.c (C.int .i64 6))))⟩] [1, 3, 4, 12])
  (.cond (.t 12)
  .skip
  (.exit 0)))
  (.seq (.block 1 (.seq (.region [⟨some 5, none, .p (.mv (.k (.c (C.int .i64 0))))⟩] [1, 3, 4, 5])
  (.block 2 (.loop (.seq (.seq (.region [⟨some 15, none, .p (.mv (.t 5))⟩,
    ⟨some 16, none, .p (.bin .lss (.t 15) (.k (.c (C.int .i64 6))))⟩] [1, 3, 4, 5, 16])
  (.cond (.t 16)
  .skip
  (.exit 2)))
  (.seq (.block 3 (.seq (.region [⟨some 6, none, .p (.mv (.k (.c (C.int .i64 1))))⟩] [1, 3, 4, 5, 6])
  (.block 4 (.loop (.seq (.seq (.region [⟨some 19, none, .p (.mv (.t 6))⟩,
    ⟨some 20, none, .p (.bin .leq (.t 19) (.k (.c (C.int .i64 4))))⟩] [1, 3, 4, 5, 6, 20])
  (.cond (.t 20)
  .skip
  (.exit 4)))
  (.seq (.block 5 (.seq (.region [⟨some 23, none, .p (.mv (.t 4))⟩,
    ⟨some 24, none, .p (.mv (.t 5))⟩,
    ⟨some 25, none, .p (.mv (.t 6))⟩,
    ⟨some 26, none, .p (.build [.k (C.int .i64 0), .k (C.int .i64 0), .k (C.int .i64 0)] [(0, 1, .t 23), (1, 1, .t 24), (2, 1, .t 25)])⟩,
    ⟨some 7, none, .p (.alloc [.k (C.int .i64 0), .k (C.int .i64 0), .k (C.int .i64 0)])⟩,
    ⟨none, none, .h (.store 3 (.t 7) (.t 26))⟩] [1, 3, 4, 5, 6, 7])
  (.seq (.region [⟨some 28, none, .h (.load 24 true (.t 1))⟩,
    ⟨some 29, none, .h (.load 3 true (.t 7))⟩,
    ⟨some 30, none, .h (.call (.f 228) [.t 28, .t 29])⟩,
    ⟨some 27, none, .p (.mv (.t 30))⟩,
    ⟨some 31, none, .p (.ext (.t 27) 0)⟩,
    ⟨some 32, none, .p (.ext (.t 27) 1)⟩,
    ⟨some 8, none, .p (.alloc (List.replicate 24 (.k (C.int .i64 0))))⟩,
    ⟨none, none, .h (.store 24 (.t 8) (.t 31))⟩,
    ⟨some 9, none, .p (.mv (.t 32))⟩] [1, 3, 4, 5, 6, 7, 9])
  (.seq (.region [⟨some 33, none, .p (.mv (.t 9))⟩] [1, 3, 4, 5, 6, 7, 33])
  (.cond (.t 33)
  (.region [⟨some 34, none, .p (.mv (.t 3))⟩,
    ⟨some 35, none, .h (.load 3 true (.t 7))⟩,
    ⟨some 36, none, .p (.mksl 3 1 [.k (C.int .i64 0), .k (C.int .i64 0), .k (C.int .i64 0)] [(0, 3, .t 35)])⟩,
    ⟨some 37, none, .h (.app 3 (.t 34) (.t 36))⟩,
    ⟨some 3, none, .p (.mv (.t 37))⟩] [1, 3, 4, 5, 6])
  .skip)))))
  (.region [⟨some 21, none, .p (.mv (.t 6))⟩,
    ⟨some 22, none, .p (.bin .add (.t 21) (.k (.c (C.int .i64 1))))⟩,
    ⟨some 6, none, .p (.mv (.t 22))⟩] [1, 3, 4, 5, 6]))) [1, 3, 4, 5, 6]))))
  (.region [⟨some 17, none, .p (.mv (.t 5))⟩,
    ⟨some 18, none, .p (.bin .add (.t 17) (.k (.c (C.int .i64 1))))⟩,
    ⟨some 5, none, .p (.mv (.t 18))⟩] [1, 3, 4, 5]))) [1, 3, 4, 5]))))
  (.region [⟨some 13, none, .p (.mv (.t 4))⟩,
    ⟨some 14, none, .p (.bin .add (.t 13) (.k (.c (C.int .i64 1))))⟩,
    ⟨some 4, none, .p (.mv (.t 14))⟩] [1, 3, 4]))) [1, 3, 4])))
  (.seq (.region [⟨some 38, none, .p (.mv (.t 3))⟩,
    ⟨some 2, none, .p (.mv (.t 38))⟩] [2])
  .ret)))) }
theorem a227_ok : okFn Try.prog 227 a227 = true := by kernel_rfl
/-- loop.example/g01215/spec.l5Back -/
def a228 : AFn := { np := 2, nt := 115, res := [.cell 4 24 true, .t 5], body :=
  (.seq (.region [⟨some 2, none, .p (.box 24 (.t 0))⟩,
    ⟨some 3, none, .p (.box 3 (.t 1))⟩,
    ⟨some 4, none, .p (.alloc (List.replicate 24 (.k (C.int .i64 0))))⟩,
    ⟨some 5, none, .p (.mv (.k (.c (C.bool false))))⟩] [2, 3, 4])
  (.seq (.seq (.region [⟨some 14, none, .p (.fld 0 (.t 3))⟩,
    ⟨some 15, none, .h (.load 1 false (.t 14))⟩,
    ⟨some 16, none, .h (.call (.f 118) [.t 15])⟩,
    ⟨some 17, none, .p (.un .not (.t 16))⟩,
    ⟨some 18, none, .p (.mv (.t 17))⟩,
    ⟨some 19, some (18, false), .p (.fld 1 (.t 3))⟩,
    ⟨some 20, some (18, false), .h (.load 1 false (.t 19))⟩,
    ⟨some 21, some (18, false), .h (.call (.f 118) [.t 20])⟩,
    ⟨some 22, some (18, false), .p (.un .not (.t 21))⟩,
    ⟨some 23, none, .p (.pick (.t 18) (.k (.c (C.bool true))) (.t 22))⟩,
    ⟨some 24, none, .p (.mv (.t 23))⟩,
    ⟨some 25, some (24, false), .p (.fld 0 (.t 3))⟩,
    ⟨some 26, some (24, false), .h (.load 1 false (.t 25))⟩,
    ⟨some 27, some (24, false), .p (.fld 1 (.t 3))⟩,
    ⟨some 28, some (24, false), .h (.load 1 false (.t 27))⟩,
    ⟨some 29, some (24, false), .p (.bin .eql (.t 26) (.t 28))⟩,
    ⟨some 30, none, .p (.pick (.t 24) (.k (.c (C.bool true))) (.t 29))⟩] [2, 3, 4, 30])
  (.cond (.t 30)
  (.seq (.region [⟨some 31, none, .p (.build (List.replicate 24 (.k (C.int .i64 0))) [])⟩,
    ⟨none, none, .h (.store 24 (.t 4) (.t 31))⟩,
    ⟨some 5, none, .p (.mv (.k (.c (C.bool false))))⟩] [4, 5])
  .ret)
  .skip))
  (.seq (.region [⟨some 33, none, .p (.fld 1 (.t 3))⟩,
    ⟨some 34, none, .h (.load 1 false (.t 33))⟩,
    ⟨some 35, none, .p (.fld 0 (.t 2))⟩,
    ⟨some 36, none, .p (.ixA 6 4 (.t 35) (.t 34))⟩,
    ⟨some 37, none, .h (.load 4 true (.t 36))⟩,
    ⟨some 38, none, .h (.call (.f 201) [.t 37])⟩,
    ⟨some 32, none, .p (.mv (.t 38))⟩,
    ⟨some 39, none, .p (.ext (.t 32) 0)⟩,
    ⟨some 40, none, .p (.ext (.t 32) 1)⟩,
    ⟨some 6, none, .p (.mv (.t 39))⟩,
    ⟨some 7, none, .p (.mv (.t 40))⟩] [2, 3, 4, 6, 7])
  (.seq (.regionD [⟨some 41, none, .p (.fld 0 (.t 3))⟩,
    ⟨some 42, none, .h (.load 1 false (.t 41))⟩,
    ⟨some 43, none, .p (.fld 0 (.t 2))⟩,
    ⟨some 44, none, .p (.ixA 6 4 (.t 43) (.t 42))⟩,
    ⟨some 45, none, .h (.load 4 true (.t 44))⟩,
    ⟨some 46, none, .h (.call (.f 200) [.t 45])⟩,
    ⟨some 47, none, .p (.fld 1 (.t 3))⟩,
    ⟨some 48, none, .h (.load 1 false (.t 47))⟩,
    ⟨some 49, none, .p (.fld 0 (.t 2))⟩,
    ⟨some 50, none, .p (.ixA 6 4 (.t 49) (.t 48))⟩,
    ⟨some 51, none, .h (.load 4 true (.t 50))⟩,
    ⟨some 52, none, .h (.call (.f 200) [.t 51])⟩,
    ⟨some 8, none, .p (.mv (.t 46))⟩,
    ⟨some 9, none, .p (.mv (.t 52))⟩] [2, 3, 4, 6, 7, 8, 9] [])
  (.seq (.seq (.regionD [⟨some 53, none, .p (.fld 2 (.t 3))⟩,
    ⟨some 54, none, .h (.load 1 false (.t 53))⟩,
    ⟨some 55, none, .p (.mv (.t 7))⟩,
    ⟨some 56, none, .p (.mv (.t 8))⟩,
    ⟨some 57, none, .p (.bin .sub (.k (.c (C.int .i64 4))) (.t 56))⟩,
    ⟨some 58, none, .h (.call (.f 202) [.t 55, .t 57])⟩,
    ⟨some 59, none, .h (.call (.f 119) [.t 54, .k (.c (C.int .i64 1)), .t 58])⟩,
    ⟨some 60, none, .p (.un .not (.t 59))⟩] [2, 3, 4, 6, 8, 9, 60] [])
  (.cond (.t 60)
  (.seq (.region [⟨some 61, none, .p (.build (List.replicate 24 (.k (C.int .i64 0))) [])⟩,
    ⟨none, none, .h (.store 24 (.t 4) (.t 61))⟩,
    ⟨some 5, none, .p (.mv (.k (.c (C.bool false))))⟩] [4, 5])
  .ret)
  .skip))
  (.seq (.region [⟨some 62, none, .h (.load 24 true (.t 2))⟩,
    ⟨some 10, none, .p (.alloc (List.replicate 24 (.k (C.int .i64 0))))⟩,
    ⟨none, none, .h (.store 24 (.t 10) (.t 62))⟩] [2, 3, 4, 6, 8, 9, 10])
  (.seq (.seq (.region [⟨some 11, none, .p (.mv (.k (.c (C.int .i64 0))))⟩] [2, 3, 4, 6, 8, 9, 10, 11])
  (.block 0 (.loop (.seq (.seq (.region [⟨some 63, none, .p (.mv (.t 11))⟩,
    ⟨some 64, none, .p (.fld 2 (.t 3))⟩,
    ⟨some 65, none, .h (.load 1 false (.t 64))⟩,
    ⟨some 66, none, .p (.bin .lss (.t 63) (.t 65))⟩] [2, 3, 4, 6, 8, 9, 10, 11, 66])
  (.cond (.t 66)
  .skip
  (.exit 0)))
  (.seq (.block 1 (.seq (.region [⟨some 69, none, .p (.fld 1 (.t 3))⟩,
    ⟨some 70, none, .h (.load 1 false (.t 69))⟩,
    ⟨some 71, none, .p (.mv (.t 9))⟩,
    ⟨some 72, none, .p (.bin .sub (.t 71) (.k (.c (C.int .i64 1))))⟩,
    ⟨some 73, none, .p (.mv (.t 11))⟩,
    ⟨some 74, none, .p (.bin .sub (.t 72) (.t 73))⟩,
    ⟨some 75, none, .p (.fld 0 (.t 10))⟩,
    ⟨some 76, none, .p (.ixA 6 4 (.t 75) (.t 70))⟩,
    ⟨some 77, none, .p (.ixA 4 1 (.t 76) (.t 74))⟩,
    ⟨none, none, .h (.store 1 (.t 77) (.k (.c (C.int .i64 0))))⟩] [2, 3, 4, 6, 8, 9, 10, 11])
  (.region [⟨some 78, none, .p (.fld 0 (.t 3))⟩,
    ⟨some 79, none, .h (.load 1 false (.t 78))⟩,
    ⟨some 80, none, .p (.mv (.t 8))⟩,
    ⟨some 81, none, .p (.mv (.t 11))⟩,
    ⟨some 82, none, .p (.bin .add (.t 80) (.t 81))⟩,
    ⟨some 83, none, .p (.mv (.t 6))⟩,
    ⟨some 84, none, .p (.fld 0 (.t 10))⟩,
    ⟨some 85, none, .p (.ixA 6 4 (.t 84) (.t 79))⟩,
    ⟨some 86, none, .p (.ixA 4 1 (.t 85) (.t 82))⟩,
    ⟨none, none, .h (.store 1 (.t 86) (.t 83))⟩] [2, 3, 4, 6, 8, 9, 10, 11])))
  (.region [⟨some 67, none, .p (.mv (.t 11))⟩,
    ⟨some 68, none, .p (.bin .add (.t 67) (.k (.c (C.int .i64 1))))⟩,
    ⟨some 11, none, .p (.mv (.t 68))⟩] [2, 3, 4, 6, 8, 9, 10, 11]))) [2, 3, 4, 6, 8, 9, 10, 11])))
  (.seq (.seq (.region [⟨some 87, none, .h (.load 24 true (.t 10))⟩,
    ⟨some 88, none, .p (.fld 0 (.t 3))⟩,
    ⟨some 89, none, .h (.load 1 false (.t 88))⟩,
    ⟨some 90, none, .p (.fld 1 (.t 3))⟩,
    ⟨some 91, none, .h (.load 1 false (.t 90))⟩,
    ⟨some 92, none, .h (.call (.f 198) [.t 87, .t 89, .t 91])⟩,
    ⟨some 93, none, .p (.un .not (.t 92))⟩] [2, 3, 4, 10, 93])
  (.cond (.t 93)
  (.seq (.region [⟨some 94, none, .p (.build (List.replicate 24 (.k (C.int .i64 0))) [])⟩,
    ⟨none, none, .h (.store 24 (.t 4) (.t 94))⟩,
    ⟨some 5, none, .p (.mv (.k (.c (C.bool false))))⟩] [4, 5])
  .ret)
  .skip))
  (.seq (.region [⟨some 96, none, .h (.load 24 true (.t 10))⟩,
    ⟨some 97, none, .p (.fld 0 (.t 3))⟩,
    ⟨some 98, none, .h (.load 1 false (.t 97))⟩,
    ⟨some 99, none, .p (.fld 1 (.t 3))⟩,
    ⟨some 100, none, .h (.load 1 false (.t 99))⟩,
    ⟨some 101, none, .h (.call (.f 132) [.t 96, .t 98, .t 100])⟩,
    ⟨some 95, none, .p (.mv (.t 101))⟩,
    ⟨some 102, none, .p (.ext (.t 95) 0)⟩,
    ⟨some 103, none, .p (.ext (.t 95) 1)⟩,
    ⟨some 12, none, .p (.alloc (List.replicate 24 (.k (C.int .i64 0))))⟩,
    ⟨none, none, .h (.store 24 (.t 12) (.t 102))⟩,
    ⟨some 13, none, .p (.mv (.t 103))⟩] [2, 3, 4, 10, 12, 13])
  (.seq (.seq (.region [⟨some 104, none, .h (.load 24 true (.t 12))⟩,
    ⟨some 105, none, .h (.load 24 true (.t 2))⟩,
    ⟨some 106, none, .p (.eqv true (List.replicate 24 (.int .i64)) (.t 104) (.t 105))⟩,
    ⟨some 107, none, .p (.mv (.t 106))⟩,
    ⟨some 108, some (107, false), .p (.mv (.t 13))⟩,
    ⟨some 109, some (107, false), .p (.fld 2 (.t 3))⟩,
    ⟨some 110, some (107, false), .h (.load 1 false (.t 109))⟩,
    ⟨some 111, some (107, false), .p (.bin .neq (.t 108) (.t 110))⟩,
    ⟨some 112, none, .p (.pick (.t 107) (.k (.c (C.bool true))) (.t 111))⟩] [4, 10, 112])
  (.cond (.t 112)
  (.seq (.region [⟨some 113, none, .p (.build (List.replicate 24 (.k (C.int .i64 0))) [])⟩,
    ⟨none, none, .h (.store 24 (.t 4) (.t 113))⟩,
    ⟨some 5, none, .p (.mv (.k (.c (C.bool false))))⟩] [4, 5])
  .ret)
  .skip))
  (.seq (.region [⟨some 114, none, .h (.load 24 true (.t 10))⟩,
    ⟨none, none, .h (.store 24 (.t 4) (.t 114))⟩,
    ⟨some 5, none, .p (.mv (.k (.c (C.bool true))))⟩] [4, 5])
  .ret))))))))))) }
theorem a228_ok : okFn Try.prog 228 a228 = true := by kernel_rfl
/-- slices.Index[[]int,int] -/
def a234 : AFn := { np := 2, nt := 19, res := [.t 4], body :=
  (.seq (.region [⟨some 4, none, .p (.mv (.k (.c (C.int .i64 0))))⟩] [0, 1])
  (.seq (.seq (.region [⟨some 6, none, .p (.mv (.t 0))⟩,
    ⟨some 7, none, .p (.len (.t 6))⟩,
    ⟨some 8, none, .p (.mv (.k (.c (C.int .i64 0))))⟩] [0, 1, 7, 8])
  (.block 0 (.loop (.seq (.region [⟨some 9, none, .p (.bin .lss (.t 8) (.t 7))⟩] [0, 1, 7, 8, 9])
  (.seq (.cond (.t 9)
  .skip
  (.exit 0))
  (.seq (.block 1 (.seq (.region [⟨some 10, none, .p (.mv (.t 8))⟩,
    ⟨some 5, none, .p (.mv (.t 10))⟩] [0, 1, 5, 7, 8])
  (.seq (.region [⟨some 11, none, .p (.mv (.t 1))⟩,
    ⟨some 12, none, .p (.mv (.t 0))⟩,
    ⟨some 13, none, .p (.mv (.t 5))⟩,
    ⟨some 14, none, .p (.ixS 1 (.t 12) (.t 13))⟩,
    ⟨some 15, none, .h (.load 1 false (.t 14))⟩,
    ⟨some 16, none, .p (.bin .eql (.t 11) (.t 15))⟩] [0, 1, 5, 7, 8, 16])
  (.cond (.t 16)
  (.seq (.region [⟨some 17, none, .p (.mv (.t 5))⟩,
    ⟨some 4, none, .p (.mv (.t 17))⟩] [4])
  .ret)
  .skip))))
  (.region [⟨some 18, none, .p (.bin .add (.t 8) (.k (.c (C.int .i64 1))))⟩,
    ⟨some 8, none, .p (.mv (.t 18))⟩] [0, 1, 7, 8])))) [0, 1, 7, 8])))
  (.seq (.region [⟨some 4, none, .p (.mv (.k (.c (C.int .i64 (-1)))))⟩] [4])
  .ret))) }
theorem a234_ok : okFn Try.prog 234 a234 = true := by kernel_rfl
/-- slices.ContainsFunc[[]int,int] -/
def a235 : AFn := { np := 2, nt := 9, res := [.t 4], body :=
  (.seq (.region [⟨some 4, none, .p (.mv (.k (.c (C.bool false))))⟩] [0, 1])
  (.seq (.region [⟨some 5, none, .p (.mv (.t 0))⟩,
    ⟨some 6, none, .p (.mv (.t 1))⟩,
    ⟨some 7, none, .h (.call (.f 245) [.t 5, .t 6])⟩,
    ⟨some 8, none, .p (.bin .geq (.t 7) (.k (.c (C.int .i64 0))))⟩,
    ⟨some 4, none, .p (.mv (.t 8))⟩] [4])
  .ret)) }
theorem a235_ok : okFn Try.prog 235 a235 = true := by kernel_rfl
/-- loop.example/g01215/impl.areAll[int]$1 -/
def a236 : AFn := { np := 2, nt := 8, res := [.t 3], body :=
  (.seq (.region [⟨some 3, none, .p (.mv (.k (.c (C.bool false))))⟩] [0, 1])
  (.seq (.region [⟨some 4, none, .h (.load 1 false (.t 1))⟩,
    ⟨some 5, none, .p (.mv (.t 0))⟩,
    ⟨some 6, none, .h (.call (.t 4) [.t 5])⟩,
    ⟨some 7, none, .p (.un .not (.t 6))⟩,
    ⟨some 3, none, .p (.mv (.t 7))⟩] [3])
  .ret)) }
theorem a236_ok : okFn Try.prog 236 a236 = true := by kernel_rfl
/-- slices.Grow[[][2]int,[2]int] -/
def a237 : AFn := { np := 2, nt := 27, res := [.t 4], body :=
  (.seq (.region [⟨some 4, none, .p (.nilsl 2)⟩] [0, 1])
  (.seq (.seq (.region [⟨some 5, none, .p (.mv (.t 1))⟩,
    ⟨some 6, none, .p (.bin .lss (.t 5) (.k (.c (C.int .i64 0))))⟩] [0, 1, 6])
  (.cond (.t 6)
  (.region [⟨some 7, none, .p (.bad)⟩,
    ⟨none, none, .p (.bad)⟩] [0, 1])
  .skip))
  (.seq (.seq (.region [⟨some 8, none, .p (.mv (.t 1))⟩,
    ⟨some 9, none, .p (.mv (.t 0))⟩,
    ⟨some 10, none, .p (.cap0 (.t 9))⟩,
    ⟨some 11, none, .p (.mv (.t 0))⟩,
    ⟨some 12, none, .p (.len (.t 11))⟩,
    ⟨some 13, none, .p (.bin .sub (.t 10) (.t 12))⟩,
    ⟨some 14, none, .p (.bin .sub (.t 8) (.t 13))⟩,
    ⟨some 1, none, .p (.mv (.t 14))⟩] [0, 1])
  (.seq (.region [⟨some 15, none, .p (.mv (.t 1))⟩,
    ⟨some 16, none, .p (.bin .gtr (.t 15) (.k (.c (C.int .i64 0))))⟩] [0, 1, 16])
  (.cond (.t 16)
  (.region [⟨some 17, none, .p (.mv (.t 0))⟩,
    ⟨some 18, none, .p (.mv (.t 0))⟩,
    ⟨some 19, none, .p (.cap0 (.t 18))⟩,
    ⟨some 20, none, .p (.slS 2 (.t 17) none (some (.t 19)))⟩,
    ⟨some 21, none, .p (.mv (.t 1))⟩,
    ⟨some 22, none, .p (.grow0 2 [.k (C.int .i64 0), .k (C.int .i64 0)] (.t 20) (.t 21))⟩,
    ⟨some 23, none, .p (.mv (.t 0))⟩,
    ⟨some 24, none, .p (.len (.t 23))⟩,
    ⟨some 25, none, .p (.slS 2 (.t 22) none (some (.t 24)))⟩,
    ⟨some 0, none, .p (.mv (.t 25))⟩] [0])
  .skip)))
  (.seq (.region [⟨some 26, none, .p (.mv (.t 0))⟩,
    ⟨some 4, none, .p (.mv (.t 26))⟩] [4])
  .ret)))) }
theorem a237_ok : okFn Try.prog 237 a237 = true := by kernel_rfl
/-- slices.IndexFunc[[][4]int,[4]int] -/
def a238 : AFn := { np := 2, nt := 19, res := [.t 4], body :=
  (.seq (.region [⟨some 4, none, .p (.mv (.k (.c (C.int .i64 0))))⟩] [0, 1])
  (.seq (.seq (.region [⟨some 6, none, .p (.mv (.t 0))⟩,
    ⟨some 7, none, .p (.len (.t 6))⟩,
    ⟨some 8, none, .p (.mv (.k (.c (C.int .i64 0))))⟩] [0, 1, 7, 8])
  (.block 0 (.loop (.seq (.region [⟨some 9, none, .p (.bin .lss (.t 8) (.t 7))⟩] [0, 1, 7, 8, 9])
  (.seq (.cond (.t 9)
  .skip
  (.exit 0))
  (.seq (.block 1 (.seq (.region [⟨some 10, none, .p (.mv (.t 8))⟩,
    ⟨some 5, none, .p (.mv (.t 10))⟩] [0, 1, 5, 7, 8])
  (.seq (.region [⟨some 11, none, .p (.mv (.t 1))⟩,
    ⟨some 12, none, .p (.mv (.t 0))⟩,
    ⟨some 13, none, .p (.mv (.t 5))⟩,
    ⟨some 14, none, .p (.ixS 4 (.t 12) (.t 13))⟩,
    ⟨some 15, none, .h (.load 4 true (.t 14))⟩,
    ⟨some 16, none, .h (.call (.t 11) [.t 15])⟩] [0, 1, 5, 7, 8, 16])
  (.cond (.t 16)
  (.seq (.region [⟨some 17, none, .p (.mv (.t 5))⟩,
    ⟨some 4, none, .p (.mv (.t 17))⟩] [4])
  .ret)
  .skip))))
  (.region [⟨some 18, none, .p (.bin .add (.t 8) (.k (.c (C.int .i64 1))))⟩,
    ⟨some 8, none, .p (.mv (.t 18))⟩] [0, 1, 7, 8])))) [0, 1, 7, 8])))
  (.seq (.region [⟨some 4, none, .p (.mv (.k (.c (C.int .i64 (-1)))))⟩] [4])
  .ret))) }
theorem a238_ok : okFn Try.prog 238 a238 = true := by kernel_rfl
/-- loop.example/g01215/impl.back -/
def a239 : AFn := { np := 2, nt := 114, res := [.cell 4 24 true, .t 5], body :=
  (.seq (.region [⟨some 2, none, .p (.box 24 (.t 0))⟩,
    ⟨some 3, none, .p (.box 3 (.t 1))⟩,
    ⟨some 4, none, .p (.alloc (List.replicate 24 (.k (C.int .i64 0))))⟩,
    ⟨some 5, none, .p (.mv (.k (.c (C.bool false))))⟩] [2, 3, 4])
  (.seq (.seq (.region [⟨some 14, none, .p (.fld 0 (.t 3))⟩,
    ⟨some 15, none, .h (.load 1 false (.t 14))⟩,
    ⟨some 16, none, .h (.call (.f 115) [.t 15])⟩,
    ⟨some 17, none, .p (.un .not (.t 16))⟩,
    ⟨some 18, none, .p (.mv (.t 17))⟩,
    ⟨some 19, some (18, false), .p (.fld 1 (.t 3))⟩,
    ⟨some 20, some (18, false), .h (.load 1 false (.t 19))⟩,
    ⟨some 21, some (18, false), .h (.call (.f 115) [.t 20])⟩,
    ⟨some 22, some (18, false), .p (.un .not (.t 21))⟩,
    ⟨some 23, none, .p (.pick (.t 18) (.k (.c (C.bool true))) (.t 22))⟩,
    ⟨some 24, none, .p (.mv (.t 23))⟩,
    ⟨some 25, some (24, false), .p (.fld 0 (.t 3))⟩,
    ⟨some 26, some (24, false), .h (.load 1 false (.t 25))⟩,
    ⟨some 27, some (24, false), .p (.fld 1 (.t 3))⟩,
    ⟨some 28, some (24, false), .h (.load 1 false (.t 27))⟩,
    ⟨some 29, some (24, false), .p (.bin .eql (.t 26) (.t 28))⟩,
    ⟨some 30, none, .p (.pick (.t 24) (.k (.c (C.bool true))) (.t 29))⟩] [2, 3, 4, 30])
  (.cond (.t 30)
  (.seq (.region [⟨some 31, none, .p (.build (List.replicate 24 (.k (C.int .i64 0))) [])⟩,
    ⟨none, none, .h (.store 24 (.t 4) (.t 31))⟩,
    ⟨some 5, none, .p (.mv (.k (.c (C.bool false))))⟩] [4, 5])
  .ret)
  .skip))
  (.seq (.regionD [⟨some 32, none, .p (.fld 0 (.t 3))⟩,
    ⟨some 33, none, .h (.load 1 false (.t 32))⟩,
    ⟨some 34, none, .p (.fld 0 (.t 2))⟩,
    ⟨some 35, none, .p (.ixA 6 4 (.t 34) (.t 33))⟩,
    ⟨some 36, none, .h (.load 4 true (.t 35))⟩,
    ⟨some 37, none, .h (.call (.f 188) [.t 36])⟩,
    ⟨some 38, none, .p (.fld 1 (.t 3))⟩,
    ⟨some 39, none, .h (.load 1 false (.t 38))⟩,
    ⟨some 40, none, .p (.fld 0 (.t 2))⟩,
    ⟨some 41, none, .p (.ixA 6 4 (.t 40) (.t 39))⟩,
    ⟨some 42, none, .h (.load 4 true (.t 41))⟩,
    ⟨some 43, none, .h (.call (.f 188) [.t 42])⟩,
    ⟨some 6, none, .p (.mv (.t 37))⟩,
    ⟨some 7, none, .p (.mv (.t 43))⟩] [2, 3, 4, 6, 7] [])
  (.seq (.region [⟨some 45, none, .p (.fld 1 (.t 3))⟩,
    ⟨some 46, none, .h (.load 1 false (.t 45))⟩,
    ⟨some 47, none, .p (.fld 0 (.t 2))⟩,
    ⟨some 48, none, .p (.ixA 6 4 (.t 47) (.t 46))⟩,
    ⟨some 49, none, .h (.load 4 true (.t 48))⟩,
    ⟨some 50, none, .h (.call (.f 187) [.t 49])⟩,
    ⟨some 44, none, .p (.mv (.t 50))⟩,
    ⟨some 51, none, .p (.ext (.t 44) 0)⟩,
    ⟨some 52, none, .p (.ext (.t 44) 1)⟩,
    ⟨some 8, none, .p (.mv (.t 51))⟩,
    ⟨some 9, none, .p (.mv (.t 52))⟩] [2, 3, 4, 6, 7, 8, 9])
  (.seq (.seq (.region [⟨some 53, none, .p (.fld 2 (.t 3))⟩,
    ⟨some 54, none, .h (.load 1 false (.t 53))⟩,
    ⟨some 55, none, .p (.mv (.t 9))⟩,
    ⟨some 56, none, .p (.mv (.t 6))⟩,
    ⟨some 57, none, .p (.bin .sub (.k (.c (C.int .i64 4))) (.t 56))⟩,
    ⟨some 58, none, .p (.mnmx false [.t 55, .t 57])⟩,
    ⟨some 59, none, .h (.call (.f 137) [.t 54, .k (.c (C.int .i64 1)), .t 58])⟩,
    ⟨some 60, none, .p (.un .not (.t 59))⟩] [2, 3, 4, 6, 7, 8, 60])
  (.cond (.t 60)
  (.seq (.region [⟨some 61, none, .p (.build (List.replicate 24 (.k (C.int .i64 0))) [])⟩,
    ⟨none, none, .h (.store 24 (.t 4) (.t 61))⟩,
    ⟨some 5, none, .p (.mv (.k (.c (C.bool false))))⟩] [4, 5])
  .ret)
  .skip))
  (.seq (.region [⟨some 62, none, .h (.load 24 true (.t 2))⟩,
    ⟨some 10, none, .p (.alloc (List.replicate 24 (.k (C.int .i64 0))))⟩,
    ⟨none, none, .h (.store 24 (.t 10) (.t 62))⟩] [2, 3, 4, 6, 7, 8, 10])
  (.seq (.seq (.region [⟨some 63, none, .p (.fld 2 (.t 3))⟩,
    ⟨some 64, none, .h (.load 1 false (.t 63))⟩,
    ⟨some 65, none, .p (.mv (.k (.c (C.int .i64 0))))⟩] [2, 3, 4, 6, 7, 8, 10, 64, 65])
  (.block 0 (.loop (.seq (.region [⟨some 66, none, .p (.bin .lss (.t 65) (.t 64))⟩] [2, 3, 4, 6, 7, 8, 10, 64, 65, 66])
  (.seq (.cond (.t 66)
  .skip
  (.exit 0))
  (.seq (.block 1 (.seq (.region [⟨some 67, none, .p (.mv (.t 65))⟩,
    ⟨some 11, none, .p (.mv (.t 67))⟩] [2, 3, 4, 6, 7, 8, 10, 11, 64, 65])
  (.seq (.region [⟨some 68, none, .p (.fld 1 (.t 3))⟩,
    ⟨some 69, none, .h (.load 1 false (.t 68))⟩,
    ⟨some 70, none, .p (.mv (.t 7))⟩,
    ⟨some 71, none, .p (.bin .sub (.t 70) (.k (.c (C.int .i64 1))))⟩,
    ⟨some 72, none, .p (.mv (.t 11))⟩,
    ⟨some 73, none, .p (.bin .sub (.t 71) (.t 72))⟩,
    ⟨some 74, none, .p (.fld 0 (.t 10))⟩,
    ⟨some 75, none, .p (.ixA 6 4 (.t 74) (.t 69))⟩,
    ⟨some 76, none, .p (.ixA 4 1 (.t 75) (.t 73))⟩,
    ⟨none, none, .h (.store 1 (.t 76) (.k (.c (C.int .i64 0))))⟩] [2, 3, 4, 6, 7, 8, 10, 11, 64, 65])
  (.region [⟨some 77, none, .p (.fld 0 (.t 3))⟩,
    ⟨some 78, none, .h (.load 1 false (.t 77))⟩,
    ⟨some 79, none, .p (.mv (.t 6))⟩,
    ⟨some 80, none, .p (.mv (.t 11))⟩,
    ⟨some 81, none, .p (.bin .add (.t 79) (.t 80))⟩,
    ⟨some 82, none, .p (.mv (.t 8))⟩,
    ⟨some 83, none, .p (.fld 0 (.t 10))⟩,
    ⟨some 84, none, .p (.ixA 6 4 (.t 83) (.t 78))⟩,
    ⟨some 85, none, .p (.ixA 4 1 (.t 84) (.t 81))⟩,
    ⟨none, none, .h (.store 1 (.t 85) (.t 82))⟩] [2, 3, 4, 6, 7, 8, 10, 64, 65]))))
  (.region [⟨some 86, none, .p (.bin .add (.t 65) (.k (.c (C.int .i64 1))))⟩,
    ⟨some 65, none, .p (.mv (.t 86))⟩] [2, 3, 4, 6, 7, 8, 10, 64, 65])))) [2, 3, 4, 6, 7, 8, 10, 64, 65])))
  (.seq (.seq (.region [⟨some 87, none, .h (.load 24 true (.t 10))⟩,
    ⟨some 88, none, .p (.fld 0 (.t 3))⟩,
    ⟨some 89, none, .h (.load 1 false (.t 88))⟩,
    ⟨some 90, none, .p (.fld 1 (.t 3))⟩,
    ⟨some 91, none, .h (.load 1 false (.t 90))⟩,
    ⟨some 92, none, .h (.call (.f 158) [.t 87, .t 89, .t 91])⟩,
    ⟨some 93, none, .p (.un .not (.t 92))⟩] [2, 3, 4, 10, 93])
  (.cond (.t 93)
  (.seq (.region [⟨some 94, none, .p (.build (List.replicate 24 (.k (C.int .i64 0))) [])⟩,
    ⟨none, none, .h (.store 24 (.t 4) (.t 94))⟩,
    ⟨some 5, none, .p (.mv (.k (.c (C.bool false))))⟩] [4, 5])
  .ret)
  .skip))
  (.seq (.region [⟨some 96, none, .h (.load 24 true (.t 10))⟩,
    ⟨some 97, none, .p (.fld 0 (.t 3))⟩,
    ⟨some 98, none, .h (.load 1 false (.t 97))⟩,
    ⟨some 99, none, .p (.fld 1 (.t 3))⟩,
    ⟨some 100, none, .h (.load 1 false (.t 99))⟩,
    ⟨some 101, none, .h (.call (.f 99) [.t 96, .t 98, .t 100])⟩,
    ⟨some 95, none, .p (.mv (.t 101))⟩,
    ⟨some 102, none, .p (.ext (.t 95) 0)⟩,
    ⟨some 103, none, .p (.ext (.t 95) 1)⟩,
    ⟨some 12, none, .p (.alloc (List.replicate 24 (.k (C.int .i64 0))))⟩,
    ⟨none, none, .h (.store 24 (.t 12) (.t 102))⟩,
    ⟨some 13, none, .p (.mv (.t 103))⟩] [2, 3, 4, 10, 12, 13])
  (.seq (.regionD [⟨some 104, none, .h (.load 24 true (.t 10))⟩,
    ⟨some 105, none, .h (.load 24 true (.t 12))⟩,
    ⟨some 106, none, .h (.load 24 true (.t 2))⟩,
    ⟨some 107, none, .p (.eqv false (List.replicate 24 (.int .i64)) (.t 105) (.t 106))⟩,
    ⟨some 108, none, .p (.mv (.t 107))⟩,
    ⟨some 109, some (108, true), .p (.mv (.t 13))⟩,
    ⟨some 110, some (108, true), .p (.fld 2 (.t 3))⟩,
    ⟨some 111, some (108, true), .h (.load 1 false (.t 110))⟩,
    ⟨some 112, some (108, true), .p (.bin .eql (.t 109) (.t 111))⟩,
    ⟨some 113, none, .p (.pick (.t 108) (.t 112) (.k (.c (C.bool false))))⟩,
    ⟨none, none, .h (.store 24 (.t 4) (.t 104))⟩,
    ⟨some 5, none, .p (.mv (.t 113))⟩] [4, 5] [(.t 110, .t 4)])
  .ret)))))))))) }
theorem a239_ok : okFn Try.prog 239 a239 = true := by kernel_rfl
/-- loop.example/g01215/spec.Pour -/
def a240 : AFn := { np := 3, nt := 41, res := [.cell 6 24 true, .t 7, .t 8], body :=
  (.seq (.region [⟨some 3, none, .p (.box 24 (.t 0))⟩,
    ⟨some 6, none, .p (.alloc (List.replicate 24 (.k (C.int .i64 0))))⟩,
    ⟨some 7, none, .p (.mv (.k (.c (C.int .i64 0))))⟩,
    ⟨some 8, none, .p (.mv (.k (.c (C.bool false))))⟩] [1, 2, 3, 6])
  (.seq (.seq (.region [⟨some 11, none, .h (.load 24 true (.t 3))⟩,
    ⟨some 12, none, .h (.call (.f 141) [.t 11])⟩,
    ⟨some 13, none, .p (.un .not (.t 12))⟩,
    ⟨some 14, none, .p (.mv (.t 13))⟩,
    ⟨some 15, some (14, false), .p (.mv (.t 1))⟩,
    ⟨some 16, some (14, false), .h (.call (.f 118) [.t 15])⟩,
    ⟨some 17, some (14, false), .p (.un .not (.t 16))⟩,
    ⟨some 18, none, .p (.pick (.t 14) (.k (.c (C.bool true))) (.t 17))⟩,
    ⟨some 19, none, .p (.mv (.t 18))⟩,
    ⟨some 20, some (19, false), .p (.mv (.t 2))⟩,
    ⟨some 21, some (19, false), .h (.call (.f 118) [.t 20])⟩,
    ⟨some 22, some (19, false), .p (.un .not (.t 21))⟩,
    ⟨some 23, none, .p (.pick (.t 19) (.k (.c (C.bool true))) (.t 22))⟩,
    ⟨some 24, none, .p (.mv (.t 23))⟩,
    ⟨some 25, some (24, false), .h (.load 24 true (.t 3))⟩,
    ⟨some 26, some (24, false), .p (.mv (.t 1))⟩,
    ⟨some 27, some (24, false), .p (.mv (.t 2))⟩,
    ⟨some 28, some (24, false), .h (.call (.f 198) [.t 25, .t 26, .t 27])⟩,
    ⟨some 29, some (24, false), .p (.un .not (.t 28))⟩,
    ⟨some 30, none, .p (.pick (.t 24) (.k (.c (C.bool true))) (.t 29))⟩] [1, 2, 3, 6, 30])
  (.cond (.t 30)
  (.seq (.region [⟨some 31, none, .p (.build (List.replicate 24 (.k (C.int .i64 0))) [])⟩,
    ⟨none, none, .h (.store 24 (.t 6) (.t 31))⟩,
    ⟨some 7, none, .p (.mv (.k (.c (C.int .i64 0))))⟩,
    ⟨some 8, none, .p (.mv (.k (.c (C.bool false))))⟩] [6, 7, 8])
  .ret)
  .skip))
  (.seq (.region [⟨some 33, none, .h (.load 24 true (.t 3))⟩,
    ⟨some 34, none, .p (.mv (.t 1))⟩,
    ⟨some 35, none, .p (.mv (.t 2))⟩,
    ⟨some 36, none, .h (.call (.f 132) [.t 33, .t 34, .t 35])⟩,
    ⟨some 32, none, .p (.mv (.t 36))⟩,
    ⟨some 37, none, .p (.ext (.t 32) 0)⟩,
    ⟨some 38, none, .p (.ext (.t 32) 1)⟩,
    ⟨some 9, none, .p (.alloc (List.replicate 24 (.k (C.int .i64 0))))⟩,
    ⟨none, none, .h (.store 24 (.t 9) (.t 37))⟩,
    ⟨some 10, none, .p (.mv (.t 38))⟩] [6, 9, 10])
  (.seq (.region [⟨some 39, none, .h (.load 24 true (.t 9))⟩,
    ⟨some 40, none, .p (.mv (.t 10))⟩,
    ⟨none, none, .h (.store 24 (.t 6) (.t 39))⟩,
    ⟨some 7, none, .p (.mv (.t 40))⟩,
    ⟨some 8, none, .p (.mv (.k (.c (C.bool true))))⟩] [6, 7, 8])
  .ret)))) }
theorem a240_ok : okFn Try.prog 240 a240 = true := by kernel_rfl
/-- loop.example/g01215/spec.PutLayer -/
def a241 : AFn := { np := 3, nt := 41, res := [.cell 6 24 true, .t 7], body :=
  (.seq (.region [⟨some 3, none, .p (.box 24 (.t 0))⟩,
    ⟨some 6, none, .p (.alloc (List.replicate 24 (.k (C.int .i64 0))))⟩,
    ⟨some 7, none, .p (.mv (.k (.c (C.bool false))))⟩] [1, 2, 3, 6])
  (.seq (.seq (.region [⟨some 8, none, .h (.load 24 true (.t 3))⟩,
    ⟨some 9, none, .h (.call (.f 141) [.t 8])⟩,
    ⟨some 10, none, .p (.un .not (.t 9))⟩,
    ⟨some 11, none, .p (.mv (.t 10))⟩,
    ⟨some 12, some (11, false), .p (.mv (.t 1))⟩,
    ⟨some 13, some (11, false), .h (.call (.f 118) [.t 12])⟩,
    ⟨some 14, some (11, false), .p (.un .not (.t 13))⟩,
    ⟨some 15, none, .p (.pick (.t 11) (.k (.c (C.bool true))) (.t 14))⟩,
    ⟨some 16, none, .p (.mv (.t 15))⟩,
    ⟨some 17, some (16, false), .p (.mv (.t 2))⟩,
    ⟨some 18, some (16, false), .h (.call (.f 119) [.t 17, .k (.c (C.int .i64 1)), .k (.c (C.int .i64 5))])⟩,
    ⟨some 19, some (16, false), .p (.un .not (.t 18))⟩,
    ⟨some 20, none, .p (.pick (.t 16) (.k (.c (C.bool true))) (.t 19))⟩,
    ⟨some 21, none, .p (.mv (.t 20))⟩,
    ⟨some 22, some (21, false), .p (.mv (.t 1))⟩,
    ⟨some 23, some (21, false), .p (.fld 0 (.t 3))⟩,
    ⟨some 24, some (21, false), .p (.ixA 6 4 (.t 23) (.t 22))⟩,
    ⟨some 25, some (21, false), .h (.load 4 true (.t 24))⟩,
    ⟨some 26, some (21, false), .h (.call (.f 200) [.t 25])⟩,
    ⟨some 27, some (21, false), .p (.bin .eql (.t 26) (.k (.c (C.int .i64 4))))⟩,
    ⟨some 28, none, .p (.pick (.t 21) (.k (.c (C.bool true))) (.t 27))⟩] [1, 2, 3, 6, 28])
  (.cond (.t 28)
  (.seq (.region [⟨some 29, none, .p (.build (List.replicate 24 (.k (C.int .i64 0))) [])⟩,
    ⟨none, none, .h (.store 24 (.t 6) (.t 29))⟩,
    ⟨some 7, none, .p (.mv (.k (.c (C.bool false))))⟩] [6, 7])
  .ret)
  .skip))
  (.seq (.regionD [⟨some 30, none, .p (.mv (.t 1))⟩,
    ⟨some 31, none, .p (.mv (.t 1))⟩,
    ⟨some 32, none, .p (.fld 0 (.t 3))⟩,
    ⟨some 33, none, .p (.ixA 6 4 (.t 32) (.t 31))⟩,
    ⟨some 34, none, .h (.load 4 true (.t 33))⟩,
    ⟨some 35, none, .h (.call (.f 200) [.t 34])⟩,
    ⟨some 36, none, .p (.mv (.t 2))⟩,
    ⟨some 37, none, .p (.fld 0 (.t 3))⟩,
    ⟨some 38, none, .p (.ixA 6 4 (.t 37) (.t 30))⟩,
    ⟨some 39, none, .p (.ixA 4 1 (.t 38) (.t 35))⟩,
    ⟨none, none, .h (.store 1 (.t 39) (.t 36))⟩] [3, 6] [])
  (.seq (.region [⟨some 40, none, .h (.load 24 true (.t 3))⟩,
    ⟨none, none, .h (.store 24 (.t 6) (.t 40))⟩,
    ⟨some 7, none, .p (.mv (.k (.c (C.bool true))))⟩] [6, 7])
  .ret)))) }
theorem a241_ok : okFn Try.prog 241 a241 = true := by kernel_rfl
/-- loop.example/g01215/spec.TakeLayer -/
def a242 : AFn := { np := 2, nt := 45, res := [.cell 4 24 true, .t 5, .t 6], body :=
  (.seq (.region [⟨some 2, none, .p (.box 24 (.t 0))⟩,
    ⟨some 4, none, .p (.alloc (List.replicate 24 (.k (C.int .i64 0))))⟩,
    ⟨some 5, none, .p (.mv (.k (.c (C.int .i64 0))))⟩,
    ⟨some 6, none, .p (.mv (.k (.c (C.bool false))))⟩] [1, 2, 4])
  (.seq (.seq (.region [⟨some 9, none, .h (.load 24 true (.t 2))⟩,
    ⟨some 10, none, .h (.call (.f 141) [.t 9])⟩,
    ⟨some 11, none, .p (.un .not (.t 10))⟩,
    ⟨some 12, none, .p (.mv (.t 11))⟩,
    ⟨some 13, some (12, false), .p (.mv (.t 1))⟩,
    ⟨some 14, some (12, false), .h (.call (.f 118) [.t 13])⟩,
    ⟨some 15, some (12, false), .p (.un .not (.t 14))⟩,
    ⟨some 16, none, .p (.pick (.t 12) (.k (.c (C.bool true))) (.t 15))⟩,
    ⟨some 17, none, .p (.mv (.t 16))⟩,
    ⟨some 18, some (17, false), .p (.mv (.t 1))⟩,
    ⟨some 19, some (17, false), .p (.fld 0 (.t 2))⟩,
    ⟨some 20, some (17, false), .p (.ixA 6 4 (.t 19) (.t 18))⟩,
    ⟨some 21, some (17, false), .h (.load 4 true (.t 20))⟩,
    ⟨some 22, some (17, false), .h (.call (.f 200) [.t 21])⟩,
    ⟨some 23, some (17, false), .p (.bin .eql (.t 22) (.k (.c (C.int .i64 0))))⟩,
    ⟨some 24, none, .p (.pick (.t 17) (.k (.c (C.bool true))) (.t 23))⟩] [1, 2, 4, 24])
  (.cond (.t 24)
  (.seq (.region [⟨some 25, none, .p (.build (List.replicate 24 (.k (C.int .i64 0))) [])⟩,
    ⟨none, none, .h (.store 24 (.t 4) (.t 25))⟩,
    ⟨some 5, none, .p (.mv (.k (.c (C.int .i64 0))))⟩,
    ⟨some 6, none, .p (.mv (.k (.c (C.bool false))))⟩] [4, 5, 6])
  .ret)
  .skip))
  (.seq (.region [⟨some 26, none, .p (.mv (.t 1))⟩,
    ⟨some 27, none, .p (.fld 0 (.t 2))⟩,
    ⟨some 28, none, .p (.ixA 6 4 (.t 27) (.t 26))⟩,
    ⟨some 29, none, .h (.load 4 true (.t 28))⟩,
    ⟨some 30, none, .h (.call (.f 200) [.t 29])⟩,
    ⟨some 31, none, .p (.bin .sub (.t 30) (.k (.c (C.int .i64 1))))⟩,
    ⟨some 7, none, .p (.mv (.t 31))⟩] [1, 2, 4, 7])
  (.seq (.region [⟨some 32, none, .p (.mv (.t 1))⟩,
    ⟨some 33, none, .p (.mv (.t 7))⟩,
    ⟨some 34, none, .p (.fld 0 (.t 2))⟩,
    ⟨some 35, none, .p (.ixA 6 4 (.t 34) (.t 32))⟩,
    ⟨some 36, none, .p (.ixA 4 1 (.t 35) (.t 33))⟩,
    ⟨some 37, none, .h (.load 1 false (.t 36))⟩,
    ⟨some 8, none, .p (.mv (.t 37))⟩] [1, 2, 4, 7, 8])
  (.seq (.region [⟨some 38, none, .p (.mv (.t 1))⟩,
    ⟨some 39, none, .p (.mv (.t 7))⟩,
    ⟨some 40, none, .p (.fld 0 (.t 2))⟩,
    ⟨some 41, none, .p (.ixA 6 4 (.t 40) (.t 38))⟩,
    ⟨some 42, none, .p (.ixA 4 1 (.t 41) (.t 39))⟩,
    ⟨none, none, .h (.store 1 (.t 42) (.k (.c (C.int .i64 0))))⟩] [2, 4, 8])
  (.seq (.region [⟨some 43, none, .h (.load 24 true (.t 2))⟩,
    ⟨some 44, none, .p (.mv (.t 8))⟩,
    ⟨none, none, .h (.store 24 (.t 4) (.t 43))⟩,
    ⟨some 5, none, .p (.mv (.t 44))⟩,
    ⟨some 6, none, .p (.mv (.k (.c (C.bool true))))⟩] [4, 5, 6])
  .ret)))))) }
theorem a242_ok : okFn Try.prog 242 a242 = true := by kernel_rfl
/-- loop.example/g01215/spec.SwapTubes -/
def a243 : AFn := { np := 3, nt := 41, res := [.cell 6 24 true, .t 7], body :=
  (.seq (.region [⟨some 3, none, .p (.box 24 (.t 0))⟩,
    ⟨some 6, none, .p (.alloc (List.replicate 24 (.k (C.int .i64 0))))⟩,
    ⟨some 7, none, .p (.mv (.k (.c (C.bool false))))⟩] [1, 2, 3, 6])
  (.seq (.seq (.region [⟨some 10, none, .h (.load 24 true (.t 3))⟩,
    ⟨some 11, none, .h (.call (.f 141) [.t 10])⟩,
    ⟨some 12, none, .p (.un .not (.t 11))⟩,
    ⟨some 13, none, .p (.mv (.t 12))⟩,
    ⟨some 14, some (13, false), .p (.mv (.t 1))⟩,
    ⟨some 15, some (13, false), .h (.call (.f 118) [.t 14])⟩,
    ⟨some 16, some (13, false), .p (.un .not (.t 15))⟩,
    ⟨some 17, none, .p (.pick (.t 13) (.k (.c (C.bool true))) (.t 16))⟩,
    ⟨some 18, none, .p (.mv (.t 17))⟩,
    ⟨some 19, some (18, false), .p (.mv (.t 2))⟩,
    ⟨some 20, some (18, false), .h (.call (.f 118) [.t 19])⟩,
    ⟨some 21, some (18, false), .p (.un .not (.t 20))⟩,
    ⟨some 22, none, .p (.pick (.t 18) (.k (.c (C.bool true))) (.t 21))⟩] [1, 2, 3, 6, 22])
  (.cond (.t 22)
  (.seq (.region [⟨some 23, none, .p (.build (List.replicate 24 (.k (C.int .i64 0))) [])⟩,
    ⟨none, none, .h (.store 24 (.t 6) (.t 23))⟩,
    ⟨some 7, none, .p (.mv (.k (.c (C.bool false))))⟩] [6, 7])
  .ret)
  .skip))
  (.seq (.regionD [⟨some 24, none, .p (.mv (.t 1))⟩,
    ⟨some 25, none, .p (.fld 0 (.t 3))⟩,
    ⟨some 26, none, .p (.ixA 6 4 (.t 25) (.t 24))⟩,
    ⟨some 27, none, .h (.load 4 true (.t 26))⟩,
    ⟨some 28, none, .p (.mv (.t 2))⟩,
    ⟨some 29, none, .p (.fld 0 (.t 3))⟩,
    ⟨some 30, none, .p (.ixA 6 4 (.t 29) (.t 28))⟩,
    ⟨some 31, none, .h (.load 4 true (.t 30))⟩,
    ⟨some 8, none, .p (.alloc [.k (C.int .i64 0), .k (C.int .i64 0), .k (C.int .i64 0), .k (C.int .i64 0)])⟩,
    ⟨some 9, none, .p (.alloc [.k (C.int .i64 0), .k (C.int .i64 0), .k (C.int .i64 0), .k (C.int .i64 0)])⟩,
    ⟨none, none, .h (.store 4 (.t 8) (.t 27))⟩,
    ⟨none, none, .h (.store 4 (.t 9) (.t 31))⟩] [1, 2, 3, 6, 8, 9] [(.t 30, .t 8)])
  (.seq (.region [⟨some 32, none, .p (.mv (.t 1))⟩,
    ⟨some 33, none, .h (.load 4 true (.t 9))⟩,
    ⟨some 34, none, .p (.fld 0 (.t 3))⟩,
    ⟨some 35, none, .p (.ixA 6 4 (.t 34) (.t 32))⟩,
    ⟨none, none, .h (.store 4 (.t 35) (.t 33))⟩] [2, 3, 6, 8])
  (.seq (.region [⟨some 36, none, .p (.mv (.t 2))⟩,
    ⟨some 37, none, .h (.load 4 true (.t 8))⟩,
    ⟨some 38, none, .p (.fld 0 (.t 3))⟩,
    ⟨some 39, none, .p (.ixA 6 4 (.t 38) (.t 36))⟩,
    ⟨none, none, .h (.store 4 (.t 39) (.t 37))⟩] [3, 6])
  (.seq (.region [⟨some 40, none, .h (.load 24 true (.t 3))⟩,
    ⟨none, none, .h (.store 24 (.t 6) (.t 40))⟩,
    ⟨some 7, none, .p (.mv (.k (.c (C.bool true))))⟩] [6, 7])
  .ret)))))) }
theorem a243_ok : okFn Try.prog 243 a243 = true := by kernel_rfl
/-- loop.example/g01215/spec.PourBack -/
def a244 : AFn := { np := 2, nt := 15, res := [.cell 4 24 true, .t 5], body :=
  (.seq (.region [⟨some 2, none, .p (.box 24 (.t 0))⟩,
    ⟨some 3, none, .p (.box 3 (.t 1))⟩,
    ⟨some 4, none, .p (.alloc (List.replicate 24 (.k (C.int .i64 0))))⟩,
    ⟨some 5, none, .p (.mv (.k (.c (C.bool false))))⟩] [2, 3, 4])
  (.seq (.seq (.region [⟨some 6, none, .h (.load 24 true (.t 2))⟩,
    ⟨some 7, none, .h (.call (.f 141) [.t 6])⟩,
    ⟨some 8, none, .p (.un .not (.t 7))⟩] [2, 3, 4, 8])
  (.cond (.t 8)
  (.seq (.region [⟨some 9, none, .p (.build (List.replicate 24 (.k (C.int .i64 0))) [])⟩,
    ⟨none, none, .h (.store 24 (.t 4) (.t 9))⟩,
    ⟨some 5, none, .p (.mv (.k (.c (C.bool false))))⟩] [4, 5])
  .ret)
  .skip))
  (.seq (.region [⟨some 10, none, .h (.load 24 true (.t 2))⟩,
    ⟨some 11, none, .h (.load 3 true (.t 3))⟩,
    ⟨some 12, none, .h (.call (.f 228) [.t 10, .t 11])⟩,
    ⟨some 13, none, .p (.ext (.t 12) 0)⟩,
    ⟨some 14, none, .p (.ext (.t 12) 1)⟩,
    ⟨none, none, .h (.store 24 (.t 4) (.t 13))⟩,
    ⟨some 5, none, .p (.mv (.t 14))⟩] [4, 5])
  .ret))) }
theorem a244_ok : okFn Try.prog 244 a244 = true := by kernel_rfl
/-- slices.IndexFunc[[]int,int] -/
def a245 : AFn := { np := 2, nt := 19, res := [.t 4], body :=
  (.seq (.region [⟨some 4, none, .p (.mv (.k (.c (C.int .i64 0))))⟩] [0, 1])
  (.seq (.seq (.region [⟨some 6, none, .p (.mv (.t 0))⟩,
    ⟨some 7, none, .p (.len (.t 6))⟩,
    ⟨some 8, none, .p (.mv (.k (.c (C.int .i64 0))))⟩] [0, 1, 7, 8])
  (.block 0 (.loop (.seq (.region [⟨some 9, none, .p (.bin .lss (.t 8) (.t 7))⟩] [0, 1, 7, 8, 9])
  (.seq (.cond (.t 9)
  .skip
  (.exit 0))
  (.seq (.block 1 (.seq (.region [⟨some 10, none, .p (.mv (.t 8))⟩,
    ⟨some 5, none, .p (.mv (.t 10))⟩] [0, 1, 5, 7, 8])
  (.seq (.region [⟨some 11, none, .p (.mv (.t 1))⟩,
    ⟨some 12, none, .p (.mv (.t 0))⟩,
    ⟨some 13, none, .p (.mv (.t 5))⟩,
    ⟨some 14, none, .p (.ixS 1 (.t 12) (.t 13))⟩,
    ⟨some 15, none, .h (.load 1 false (.t 14))⟩,
    ⟨some 16, none, .h (.call (.t 11) [.t 15])⟩] [0, 1, 5, 7, 8, 16])
  (.cond (.t 16)
  (.seq (.region [⟨some 17, none, .p (.mv (.t 5))⟩,
    ⟨some 4, none, .p (.mv (.t 17))⟩] [4])
  .ret)
  .skip))))
  (.region [⟨some 18, none, .p (.bin .add (.t 8) (.k (.c (C.int .i64 1))))⟩,
    ⟨some 8, none, .p (.mv (.t 18))⟩] [0, 1, 7, 8])))) [0, 1, 7, 8])))
  (.seq (.region [⟨some 4, none, .p (.mv (.k (.c (C.int .i64 (-1)))))⟩] [4])
  .ret))) }
theorem a245_ok : okFn Try.prog 245 a245 = true := by kernel_rfl
def prC : Prog
  | 218 => some a218
  | 219 => some a219
  | 220 => some a220
  | 221 => some a221
  | 222 => some a222
  | 223 => some a223
  | 224 => some a224
  | 225 => some a225
  | 226 => some a226
  | 227 => some a227
  | 228 => some a228
  | 234 => some a234
  | 235 => some a235
  | 236 => some a236
  | 237 => some a237
  | 238 => some a238
  | 239 => some a239
  | 240 => some a240
  | 241 => some a241
  | 242 => some a242
  | 243 => some a243
  | 244 => some a244
  | 245 => some a245
  | _ => none
theorem prC_ok : ProgOK Try.prog prC := by
  intro f fn h
  unfold prC at h
  split at h
  · injection h with h; subst h; exact a218_ok
  · injection h with h; subst h; exact a219_ok
  · injection h with h; subst h; exact a220_ok
  · injection h with h; subst h; exact a221_ok
  · injection h with h; subst h; exact a222_ok
  · injection h with h; subst h; exact a223_ok
  · injection h with h; subst h; exact a224_ok
  · injection h with h; subst h; exact a225_ok
  · injection h with h; subst h; exact a226_ok
  · injection h with h; subst h; exact a227_ok
  · injection h with h; subst h; exact a228_ok
  · injection h with h; subst h; exact a234_ok
  · injection h with h; subst h; exact a235_ok
  · injection h with h; subst h; exact a236_ok
  · injection h with h; subst h; exact a237_ok
  · injection h with h; subst h; exact a238_ok
  · injection h with h; subst h; exact a239_ok
  · injection h with h; subst h; exact a240_ok
  · injection h with h; subst h; exact a241_ok
  · injection h with h; subst h; exact a242_ok
  · injection h with h; subst h; exact a243_ok
  · injection h with h; subst h; exact a244_ok
  · injection h with h; subst h; exact a245_ok
  · cases h
end Go.Proofs.Ytoaidbmkfdpagaa.AM
