/- the functions' code in the abstract machine: printed by a program (wip/tools/genparts.py) out of the loaded program -/
import Derived.Test.YtgkmdnngbbgboaaDoorAmD
import Derived.Test.YtgkmdnngbbgboaaDoorProg
import Derived.KernelRfl
namespace Go.Proofs.YtgkmdnngbbgboaaDoor.AM
open Go
set_option maxRecDepth 100000
/-- loop.example/g01215/laws.FnExactEncodeRecord -/
def a3 : AFn := { np := 2, nt := 37, res := [.t 4], body :=
  (.seq (.region [⟨some 3, none, .p (.box 2 (.t 1))⟩,
    ⟨some 4, none, .p (.mv (.k (.c (C.bool false))))⟩] [0, 3])
  (.seq (.region [⟨some 5, none, .p (.mv (.k (.c (C.int .i64 1048576))))⟩] [0, 3, 5])
  (.seq (.region [⟨some 10, none, .h (.load 2 true (.t 3))⟩,
    ⟨some 11, none, .p (.mv (.t 5))⟩,
    ⟨some 12, none, .h (.call (.f 11) [.t 10, .t 11])⟩,
    ⟨some 5, none, .p (.mv (.t 12))⟩] [0, 3, 5])
  (.seq (.seq (.region [⟨some 13, none, .p (.mv (.t 5))⟩,
    ⟨some 14, none, .p (.bin .lss (.t 13) (.k (.c (C.int .i64 0))))⟩] [0, 3, 14])
  (.cond (.t 14)
  (.seq (.region [⟨some 4, none, .p (.mv (.k (.c (C.bool true))))⟩] [4])
  .ret)
  .skip))
  (.seq (.region [⟨some 16, none, .p (.mv (.t 0))⟩,
    ⟨some 17, none, .h (.load 2 true (.t 3))⟩,
    ⟨some 18, none, .h (.call (.f 13) [.t 17])⟩,
    ⟨some 19, none, .h (.call (.f 12) [.t 16, .t 18])⟩,
    ⟨some 15, none, .p (.mv (.t 19))⟩,
    ⟨some 20, none, .p (.ext (.t 15) 0)⟩,
    ⟨some 21, none, .p (.ext (.t 15) 1)⟩,
    ⟨some 6, none, .p (.mv (.t 20))⟩,
    ⟨some 7, none, .p (.mv (.t 21))⟩] [0, 3, 6, 7])
  (.seq (.region [⟨some 23, none, .p (.mv (.t 0))⟩,
    ⟨some 24, none, .h (.load 2 true (.t 3))⟩,
    ⟨some 25, none, .h (.call (.f 13) [.t 24])⟩,
    ⟨some 26, none, .h (.call (.f 14) [.t 23, .t 25])⟩,
    ⟨some 22, none, .p (.mv (.t 26))⟩,
    ⟨some 27, none, .p (.ext (.t 22) 0)⟩,
    ⟨some 28, none, .p (.ext (.t 22) 1)⟩,
    ⟨some 8, none, .p (.mv (.t 27))⟩,
    ⟨some 9, none, .p (.mv (.t 28))⟩] [6, 7, 8, 9])
  (.seq (.seq (.region [⟨some 29, none, .p (.mv (.t 8))⟩,
    ⟨some 30, none, .p (.mv (.t 6))⟩,
    ⟨some 31, none, .p (.bin .neq (.t 29) (.t 30))⟩,
    ⟨some 32, none, .p (.mv (.t 31))⟩,
    ⟨some 33, some (32, false), .p (.mv (.t 9))⟩,
    ⟨some 34, some (32, false), .p (.mv (.t 7))⟩,
    ⟨some 35, some (32, false), .p (.eqb true (.t 33) (.t 34))⟩,
    ⟨some 36, none, .p (.pick (.t 32) (.k (.c (C.bool true))) (.t 35))⟩] [36])
  (.cond (.t 36)
  (.seq (.region [⟨some 4, none, .p (.mv (.k (.c (C.bool false))))⟩] [4])
  .ret)
  .skip))
  (.seq (.region [⟨some 4, none, .p (.mv (.k (.c (C.bool true))))⟩] [4])
  .ret)))))))) }
theorem a3_ok : okFn Tryd.prog 3 a3 = true := by kernel_rfl
/-- loop.example/g01215/laws.FnExactRecoverLog -/
def a4 : AFn := { np := 1, nt := 38, res := [.t 2], body :=
  (.seq (.region [⟨some 2, none, .p (.mv (.k (.c (C.bool false))))⟩] [0])
  (.seq (.seq (.region [⟨some 9, none, .p (.mv (.t 0))⟩,
    ⟨some 10, none, .p (.lenStr (.t 9))⟩,
    ⟨some 11, none, .p (.bin .gtr (.t 10) (.k (.c (C.int .i64 1048576))))⟩] [0, 11])
  (.cond (.t 11)
  (.seq (.region [⟨some 2, none, .p (.mv (.k (.c (C.bool true))))⟩] [2])
  .ret)
  .skip))
  (.seq (.region [⟨some 13, none, .p (.mv (.t 0))⟩,
    ⟨some 14, none, .h (.call (.f 15) [.t 13])⟩,
    ⟨some 12, none, .p (.mv (.t 14))⟩,
    ⟨some 15, none, .p (.ext (.t 12) 0)⟩,
    ⟨some 16, none, .p (.ext (.t 12) 1)⟩,
    ⟨some 17, none, .p (.ext (.t 12) 2)⟩,
    ⟨some 3, none, .p (.alloc [.k (C.str []), .k (C.str []), .k (C.int .i64 0)])⟩,
    ⟨none, none, .h (.store 3 (.t 3) (.t 15))⟩,
    ⟨some 4, none, .p (.mv (.t 16))⟩,
    ⟨some 5, none, .p (.mv (.t 17))⟩] [0, 3, 4, 5])
  (.seq (.region [⟨some 19, none, .p (.mv (.t 0))⟩,
    ⟨some 20, none, .h (.call (.f 16) [.t 19])⟩,
    ⟨some 18, none, .p (.mv (.t 20))⟩,
    ⟨some 21, none, .p (.ext (.t 18) 0)⟩,
    ⟨some 22, none, .p (.ext (.t 18) 1)⟩,
    ⟨some 23, none, .p (.ext (.t 18) 2)⟩,
    ⟨some 6, none, .p (.alloc [.k (C.str []), .k (C.str []), .k (C.int .i64 0)])⟩,
    ⟨none, none, .h (.store 3 (.t 6) (.t 21))⟩,
    ⟨some 7, none, .p (.mv (.t 22))⟩,
    ⟨some 8, none, .p (.mv (.t 23))⟩] [3, 4, 5, 6, 7, 8])
  (.seq (.seq (.region [⟨some 24, none, .h (.load 3 true (.t 6))⟩,
    ⟨some 25, none, .h (.load 3 true (.t 3))⟩,
    ⟨some 26, none, .h (.call (.f 17) [.t 24, .t 25])⟩,
    ⟨some 27, none, .p (.un .not (.t 26))⟩,
    ⟨some 28, none, .p (.mv (.t 27))⟩,
    ⟨some 29, some (28, false), .p (.mv (.t 7))⟩,
    ⟨some 30, some (28, false), .p (.mv (.t 4))⟩,
    ⟨some 31, some (28, false), .p (.bin .neq (.t 29) (.t 30))⟩,
    ⟨some 32, none, .p (.pick (.t 28) (.k (.c (C.bool true))) (.t 31))⟩,
    ⟨some 33, none, .p (.mv (.t 32))⟩,
    ⟨some 34, some (33, false), .p (.mv (.t 8))⟩,
    ⟨some 35, some (33, false), .p (.mv (.t 5))⟩,
    ⟨some 36, some (33, false), .p (.eqb true (.t 34) (.t 35))⟩,
    ⟨some 37, none, .p (.pick (.t 33) (.k (.c (C.bool true))) (.t 36))⟩] [37])
  (.cond (.t 37)
  (.seq (.region [⟨some 2, none, .p (.mv (.k (.c (C.bool false))))⟩] [2])
  .ret)
  .skip))
  (.seq (.region [⟨some 2, none, .p (.mv (.k (.c (C.bool true))))⟩] [2])
  .ret)))))) }
theorem a4_ok : okFn Tryd.prog 4 a4 = true := by kernel_rfl
/-- loop.example/g01215/laws.FnExactIsValidLog -/
def a5 : AFn := { np := 1, nt := 20, res := [.t 2], body :=
  (.seq (.region [⟨some 1, none, .p (.box 3 (.t 0))⟩,
    ⟨some 2, none, .p (.mv (.k (.c (C.bool false))))⟩] [1])
  (.seq (.region [⟨some 3, none, .p (.mv (.k (.c (C.int .i64 1048576))))⟩] [1, 3])
  (.seq (.region [⟨some 6, none, .h (.load 3 true (.t 1))⟩,
    ⟨some 7, none, .p (.mv (.t 3))⟩,
    ⟨some 8, none, .h (.call (.f 18) [.t 6, .t 7])⟩,
    ⟨some 3, none, .p (.mv (.t 8))⟩] [1, 3])
  (.seq (.seq (.region [⟨some 9, none, .p (.mv (.t 3))⟩,
    ⟨some 10, none, .p (.bin .lss (.t 9) (.k (.c (C.int .i64 0))))⟩] [1, 10])
  (.cond (.t 10)
  (.seq (.region [⟨some 2, none, .p (.mv (.k (.c (C.bool true))))⟩] [2])
  .ret)
  .skip))
  (.seq (.region [⟨some 11, none, .h (.load 3 true (.t 1))⟩,
    ⟨some 12, none, .h (.call (.f 20) [.t 11])⟩,
    ⟨some 13, none, .h (.call (.f 19) [.t 12])⟩,
    ⟨some 4, none, .p (.mv (.t 13))⟩] [1, 4])
  (.seq (.region [⟨some 14, none, .h (.load 3 true (.t 1))⟩,
    ⟨some 15, none, .h (.call (.f 20) [.t 14])⟩,
    ⟨some 16, none, .h (.call (.f 21) [.t 15])⟩,
    ⟨some 5, none, .p (.mv (.t 16))⟩] [4, 5])
  (.seq (.seq (.region [⟨some 17, none, .p (.mv (.t 5))⟩,
    ⟨some 18, none, .p (.mv (.t 4))⟩,
    ⟨some 19, none, .p (.eqb true (.t 17) (.t 18))⟩] [19])
  (.cond (.t 19)
  (.seq (.region [⟨some 2, none, .p (.mv (.k (.c (C.bool false))))⟩] [2])
  .ret)
  .skip))
  (.seq (.region [⟨some 2, none, .p (.mv (.k (.c (C.bool true))))⟩] [2])
  .ret)))))))) }
theorem a5_ok : okFn Tryd.prog 5 a5 = true := by kernel_rfl
/-- loop.example/g01215/laws.FnExactCrashLog -/
def a6 : AFn := { np := 3, nt := 41, res := [.t 6], body :=
  (.seq (.region [⟨some 3, none, .p (.box 3 (.t 0))⟩,
    ⟨some 6, none, .p (.mv (.k (.c (C.bool false))))⟩] [1, 2, 3])
  (.seq (.region [⟨some 7, none, .p (.mv (.k (.c (C.int .i64 1048576))))⟩] [1, 2, 3, 7])
  (.seq (.region [⟨some 12, none, .h (.load 3 true (.t 3))⟩,
    ⟨some 13, none, .p (.mv (.t 7))⟩,
    ⟨some 14, none, .h (.call (.f 18) [.t 12, .t 13])⟩,
    ⟨some 7, none, .p (.mv (.t 14))⟩] [1, 2, 3, 7])
  (.seq (.seq (.region [⟨some 15, none, .p (.mv (.t 7))⟩,
    ⟨some 16, none, .p (.bin .lss (.t 15) (.k (.c (C.int .i64 0))))⟩] [1, 2, 3, 16])
  (.cond (.t 16)
  (.seq (.region [⟨some 6, none, .p (.mv (.k (.c (C.bool true))))⟩] [6])
  .ret)
  .skip))
  (.seq (.region [⟨some 18, none, .h (.load 3 true (.t 3))⟩,
    ⟨some 19, none, .h (.call (.f 20) [.t 18])⟩,
    ⟨some 20, none, .p (.mv (.t 1))⟩,
    ⟨some 21, none, .p (.mv (.t 2))⟩,
    ⟨some 22, none, .h (.call (.f 22) [.t 19, .t 20, .t 21])⟩,
    ⟨some 17, none, .p (.mv (.t 22))⟩,
    ⟨some 23, none, .p (.ext (.t 17) 0)⟩,
    ⟨some 24, none, .p (.ext (.t 17) 1)⟩,
    ⟨some 8, none, .p (.mv (.t 23))⟩,
    ⟨some 9, none, .p (.mv (.t 24))⟩] [1, 2, 3, 8, 9])
  (.seq (.region [⟨some 26, none, .h (.load 3 true (.t 3))⟩,
    ⟨some 27, none, .h (.call (.f 20) [.t 26])⟩,
    ⟨some 28, none, .p (.mv (.t 1))⟩,
    ⟨some 29, none, .p (.mv (.t 2))⟩,
    ⟨some 30, none, .h (.call (.f 23) [.t 27, .t 28, .t 29])⟩,
    ⟨some 25, none, .p (.mv (.t 30))⟩,
    ⟨some 31, none, .p (.ext (.t 25) 0)⟩,
    ⟨some 32, none, .p (.ext (.t 25) 1)⟩,
    ⟨some 10, none, .p (.mv (.t 31))⟩,
    ⟨some 11, none, .p (.mv (.t 32))⟩] [8, 9, 10, 11])
  (.seq (.seq (.region [⟨some 33, none, .p (.mv (.t 10))⟩,
    ⟨some 34, none, .p (.mv (.t 8))⟩,
    ⟨some 35, none, .p (.bin .neq (.t 33) (.t 34))⟩,
    ⟨some 36, none, .p (.mv (.t 35))⟩,
    ⟨some 37, some (36, false), .p (.mv (.t 11))⟩,
    ⟨some 38, some (36, false), .p (.mv (.t 9))⟩,
    ⟨some 39, some (36, false), .p (.eqb true (.t 37) (.t 38))⟩,
    ⟨some 40, none, .p (.pick (.t 36) (.k (.c (C.bool true))) (.t 39))⟩] [40])
  (.cond (.t 40)
  (.seq (.region [⟨some 6, none, .p (.mv (.k (.c (C.bool false))))⟩] [6])
  .ret)
  .skip))
  (.seq (.region [⟨some 6, none, .p (.mv (.k (.c (C.bool true))))⟩] [6])
  .ret)))))))) }
theorem a6_ok : okFn Tryd.prog 6 a6 = true := by kernel_rfl
/-- loop.example/g01215/laws.FnExactSyncLog -/
def a7 : AFn := { np := 1, nt := 34, res := [.t 2], body :=
  (.seq (.region [⟨some 1, none, .p (.box 3 (.t 0))⟩,
    ⟨some 2, none, .p (.mv (.k (.c (C.bool false))))⟩] [1])
  (.seq (.region [⟨some 3, none, .p (.mv (.k (.c (C.int .i64 1048576))))⟩] [1, 3])
  (.seq (.region [⟨some 8, none, .h (.load 3 true (.t 1))⟩,
    ⟨some 9, none, .p (.mv (.t 3))⟩,
    ⟨some 10, none, .h (.call (.f 18) [.t 8, .t 9])⟩,
    ⟨some 3, none, .p (.mv (.t 10))⟩] [1, 3])
  (.seq (.seq (.region [⟨some 11, none, .p (.mv (.t 3))⟩,
    ⟨some 12, none, .p (.bin .lss (.t 11) (.k (.c (C.int .i64 0))))⟩] [1, 12])
  (.cond (.t 12)
  (.seq (.region [⟨some 2, none, .p (.mv (.k (.c (C.bool true))))⟩] [2])
  .ret)
  .skip))
  (.seq (.region [⟨some 14, none, .h (.load 3 true (.t 1))⟩,
    ⟨some 15, none, .h (.call (.f 20) [.t 14])⟩,
    ⟨some 16, none, .h (.call (.f 24) [.t 15])⟩,
    ⟨some 13, none, .p (.mv (.t 16))⟩,
    ⟨some 17, none, .p (.ext (.t 13) 0)⟩,
    ⟨some 18, none, .p (.ext (.t 13) 1)⟩,
    ⟨some 4, none, .p (.alloc [.k (C.str []), .k (C.str []), .k (C.int .i64 0)])⟩,
    ⟨none, none, .h (.store 3 (.t 4) (.t 17))⟩,
    ⟨some 5, none, .p (.mv (.t 18))⟩] [1, 4, 5])
  (.seq (.region [⟨some 20, none, .h (.load 3 true (.t 1))⟩,
    ⟨some 21, none, .h (.call (.f 20) [.t 20])⟩,
    ⟨some 22, none, .h (.call (.f 25) [.t 21])⟩,
    ⟨some 19, none, .p (.mv (.t 22))⟩,
    ⟨some 23, none, .p (.ext (.t 19) 0)⟩,
    ⟨some 24, none, .p (.ext (.t 19) 1)⟩,
    ⟨some 6, none, .p (.alloc [.k (C.str []), .k (C.str []), .k (C.int .i64 0)])⟩,
    ⟨none, none, .h (.store 3 (.t 6) (.t 23))⟩,
    ⟨some 7, none, .p (.mv (.t 24))⟩] [4, 5, 6, 7])
  (.seq (.seq (.region [⟨some 25, none, .h (.load 3 true (.t 6))⟩,
    ⟨some 26, none, .h (.load 3 true (.t 4))⟩,
    ⟨some 27, none, .h (.call (.f 17) [.t 25, .t 26])⟩,
    ⟨some 28, none, .p (.un .not (.t 27))⟩,
    ⟨some 29, none, .p (.mv (.t 28))⟩,
    ⟨some 30, some (29, false), .p (.mv (.t 7))⟩,
    ⟨some 31, some (29, false), .p (.mv (.t 5))⟩,
    ⟨some 32, some (29, false), .p (.eqb true (.t 30) (.t 31))⟩,
    ⟨some 33, none, .p (.pick (.t 29) (.k (.c (C.bool true))) (.t 32))⟩] [33])
  (.cond (.t 33)
  (.seq (.region [⟨some 2, none, .p (.mv (.k (.c (C.bool false))))⟩] [2])
  .ret)
  .skip))
  (.seq (.region [⟨some 2, none, .p (.mv (.k (.c (C.bool true))))⟩] [2])
  .ret)))))))) }
theorem a7_ok : okFn Tryd.prog 7 a7 = true := by kernel_rfl
/-- loop.example/g01215/laws.FnExactAppendRecord -/
def a8 : AFn := { np := 2, nt := 45, res := [.t 4], body :=
  (.seq (.region [⟨some 2, none, .p (.box 3 (.t 0))⟩,
    ⟨some 3, none, .p (.box 2 (.t 1))⟩,
    ⟨some 4, none, .p (.mv (.k (.c (C.bool false))))⟩] [2, 3])
  (.seq (.region [⟨some 5, none, .p (.mv (.k (.c (C.int .i64 1048576))))⟩] [2, 3, 5])
  (.seq (.region [⟨some 10, none, .h (.load 3 true (.t 2))⟩,
    ⟨some 11, none, .p (.mv (.t 5))⟩,
    ⟨some 12, none, .h (.call (.f 18) [.t 10, .t 11])⟩,
    ⟨some 5, none, .p (.mv (.t 12))⟩] [2, 3, 5])
  (.seq (.seq (.region [⟨some 13, none, .p (.mv (.t 5))⟩,
    ⟨some 14, none, .p (.bin .lss (.t 13) (.k (.c (C.int .i64 0))))⟩] [2, 3, 5, 14])
  (.cond (.t 14)
  (.seq (.region [⟨some 4, none, .p (.mv (.k (.c (C.bool true))))⟩] [4])
  .ret)
  .skip))
  (.seq (.region [⟨some 15, none, .h (.load 2 true (.t 3))⟩,
    ⟨some 16, none, .p (.mv (.t 5))⟩,
    ⟨some 17, none, .h (.call (.f 11) [.t 15, .t 16])⟩,
    ⟨some 5, none, .p (.mv (.t 17))⟩] [2, 3, 5])
  (.seq (.seq (.region [⟨some 18, none, .p (.mv (.t 5))⟩,
    ⟨some 19, none, .p (.bin .lss (.t 18) (.k (.c (C.int .i64 0))))⟩] [2, 3, 19])
  (.cond (.t 19)
  (.seq (.region [⟨some 4, none, .p (.mv (.k (.c (C.bool true))))⟩] [4])
  .ret)
  .skip))
  (.seq (.regionD [⟨some 21, none, .h (.load 3 true (.t 2))⟩,
    ⟨some 22, none, .h (.call (.f 20) [.t 21])⟩,
    ⟨some 23, none, .h (.load 2 true (.t 3))⟩,
    ⟨some 24, none, .h (.call (.f 13) [.t 23])⟩,
    ⟨some 25, none, .h (.call (.f 26) [.t 22, .t 24])⟩,
    ⟨some 20, none, .p (.mv (.t 25))⟩,
    ⟨some 26, none, .p (.ext (.t 20) 0)⟩,
    ⟨some 27, none, .p (.ext (.t 20) 1)⟩,
    ⟨some 6, none, .p (.alloc [.k (C.str []), .k (C.str []), .k (C.int .i64 0)])⟩,
    ⟨none, none, .h (.store 3 (.t 6) (.t 26))⟩,
    ⟨some 7, none, .p (.mv (.t 27))⟩] [2, 3, 6, 7] [])
  (.seq (.regionD [⟨some 29, none, .h (.load 3 true (.t 2))⟩,
    ⟨some 30, none, .h (.call (.f 20) [.t 29])⟩,
    ⟨some 31, none, .h (.load 2 true (.t 3))⟩,
    ⟨some 32, none, .h (.call (.f 13) [.t 31])⟩,
    ⟨some 33, none, .h (.call (.f 27) [.t 30, .t 32])⟩,
    ⟨some 28, none, .p (.mv (.t 33))⟩,
    ⟨some 34, none, .p (.ext (.t 28) 0)⟩,
    ⟨some 35, none, .p (.ext (.t 28) 1)⟩,
    ⟨some 8, none, .p (.alloc [.k (C.str []), .k (C.str []), .k (C.int .i64 0)])⟩,
    ⟨none, none, .h (.store 3 (.t 8) (.t 34))⟩,
    ⟨some 9, none, .p (.mv (.t 35))⟩] [6, 7, 8, 9] [])
  (.seq (.seq (.region [⟨some 36, none, .h (.load 3 true (.t 8))⟩,
    ⟨some 37, none, .h (.load 3 true (.t 6))⟩,
    ⟨some 38, none, .h (.call (.f 17) [.t 36, .t 37])⟩,
    ⟨some 39, none, .p (.un .not (.t 38))⟩,
    ⟨some 40, none, .p (.mv (.t 39))⟩,
    ⟨some 41, some (40, false), .p (.mv (.t 9))⟩,
    ⟨some 42, some (40, false), .p (.mv (.t 7))⟩,
    ⟨some 43, some (40, false), .p (.bin .neq (.t 41) (.t 42))⟩,
    ⟨some 44, none, .p (.pick (.t 40) (.k (.c (C.bool true))) (.t 43))⟩] [44])
  (.cond (.t 44)
  (.seq (.region [⟨some 4, none, .p (.mv (.k (.c (C.bool false))))⟩] [4])
  .ret)
  .skip))
  (.seq (.region [⟨some 4, none, .p (.mv (.k (.c (C.bool true))))⟩] [4])
  .ret)))))))))) }
theorem a8_ok : okFn Tryd.prog 8 a8 = true := by kernel_rfl
/-- loop.example/g01215/laws.FnExactLogRecords -/
def a9 : AFn := { np := 1, nt := 72, res := [.t 2], body :=
  (.seq (.region [⟨some 1, none, .p (.box 3 (.t 0))⟩,
    ⟨some 2, none, .p (.mv (.k (.c (C.bool false))))⟩] [1])
  (.seq (.region [⟨some 3, none, .p (.mv (.k (.c (C.int .i64 1048576))))⟩] [1, 3])
  (.seq (.region [⟨some 12, none, .h (.load 3 true (.t 1))⟩,
    ⟨some 13, none, .p (.mv (.t 3))⟩,
    ⟨some 14, none, .h (.call (.f 18) [.t 12, .t 13])⟩,
    ⟨some 3, none, .p (.mv (.t 14))⟩] [1, 3])
  (.seq (.seq (.region [⟨some 15, none, .p (.mv (.t 3))⟩,
    ⟨some 16, none, .p (.bin .lss (.t 15) (.k (.c (C.int .i64 0))))⟩] [1, 16])
  (.cond (.t 16)
  (.seq (.region [⟨some 2, none, .p (.mv (.k (.c (C.bool true))))⟩] [2])
  .ret)
  .skip))
  (.seq (.region [⟨some 18, none, .h (.load 3 true (.t 1))⟩,
    ⟨some 19, none, .h (.call (.f 20) [.t 18])⟩,
    ⟨some 20, none, .h (.call (.f 28) [.t 19])⟩,
    ⟨some 17, none, .p (.mv (.t 20))⟩,
    ⟨some 21, none, .p (.ext (.t 17) 0)⟩,
    ⟨some 22, none, .p (.ext (.t 17) 1)⟩,
    ⟨some 4, none, .p (.mv (.t 21))⟩,
    ⟨some 5, none, .p (.mv (.t 22))⟩] [1, 4, 5])
  (.seq (.region [⟨some 24, none, .h (.load 3 true (.t 1))⟩,
    ⟨some 25, none, .h (.call (.f 20) [.t 24])⟩,
    ⟨some 26, none, .h (.call (.f 29) [.t 25])⟩,
    ⟨some 23, none, .p (.mv (.t 26))⟩,
    ⟨some 27, none, .p (.ext (.t 23) 0)⟩,
    ⟨some 28, none, .p (.ext (.t 23) 1)⟩,
    ⟨some 6, none, .p (.mv (.t 27))⟩,
    ⟨some 7, none, .p (.mv (.t 28))⟩] [1, 4, 5, 6, 7])
  (.seq (.seq (.region [⟨some 29, none, .p (.mv (.t 6))⟩,
    ⟨some 30, none, .p (.mv (.t 4))⟩,
    ⟨some 31, none, .h (.call (.f 30) [.t 29, .t 30])⟩,
    ⟨some 32, none, .p (.un .not (.t 31))⟩,
    ⟨some 33, none, .p (.mv (.t 32))⟩,
    ⟨some 34, some (33, false), .p (.mv (.t 7))⟩,
    ⟨some 35, some (33, false), .p (.mv (.t 5))⟩,
    ⟨some 36, some (33, false), .p (.eqb true (.t 34) (.t 35))⟩,
    ⟨some 37, none, .p (.pick (.t 33) (.k (.c (C.bool true))) (.t 36))⟩] [1, 4, 5, 6, 37])
  (.cond (.t 37)
  (.seq (.region [⟨some 2, none, .p (.mv (.k (.c (C.bool false))))⟩] [2])
  .ret)
  .skip))
  (.seq (.region [⟨some 8, none, .p (.mv (.k (.c (C.int .i64 1))))⟩] [1, 4, 5, 6, 8])
  (.seq (.region [⟨some 38, none, .p (.mv (.t 6))⟩,
    ⟨some 39, none, .p (.mv (.t 8))⟩,
    ⟨some 40, none, .h (.call (.f 31) [.t 38, .t 39])⟩,
    ⟨some 8, none, .p (.mv (.t 40))⟩] [1, 4, 5, 6, 8])
  (.seq (.region [⟨some 9, none, .p (.mv (.k (.c (C.int .i64 1))))⟩] [1, 4, 5, 6, 8, 9])
  (.seq (.region [⟨some 41, none, .p (.mv (.t 6))⟩,
    ⟨some 42, none, .p (.mv (.t 9))⟩,
    ⟨some 43, none, .h (.call (.f 32) [.t 41, .t 42])⟩,
    ⟨some 9, none, .p (.mv (.t 43))⟩] [1, 4, 5, 6, 8, 9])
  (.seq (.seq (.region [⟨some 44, none, .p (.mv (.t 9))⟩,
    ⟨some 45, none, .p (.bin .lss (.t 44) (.k (.c (C.int .i64 0))))⟩] [1, 4, 5, 6, 8, 9, 45])
  (.cond (.t 45)
  (.seq (.region [⟨some 2, none, .p (.mv (.k (.c (C.bool false))))⟩] [2])
  .ret)
  .skip))
  (.seq (.seq (.region [⟨some 46, none, .p (.mv (.t 9))⟩,
    ⟨some 47, none, .p (.mv (.t 8))⟩,
    ⟨some 48, none, .p (.bin .neq (.t 46) (.t 47))⟩] [1, 4, 5, 6, 8, 48])
  (.cond (.t 48)
  (.seq (.region [⟨some 2, none, .p (.mv (.k (.c (C.bool false))))⟩] [2])
  .ret)
  .skip))
  (.seq (.region [⟨some 50, none, .h (.load 3 true (.t 1))⟩,
    ⟨some 51, none, .h (.call (.f 20) [.t 50])⟩,
    ⟨some 52, none, .h (.call (.f 29) [.t 51])⟩,
    ⟨some 49, none, .p (.mv (.t 52))⟩,
    ⟨some 53, none, .p (.ext (.t 49) 0)⟩,
    ⟨some 54, none, .p (.ext (.t 49) 1)⟩,
    ⟨some 10, none, .p (.mv (.t 53))⟩,
    ⟨some 11, none, .p (.mv (.t 54))⟩] [4, 5, 6, 8, 10, 11])
  (.seq (.seq (.region [⟨some 55, none, .p (.mv (.t 10))⟩,
    ⟨some 56, none, .p (.mv (.t 4))⟩,
    ⟨some 57, none, .h (.call (.f 30) [.t 55, .t 56])⟩,
    ⟨some 58, none, .p (.un .not (.t 57))⟩,
    ⟨some 59, none, .p (.mv (.t 58))⟩,
    ⟨some 60, some (59, false), .p (.mv (.t 11))⟩,
    ⟨some 61, some (59, false), .p (.mv (.t 5))⟩,
    ⟨some 62, some (59, false), .p (.eqb true (.t 60) (.t 61))⟩,
    ⟨some 63, none, .p (.pick (.t 59) (.k (.c (C.bool true))) (.t 62))⟩] [6, 8, 63])
  (.cond (.t 63)
  (.seq (.region [⟨some 2, none, .p (.mv (.k (.c (C.bool false))))⟩] [2])
  .ret)
  .skip))
  (.seq (.region [⟨some 9, none, .p (.mv (.k (.c (C.int .i64 1))))⟩] [6, 8, 9])
  (.seq (.region [⟨some 64, none, .p (.mv (.t 6))⟩,
    ⟨some 65, none, .p (.mv (.t 9))⟩,
    ⟨some 66, none, .h (.call (.f 32) [.t 64, .t 65])⟩,
    ⟨some 9, none, .p (.mv (.t 66))⟩] [8, 9])
  (.seq (.seq (.region [⟨some 67, none, .p (.mv (.t 9))⟩,
    ⟨some 68, none, .p (.bin .lss (.t 67) (.k (.c (C.int .i64 0))))⟩] [8, 9, 68])
  (.cond (.t 68)
  (.seq (.region [⟨some 2, none, .p (.mv (.k (.c (C.bool false))))⟩] [2])
  .ret)
  .skip))
  (.seq (.seq (.region [⟨some 69, none, .p (.mv (.t 9))⟩,
    ⟨some 70, none, .p (.mv (.t 8))⟩,
    ⟨some 71, none, .p (.bin .neq (.t 69) (.t 70))⟩] [71])
  (.cond (.t 71)
  (.seq (.region [⟨some 2, none, .p (.mv (.k (.c (C.bool false))))⟩] [2])
  .ret)
  .skip))
  (.seq (.region [⟨some 2, none, .p (.mv (.k (.c (C.bool true))))⟩] [2])
  .ret)))))))))))))))))))) }
theorem a9_ok : okFn Tryd.prog 9 a9 = true := by kernel_rfl
/-- loop.example/g01215/laws.FnExactIsValidConsole -/
def a10 : AFn := { np := 1, nt := 20, res := [.t 2], body :=
  (.seq (.region [⟨some 1, none, .p (.box 29 (.t 0))⟩,
    ⟨some 2, none, .p (.mv (.k (.c (C.bool false))))⟩] [1])
  (.seq (.region [⟨some 3, none, .p (.mv (.k (.c (C.int .i64 1048576))))⟩] [1, 3])
  (.seq (.region [⟨some 6, none, .h (.load 29 true (.t 1))⟩,
    ⟨some 7, none, .p (.mv (.t 3))⟩,
    ⟨some 8, none, .h (.call (.f 33) [.t 6, .t 7])⟩,
    ⟨some 3, none, .p (.mv (.t 8))⟩] [1, 3])
  (.seq (.seq (.region [⟨some 9, none, .p (.mv (.t 3))⟩,
    ⟨some 10, none, .p (.bin .lss (.t 9) (.k (.c (C.int .i64 0))))⟩] [1, 10])
  (.cond (.t 10)
  (.seq (.region [⟨some 2, none, .p (.mv (.k (.c (C.bool true))))⟩] [2])
  .ret)
  .skip))
  (.seq (.region [⟨some 11, none, .h (.load 29 true (.t 1))⟩,
    ⟨some 12, none, .h (.call (.f 35) [.t 11])⟩,
    ⟨some 13, none, .h (.call (.f 34) [.t 12])⟩,
    ⟨some 4, none, .p (.mv (.t 13))⟩] [1, 4])
  (.seq (.region [⟨some 14, none, .h (.load 29 true (.t 1))⟩,
    ⟨some 15, none, .h (.call (.f 35) [.t 14])⟩,
    ⟨some 16, none, .h (.call (.f 36) [.t 15])⟩,
    ⟨some 5, none, .p (.mv (.t 16))⟩] [4, 5])
  (.seq (.seq (.region [⟨some 17, none, .p (.mv (.t 5))⟩,
    ⟨some 18, none, .p (.mv (.t 4))⟩,
    ⟨some 19, none, .p (.eqb true (.t 17) (.t 18))⟩] [19])
  (.cond (.t 19)
  (.seq (.region [⟨some 2, none, .p (.mv (.k (.c (C.bool false))))⟩] [2])
  .ret)
  .skip))
  (.seq (.region [⟨some 2, none, .p (.mv (.k (.c (C.bool true))))⟩] [2])
  .ret)))))))) }
theorem a10_ok : okFn Tryd.prog 10 a10 = true := by kernel_rfl
/-- loop.example/g01215/laws.szLogRecord -/
def a11 : AFn := { np := 2, nt := 20, res := [.t 4], body :=
  (.seq (.region [⟨some 2, none, .p (.box 2 (.t 0))⟩,
    ⟨some 4, none, .p (.mv (.k (.c (C.int .i64 0))))⟩] [1, 2])
  (.seq (.region [⟨some 5, none, .p (.mv (.t 1))⟩,
    ⟨some 6, none, .p (.fld 0 (.t 2))⟩,
    ⟨some 7, none, .h (.load 1 false (.t 6))⟩,
    ⟨some 8, none, .p (.lenStr (.t 7))⟩,
    ⟨some 9, none, .p (.bin .sub (.t 5) (.t 8))⟩,
    ⟨some 1, none, .p (.mv (.t 9))⟩] [1, 2])
  (.seq (.seq (.region [⟨some 10, none, .p (.mv (.t 1))⟩,
    ⟨some 11, none, .p (.bin .lss (.t 10) (.k (.c (C.int .i64 0))))⟩] [1, 2, 11])
  (.cond (.t 11)
  (.seq (.region [⟨some 4, none, .p (.mv (.k (.c (C.int .i64 (-1)))))⟩] [4])
  .ret)
  .skip))
  (.seq (.region [⟨some 12, none, .p (.mv (.t 1))⟩,
    ⟨some 13, none, .p (.fld 1 (.t 2))⟩,
    ⟨some 14, none, .h (.load 1 false (.t 13))⟩,
    ⟨some 15, none, .p (.lenStr (.t 14))⟩,
    ⟨some 16, none, .p (.bin .sub (.t 12) (.t 15))⟩,
    ⟨some 1, none, .p (.mv (.t 16))⟩] [1])
  (.seq (.seq (.region [⟨some 17, none, .p (.mv (.t 1))⟩,
    ⟨some 18, none, .p (.bin .lss (.t 17) (.k (.c (C.int .i64 0))))⟩] [1, 18])
  (.cond (.t 18)
  (.seq (.region [⟨some 4, none, .p (.mv (.k (.c (C.int .i64 (-1)))))⟩] [4])
  .ret)
  .skip))
  (.seq (.region [⟨some 19, none, .p (.mv (.t 1))⟩,
    ⟨some 4, none, .p (.mv (.t 19))⟩] [4])
  .ret)))))) }
theorem a11_ok : okFn Tryd.prog 11 a11 = true := by kernel_rfl
/-- loop.example/g01215/spec.EncodeRecord -/
def a12 : AFn := { np := 2, nt := 17, res := [.t 4, .t 5], body :=
  (.seq (.region [⟨some 3, none, .p (.box 2 (.t 1))⟩,
    ⟨some 4, none, .p (.mv (.k (.c (C.str []))))⟩,
    ⟨some 5, none, .p (.mv (.k (.c (C.bool false))))⟩] [0, 3])
  (.seq (.seq (.region [⟨some 6, none, .p (.mv (.t 0))⟩,
    ⟨some 7, none, .h (.call (.f 37) [.t 6, .k (.c (C.int .i64 0)), .k (.c (C.int .i64 59))])⟩,
    ⟨some 8, none, .p (.un .not (.t 7))⟩,
    ⟨some 9, none, .p (.mv (.t 8))⟩,
    ⟨some 10, some (9, false), .h (.load 2 true (.t 3))⟩,
    ⟨some 11, some (9, false), .h (.call (.f 38) [.t 10])⟩,
    ⟨some 12, some (9, false), .p (.un .not (.t 11))⟩,
    ⟨some 13, none, .p (.pick (.t 9) (.k (.c (C.bool true))) (.t 12))⟩] [0, 3, 13])
  (.cond (.t 13)
  (.seq (.region [⟨some 4, none, .p (.mv (.k (.c (C.str []))))⟩,
    ⟨some 5, none, .p (.mv (.k (.c (C.bool false))))⟩] [4, 5])
  .ret)
  .skip))
  (.seq (.region [⟨some 14, none, .p (.mv (.t 0))⟩,
    ⟨some 15, none, .h (.load 2 true (.t 3))⟩,
    ⟨some 16, none, .h (.call (.f 39) [.t 14, .t 15])⟩,
    ⟨some 4, none, .p (.mv (.t 16))⟩,
    ⟨some 5, none, .p (.mv (.k (.c (C.bool true))))⟩] [4, 5])
  .ret))) }
theorem a12_ok : okFn Tryd.prog 12 a12 = true := by kernel_rfl
/-- loop.example/g01215/laws.toLogRecord -/
def a13 : AFn := { np := 1, nt := 11, res := [.cell 2 2 true], body :=
  (.seq (.region [⟨some 1, none, .p (.box 2 (.t 0))⟩,
    ⟨some 2, none, .p (.alloc [.k (C.str []), .k (C.str [])])⟩] [1, 2])
  (.seq (.region [⟨some 3, none, .p (.alloc [.k (C.str []), .k (C.str [])])⟩] [1, 2, 3])
  (.seq (.region [⟨some 4, none, .p (.fld 0 (.t 1))⟩,
    ⟨some 5, none, .h (.load 1 false (.t 4))⟩,
    ⟨some 6, none, .p (.fld 0 (.t 3))⟩,
    ⟨none, none, .h (.store 1 (.t 6) (.t 5))⟩] [1, 2, 3])
  (.seq (.region [⟨some 7, none, .p (.fld 1 (.t 1))⟩,
    ⟨some 8, none, .h (.load 1 false (.t 7))⟩,
    ⟨some 9, none, .p (.fld 1 (.t 3))⟩,
    ⟨none, none, .h (.store 1 (.t 9) (.t 8))⟩] [2, 3])
  (.seq (.region [⟨some 10, none, .h (.load 2 true (.t 3))⟩,
    ⟨none, none, .h (.store 2 (.t 2) (.t 10))⟩] [2])
  .ret))))) }
theorem a13_ok : okFn Tryd.prog 13 a13 = true := by kernel_rfl
/-- loop.example/g01215/impl.EncodeRecord -/
def a14 : AFn := { np := 2, nt := 33, res := [.t 4, .t 5], body :=
  (.seq (.region [⟨some 3, none, .p (.box 2 (.t 1))⟩,
    ⟨some 4, none, .p (.mv (.k (.c (C.str []))))⟩,
    ⟨some 5, none, .p (.mv (.k (.c (C.bool false))))⟩] [0, 3])
  (.seq (.seq (.region [⟨some 8, none, .p (.mv (.t 0))⟩,
    ⟨some 9, none, .h (.call (.f 40) [.t 8, .k (.c (C.int .i64 0)), .k (.c (C.int .i64 59))])⟩,
    ⟨some 10, none, .p (.un .not (.t 9))⟩,
    ⟨some 11, none, .p (.mv (.t 10))⟩,
    ⟨some 12, some (11, false), .h (.load 2 true (.t 3))⟩,
    ⟨some 13, some (11, false), .h (.call (.f 41) [.t 12])⟩,
    ⟨some 14, some (11, false), .p (.un .not (.t 13))⟩,
    ⟨some 15, none, .p (.pick (.t 11) (.k (.c (C.bool true))) (.t 14))⟩] [0, 3, 15])
  (.cond (.t 15)
  (.seq (.region [⟨some 4, none, .p (.mv (.k (.c (C.str []))))⟩,
    ⟨some 5, none, .p (.mv (.k (.c (C.bool false))))⟩] [4, 5])
  .ret)
  .skip))
  (.seq (.regionD [⟨some 17, none, .p (.mv (.t 0))⟩,
    ⟨some 18, none, .h (.call (.f 43) [.t 17])⟩,
    ⟨some 19, none, .p (.bin .add (.t 18) (.k (.c (C.str [32]))))⟩,
    ⟨some 20, none, .p (.fld 0 (.t 3))⟩,
    ⟨some 21, none, .h (.load 1 false (.t 20))⟩,
    ⟨some 22, none, .p (.bin .add (.t 19) (.t 21))⟩,
    ⟨some 23, none, .p (.bin .add (.t 22) (.k (.c (C.str [64]))))⟩,
    ⟨some 24, none, .p (.fld 1 (.t 3))⟩,
    ⟨some 25, none, .h (.load 1 false (.t 24))⟩,
    ⟨some 26, none, .p (.bin .add (.t 23) (.t 25))⟩,
    ⟨some 27, none, .h (.call (.f 42) [.t 26])⟩,
    ⟨some 16, none, .p (.mv (.t 27))⟩,
    ⟨some 28, none, .p (.ext (.t 16) 0)⟩,
    ⟨some 29, none, .p (.ext (.t 16) 1)⟩,
    ⟨some 6, none, .p (.mv (.t 28))⟩,
    ⟨some 7, none, .p (.mv (.t 29))⟩] [6, 7] [])
  (.seq (.region [⟨some 30, none, .p (.mv (.t 6))⟩,
    ⟨some 31, none, .p (.bin .add (.t 30) (.k (.c (C.str [10]))))⟩,
    ⟨some 32, none, .p (.mv (.t 7))⟩,
    ⟨some 4, none, .p (.mv (.t 31))⟩,
    ⟨some 5, none, .p (.mv (.t 32))⟩] [4, 5])
  .ret)))) }
theorem a14_ok : okFn Tryd.prog 14 a14 = true := by kernel_rfl
/-- loop.example/g01215/spec.RecoverLog -/
def a15 : AFn := { np := 1, nt := 23, res := [.cell 2 3 true, .t 3, .t 4], body :=
  (.seq (.region [⟨some 2, none, .p (.alloc [.k (C.str []), .k (C.str []), .k (C.int .i64 0)])⟩,
    ⟨some 3, none, .p (.mv (.k (.c (C.int .i64 0))))⟩,
    ⟨some 4, none, .p (.mv (.k (.c (C.bool false))))⟩] [0, 2])
  (.seq (.seq (.region [⟨some 7, none, .p (.mv (.t 0))⟩,
    ⟨some 8, none, .p (.lenStr (.t 7))⟩,
    ⟨some 9, none, .p (.bin .gtr (.t 8) (.k (.c (C.int .i64 30000))))⟩] [0, 2, 9])
  (.cond (.t 9)
  (.seq (.region [⟨some 10, none, .p (.build [.k (C.str []), .k (C.str []), .k (C.int .i64 0)] [])⟩,
    ⟨none, none, .h (.store 3 (.t 2) (.t 10))⟩,
    ⟨some 3, none, .p (.mv (.k (.c (C.int .i64 0))))⟩,
    ⟨some 4, none, .p (.mv (.k (.c (C.bool false))))⟩] [2, 3, 4])
  .ret)
  .skip))
  (.seq (.region [⟨some 12, none, .p (.mv (.t 0))⟩,
    ⟨some 13, none, .h (.call (.f 44) [.t 12])⟩,
    ⟨some 11, none, .p (.mv (.t 13))⟩,
    ⟨some 14, none, .p (.ext (.t 11) 0)⟩,
    ⟨some 15, none, .p (.ext (.t 11) 1)⟩,
    ⟨some 5, none, .p (.mv (.t 14))⟩,
    ⟨some 6, none, .p (.mv (.t 15))⟩] [0, 2, 5, 6])
  (.seq (.region [⟨some 16, none, .p (.mv (.t 0))⟩,
    ⟨some 17, none, .p (.mv (.t 6))⟩,
    ⟨some 18, none, .p (.slStr (.t 16) none (some (.t 17)))⟩,
    ⟨some 19, none, .p (.mv (.t 5))⟩,
    ⟨some 20, none, .p (.len (.t 19))⟩,
    ⟨some 21, none, .p (.build [.k (C.str []), .k (C.str []), .k (C.int .i64 0)] [(0, 1, .t 18), (2, 1, .t 20)])⟩,
    ⟨some 22, none, .p (.mv (.t 6))⟩,
    ⟨none, none, .h (.store 3 (.t 2) (.t 21))⟩,
    ⟨some 3, none, .p (.mv (.t 22))⟩,
    ⟨some 4, none, .p (.mv (.k (.c (C.bool true))))⟩] [2, 3, 4])
  .ret)))) }
theorem a15_ok : okFn Tryd.prog 15 a15 = true := by kernel_rfl
/-- loop.example/g01215/impl.RecoverLog -/
def a16 : AFn := { np := 1, nt := 23, res := [.cell 2 3 true, .t 3, .t 4], body :=
  (.seq (.region [⟨some 2, none, .p (.alloc [.k (C.str []), .k (C.str []), .k (C.int .i64 0)])⟩,
    ⟨some 3, none, .p (.mv (.k (.c (C.int .i64 0))))⟩,
    ⟨some 4, none, .p (.mv (.k (.c (C.bool false))))⟩] [0, 2])
  (.seq (.seq (.region [⟨some 7, none, .p (.mv (.t 0))⟩,
    ⟨some 8, none, .p (.lenStr (.t 7))⟩,
    ⟨some 9, none, .p (.bin .gtr (.t 8) (.k (.c (C.int .i64 30000))))⟩] [0, 2, 9])
  (.cond (.t 9)
  (.seq (.region [⟨some 10, none, .p (.build [.k (C.str []), .k (C.str []), .k (C.int .i64 0)] [])⟩,
    ⟨none, none, .h (.store 3 (.t 2) (.t 10))⟩,
    ⟨some 3, none, .p (.mv (.k (.c (C.int .i64 0))))⟩,
    ⟨some 4, none, .p (.mv (.k (.c (C.bool false))))⟩] [2, 3, 4])
  .ret)
  .skip))
  (.seq (.region [⟨some 12, none, .p (.mv (.t 0))⟩,
    ⟨some 13, none, .h (.call (.f 45) [.t 12])⟩,
    ⟨some 11, none, .p (.mv (.t 13))⟩,
    ⟨some 14, none, .p (.ext (.t 11) 0)⟩,
    ⟨some 15, none, .p (.ext (.t 11) 1)⟩,
    ⟨some 5, none, .p (.mv (.t 14))⟩,
    ⟨some 6, none, .p (.mv (.t 15))⟩] [0, 2, 5, 6])
  (.seq (.region [⟨some 16, none, .p (.mv (.t 0))⟩,
    ⟨some 17, none, .p (.mv (.t 6))⟩,
    ⟨some 18, none, .p (.slStr (.t 16) none (some (.t 17)))⟩,
    ⟨some 19, none, .p (.mv (.t 5))⟩,
    ⟨some 20, none, .p (.len (.t 19))⟩,
    ⟨some 21, none, .p (.build [.k (C.str []), .k (C.str []), .k (C.int .i64 0)] [(0, 1, .t 18), (1, 1, .k (.c (C.str []))), (2, 1, .t 20)])⟩,
    ⟨some 22, none, .p (.mv (.t 6))⟩,
    ⟨none, none, .h (.store 3 (.t 2) (.t 21))⟩,
    ⟨some 3, none, .p (.mv (.t 22))⟩,
    ⟨some 4, none, .p (.mv (.k (.c (C.bool true))))⟩] [2, 3, 4])
  .ret)))) }
theorem a16_ok : okFn Tryd.prog 16 a16 = true := by kernel_rfl
/-- loop.example/g01215/laws.eqLog -/
def a17 : AFn := { np := 2, nt := 20, res := [.t 4], body :=
  (.seq (.region [⟨some 2, none, .p (.box 3 (.t 0))⟩,
    ⟨some 3, none, .p (.box 3 (.t 1))⟩,
    ⟨some 4, none, .p (.mv (.k (.c (C.bool false))))⟩] [2, 3])
  (.seq (.seq (.region [⟨some 5, none, .p (.fld 0 (.t 2))⟩,
    ⟨some 6, none, .h (.load 1 false (.t 5))⟩,
    ⟨some 7, none, .p (.fld 0 (.t 3))⟩,
    ⟨some 8, none, .h (.load 1 false (.t 7))⟩,
    ⟨some 9, none, .p (.bin .neq (.t 6) (.t 8))⟩] [2, 3, 9])
  (.cond (.t 9)
  (.seq (.region [⟨some 4, none, .p (.mv (.k (.c (C.bool false))))⟩] [4])
  .ret)
  .skip))
  (.seq (.seq (.region [⟨some 10, none, .p (.fld 1 (.t 2))⟩,
    ⟨some 11, none, .h (.load 1 false (.t 10))⟩,
    ⟨some 12, none, .p (.fld 1 (.t 3))⟩,
    ⟨some 13, none, .h (.load 1 false (.t 12))⟩,
    ⟨some 14, none, .p (.bin .neq (.t 11) (.t 13))⟩] [2, 3, 14])
  (.cond (.t 14)
  (.seq (.region [⟨some 4, none, .p (.mv (.k (.c (C.bool false))))⟩] [4])
  .ret)
  .skip))
  (.seq (.seq (.region [⟨some 15, none, .p (.fld 2 (.t 2))⟩,
    ⟨some 16, none, .h (.load 1 false (.t 15))⟩,
    ⟨some 17, none, .p (.fld 2 (.t 3))⟩,
    ⟨some 18, none, .h (.load 1 false (.t 17))⟩,
    ⟨some 19, none, .p (.bin .neq (.t 16) (.t 18))⟩] [19])
  (.cond (.t 19)
  (.seq (.region [⟨some 4, none, .p (.mv (.k (.c (C.bool false))))⟩] [4])
  .ret)
  .skip))
  (.seq (.region [⟨some 4, none, .p (.mv (.k (.c (C.bool true))))⟩] [4])
  .ret))))) }
theorem a17_ok : okFn Tryd.prog 17 a17 = true := by kernel_rfl
/-- loop.example/g01215/laws.szLog -/
def a18 : AFn := { np := 2, nt := 20, res := [.t 4], body :=
  (.seq (.region [⟨some 2, none, .p (.box 3 (.t 0))⟩,
    ⟨some 4, none, .p (.mv (.k (.c (C.int .i64 0))))⟩] [1, 2])
  (.seq (.region [⟨some 5, none, .p (.mv (.t 1))⟩,
    ⟨some 6, none, .p (.fld 0 (.t 2))⟩,
    ⟨some 7, none, .h (.load 1 false (.t 6))⟩,
    ⟨some 8, none, .p (.lenStr (.t 7))⟩,
    ⟨some 9, none, .p (.bin .sub (.t 5) (.t 8))⟩,
    ⟨some 1, none, .p (.mv (.t 9))⟩] [1, 2])
  (.seq (.seq (.region [⟨some 10, none, .p (.mv (.t 1))⟩,
    ⟨some 11, none, .p (.bin .lss (.t 10) (.k (.c (C.int .i64 0))))⟩] [1, 2, 11])
  (.cond (.t 11)
  (.seq (.region [⟨some 4, none, .p (.mv (.k (.c (C.int .i64 (-1)))))⟩] [4])
  .ret)
  .skip))
  (.seq (.region [⟨some 12, none, .p (.mv (.t 1))⟩,
    ⟨some 13, none, .p (.fld 1 (.t 2))⟩,
    ⟨some 14, none, .h (.load 1 false (.t 13))⟩,
    ⟨some 15, none, .p (.lenStr (.t 14))⟩,
    ⟨some 16, none, .p (.bin .sub (.t 12) (.t 15))⟩,
    ⟨some 1, none, .p (.mv (.t 16))⟩] [1])
  (.seq (.seq (.region [⟨some 17, none, .p (.mv (.t 1))⟩,
    ⟨some 18, none, .p (.bin .lss (.t 17) (.k (.c (C.int .i64 0))))⟩] [1, 18])
  (.cond (.t 18)
  (.seq (.region [⟨some 4, none, .p (.mv (.k (.c (C.int .i64 (-1)))))⟩] [4])
  .ret)
  .skip))
  (.seq (.region [⟨some 19, none, .p (.mv (.t 1))⟩,
    ⟨some 4, none, .p (.mv (.t 19))⟩] [4])
  .ret)))))) }
theorem a18_ok : okFn Tryd.prog 18 a18 = true := by kernel_rfl
/-- loop.example/g01215/spec.IsValidLog -/
def a19 : AFn := { np := 1, nt := 5, res := [.t 2], body :=
  (.seq (.region [⟨some 1, none, .p (.box 3 (.t 0))⟩,
    ⟨some 2, none, .p (.mv (.k (.c (C.bool false))))⟩] [1])
  (.seq (.region [⟨some 3, none, .h (.load 3 true (.t 1))⟩,
    ⟨some 4, none, .h (.call (.f 46) [.t 3])⟩,
    ⟨some 2, none, .p (.mv (.t 4))⟩] [2])
  .ret)) }
theorem a19_ok : okFn Tryd.prog 19 a19 = true := by kernel_rfl
/-- loop.example/g01215/laws.toLog -/
def a20 : AFn := { np := 1, nt := 14, res := [.cell 2 3 true], body :=
  (.seq (.region [⟨some 1, none, .p (.box 3 (.t 0))⟩,
    ⟨some 2, none, .p (.alloc [.k (C.str []), .k (C.str []), .k (C.int .i64 0)])⟩] [1, 2])
  (.seq (.region [⟨some 3, none, .p (.alloc [.k (C.str []), .k (C.str []), .k (C.int .i64 0)])⟩] [1, 2, 3])
  (.seq (.region [⟨some 4, none, .p (.fld 0 (.t 1))⟩,
    ⟨some 5, none, .h (.load 1 false (.t 4))⟩,
    ⟨some 6, none, .p (.fld 0 (.t 3))⟩,
    ⟨none, none, .h (.store 1 (.t 6) (.t 5))⟩] [1, 2, 3])
  (.seq (.region [⟨some 7, none, .p (.fld 1 (.t 1))⟩,
    ⟨some 8, none, .h (.load 1 false (.t 7))⟩,
    ⟨some 9, none, .p (.fld 1 (.t 3))⟩,
    ⟨none, none, .h (.store 1 (.t 9) (.t 8))⟩] [1, 2, 3])
  (.seq (.region [⟨some 10, none, .p (.fld 2 (.t 1))⟩,
    ⟨some 11, none, .h (.load 1 false (.t 10))⟩,
    ⟨some 12, none, .p (.fld 2 (.t 3))⟩,
    ⟨none, none, .h (.store 1 (.t 12) (.t 11))⟩] [2, 3])
  (.seq (.region [⟨some 13, none, .h (.load 3 true (.t 3))⟩,
    ⟨none, none, .h (.store 3 (.t 2) (.t 13))⟩] [2])
  .ret)))))) }
theorem a20_ok : okFn Tryd.prog 20 a20 = true := by kernel_rfl
/-- loop.example/g01215/impl.IsValidLog -/
def a21 : AFn := { np := 1, nt := 11, res := [.t 2], body :=
  (.seq (.region [⟨some 1, none, .p (.box 3 (.t 0))⟩,
    ⟨some 2, none, .p (.mv (.k (.c (C.bool false))))⟩] [1])
  (.seq (.region [⟨some 6, none, .h (.load 3 true (.t 1))⟩,
    ⟨some 7, none, .h (.call (.f 47) [.t 6])⟩,
    ⟨some 5, none, .p (.mv (.t 7))⟩,
    ⟨some 8, none, .p (.ext (.t 5) 0)⟩,
    ⟨some 9, none, .p (.ext (.t 5) 1)⟩,
    ⟨some 3, none, .p (.mv (.t 8))⟩,
    ⟨some 4, none, .p (.mv (.t 9))⟩] [4])
  (.seq (.region [⟨some 10, none, .p (.mv (.t 4))⟩,
    ⟨some 2, none, .p (.mv (.t 10))⟩] [2])
  .ret))) }
theorem a21_ok : okFn Tryd.prog 21 a21 = true := by kernel_rfl
/-- loop.example/g01215/spec.CrashLog -/
def a22 : AFn := { np := 3, nt := 45, res := [.t 6, .t 7], body :=
  (.seq (.region [⟨some 3, none, .p (.box 3 (.t 0))⟩,
    ⟨some 6, none, .p (.mv (.k (.c (C.str []))))⟩,
    ⟨some 7, none, .p (.mv (.k (.c (C.bool false))))⟩] [1, 2, 3])
  (.seq (.seq (.region [⟨some 9, none, .h (.load 3 true (.t 3))⟩,
    ⟨some 10, none, .h (.call (.f 46) [.t 9])⟩,
    ⟨some 11, none, .p (.un .not (.t 10))⟩,
    ⟨some 12, none, .p (.mv (.t 11))⟩,
    ⟨some 13, some (12, false), .p (.mv (.t 1))⟩,
    ⟨some 14, some (12, false), .p (.fld 1 (.t 3))⟩,
    ⟨some 15, some (12, false), .h (.load 1 false (.t 14))⟩,
    ⟨some 16, some (12, false), .p (.lenStr (.t 15))⟩,
    ⟨some 17, some (12, false), .h (.call (.f 37) [.t 13, .k (.c (C.int .i64 0)), .t 16])⟩,
    ⟨some 18, some (12, false), .p (.un .not (.t 17))⟩,
    ⟨some 19, none, .p (.pick (.t 12) (.k (.c (C.bool true))) (.t 18))⟩] [1, 2, 3, 19])
  (.cond (.t 19)
  (.seq (.region [⟨some 6, none, .p (.mv (.k (.c (C.str []))))⟩,
    ⟨some 7, none, .p (.mv (.k (.c (C.bool false))))⟩] [6, 7])
  .ret)
  .skip))
  (.seq (.region [⟨some 20, none, .p (.fld 1 (.t 3))⟩,
    ⟨some 21, none, .h (.load 1 false (.t 20))⟩,
    ⟨some 22, none, .p (.mv (.t 1))⟩,
    ⟨some 23, none, .p (.slStr (.t 21) none (some (.t 22)))⟩,
    ⟨some 24, none, .h (.s2b (.t 23))⟩,
    ⟨some 8, none, .p (.mv (.t 24))⟩] [1, 2, 3, 8])
  (.seq (.seq (.region [⟨some 25, none, .p (.mv (.t 2))⟩,
    ⟨some 26, none, .p (.mv (.t 25))⟩,
    ⟨some 27, some (26, true), .p (.mv (.t 1))⟩,
    ⟨some 28, some (26, true), .p (.bin .gtr (.t 27) (.k (.c (C.int .i64 0))))⟩,
    ⟨some 29, none, .p (.pick (.t 26) (.t 28) (.k (.c (C.bool false))))⟩] [1, 3, 8, 29])
  (.cond (.t 29)
  (.region [⟨some 30, none, .p (.mv (.t 8))⟩,
    ⟨some 31, none, .p (.mv (.t 1))⟩,
    ⟨some 32, none, .p (.bin .sub (.t 31) (.k (.c (C.int .i64 1))))⟩,
    ⟨some 33, none, .p (.mv (.t 8))⟩,
    ⟨some 34, none, .p (.mv (.t 1))⟩,
    ⟨some 35, none, .p (.bin .sub (.t 34) (.k (.c (C.int .i64 1))))⟩,
    ⟨some 36, none, .p (.ixS 1 (.t 33) (.t 35))⟩,
    ⟨some 37, none, .h (.load 1 false (.t 36))⟩,
    ⟨some 38, none, .p (.bin .sub (.k (.c (C.int .u8 255))) (.t 37))⟩,
    ⟨some 39, none, .p (.ixS 1 (.t 30) (.t 32))⟩,
    ⟨none, none, .h (.store 1 (.t 39) (.t 38))⟩] [3, 8])
  .skip))
  (.seq (.region [⟨some 40, none, .p (.fld 0 (.t 3))⟩,
    ⟨some 41, none, .h (.load 1 false (.t 40))⟩,
    ⟨some 42, none, .p (.mv (.t 8))⟩,
    ⟨some 43, none, .h (.b2s (.t 42))⟩,
    ⟨some 44, none, .p (.bin .add (.t 41) (.t 43))⟩,
    ⟨some 6, none, .p (.mv (.t 44))⟩,
    ⟨some 7, none, .p (.mv (.k (.c (C.bool true))))⟩] [6, 7])
  .ret))))) }
theorem a22_ok : okFn Tryd.prog 22 a22 = true := by kernel_rfl
/-- loop.example/g01215/impl.CrashLog -/
def a23 : AFn := { np := 3, nt := 47, res := [.t 6, .t 7], body :=
  (.seq (.region [⟨some 3, none, .p (.box 3 (.t 0))⟩,
    ⟨some 6, none, .p (.mv (.k (.c (C.str []))))⟩,
    ⟨some 7, none, .p (.mv (.k (.c (C.bool false))))⟩] [1, 2, 3])
  (.seq (.seq (.region [⟨some 9, none, .h (.load 3 true (.t 3))⟩,
    ⟨some 10, none, .h (.call (.f 21) [.t 9])⟩,
    ⟨some 11, none, .p (.un .not (.t 10))⟩,
    ⟨some 12, none, .p (.mv (.t 11))⟩,
    ⟨some 13, some (12, false), .p (.mv (.t 1))⟩,
    ⟨some 14, some (12, false), .p (.fld 1 (.t 3))⟩,
    ⟨some 15, some (12, false), .h (.load 1 false (.t 14))⟩,
    ⟨some 16, some (12, false), .p (.lenStr (.t 15))⟩,
    ⟨some 17, some (12, false), .h (.call (.f 40) [.t 13, .k (.c (C.int .i64 0)), .t 16])⟩,
    ⟨some 18, some (12, false), .p (.un .not (.t 17))⟩,
    ⟨some 19, none, .p (.pick (.t 12) (.k (.c (C.bool true))) (.t 18))⟩] [1, 2, 3, 19])
  (.cond (.t 19)
  (.seq (.region [⟨some 6, none, .p (.mv (.k (.c (C.str []))))⟩,
    ⟨some 7, none, .p (.mv (.k (.c (C.bool false))))⟩] [6, 7])
  .ret)
  .skip))
  (.seq (.regionD [⟨some 20, none, .p (.fld 0 (.t 3))⟩,
    ⟨some 21, none, .h (.load 1 false (.t 20))⟩,
    ⟨some 22, none, .p (.fld 1 (.t 3))⟩,
    ⟨some 23, none, .h (.load 1 false (.t 22))⟩,
    ⟨some 24, none, .p (.mv (.t 1))⟩,
    ⟨some 25, none, .p (.slStr (.t 23) none (some (.t 24)))⟩,
    ⟨some 26, none, .p (.bin .add (.t 21) (.t 25))⟩,
    ⟨some 27, none, .h (.s2b (.t 26))⟩,
    ⟨some 8, none, .p (.mv (.t 27))⟩] [1, 2, 8] [])
  (.seq (.seq (.region [⟨some 28, none, .p (.mv (.t 2))⟩,
    ⟨some 29, none, .p (.mv (.t 28))⟩,
    ⟨some 30, some (29, true), .p (.mv (.t 1))⟩,
    ⟨some 31, some (29, true), .p (.bin .gtr (.t 30) (.k (.c (C.int .i64 0))))⟩,
    ⟨some 32, none, .p (.pick (.t 29) (.t 31) (.k (.c (C.bool false))))⟩] [8, 32])
  (.cond (.t 32)
  (.region [⟨some 33, none, .p (.mv (.t 8))⟩,
    ⟨some 34, none, .p (.mv (.t 8))⟩,
    ⟨some 35, none, .p (.len (.t 34))⟩,
    ⟨some 36, none, .p (.bin .sub (.t 35) (.k (.c (C.int .i64 1))))⟩,
    ⟨some 37, none, .p (.mv (.t 8))⟩,
    ⟨some 38, none, .p (.mv (.t 8))⟩,
    ⟨some 39, none, .p (.len (.t 38))⟩,
    ⟨some 40, none, .p (.bin .sub (.t 39) (.k (.c (C.int .i64 1))))⟩,
    ⟨some 41, none, .p (.ixS 1 (.t 37) (.t 40))⟩,
    ⟨some 42, none, .h (.load 1 false (.t 41))⟩,
    ⟨some 43, none, .p (.bin .sub (.k (.c (C.int .u8 255))) (.t 42))⟩,
    ⟨some 44, none, .p (.ixS 1 (.t 33) (.t 36))⟩,
    ⟨none, none, .h (.store 1 (.t 44) (.t 43))⟩] [8])
  .skip))
  (.seq (.region [⟨some 45, none, .p (.mv (.t 8))⟩,
    ⟨some 46, none, .h (.b2s (.t 45))⟩,
    ⟨some 6, none, .p (.mv (.t 46))⟩,
    ⟨some 7, none, .p (.mv (.k (.c (C.bool true))))⟩] [6, 7])
  .ret))))) }
theorem a23_ok : okFn Tryd.prog 23 a23 = true := by kernel_rfl
/-- loop.example/g01215/spec.SyncLog -/
def a24 : AFn := { np := 1, nt := 16, res := [.cell 2 3 true, .t 3], body :=
  (.seq (.region [⟨some 1, none, .p (.box 3 (.t 0))⟩,
    ⟨some 2, none, .p (.alloc [.k (C.str []), .k (C.str []), .k (C.int .i64 0)])⟩,
    ⟨some 3, none, .p (.mv (.k (.c (C.bool false))))⟩] [1, 2])
  (.seq (.seq (.region [⟨some 4, none, .h (.load 3 true (.t 1))⟩,
    ⟨some 5, none, .h (.call (.f 46) [.t 4])⟩,
    ⟨some 6, none, .p (.un .not (.t 5))⟩] [1, 2, 6])
  (.cond (.t 6)
  (.seq (.region [⟨some 7, none, .p (.build [.k (C.str []), .k (C.str []), .k (C.int .i64 0)] [])⟩,
    ⟨none, none, .h (.store 3 (.t 2) (.t 7))⟩,
    ⟨some 3, none, .p (.mv (.k (.c (C.bool false))))⟩] [2, 3])
  .ret)
  .skip))
  (.seq (.region [⟨some 8, none, .p (.fld 0 (.t 1))⟩,
    ⟨some 9, none, .h (.load 1 false (.t 8))⟩,
    ⟨some 10, none, .p (.fld 1 (.t 1))⟩,
    ⟨some 11, none, .h (.load 1 false (.t 10))⟩,
    ⟨some 12, none, .p (.bin .add (.t 9) (.t 11))⟩,
    ⟨some 13, none, .p (.fld 2 (.t 1))⟩,
    ⟨some 14, none, .h (.load 1 false (.t 13))⟩,
    ⟨some 15, none, .p (.build [.k (C.str []), .k (C.str []), .k (C.int .i64 0)] [(0, 1, .t 12), (2, 1, .t 14)])⟩,
    ⟨none, none, .h (.store 3 (.t 2) (.t 15))⟩,
    ⟨some 3, none, .p (.mv (.k (.c (C.bool true))))⟩] [2, 3])
  .ret))) }
theorem a24_ok : okFn Tryd.prog 24 a24 = true := by kernel_rfl
/-- loop.example/g01215/impl.SyncLog -/
def a25 : AFn := { np := 1, nt := 16, res := [.cell 2 3 true, .t 3], body :=
  (.seq (.region [⟨some 1, none, .p (.box 3 (.t 0))⟩,
    ⟨some 2, none, .p (.alloc [.k (C.str []), .k (C.str []), .k (C.int .i64 0)])⟩,
    ⟨some 3, none, .p (.mv (.k (.c (C.bool false))))⟩] [1, 2])
  (.seq (.seq (.region [⟨some 4, none, .h (.load 3 true (.t 1))⟩,
    ⟨some 5, none, .h (.call (.f 21) [.t 4])⟩,
    ⟨some 6, none, .p (.un .not (.t 5))⟩] [1, 2, 6])
  (.cond (.t 6)
  (.seq (.region [⟨some 7, none, .p (.build [.k (C.str []), .k (C.str []), .k (C.int .i64 0)] [])⟩,
    ⟨none, none, .h (.store 3 (.t 2) (.t 7))⟩,
    ⟨some 3, none, .p (.mv (.k (.c (C.bool false))))⟩] [2, 3])
  .ret)
  .skip))
  (.seq (.region [⟨some 8, none, .p (.fld 0 (.t 1))⟩,
    ⟨some 9, none, .h (.load 1 false (.t 8))⟩,
    ⟨some 10, none, .p (.fld 1 (.t 1))⟩,
    ⟨some 11, none, .h (.load 1 false (.t 10))⟩,
    ⟨some 12, none, .p (.bin .add (.t 9) (.t 11))⟩,
    ⟨some 13, none, .p (.fld 2 (.t 1))⟩,
    ⟨some 14, none, .h (.load 1 false (.t 13))⟩,
    ⟨some 15, none, .p (.build [.k (C.str []), .k (C.str []), .k (C.int .i64 0)] [(0, 1, .t 12), (1, 1, .k (.c (C.str []))), (2, 1, .t 14)])⟩,
    ⟨none, none, .h (.store 3 (.t 2) (.t 15))⟩,
    ⟨some 3, none, .p (.mv (.k (.c (C.bool true))))⟩] [2, 3])
  .ret))) }
theorem a25_ok : okFn Tryd.prog 25 a25 = true := by kernel_rfl
/-- loop.example/g01215/spec.AppendRecord -/
def a26 : AFn := { np := 2, nt := 32, res := [.cell 4 3 true, .t 5], body :=
  (.seq (.region [⟨some 2, none, .p (.box 3 (.t 0))⟩,
    ⟨some 3, none, .p (.box 2 (.t 1))⟩,
    ⟨some 4, none, .p (.alloc [.k (C.str []), .k (C.str []), .k (C.int .i64 0)])⟩,
    ⟨some 5, none, .p (.mv (.k (.c (C.int .i64 0))))⟩] [2, 3, 4])
  (.seq (.seq (.region [⟨some 6, none, .h (.load 3 true (.t 2))⟩,
    ⟨some 7, none, .h (.call (.f 46) [.t 6])⟩,
    ⟨some 8, none, .p (.un .not (.t 7))⟩,
    ⟨some 9, none, .p (.mv (.t 8))⟩,
    ⟨some 10, some (9, false), .h (.load 2 true (.t 3))⟩,
    ⟨some 11, some (9, false), .h (.call (.f 38) [.t 10])⟩,
    ⟨some 12, some (9, false), .p (.un .not (.t 11))⟩,
    ⟨some 13, none, .p (.pick (.t 9) (.k (.c (C.bool true))) (.t 12))⟩] [2, 3, 4, 13])
  (.cond (.t 13)
  (.seq (.region [⟨some 14, none, .h (.load 3 true (.t 2))⟩,
    ⟨none, none, .h (.store 3 (.t 4) (.t 14))⟩,
    ⟨some 5, none, .p (.mv (.k (.c (C.int .i64 1))))⟩] [4, 5])
  .ret)
  .skip))
  (.seq (.seq (.region [⟨some 15, none, .p (.fld 2 (.t 2))⟩,
    ⟨some 16, none, .h (.load 1 false (.t 15))⟩,
    ⟨some 17, none, .p (.bin .eql (.t 16) (.k (.c (C.int .i64 60))))⟩] [2, 3, 4, 17])
  (.cond (.t 17)
  (.seq (.region [⟨some 18, none, .h (.load 3 true (.t 2))⟩,
    ⟨none, none, .h (.store 3 (.t 4) (.t 18))⟩,
    ⟨some 5, none, .p (.mv (.k (.c (C.int .i64 2))))⟩] [4, 5])
  .ret)
  .skip))
  (.seq (.regionD [⟨some 19, none, .p (.fld 1 (.t 2))⟩,
    ⟨some 20, none, .h (.load 1 false (.t 19))⟩,
    ⟨some 21, none, .p (.fld 2 (.t 2))⟩,
    ⟨some 22, none, .h (.load 1 false (.t 21))⟩,
    ⟨some 23, none, .h (.load 2 true (.t 3))⟩,
    ⟨some 24, none, .h (.call (.f 39) [.t 22, .t 23])⟩,
    ⟨some 25, none, .p (.bin .add (.t 20) (.t 24))⟩,
    ⟨some 26, none, .p (.fld 1 (.t 2))⟩,
    ⟨none, none, .h (.store 1 (.t 26) (.t 25))⟩] [2, 4] [])
  (.seq (.region [⟨some 27, none, .p (.fld 2 (.t 2))⟩,
    ⟨some 28, none, .h (.load 1 false (.t 27))⟩,
    ⟨some 29, none, .p (.bin .add (.t 28) (.k (.c (C.int .i64 1))))⟩,
    ⟨some 30, none, .p (.fld 2 (.t 2))⟩,
    ⟨none, none, .h (.store 1 (.t 30) (.t 29))⟩] [2, 4])
  (.seq (.region [⟨some 31, none, .h (.load 3 true (.t 2))⟩,
    ⟨none, none, .h (.store 3 (.t 4) (.t 31))⟩,
    ⟨some 5, none, .p (.mv (.k (.c (C.int .i64 0))))⟩] [4, 5])
  .ret)))))) }
theorem a26_ok : okFn Tryd.prog 26 a26 = true := by kernel_rfl
/-- loop.example/g01215/impl.AppendRecord -/
def a27 : AFn := { np := 2, nt := 40, res := [.cell 4 3 true, .t 5], body :=
  (.seq (.region [⟨some 2, none, .p (.box 3 (.t 0))⟩,
    ⟨some 3, none, .p (.box 2 (.t 1))⟩,
    ⟨some 4, none, .p (.alloc [.k (C.str []), .k (C.str []), .k (C.int .i64 0)])⟩,
    ⟨some 5, none, .p (.mv (.k (.c (C.int .i64 0))))⟩] [2, 3, 4])
  (.seq (.block 0 (.seq (.region [⟨some 9, none, .h (.load 3 true (.t 2))⟩,
    ⟨some 10, none, .h (.call (.f 21) [.t 9])⟩,
    ⟨some 11, none, .p (.un .not (.t 10))⟩,
    ⟨some 12, none, .p (.mv (.t 11))⟩,
    ⟨some 13, some (12, false), .h (.load 2 true (.t 3))⟩,
    ⟨some 14, some (12, false), .h (.call (.f 41) [.t 13])⟩,
    ⟨some 15, some (12, false), .p (.un .not (.t 14))⟩,
    ⟨some 16, none, .p (.pick (.t 12) (.k (.c (C.bool true))) (.t 15))⟩,
    ⟨some 8, none, .p (.mv (.t 16))⟩] [2, 3, 4, 8])
  (.cond (.t 8)
  (.seq (.region [⟨some 17, none, .h (.load 3 true (.t 2))⟩,
    ⟨none, none, .h (.store 3 (.t 4) (.t 17))⟩,
    ⟨some 5, none, .p (.mv (.k (.c (C.int .i64 1))))⟩] [4, 5])
  .ret)
  (.seq (.region [⟨some 19, none, .p (.fld 2 (.t 2))⟩,
    ⟨some 20, none, .h (.load 1 false (.t 19))⟩,
    ⟨some 21, none, .p (.bin .eql (.t 20) (.k (.c (C.int .i64 60))))⟩,
    ⟨some 18, none, .p (.mv (.t 21))⟩] [2, 3, 4, 18])
  (.cond (.t 18)
  (.seq (.region [⟨some 22, none, .h (.load 3 true (.t 2))⟩,
    ⟨none, none, .h (.store 3 (.t 4) (.t 22))⟩,
    ⟨some 5, none, .p (.mv (.k (.c (C.int .i64 2))))⟩] [4, 5])
  .ret)
  .skip)))))
  (.seq (.region [⟨some 24, none, .p (.fld 2 (.t 2))⟩,
    ⟨some 25, none, .h (.load 1 false (.t 24))⟩,
    ⟨some 26, none, .h (.load 2 true (.t 3))⟩,
    ⟨some 27, none, .h (.call (.f 14) [.t 25, .t 26])⟩,
    ⟨some 23, none, .p (.mv (.t 27))⟩,
    ⟨some 28, none, .p (.ext (.t 23) 0)⟩,
    ⟨some 29, none, .p (.ext (.t 23) 1)⟩,
    ⟨some 6, none, .p (.mv (.t 28))⟩,
    ⟨some 7, none, .p (.mv (.t 29))⟩] [2, 4, 6])
  (.seq (.region [⟨some 30, none, .p (.fld 0 (.t 2))⟩,
    ⟨some 31, none, .h (.load 1 false (.t 30))⟩,
    ⟨some 32, none, .p (.fld 1 (.t 2))⟩,
    ⟨some 33, none, .h (.load 1 false (.t 32))⟩,
    ⟨some 34, none, .p (.mv (.t 6))⟩,
    ⟨some 35, none, .p (.bin .add (.t 33) (.t 34))⟩,
    ⟨some 36, none, .p (.fld 2 (.t 2))⟩,
    ⟨some 37, none, .h (.load 1 false (.t 36))⟩,
    ⟨some 38, none, .p (.bin .add (.t 37) (.k (.c (C.int .i64 1))))⟩,
    ⟨some 39, none, .p (.build [.k (C.str []), .k (C.str []), .k (C.int .i64 0)] [(0, 1, .t 31), (1, 1, .t 35), (2, 1, .t 38)])⟩,
    ⟨none, none, .h (.store 3 (.t 4) (.t 39))⟩,
    ⟨some 5, none, .p (.mv (.k (.c (C.int .i64 0))))⟩] [4, 5])
  .ret)))) }
theorem a27_ok : okFn Tryd.prog 27 a27 = true := by kernel_rfl
/-- loop.example/g01215/spec.LogRecords -/
def a28 : AFn := { np := 1, nt := 20, res := [.t 2, .t 3], body :=
  (.seq (.region [⟨some 1, none, .p (.box 3 (.t 0))⟩,
    ⟨some 2, none, .p (.nilsl 2)⟩,
    ⟨some 3, none, .p (.mv (.k (.c (C.bool false))))⟩] [1])
  (.seq (.seq (.region [⟨some 6, none, .h (.load 3 true (.t 1))⟩,
    ⟨some 7, none, .h (.call (.f 46) [.t 6])⟩,
    ⟨some 8, none, .p (.un .not (.t 7))⟩] [1, 8])
  (.cond (.t 8)
  (.seq (.region [⟨some 9, none, .p (.mksl 2 0 [.k (C.str []), .k (C.str [])] [])⟩,
    ⟨some 2, none, .p (.mv (.t 9))⟩,
    ⟨some 3, none, .p (.mv (.k (.c (C.bool false))))⟩] [2, 3])
  .ret)
  .skip))
  (.seq (.region [⟨some 11, none, .p (.fld 0 (.t 1))⟩,
    ⟨some 12, none, .h (.load 1 false (.t 11))⟩,
    ⟨some 13, none, .p (.fld 1 (.t 1))⟩,
    ⟨some 14, none, .h (.load 1 false (.t 13))⟩,
    ⟨some 15, none, .p (.bin .add (.t 12) (.t 14))⟩,
    ⟨some 16, none, .h (.call (.f 44) [.t 15])⟩,
    ⟨some 10, none, .p (.mv (.t 16))⟩,
    ⟨some 17, none, .p (.ext (.t 10) 0)⟩,
    ⟨some 18, none, .p (.ext (.t 10) 1)⟩,
    ⟨some 4, none, .p (.mv (.t 17))⟩,
    ⟨some 5, none, .p (.mv (.t 18))⟩] [4])
  (.seq (.region [⟨some 19, none, .p (.mv (.t 4))⟩,
    ⟨some 2, none, .p (.mv (.t 19))⟩,
    ⟨some 3, none, .p (.mv (.k (.c (C.bool true))))⟩] [2, 3])
  .ret)))) }
theorem a28_ok : okFn Tryd.prog 28 a28 = true := by kernel_rfl
/-- loop.example/g01215/impl.LogRecords -/
def a29 : AFn := { np := 1, nt := 14, res := [.t 2, .t 3], body :=
  (.seq (.region [⟨some 1, none, .p (.box 3 (.t 0))⟩,
    ⟨some 2, none, .p (.nilsl 2)⟩,
    ⟨some 3, none, .p (.mv (.k (.c (C.bool false))))⟩] [1])
  (.seq (.region [⟨some 7, none, .h (.load 3 true (.t 1))⟩,
    ⟨some 8, none, .h (.call (.f 47) [.t 7])⟩,
    ⟨some 6, none, .p (.mv (.t 8))⟩,
    ⟨some 9, none, .p (.ext (.t 6) 0)⟩,
    ⟨some 10, none, .p (.ext (.t 6) 1)⟩,
    ⟨some 4, none, .p (.mv (.t 9))⟩,
    ⟨some 5, none, .p (.mv (.t 10))⟩] [4, 5])
  (.seq (.seq (.region [⟨some 11, none, .p (.mv (.t 5))⟩,
    ⟨some 12, none, .p (.un .not (.t 11))⟩] [4, 12])
  (.cond (.t 12)
  (.seq (.region [⟨some 2, none, .p (.nilsl 2)⟩,
    ⟨some 3, none, .p (.mv (.k (.c (C.bool false))))⟩] [2, 3])
  .ret)
  .skip))
  (.seq (.region [⟨some 13, none, .p (.mv (.t 4))⟩,
    ⟨some 2, none, .p (.mv (.t 13))⟩,
    ⟨some 3, none, .p (.mv (.k (.c (C.bool true))))⟩] [2, 3])
  .ret)))) }
theorem a29_ok : okFn Tryd.prog 29 a29 = true := by kernel_rfl
/-- loop.example/g01215/laws.eqLogRecordS -/
def a30 : AFn := { np := 2, nt := 27, res := [.t 4], body :=
  (.seq (.region [⟨some 4, none, .p (.mv (.k (.c (C.bool false))))⟩] [0, 1])
  (.seq (.seq (.region [⟨some 6, none, .p (.mv (.t 0))⟩,
    ⟨some 7, none, .p (.len (.t 6))⟩,
    ⟨some 8, none, .p (.mv (.t 1))⟩,
    ⟨some 9, none, .p (.len (.t 8))⟩,
    ⟨some 10, none, .p (.bin .neq (.t 7) (.t 9))⟩] [0, 1, 10])
  (.cond (.t 10)
  (.seq (.region [⟨some 4, none, .p (.mv (.k (.c (C.bool false))))⟩] [4])
  .ret)
  .skip))
  (.seq (.seq (.region [⟨some 5, none, .p (.mv (.k (.c (C.int .i64 0))))⟩] [0, 1, 5])
  (.block 0 (.loop (.seq (.seq (.region [⟨some 11, none, .p (.mv (.t 5))⟩,
    ⟨some 12, none, .p (.mv (.t 0))⟩,
    ⟨some 13, none, .p (.len (.t 12))⟩,
    ⟨some 14, none, .p (.bin .lss (.t 11) (.t 13))⟩] [0, 1, 5, 14])
  (.cond (.t 14)
  .skip
  (.exit 0)))
  (.seq (.block 1 (.seq (.regionD [⟨some 17, none, .p (.mv (.t 0))⟩,
    ⟨some 18, none, .p (.mv (.t 5))⟩,
    ⟨some 19, none, .p (.ixS 2 (.t 17) (.t 18))⟩,
    ⟨some 20, none, .h (.load 2 true (.t 19))⟩,
    ⟨some 21, none, .p (.mv (.t 1))⟩,
    ⟨some 22, none, .p (.mv (.t 5))⟩,
    ⟨some 23, none, .p (.ixS 2 (.t 21) (.t 22))⟩,
    ⟨some 24, none, .h (.load 2 true (.t 23))⟩,
    ⟨some 25, none, .h (.call (.f 48) [.t 20, .t 24])⟩,
    ⟨some 26, none, .p (.un .not (.t 25))⟩] [0, 1, 5, 26] [])
  (.cond (.t 26)
  (.seq (.region [⟨some 4, none, .p (.mv (.k (.c (C.bool false))))⟩] [4])
  .ret)
  .skip)))
  (.region [⟨some 15, none, .p (.mv (.t 5))⟩,
    ⟨some 16, none, .p (.bin .add (.t 15) (.k (.c (C.int .i64 1))))⟩,
    ⟨some 5, none, .p (.mv (.t 16))⟩] [0, 1, 5]))) [0, 1, 5])))
  (.seq (.region [⟨some 4, none, .p (.mv (.k (.c (C.bool true))))⟩] [4])
  .ret)))) }
theorem a30_ok : okFn Tryd.prog 30 a30 = true := by kernel_rfl
/-- loop.example/g01215/laws.markLogRecordS -/
def a31 : AFn := { np := 2, nt := 29, res := [.t 4], body :=
  (.seq (.region [⟨some 4, none, .p (.mv (.k (.c (C.int .i64 0))))⟩] [0, 1])
  (.seq (.seq (.region [⟨some 5, none, .p (.mv (.k (.c (C.int .i64 0))))⟩] [0, 1, 5])
  (.block 0 (.loop (.seq (.seq (.region [⟨some 6, none, .p (.mv (.t 5))⟩,
    ⟨some 7, none, .p (.mv (.t 0))⟩,
    ⟨some 8, none, .p (.len (.t 7))⟩,
    ⟨some 9, none, .p (.bin .lss (.t 6) (.t 8))⟩] [0, 1, 5, 9])
  (.cond (.t 9)
  .skip
  (.exit 0)))
  (.seq (.block 1 (.seq (.region [⟨some 12, none, .p (.mv (.t 0))⟩,
    ⟨some 13, none, .p (.mv (.t 5))⟩,
    ⟨some 14, none, .p (.mv (.t 1))⟩,
    ⟨some 15, none, .h (.call (.f 49) [.t 14])⟩,
    ⟨some 16, none, .p (.ixS 2 (.t 12) (.t 13))⟩,
    ⟨some 17, none, .p (.fld 0 (.t 16))⟩,
    ⟨none, none, .h (.store 1 (.t 17) (.t 15))⟩] [0, 1, 5])
  (.seq (.region [⟨some 18, none, .p (.mv (.t 1))⟩,
    ⟨some 19, none, .p (.bin .add (.t 18) (.k (.c (C.int .i64 1))))⟩,
    ⟨some 1, none, .p (.mv (.t 19))⟩] [0, 1, 5])
  (.seq (.region [⟨some 20, none, .p (.mv (.t 0))⟩,
    ⟨some 21, none, .p (.mv (.t 5))⟩,
    ⟨some 22, none, .p (.mv (.t 1))⟩,
    ⟨some 23, none, .h (.call (.f 49) [.t 22])⟩,
    ⟨some 24, none, .p (.ixS 2 (.t 20) (.t 21))⟩,
    ⟨some 25, none, .p (.fld 1 (.t 24))⟩,
    ⟨none, none, .h (.store 1 (.t 25) (.t 23))⟩] [0, 1, 5])
  (.region [⟨some 26, none, .p (.mv (.t 1))⟩,
    ⟨some 27, none, .p (.bin .add (.t 26) (.k (.c (C.int .i64 1))))⟩,
    ⟨some 1, none, .p (.mv (.t 27))⟩] [0, 1, 5])))))
  (.region [⟨some 10, none, .p (.mv (.t 5))⟩,
    ⟨some 11, none, .p (.bin .add (.t 10) (.k (.c (C.int .i64 1))))⟩,
    ⟨some 5, none, .p (.mv (.t 11))⟩] [0, 1, 5]))) [0, 1, 5])))
  (.seq (.region [⟨some 28, none, .p (.mv (.t 1))⟩,
    ⟨some 4, none, .p (.mv (.t 28))⟩] [4])
  .ret))) }
theorem a31_ok : okFn Tryd.prog 31 a31 = true := by kernel_rfl
/-- loop.example/g01215/laws.heldLogRecordS -/
def a32 : AFn := { np := 2, nt := 33, res := [.t 4], body :=
  (.seq (.region [⟨some 4, none, .p (.mv (.k (.c (C.int .i64 0))))⟩] [0, 1])
  (.seq (.seq (.region [⟨some 5, none, .p (.mv (.k (.c (C.int .i64 0))))⟩] [0, 1, 5])
  (.block 0 (.loop (.seq (.seq (.region [⟨some 6, none, .p (.mv (.t 5))⟩,
    ⟨some 7, none, .p (.mv (.t 0))⟩,
    ⟨some 8, none, .p (.len (.t 7))⟩,
    ⟨some 9, none, .p (.bin .lss (.t 6) (.t 8))⟩] [0, 1, 5, 9])
  (.cond (.t 9)
  .skip
  (.exit 0)))
  (.seq (.block 1 (.seq (.seq (.regionD [⟨some 12, none, .p (.mv (.t 0))⟩,
    ⟨some 13, none, .p (.mv (.t 5))⟩,
    ⟨some 14, none, .p (.ixS 2 (.t 12) (.t 13))⟩,
    ⟨some 15, none, .p (.fld 0 (.t 14))⟩,
    ⟨some 16, none, .h (.load 1 false (.t 15))⟩,
    ⟨some 17, none, .p (.mv (.t 1))⟩,
    ⟨some 18, none, .h (.call (.f 49) [.t 17])⟩,
    ⟨some 19, none, .p (.bin .neq (.t 16) (.t 18))⟩] [0, 1, 5, 19] [])
  (.cond (.t 19)
  (.seq (.region [⟨some 4, none, .p (.mv (.k (.c (C.int .i64 (-1)))))⟩] [4])
  .ret)
  .skip))
  (.seq (.region [⟨some 20, none, .p (.mv (.t 1))⟩,
    ⟨some 21, none, .p (.bin .add (.t 20) (.k (.c (C.int .i64 1))))⟩,
    ⟨some 1, none, .p (.mv (.t 21))⟩] [0, 1, 5])
  (.seq (.seq (.regionD [⟨some 22, none, .p (.mv (.t 0))⟩,
    ⟨some 23, none, .p (.mv (.t 5))⟩,
    ⟨some 24, none, .p (.ixS 2 (.t 22) (.t 23))⟩,
    ⟨some 25, none, .p (.fld 1 (.t 24))⟩,
    ⟨some 26, none, .h (.load 1 false (.t 25))⟩,
    ⟨some 27, none, .p (.mv (.t 1))⟩,
    ⟨some 28, none, .h (.call (.f 49) [.t 27])⟩,
    ⟨some 29, none, .p (.bin .neq (.t 26) (.t 28))⟩] [0, 1, 5, 29] [])
  (.cond (.t 29)
  (.seq (.region [⟨some 4, none, .p (.mv (.k (.c (C.int .i64 (-1)))))⟩] [4])
  .ret)
  .skip))
  (.region [⟨some 30, none, .p (.mv (.t 1))⟩,
    ⟨some 31, none, .p (.bin .add (.t 30) (.k (.c (C.int .i64 1))))⟩,
    ⟨some 1, none, .p (.mv (.t 31))⟩] [0, 1, 5])))))
  (.region [⟨some 10, none, .p (.mv (.t 5))⟩,
    ⟨some 11, none, .p (.bin .add (.t 10) (.k (.c (C.int .i64 1))))⟩,
    ⟨some 5, none, .p (.mv (.t 11))⟩] [0, 1, 5]))) [0, 1, 5])))
  (.seq (.region [⟨some 32, none, .p (.mv (.t 1))⟩,
    ⟨some 4, none, .p (.mv (.t 32))⟩] [4])
  .ret))) }
theorem a32_ok : okFn Tryd.prog 32 a32 = true := by kernel_rfl
/-- loop.example/g01215/laws.szConsole -/
def a33 : AFn := { np := 2, nt := 12, res := [.t 4], body :=
  (.seq (.region [⟨some 2, none, .p (.box 29 (.t 0))⟩,
    ⟨some 4, none, .p (.mv (.k (.c (C.int .i64 0))))⟩] [1, 2])
  (.seq (.region [⟨some 5, none, .p (.fld 26 (.t 2))⟩,
    ⟨some 6, none, .h (.load 3 true (.t 5))⟩,
    ⟨some 7, none, .p (.mv (.t 1))⟩,
    ⟨some 8, none, .h (.call (.f 18) [.t 6, .t 7])⟩,
    ⟨some 1, none, .p (.mv (.t 8))⟩] [1])
  (.seq (.seq (.region [⟨some 9, none, .p (.mv (.t 1))⟩,
    ⟨some 10, none, .p (.bin .lss (.t 9) (.k (.c (C.int .i64 0))))⟩] [1, 10])
  (.cond (.t 10)
  (.seq (.region [⟨some 4, none, .p (.mv (.k (.c (C.int .i64 (-1)))))⟩] [4])
  .ret)
  .skip))
  (.seq (.region [⟨some 11, none, .p (.mv (.t 1))⟩,
    ⟨some 4, none, .p (.mv (.t 11))⟩] [4])
  .ret)))) }
theorem a33_ok : okFn Tryd.prog 33 a33 = true := by kernel_rfl
/-- loop.example/g01215/spec.IsValidConsole -/
def a34 : AFn := { np := 1, nt := 11, res := [.t 2], body :=
  (.seq (.region [⟨some 1, none, .p (.box 29 (.t 0))⟩,
    ⟨some 2, none, .p (.mv (.k (.c (C.bool false))))⟩] [1])
  (.seq (.region [⟨some 3, none, .p (.fld 0 (.t 1))⟩,
    ⟨some 4, none, .h (.load 26 true (.t 3))⟩,
    ⟨some 5, none, .h (.call (.f 50) [.t 4])⟩,
    ⟨some 6, none, .p (.mv (.t 5))⟩,
    ⟨some 7, some (6, true), .p (.fld 26 (.t 1))⟩,
    ⟨some 8, some (6, true), .h (.load 3 true (.t 7))⟩,
    ⟨some 9, some (6, true), .h (.call (.f 46) [.t 8])⟩,
    ⟨some 10, none, .p (.pick (.t 6) (.t 9) (.k (.c (C.bool false))))⟩,
    ⟨some 2, none, .p (.mv (.t 10))⟩] [2])
  .ret)) }
theorem a34_ok : okFn Tryd.prog 34 a34 = true := by kernel_rfl
/-- loop.example/g01215/laws.toConsole -/
def a35 : AFn := { np := 1, nt := 13, res := [.cell 2 29 true], body :=
  (.seq (.region [⟨some 1, none, .p (.box 29 (.t 0))⟩,
    ⟨some 2, none, .p (.alloc [.k (C.int .i64 0), .k (C.int .i64 0), .k (C.int .i64 0), .k (C.int .i64 0), .k (C.int .i64 0), .k (C.int .i64 0), .k (C.int .i64 0), .k (C.int .i64 0), .k (C.int .i64 0), .k (C.int .i64 0), .k (C.int .i64 0), .k (C.int .i64 0), .k (C.int .i64 0), .k (C.int .i64 0), .k (C.int .i64 0), .k (C.int .i64 0), .k (C.int .i64 0), .k (C.int .i64 0), .k (C.int .i64 0), .k (C.int .i64 0), .k (C.int .i64 0), .k (C.int .i64 0), .k (C.int .i64 0), .k (C.int .i64 0), .k (C.int .i64 0), .k (C.int .i64 0), .k (C.str []), .k (C.str []), .k (C.int .i64 0)])⟩] [1, 2])
  (.seq (.region [⟨some 3, none, .p (.alloc [.k (C.int .i64 0), .k (C.int .i64 0), .k (C.int .i64 0), .k (C.int .i64 0), .k (C.int .i64 0), .k (C.int .i64 0), .k (C.int .i64 0), .k (C.int .i64 0), .k (C.int .i64 0), .k (C.int .i64 0), .k (C.int .i64 0), .k (C.int .i64 0), .k (C.int .i64 0), .k (C.int .i64 0), .k (C.int .i64 0), .k (C.int .i64 0), .k (C.int .i64 0), .k (C.int .i64 0), .k (C.int .i64 0), .k (C.int .i64 0), .k (C.int .i64 0), .k (C.int .i64 0), .k (C.int .i64 0), .k (C.int .i64 0), .k (C.int .i64 0), .k (C.int .i64 0), .k (C.str []), .k (C.str []), .k (C.int .i64 0)])⟩] [1, 2, 3])
  (.seq (.region [⟨some 4, none, .p (.fld 0 (.t 1))⟩,
    ⟨some 5, none, .h (.load 26 true (.t 4))⟩,
    ⟨some 6, none, .h (.call (.f 51) [.t 5])⟩,
    ⟨some 7, none, .p (.fld 0 (.t 3))⟩,
    ⟨none, none, .h (.store 26 (.t 7) (.t 6))⟩] [1, 2, 3])
  (.seq (.region [⟨some 8, none, .p (.fld 26 (.t 1))⟩,
    ⟨some 9, none, .h (.load 3 true (.t 8))⟩,
    ⟨some 10, none, .h (.call (.f 20) [.t 9])⟩,
    ⟨some 11, none, .p (.fld 26 (.t 3))⟩,
    ⟨none, none, .h (.store 3 (.t 11) (.t 10))⟩] [2, 3])
  (.seq (.region [⟨some 12, none, .h (.load 29 true (.t 3))⟩,
    ⟨none, none, .h (.store 29 (.t 2) (.t 12))⟩] [2])
  .ret))))) }
theorem a35_ok : okFn Tryd.prog 35 a35 = true := by kernel_rfl
/-- loop.example/g01215/impl.IsValidConsole -/
def a36 : AFn := { np := 1, nt := 11, res := [.t 2], body :=
  (.seq (.region [⟨some 1, none, .p (.box 29 (.t 0))⟩,
    ⟨some 2, none, .p (.mv (.k (.c (C.bool false))))⟩] [1])
  (.seq (.region [⟨some 3, none, .p (.fld 0 (.t 1))⟩,
    ⟨some 4, none, .h (.load 26 true (.t 3))⟩,
    ⟨some 5, none, .h (.call (.f 52) [.t 4])⟩,
    ⟨some 6, none, .p (.mv (.t 5))⟩,
    ⟨some 7, some (6, true), .p (.fld 26 (.t 1))⟩,
    ⟨some 8, some (6, true), .h (.load 3 true (.t 7))⟩,
    ⟨some 9, some (6, true), .h (.call (.f 21) [.t 8])⟩,
    ⟨some 10, none, .p (.pick (.t 6) (.t 9) (.k (.c (C.bool false))))⟩,
    ⟨some 2, none, .p (.mv (.t 10))⟩] [2])
  .ret)) }
theorem a36_ok : okFn Tryd.prog 36 a36 = true := by kernel_rfl
/-- loop.example/g01215/spec.l1In -/
def a37 : AFn := { np := 3, nt := 15, res := [.t 6], body :=
  (.seq (.region [⟨some 6, none, .p (.mv (.k (.c (C.bool false))))⟩] [0, 1, 2])
  (.seq (.region [⟨some 7, none, .p (.mv (.t 0))⟩,
    ⟨some 8, none, .p (.mv (.t 1))⟩,
    ⟨some 9, none, .p (.bin .geq (.t 7) (.t 8))⟩,
    ⟨some 10, none, .p (.mv (.t 9))⟩,
    ⟨some 11, some (10, true), .p (.mv (.t 0))⟩,
    ⟨some 12, some (10, true), .p (.mv (.t 2))⟩,
    ⟨some 13, some (10, true), .p (.bin .leq (.t 11) (.t 12))⟩,
    ⟨some 14, none, .p (.pick (.t 10) (.t 13) (.k (.c (C.bool false))))⟩,
    ⟨some 6, none, .p (.mv (.t 14))⟩] [6])
  .ret)) }
theorem a37_ok : okFn Tryd.prog 37 a37 = true := by kernel_rfl
/-- loop.example/g01215/spec.l12Record -/
def a38 : AFn := { np := 1, nt := 22, res := [.t 2], body :=
  (.seq (.region [⟨some 1, none, .p (.box 2 (.t 0))⟩,
    ⟨some 2, none, .p (.mv (.k (.c (C.bool false))))⟩] [1])
  (.seq (.region [⟨some 3, none, .p (.fld 0 (.t 1))⟩,
    ⟨some 4, none, .h (.load 1 false (.t 3))⟩,
    ⟨some 5, none, .p (.bin .neq (.t 4) (.k (.c (C.str []))))⟩,
    ⟨some 6, none, .p (.mv (.t 5))⟩,
    ⟨some 7, some (6, true), .p (.fld 0 (.t 1))⟩,
    ⟨some 8, some (6, true), .h (.load 1 false (.t 7))⟩,
    ⟨some 9, some (6, true), .h (.call (.f 53) [.t 8, .k (.c (C.int .i64 160))])⟩,
    ⟨some 10, none, .p (.pick (.t 6) (.t 9) (.k (.c (C.bool false))))⟩,
    ⟨some 11, none, .p (.mv (.t 10))⟩,
    ⟨some 12, some (11, true), .p (.fld 0 (.t 1))⟩,
    ⟨some 13, some (11, true), .h (.load 1 false (.t 12))⟩,
    ⟨some 14, some (11, true), .h (.call (.f 54) [.t 13, .k (.c (C.int .u8 64))])⟩,
    ⟨some 15, some (11, true), .p (.un .not (.t 14))⟩,
    ⟨some 16, none, .p (.pick (.t 11) (.t 15) (.k (.c (C.bool false))))⟩,
    ⟨some 17, none, .p (.mv (.t 16))⟩,
    ⟨some 18, some (17, true), .p (.fld 1 (.t 1))⟩,
    ⟨some 19, some (17, true), .h (.load 1 false (.t 18))⟩,
    ⟨some 20, some (17, true), .h (.call (.f 53) [.t 19, .k (.c (C.int .i64 250))])⟩,
    ⟨some 21, none, .p (.pick (.t 17) (.t 20) (.k (.c (C.bool false))))⟩,
    ⟨some 2, none, .p (.mv (.t 21))⟩] [2])
  .ret)) }
theorem a38_ok : okFn Tryd.prog 38 a38 = true := by kernel_rfl
/-- loop.example/g01215/spec.l12Line -/
def a39 : AFn := { np := 2, nt := 17, res := [.t 4], body :=
  (.seq (.region [⟨some 3, none, .p (.box 2 (.t 1))⟩,
    ⟨some 4, none, .p (.mv (.k (.c (C.str []))))⟩] [0, 3])
  (.seq (.regionD [⟨some 5, none, .p (.mv (.t 0))⟩,
    ⟨some 6, none, .h (.call (.f 56) [.t 5])⟩,
    ⟨some 7, none, .p (.bin .add (.t 6) (.k (.c (C.str [32]))))⟩,
    ⟨some 8, none, .p (.fld 0 (.t 3))⟩,
    ⟨some 9, none, .h (.load 1 false (.t 8))⟩,
    ⟨some 10, none, .p (.bin .add (.t 7) (.t 9))⟩,
    ⟨some 11, none, .p (.bin .add (.t 10) (.k (.c (C.str [64]))))⟩,
    ⟨some 12, none, .p (.fld 1 (.t 3))⟩,
    ⟨some 13, none, .h (.load 1 false (.t 12))⟩,
    ⟨some 14, none, .p (.bin .add (.t 11) (.t 13))⟩,
    ⟨some 15, none, .h (.call (.f 55) [.t 14])⟩,
    ⟨some 16, none, .p (.bin .add (.t 15) (.k (.c (C.str [10]))))⟩,
    ⟨some 4, none, .p (.mv (.t 16))⟩] [4] [])
  .ret)) }
theorem a39_ok : okFn Tryd.prog 39 a39 = true := by kernel_rfl
/-- loop.example/g01215/impl.within -/
def a40 : AFn := { np := 3, nt := 15, res := [.t 6], body :=
  (.seq (.region [⟨some 6, none, .p (.mv (.k (.c (C.bool false))))⟩] [0, 1, 2])
  (.seq (.region [⟨some 7, none, .p (.mv (.t 1))⟩,
    ⟨some 8, none, .p (.mv (.t 0))⟩,
    ⟨some 9, none, .p (.bin .leq (.t 7) (.t 8))⟩,
    ⟨some 10, none, .p (.mv (.t 9))⟩,
    ⟨some 11, some (10, true), .p (.mv (.t 0))⟩,
    ⟨some 12, some (10, true), .p (.mv (.t 2))⟩,
    ⟨some 13, some (10, true), .p (.bin .leq (.t 11) (.t 12))⟩,
    ⟨some 14, none, .p (.pick (.t 10) (.t 13) (.k (.c (C.bool false))))⟩,
    ⟨some 6, none, .p (.mv (.t 14))⟩] [6])
  .ret)) }
theorem a40_ok : okFn Tryd.prog 40 a40 = true := by kernel_rfl
/-- loop.example/g01215/impl.IsValidRecord -/
def a41 : AFn := { np := 1, nt := 17, res := [.t 2], body :=
  (.seq (.region [⟨some 1, none, .p (.box 2 (.t 0))⟩,
    ⟨some 2, none, .p (.mv (.k (.c (C.bool false))))⟩] [1])
  (.seq (.region [⟨some 3, none, .p (.fld 0 (.t 1))⟩,
    ⟨some 4, none, .h (.load 1 false (.t 3))⟩,
    ⟨some 5, none, .h (.call (.f 57) [.t 4])⟩,
    ⟨some 6, none, .p (.mv (.t 5))⟩,
    ⟨some 7, some (6, true), .p (.fld 1 (.t 1))⟩,
    ⟨some 8, some (6, true), .h (.load 1 false (.t 7))⟩,
    ⟨some 9, some (6, true), .p (.lenStr (.t 8))⟩,
    ⟨some 10, some (6, true), .p (.bin .leq (.t 9) (.k (.c (C.int .i64 250))))⟩,
    ⟨some 11, none, .p (.pick (.t 6) (.t 10) (.k (.c (C.bool false))))⟩,
    ⟨some 12, none, .p (.mv (.t 11))⟩,
    ⟨some 13, some (12, true), .p (.fld 1 (.t 1))⟩,
    ⟨some 14, some (12, true), .h (.load 1 false (.t 13))⟩,
    ⟨some 15, some (12, true), .h (.call (.f 58) [.t 14])⟩,
    ⟨some 16, none, .p (.pick (.t 12) (.t 15) (.k (.c (C.bool false))))⟩,
    ⟨some 2, none, .p (.mv (.t 16))⟩] [2])
  .ret)) }
theorem a41_ok : okFn Tryd.prog 41 a41 = true := by kernel_rfl
/-- loop.example/g01215/impl.AppendChecksum -/
def a42 : AFn := { np := 1, nt := 22, res := [.t 2, .t 3], body :=
  (.seq (.region [⟨some 2, none, .p (.mv (.k (.c (C.str []))))⟩,
    ⟨some 3, none, .p (.mv (.k (.c (C.bool false))))⟩] [0])
  (.seq (.seq (.region [⟨some 5, none, .p (.mv (.t 0))⟩,
    ⟨some 6, none, .p (.lenStr (.t 5))⟩,
    ⟨some 7, none, .p (.bin .gtr (.t 6) (.k (.c (C.int .i64 4000))))⟩,
    ⟨some 8, none, .p (.mv (.t 7))⟩,
    ⟨some 9, some (8, false), .p (.mv (.t 0))⟩,
    ⟨some 10, some (8, false), .h (.call (.f 59) [.t 9, .k (.c (C.str [35]))])⟩,
    ⟨some 11, none, .p (.pick (.t 8) (.k (.c (C.bool true))) (.t 10))⟩] [0, 11])
  (.cond (.t 11)
  (.seq (.region [⟨some 2, none, .p (.mv (.k (.c (C.str []))))⟩,
    ⟨some 3, none, .p (.mv (.k (.c (C.bool false))))⟩] [2, 3])
  .ret)
  .skip))
  (.seq (.region [⟨some 12, none, .p (.mv (.t 0))⟩,
    ⟨some 13, none, .p (.bin .add (.t 12) (.k (.c (C.str [35]))))⟩,
    ⟨some 14, none, .p (.mv (.t 0))⟩,
    ⟨some 15, none, .h (.call (.f 60) [.t 14])⟩,
    ⟨some 16, none, .h (.call (.f 43) [.t 15])⟩,
    ⟨some 17, none, .p (.bin .add (.t 13) (.t 16))⟩,
    ⟨some 4, none, .p (.mv (.t 17))⟩] [4])
  (.seq (.seq (.region [⟨some 18, none, .p (.mv (.t 4))⟩,
    ⟨some 19, none, .p (.lenStr (.t 18))⟩,
    ⟨some 20, none, .p (.bin .gtr (.t 19) (.k (.c (C.int .i64 4000))))⟩] [4, 20])
  (.cond (.t 20)
  (.seq (.region [⟨some 2, none, .p (.mv (.k (.c (C.str []))))⟩,
    ⟨some 3, none, .p (.mv (.k (.c (C.bool false))))⟩] [2, 3])
  .ret)
  .skip))
  (.seq (.region [⟨some 21, none, .p (.mv (.t 4))⟩,
    ⟨some 2, none, .p (.mv (.t 21))⟩,
    ⟨some 3, none, .p (.mv (.k (.c (C.bool true))))⟩] [2, 3])
  .ret))))) }
theorem a42_ok : okFn Tryd.prog 42 a42 = true := by kernel_rfl
/-- loop.example/g01215/spec.l12Open -/
def a44 : AFn := { np := 1, nt := 52, res := [.t 2, .t 3], body :=
  (.seq (.region [⟨some 2, none, .p (.nilsl 2)⟩,
    ⟨some 3, none, .p (.mv (.k (.c (C.int .i64 0))))⟩] [0])
  (.seq (.region [⟨some 9, none, .p (.mksl 2 0 [.k (C.str []), .k (C.str [])] [])⟩,
    ⟨some 4, none, .p (.mv (.t 9))⟩] [0, 4])
  (.seq (.region [⟨some 5, none, .p (.mv (.k (.c (C.int .i64 0))))⟩] [0, 4, 5])
  (.seq (.block 0 (.loop (.seq (.seq (.region [⟨some 10, none, .p (.mv (.t 5))⟩,
    ⟨some 11, none, .p (.mv (.t 0))⟩,
    ⟨some 12, none, .p (.lenStr (.t 11))⟩,
    ⟨some 13, none, .p (.bin .lss (.t 10) (.t 12))⟩,
    ⟨some 14, none, .p (.mv (.t 13))⟩,
    ⟨some 15, some (14, true), .p (.mv (.t 4))⟩,
    ⟨some 16, some (14, true), .p (.len (.t 15))⟩,
    ⟨some 17, some (14, true), .p (.bin .lss (.t 16) (.k (.c (C.int .i64 60))))⟩,
    ⟨some 18, none, .p (.pick (.t 14) (.t 17) (.k (.c (C.bool false))))⟩] [0, 4, 5, 18])
  (.cond (.t 18)
  .skip
  (.exit 0)))
  (.block 1 (.seq (.region [⟨some 19, none, .p (.mv (.t 0))⟩,
    ⟨some 20, none, .p (.mv (.t 5))⟩,
    ⟨some 21, none, .p (.slStr (.t 19) (some (.t 20)) none)⟩,
    ⟨some 22, none, .h (.call (.f 62) [.t 21, .k (.c (C.int .u8 10))])⟩,
    ⟨some 6, none, .p (.mv (.t 22))⟩] [0, 4, 5, 6])
  (.seq (.region [⟨some 24, none, .p (.mv (.t 6))⟩,
    ⟨some 25, none, .p (.ixS 1 (.t 24) (.k (.c (C.int .i64 0))))⟩,
    ⟨some 26, none, .h (.load 1 false (.t 25))⟩,
    ⟨some 27, none, .p (.mv (.t 4))⟩,
    ⟨some 28, none, .p (.len (.t 27))⟩,
    ⟨some 29, none, .h (.call (.f 63) [.t 26, .t 28])⟩,
    ⟨some 23, none, .p (.mv (.t 29))⟩,
    ⟨some 30, none, .p (.ext (.t 23) 0)⟩,
    ⟨some 31, none, .p (.ext (.t 23) 1)⟩,
    ⟨some 7, none, .p (.alloc [.k (C.str []), .k (C.str [])])⟩,
    ⟨none, none, .h (.store 2 (.t 7) (.t 30))⟩,
    ⟨some 8, none, .p (.mv (.t 31))⟩] [0, 4, 5, 6, 7, 8])
  (.seq (.seq (.region [⟨some 32, none, .p (.mv (.t 6))⟩,
    ⟨some 33, none, .p (.len (.t 32))⟩,
    ⟨some 34, none, .p (.bin .lss (.t 33) (.k (.c (C.int .i64 2))))⟩,
    ⟨some 35, none, .p (.mv (.t 34))⟩,
    ⟨some 36, some (35, false), .p (.mv (.t 8))⟩,
    ⟨some 37, some (35, false), .p (.un .not (.t 36))⟩,
    ⟨some 38, none, .p (.pick (.t 35) (.k (.c (C.bool true))) (.t 37))⟩] [0, 4, 5, 6, 7, 38])
  (.cond (.t 38)
  (.exit 0)
  .skip))
  (.seq (.region [⟨some 39, none, .p (.mv (.t 4))⟩,
    ⟨some 40, none, .h (.load 2 true (.t 7))⟩,
    ⟨some 41, none, .p (.mksl 2 1 [.k (C.str []), .k (C.str [])] [(0, 2, .t 40)])⟩,
    ⟨some 42, none, .h (.app 2 (.t 39) (.t 41))⟩,
    ⟨some 4, none, .p (.mv (.t 42))⟩] [0, 4, 5, 6])
  (.region [⟨some 43, none, .p (.mv (.t 5))⟩,
    ⟨some 44, none, .p (.mv (.t 6))⟩,
    ⟨some 45, none, .p (.ixS 1 (.t 44) (.k (.c (C.int .i64 0))))⟩,
    ⟨some 46, none, .h (.load 1 false (.t 45))⟩,
    ⟨some 47, none, .p (.lenStr (.t 46))⟩,
    ⟨some 48, none, .p (.bin .add (.t 43) (.t 47))⟩,
    ⟨some 49, none, .p (.bin .add (.t 48) (.k (.c (C.int .i64 1))))⟩,
    ⟨some 5, none, .p (.mv (.t 49))⟩] [0, 4, 5]))))))) [0, 4, 5]))
  (.seq (.region [⟨some 50, none, .p (.mv (.t 4))⟩,
    ⟨some 51, none, .p (.mv (.t 5))⟩,
    ⟨some 2, none, .p (.mv (.t 50))⟩,
    ⟨some 3, none, .p (.mv (.t 51))⟩] [2, 3])
  .ret))))) }
theorem a44_ok : okFn Tryd.prog 44 a44 = true := by kernel_rfl
/-- loop.example/g01215/impl.readRecords -/
def a45 : AFn := { np := 1, nt := 30, res := [.t 2, .t 3], body :=
  (.seq (.region [⟨some 2, none, .p (.nilsl 2)⟩,
    ⟨some 3, none, .p (.mv (.k (.c (C.int .i64 0))))⟩] [0])
  (.seq (.region [⟨some 4, none, .p (.nilsl 2)⟩] [0, 4])
  (.seq (.region [⟨some 5, none, .p (.mv (.k (.c (C.int .i64 0))))⟩] [0, 4, 5])
  (.block 0 (.loop (.block 1 (.seq (.region [⟨some 10, none, .p (.mv (.t 4))⟩,
    ⟨some 11, none, .p (.len (.t 10))⟩,
    ⟨some 12, none, .p (.mv (.t 0))⟩,
    ⟨some 13, none, .p (.mv (.t 5))⟩,
    ⟨some 14, none, .p (.slStr (.t 12) (some (.t 13)) none)⟩,
    ⟨some 15, none, .h (.call (.f 64) [.t 11, .t 14])⟩,
    ⟨some 9, none, .p (.mv (.t 15))⟩,
    ⟨some 16, none, .p (.ext (.t 9) 0)⟩,
    ⟨some 17, none, .p (.ext (.t 9) 1)⟩,
    ⟨some 18, none, .p (.ext (.t 9) 2)⟩,
    ⟨some 6, none, .p (.alloc [.k (C.str []), .k (C.str [])])⟩,
    ⟨none, none, .h (.store 2 (.t 6) (.t 16))⟩,
    ⟨some 7, none, .p (.mv (.t 17))⟩,
    ⟨some 8, none, .p (.mv (.t 18))⟩] [0, 4, 5, 6, 7, 8])
  (.seq (.seq (.region [⟨some 19, none, .p (.mv (.t 8))⟩,
    ⟨some 20, none, .p (.un .not (.t 19))⟩] [0, 4, 5, 6, 7, 20])
  (.cond (.t 20)
  (.seq (.region [⟨some 21, none, .p (.mv (.t 4))⟩,
    ⟨some 22, none, .p (.mv (.t 5))⟩,
    ⟨some 2, none, .p (.mv (.t 21))⟩,
    ⟨some 3, none, .p (.mv (.t 22))⟩] [2, 3])
  .ret)
  .skip))
  (.seq (.region [⟨some 23, none, .p (.mv (.t 4))⟩,
    ⟨some 24, none, .h (.load 2 true (.t 6))⟩,
    ⟨some 25, none, .p (.mksl 2 1 [.k (C.str []), .k (C.str [])] [(0, 2, .t 24)])⟩,
    ⟨some 26, none, .h (.app 2 (.t 23) (.t 25))⟩,
    ⟨some 4, none, .p (.mv (.t 26))⟩] [0, 4, 5, 7])
  (.region [⟨some 27, none, .p (.mv (.t 5))⟩,
    ⟨some 28, none, .p (.mv (.t 7))⟩,
    ⟨some 29, none, .p (.bin .add (.t 27) (.t 28))⟩,
    ⟨some 5, none, .p (.mv (.t 29))⟩] [0, 4, 5]))))) [0, 4, 5]))))) }
theorem a45_ok : okFn Tryd.prog 45 a45 = true := by kernel_rfl
/-- loop.example/g01215/spec.l12Valid -/
def a46 : AFn := { np := 1, nt := 53, res := [.t 2], body :=
  (.seq (.region [⟨some 1, none, .p (.box 3 (.t 0))⟩,
    ⟨some 2, none, .p (.mv (.k (.c (C.bool false))))⟩] [1])
  (.seq (.seq (.region [⟨some 7, none, .p (.fld 0 (.t 1))⟩,
    ⟨some 8, none, .h (.load 1 false (.t 7))⟩,
    ⟨some 9, none, .p (.lenStr (.t 8))⟩,
    ⟨some 10, none, .p (.fld 1 (.t 1))⟩,
    ⟨some 11, none, .h (.load 1 false (.t 10))⟩,
    ⟨some 12, none, .p (.lenStr (.t 11))⟩,
    ⟨some 13, none, .p (.bin .add (.t 9) (.t 12))⟩,
    ⟨some 14, none, .p (.bin .gtr (.t 13) (.k (.c (C.int .i64 30000))))⟩] [1, 14])
  (.cond (.t 14)
  (.seq (.region [⟨some 2, none, .p (.mv (.k (.c (C.bool false))))⟩] [2])
  .ret)
  .skip))
  (.seq (.region [⟨some 16, none, .p (.fld 0 (.t 1))⟩,
    ⟨some 17, none, .h (.load 1 false (.t 16))⟩,
    ⟨some 18, none, .p (.fld 1 (.t 1))⟩,
    ⟨some 19, none, .h (.load 1 false (.t 18))⟩,
    ⟨some 20, none, .p (.bin .add (.t 17) (.t 19))⟩,
    ⟨some 21, none, .h (.call (.f 44) [.t 20])⟩,
    ⟨some 15, none, .p (.mv (.t 21))⟩,
    ⟨some 22, none, .p (.ext (.t 15) 0)⟩,
    ⟨some 23, none, .p (.ext (.t 15) 1)⟩,
    ⟨some 3, none, .p (.mv (.t 22))⟩,
    ⟨some 4, none, .p (.mv (.t 23))⟩] [1, 3, 4])
  (.seq (.region [⟨some 25, none, .p (.fld 0 (.t 1))⟩,
    ⟨some 26, none, .h (.load 1 false (.t 25))⟩,
    ⟨some 27, none, .h (.call (.f 44) [.t 26])⟩,
    ⟨some 24, none, .p (.mv (.t 27))⟩,
    ⟨some 28, none, .p (.ext (.t 24) 0)⟩,
    ⟨some 29, none, .p (.ext (.t 24) 1)⟩,
    ⟨some 5, none, .p (.mv (.t 28))⟩,
    ⟨some 6, none, .p (.mv (.t 29))⟩] [1, 3, 4, 6])
  (.seq (.region [⟨some 30, none, .p (.mv (.t 4))⟩,
    ⟨some 31, none, .p (.fld 0 (.t 1))⟩,
    ⟨some 32, none, .h (.load 1 false (.t 31))⟩,
    ⟨some 33, none, .p (.lenStr (.t 32))⟩,
    ⟨some 34, none, .p (.fld 1 (.t 1))⟩,
    ⟨some 35, none, .h (.load 1 false (.t 34))⟩,
    ⟨some 36, none, .p (.lenStr (.t 35))⟩,
    ⟨some 37, none, .p (.bin .add (.t 33) (.t 36))⟩,
    ⟨some 38, none, .p (.bin .eql (.t 30) (.t 37))⟩,
    ⟨some 39, none, .p (.mv (.t 38))⟩,
    ⟨some 40, some (39, true), .p (.mv (.t 6))⟩,
    ⟨some 41, some (39, true), .p (.fld 0 (.t 1))⟩,
    ⟨some 42, some (39, true), .h (.load 1 false (.t 41))⟩,
    ⟨some 43, some (39, true), .p (.lenStr (.t 42))⟩,
    ⟨some 44, some (39, true), .p (.bin .eql (.t 40) (.t 43))⟩,
    ⟨some 45, none, .p (.pick (.t 39) (.t 44) (.k (.c (C.bool false))))⟩,
    ⟨some 46, none, .p (.mv (.t 45))⟩,
    ⟨some 47, some (46, true), .p (.mv (.t 3))⟩,
    ⟨some 48, some (46, true), .p (.len (.t 47))⟩,
    ⟨some 49, some (46, true), .p (.fld 2 (.t 1))⟩,
    ⟨some 50, some (46, true), .h (.load 1 false (.t 49))⟩,
    ⟨some 51, some (46, true), .p (.bin .eql (.t 48) (.t 50))⟩,
    ⟨some 52, none, .p (.pick (.t 46) (.t 51) (.k (.c (C.bool false))))⟩,
    ⟨some 2, none, .p (.mv (.t 52))⟩] [2])
  .ret))))) }
theorem a46_ok : okFn Tryd.prog 46 a46 = true := by kernel_rfl
/-- (loop.example/g01215/impl.Log).records -/
def a47 : AFn := { np := 1, nt := 43, res := [.t 2, .t 3], body :=
  (.seq (.region [⟨some 1, none, .p (.box 3 (.t 0))⟩,
    ⟨some 2, none, .p (.nilsl 2)⟩,
    ⟨some 3, none, .p (.mv (.k (.c (C.bool false))))⟩] [1])
  (.seq (.region [⟨some 7, none, .p (.fld 0 (.t 1))⟩,
    ⟨some 8, none, .h (.load 1 false (.t 7))⟩,
    ⟨some 9, none, .p (.fld 1 (.t 1))⟩,
    ⟨some 10, none, .h (.load 1 false (.t 9))⟩,
    ⟨some 11, none, .p (.bin .add (.t 8) (.t 10))⟩,
    ⟨some 4, none, .p (.mv (.t 11))⟩] [1, 4])
  (.seq (.seq (.region [⟨some 12, none, .p (.mv (.t 4))⟩,
    ⟨some 13, none, .p (.lenStr (.t 12))⟩,
    ⟨some 14, none, .p (.bin .gtr (.t 13) (.k (.c (C.int .i64 30000))))⟩,
    ⟨some 15, none, .p (.mv (.t 14))⟩,
    ⟨some 16, some (15, false), .p (.fld 0 (.t 1))⟩,
    ⟨some 17, some (15, false), .h (.load 1 false (.t 16))⟩,
    ⟨some 18, some (15, false), .p (.bin .neq (.t 17) (.k (.c (C.str []))))⟩,
    ⟨some 19, some (15, false), .p (.mv (.t 18))⟩,
    ⟨some 20, some (19, true), .p (.fld 0 (.t 1))⟩,
    ⟨some 21, some (19, true), .h (.load 1 false (.t 20))⟩,
    ⟨some 22, some (19, true), .h (.call (.f 65) [.t 21, .k (.c (C.str [10]))])⟩,
    ⟨some 23, some (19, true), .p (.un .not (.t 22))⟩,
    ⟨some 24, some (15, false), .p (.pick (.t 19) (.t 23) (.k (.c (C.bool false))))⟩,
    ⟨some 25, none, .p (.pick (.t 15) (.k (.c (C.bool true))) (.t 24))⟩] [1, 4, 25])
  (.cond (.t 25)
  (.seq (.region [⟨some 2, none, .p (.nilsl 2)⟩,
    ⟨some 3, none, .p (.mv (.k (.c (C.bool false))))⟩] [2, 3])
  .ret)
  .skip))
  (.seq (.region [⟨some 27, none, .p (.mv (.t 4))⟩,
    ⟨some 28, none, .h (.call (.f 45) [.t 27])⟩,
    ⟨some 26, none, .p (.mv (.t 28))⟩,
    ⟨some 29, none, .p (.ext (.t 26) 0)⟩,
    ⟨some 30, none, .p (.ext (.t 26) 1)⟩,
    ⟨some 5, none, .p (.mv (.t 29))⟩,
    ⟨some 6, none, .p (.mv (.t 30))⟩] [1, 4, 5, 6])
  (.seq (.regionD [⟨some 31, none, .p (.mv (.t 5))⟩,
    ⟨some 32, none, .p (.mv (.t 6))⟩,
    ⟨some 33, none, .p (.mv (.t 4))⟩,
    ⟨some 34, none, .p (.lenStr (.t 33))⟩,
    ⟨some 35, none, .p (.bin .eql (.t 32) (.t 34))⟩,
    ⟨some 36, none, .p (.mv (.t 35))⟩,
    ⟨some 37, some (36, true), .p (.fld 2 (.t 1))⟩,
    ⟨some 38, some (36, true), .h (.load 1 false (.t 37))⟩,
    ⟨some 39, some (36, true), .p (.mv (.t 5))⟩,
    ⟨some 40, some (36, true), .p (.len (.t 39))⟩,
    ⟨some 41, some (36, true), .p (.bin .eql (.t 38) (.t 40))⟩,
    ⟨some 42, none, .p (.pick (.t 36) (.t 41) (.k (.c (C.bool false))))⟩,
    ⟨some 2, none, .p (.mv (.t 31))⟩,
    ⟨some 3, none, .p (.mv (.t 42))⟩] [2, 3] [])
  .ret))))) }
theorem a47_ok : okFn Tryd.prog 47 a47 = true := by kernel_rfl
/-- loop.example/g01215/laws.eqLogRecord -/
def a48 : AFn := { np := 2, nt := 15, res := [.t 4], body :=
  (.seq (.region [⟨some 2, none, .p (.box 2 (.t 0))⟩,
    ⟨some 3, none, .p (.box 2 (.t 1))⟩,
    ⟨some 4, none, .p (.mv (.k (.c (C.bool false))))⟩] [2, 3])
  (.seq (.seq (.region [⟨some 5, none, .p (.fld 0 (.t 2))⟩,
    ⟨some 6, none, .h (.load 1 false (.t 5))⟩,
    ⟨some 7, none, .p (.fld 0 (.t 3))⟩,
    ⟨some 8, none, .h (.load 1 false (.t 7))⟩,
    ⟨some 9, none, .p (.bin .neq (.t 6) (.t 8))⟩] [2, 3, 9])
  (.cond (.t 9)
  (.seq (.region [⟨some 4, none, .p (.mv (.k (.c (C.bool false))))⟩] [4])
  .ret)
  .skip))
  (.seq (.seq (.region [⟨some 10, none, .p (.fld 1 (.t 2))⟩,
    ⟨some 11, none, .h (.load 1 false (.t 10))⟩,
    ⟨some 12, none, .p (.fld 1 (.t 3))⟩,
    ⟨some 13, none, .h (.load 1 false (.t 12))⟩,
    ⟨some 14, none, .p (.bin .neq (.t 11) (.t 13))⟩] [14])
  (.cond (.t 14)
  (.seq (.region [⟨some 4, none, .p (.mv (.k (.c (C.bool false))))⟩] [4])
  .ret)
  .skip))
  (.seq (.region [⟨some 4, none, .p (.mv (.k (.c (C.bool true))))⟩] [4])
  .ret)))) }
theorem a48_ok : okFn Tryd.prog 48 a48 = true := by kernel_rfl
/-- loop.example/g01215/laws.markText -/
def a49 : AFn := { np := 1, nt := 20, res := [.t 2], body :=
  (.seq (.region [⟨some 2, none, .p (.mv (.k (.c (C.str []))))⟩] [0])
  (.seq (.seq (.region [⟨some 4, none, .p (.mv (.t 0))⟩,
    ⟨some 5, none, .p (.bin .leq (.t 4) (.k (.c (C.int .i64 0))))⟩] [0, 5])
  (.cond (.t 5)
  (.seq (.region [⟨some 2, none, .p (.mv (.k (.c (C.str [109, 48]))))⟩] [2])
  .ret)
  .skip))
  (.seq (.region [⟨some 3, none, .p (.mv (.k (.c (C.str []))))⟩] [0, 3])
  (.seq (.block 0 (.loop (.seq (.seq (.region [⟨some 6, none, .p (.mv (.t 0))⟩,
    ⟨some 7, none, .p (.bin .gtr (.t 6) (.k (.c (C.int .i64 0))))⟩] [0, 3, 7])
  (.cond (.t 7)
  .skip
  (.exit 0)))
  (.block 1 (.seq (.region [⟨some 8, none, .p (.mv (.t 0))⟩,
    ⟨some 9, none, .p (.bin .rem (.t 8) (.k (.c (C.int .i64 10))))⟩,
    ⟨some 10, none, .p (.bin .add (.k (.c (C.int .i64 48))) (.t 9))⟩,
    ⟨some 11, none, .p (.conv .u8 (.t 10))⟩,
    ⟨some 12, none, .p (.mksl 1 1 [.k (C.int .u8 0)] [(0, 1, .t 11)])⟩,
    ⟨some 13, none, .h (.b2s (.t 12))⟩,
    ⟨some 14, none, .p (.mv (.t 3))⟩,
    ⟨some 15, none, .p (.bin .add (.t 13) (.t 14))⟩,
    ⟨some 3, none, .p (.mv (.t 15))⟩] [0, 3])
  (.region [⟨some 16, none, .p (.mv (.t 0))⟩,
    ⟨some 17, none, .p (.bin .quo (.t 16) (.k (.c (C.int .i64 10))))⟩,
    ⟨some 0, none, .p (.mv (.t 17))⟩] [0, 3])))) [0, 3]))
  (.seq (.region [⟨some 18, none, .p (.mv (.t 3))⟩,
    ⟨some 19, none, .p (.bin .add (.k (.c (C.str [109]))) (.t 18))⟩,
    ⟨some 2, none, .p (.mv (.t 19))⟩] [2])
  .ret))))) }
theorem a49_ok : okFn Tryd.prog 49 a49 = true := by kernel_rfl
/-- loop.example/g01215/spec.l12Good -/
def a50 : AFn := { np := 1, nt := 16, res := [.t 2], body :=
  (.seq (.region [⟨some 1, none, .p (.box 26 (.t 0))⟩,
    ⟨some 2, none, .p (.mv (.k (.c (C.bool false))))⟩] [1])
  (.seq (.region [⟨some 3, none, .p (.fld 0 (.t 1))⟩,
    ⟨some 4, none, .h (.load 24 true (.t 3))⟩,
    ⟨some 5, none, .h (.call (.f 66) [.t 4])⟩,
    ⟨some 6, none, .p (.mv (.t 5))⟩,
    ⟨some 7, some (6, true), .p (.fld 24 (.t 1))⟩,
    ⟨some 8, some (6, true), .h (.load 1 false (.t 7))⟩,
    ⟨some 9, some (6, true), .h (.call (.f 37) [.t 8, .k (.c (C.int .i64 0)), .k (.c (C.int .i64 9999))])⟩,
    ⟨some 10, none, .p (.pick (.t 6) (.t 9) (.k (.c (C.bool false))))⟩,
    ⟨some 11, none, .p (.mv (.t 10))⟩,
    ⟨some 12, some (11, true), .p (.fld 25 (.t 1))⟩,
    ⟨some 13, some (11, true), .h (.load 1 false (.t 12))⟩,
    ⟨some 14, some (11, true), .h (.call (.f 37) [.t 13, .k (.c (C.int .i64 0)), .k (.c (C.int .i64 1000))])⟩,
    ⟨some 15, none, .p (.pick (.t 11) (.t 14) (.k (.c (C.bool false))))⟩,
    ⟨some 2, none, .p (.mv (.t 15))⟩] [2])
  .ret)) }
theorem a50_ok : okFn Tryd.prog 50 a50 = true := by kernel_rfl
/-- loop.example/g01215/laws.toBar -/
def a51 : AFn := { np := 1, nt := 15, res := [.cell 2 26 true], body :=
  (.seq (.region [⟨some 1, none, .p (.box 26 (.t 0))⟩,
    ⟨some 2, none, .p (.alloc (List.replicate 26 (.k (C.int .i64 0))))⟩] [1, 2])
  (.seq (.region [⟨some 3, none, .p (.alloc (List.replicate 26 (.k (C.int .i64 0))))⟩] [1, 2, 3])
  (.seq (.region [⟨some 4, none, .p (.fld 0 (.t 1))⟩,
    ⟨some 5, none, .h (.load 24 true (.t 4))⟩,
    ⟨some 6, none, .h (.call (.f 67) [.t 5])⟩,
    ⟨some 7, none, .p (.fld 0 (.t 3))⟩,
    ⟨none, none, .h (.store 24 (.t 7) (.t 6))⟩] [1, 2, 3])
  (.seq (.region [⟨some 8, none, .p (.fld 24 (.t 1))⟩,
    ⟨some 9, none, .h (.load 1 false (.t 8))⟩,
    ⟨some 10, none, .p (.fld 24 (.t 3))⟩,
    ⟨none, none, .h (.store 1 (.t 10) (.t 9))⟩] [1, 2, 3])
  (.seq (.region [⟨some 11, none, .p (.fld 25 (.t 1))⟩,
    ⟨some 12, none, .h (.load 1 false (.t 11))⟩,
    ⟨some 13, none, .p (.fld 25 (.t 3))⟩,
    ⟨none, none, .h (.store 1 (.t 13) (.t 12))⟩] [2, 3])
  (.seq (.region [⟨some 14, none, .h (.load 26 true (.t 3))⟩,
    ⟨none, none, .h (.store 26 (.t 2) (.t 14))⟩] [2])
  .ret)))))) }
theorem a51_ok : okFn Tryd.prog 51 a51 = true := by kernel_rfl
/-- loop.example/g01215/impl.IsBar -/
def a52 : AFn := { np := 1, nt := 16, res := [.t 2], body :=
  (.seq (.region [⟨some 1, none, .p (.box 26 (.t 0))⟩,
    ⟨some 2, none, .p (.mv (.k (.c (C.bool false))))⟩] [1])
  (.seq (.region [⟨some 3, none, .p (.fld 0 (.t 1))⟩,
    ⟨some 4, none, .h (.load 24 true (.t 3))⟩,
    ⟨some 5, none, .h (.call (.f 68) [.t 4])⟩,
    ⟨some 6, none, .p (.mv (.t 5))⟩,
    ⟨some 7, some (6, true), .p (.fld 24 (.t 1))⟩,
    ⟨some 8, some (6, true), .h (.load 1 false (.t 7))⟩,
    ⟨some 9, some (6, true), .h (.call (.f 40) [.t 8, .k (.c (C.int .i64 0)), .k (.c (C.int .i64 9999))])⟩,
    ⟨some 10, none, .p (.pick (.t 6) (.t 9) (.k (.c (C.bool false))))⟩,
    ⟨some 11, none, .p (.mv (.t 10))⟩,
    ⟨some 12, some (11, true), .p (.fld 25 (.t 1))⟩,
    ⟨some 13, some (11, true), .h (.load 1 false (.t 12))⟩,
    ⟨some 14, some (11, true), .h (.call (.f 40) [.t 13, .k (.c (C.int .i64 0)), .k (.c (C.int .i64 1000))])⟩,
    ⟨some 15, none, .p (.pick (.t 11) (.t 14) (.k (.c (C.bool false))))⟩,
    ⟨some 2, none, .p (.mv (.t 15))⟩] [2])
  .ret)) }
theorem a52_ok : okFn Tryd.prog 52 a52 = true := by kernel_rfl
/-- loop.example/g01215/spec.l12Bytes -/
def a53 : AFn := { np := 2, nt := 28, res := [.t 4], body :=
  (.seq (.region [⟨some 4, none, .p (.mv (.k (.c (C.bool false))))⟩] [0, 1])
  (.seq (.seq (.region [⟨some 5, none, .p (.mv (.k (.c (C.int .i64 0))))⟩] [0, 1, 5])
  (.block 0 (.loop (.seq (.seq (.region [⟨some 6, none, .p (.mv (.t 5))⟩,
    ⟨some 7, none, .p (.mv (.t 0))⟩,
    ⟨some 8, none, .p (.lenStr (.t 7))⟩,
    ⟨some 9, none, .p (.bin .lss (.t 6) (.t 8))⟩] [0, 1, 5, 9])
  (.cond (.t 9)
  .skip
  (.exit 0)))
  (.seq (.block 1 (.seq (.region [⟨some 12, none, .p (.mv (.t 0))⟩,
    ⟨some 13, none, .p (.mv (.t 5))⟩,
    ⟨some 14, none, .p (.ixStr (.t 12) (.t 13))⟩,
    ⟨some 15, none, .p (.conv .i64 (.t 14))⟩,
    ⟨some 16, none, .h (.call (.f 37) [.t 15, .k (.c (C.int .i64 32)), .k (.c (C.int .i64 126))])⟩,
    ⟨some 17, none, .p (.un .not (.t 16))⟩,
    ⟨some 18, none, .p (.mv (.t 17))⟩,
    ⟨some 19, some (18, false), .p (.mv (.t 0))⟩,
    ⟨some 20, some (18, false), .p (.mv (.t 5))⟩,
    ⟨some 21, some (18, false), .p (.ixStr (.t 19) (.t 20))⟩,
    ⟨some 22, some (18, false), .p (.bin .eql (.t 21) (.k (.c (C.int .u8 35))))⟩,
    ⟨some 23, none, .p (.pick (.t 18) (.k (.c (C.bool true))) (.t 22))⟩] [0, 1, 5, 23])
  (.cond (.t 23)
  (.seq (.region [⟨some 4, none, .p (.mv (.k (.c (C.bool false))))⟩] [4])
  .ret)
  .skip)))
  (.region [⟨some 10, none, .p (.mv (.t 5))⟩,
    ⟨some 11, none, .p (.bin .add (.t 10) (.k (.c (C.int .i64 1))))⟩,
    ⟨some 5, none, .p (.mv (.t 11))⟩] [0, 1, 5]))) [0, 1, 5])))
  (.seq (.region [⟨some 24, none, .p (.mv (.t 0))⟩,
    ⟨some 25, none, .p (.lenStr (.t 24))⟩,
    ⟨some 26, none, .p (.mv (.t 1))⟩,
    ⟨some 27, none, .p (.bin .leq (.t 25) (.t 26))⟩,
    ⟨some 4, none, .p (.mv (.t 27))⟩] [4])
  .ret))) }
theorem a53_ok : okFn Tryd.prog 53 a53 = true := by kernel_rfl
/-- loop.example/g01215/spec.l1Stands -/
def a54 : AFn := { np := 2, nt := 17, res := [.t 4], body :=
  (.seq (.region [⟨some 4, none, .p (.mv (.k (.c (C.bool false))))⟩] [0, 1])
  (.seq (.seq (.region [⟨some 5, none, .p (.mv (.k (.c (C.int .i64 0))))⟩] [0, 1, 5])
  (.block 0 (.loop (.seq (.seq (.region [⟨some 6, none, .p (.mv (.t 5))⟩,
    ⟨some 7, none, .p (.mv (.t 0))⟩,
    ⟨some 8, none, .p (.lenStr (.t 7))⟩,
    ⟨some 9, none, .p (.bin .lss (.t 6) (.t 8))⟩] [0, 1, 5, 9])
  (.cond (.t 9)
  .skip
  (.exit 0)))
  (.seq (.block 1 (.seq (.region [⟨some 12, none, .p (.mv (.t 0))⟩,
    ⟨some 13, none, .p (.mv (.t 5))⟩,
    ⟨some 14, none, .p (.ixStr (.t 12) (.t 13))⟩,
    ⟨some 15, none, .p (.mv (.t 1))⟩,
    ⟨some 16, none, .p (.bin .eql (.t 14) (.t 15))⟩] [0, 1, 5, 16])
  (.cond (.t 16)
  (.seq (.region [⟨some 4, none, .p (.mv (.k (.c (C.bool true))))⟩] [4])
  .ret)
  .skip)))
  (.region [⟨some 10, none, .p (.mv (.t 5))⟩,
    ⟨some 11, none, .p (.bin .add (.t 10) (.k (.c (C.int .i64 1))))⟩,
    ⟨some 5, none, .p (.mv (.t 11))⟩] [0, 1, 5]))) [0, 1, 5])))
  (.seq (.region [⟨some 4, none, .p (.mv (.k (.c (C.bool false))))⟩] [4])
  .ret))) }
theorem a54_ok : okFn Tryd.prog 54 a54 = true := by kernel_rfl
/-- loop.example/g01215/spec.l1Seal -/
def a55 : AFn := { np := 1, nt := 9, res := [.t 2], body :=
  (.seq (.region [⟨some 2, none, .p (.mv (.k (.c (C.str []))))⟩] [0])
  (.seq (.region [⟨some 3, none, .p (.mv (.t 0))⟩,
    ⟨some 4, none, .p (.bin .add (.t 3) (.k (.c (C.str [35]))))⟩,
    ⟨some 5, none, .p (.mv (.t 0))⟩,
    ⟨some 6, none, .h (.call (.f 69) [.t 5])⟩,
    ⟨some 7, none, .h (.call (.f 56) [.t 6])⟩,
    ⟨some 8, none, .p (.bin .add (.t 4) (.t 7))⟩,
    ⟨some 2, none, .p (.mv (.t 8))⟩] [2])
  .ret)) }
theorem a55_ok : okFn Tryd.prog 55 a55 = true := by kernel_rfl
/-- loop.example/g01215/spec.l1Num -/
def a56 : AFn := { np := 1, nt := 35, res := [.t 2], body :=
  (.seq (.region [⟨some 2, none, .p (.mv (.k (.c (C.str []))))⟩] [0])
  (.seq (.seq (.region [⟨some 3, none, .p (.mv (.t 0))⟩,
    ⟨some 4, none, .p (.bin .lss (.t 3) (.k (.c (C.int .i64 0))))⟩] [0, 4])
  (.cond (.t 4)
  (.seq (.seq (.region [⟨some 5, none, .p (.mv (.t 0))⟩,
    ⟨some 6, none, .p (.bin .gtr (.t 5) (.k (.c (C.int .i64 (-10)))))⟩] [0, 6])
  (.cond (.t 6)
  (.seq (.region [⟨some 7, none, .p (.mv (.t 0))⟩,
    ⟨some 8, none, .p (.un .neg (.t 7))⟩,
    ⟨some 9, none, .h (.call (.f 56) [.t 8])⟩,
    ⟨some 10, none, .p (.bin .add (.k (.c (C.str [45]))) (.t 9))⟩,
    ⟨some 2, none, .p (.mv (.t 10))⟩] [2])
  .ret)
  .skip))
  (.seq (.region [⟨some 11, none, .p (.mv (.t 0))⟩,
    ⟨some 12, none, .p (.bin .quo (.t 11) (.k (.c (C.int .i64 10))))⟩,
    ⟨some 13, none, .h (.call (.f 56) [.t 12])⟩,
    ⟨some 14, none, .p (.mv (.t 0))⟩,
    ⟨some 15, none, .p (.bin .rem (.t 14) (.k (.c (C.int .i64 10))))⟩,
    ⟨some 16, none, .p (.un .neg (.t 15))⟩,
    ⟨some 17, none, .h (.call (.f 56) [.t 16])⟩,
    ⟨some 18, none, .p (.bin .add (.t 13) (.t 17))⟩,
    ⟨some 2, none, .p (.mv (.t 18))⟩] [2])
  .ret))
  .skip))
  (.seq (.seq (.region [⟨some 19, none, .p (.mv (.t 0))⟩,
    ⟨some 20, none, .p (.bin .lss (.t 19) (.k (.c (C.int .i64 10))))⟩] [0, 20])
  (.cond (.t 20)
  (.seq (.region [⟨some 21, none, .p (.mv (.t 0))⟩,
    ⟨some 22, none, .p (.mv (.t 0))⟩,
    ⟨some 23, none, .p (.bin .add (.t 22) (.k (.c (C.int .i64 1))))⟩,
    ⟨some 24, none, .p (.slStr (.k (.c (C.str [48, 49, 50, 51, 52, 53, 54, 55, 56, 57]))) (some (.t 21)) (some (.t 23)))⟩,
    ⟨some 2, none, .p (.mv (.t 24))⟩] [2])
  .ret)
  .skip))
  (.seq (.regionD [⟨some 25, none, .p (.mv (.t 0))⟩,
    ⟨some 26, none, .p (.bin .quo (.t 25) (.k (.c (C.int .i64 10))))⟩,
    ⟨some 27, none, .h (.call (.f 56) [.t 26])⟩,
    ⟨some 28, none, .p (.mv (.t 0))⟩,
    ⟨some 29, none, .p (.bin .rem (.t 28) (.k (.c (C.int .i64 10))))⟩,
    ⟨some 30, none, .p (.mv (.t 0))⟩,
    ⟨some 31, none, .p (.bin .rem (.t 30) (.k (.c (C.int .i64 10))))⟩,
    ⟨some 32, none, .p (.bin .add (.t 31) (.k (.c (C.int .i64 1))))⟩,
    ⟨some 33, none, .p (.slStr (.k (.c (C.str [48, 49, 50, 51, 52, 53, 54, 55, 56, 57]))) (some (.t 29)) (some (.t 32)))⟩,
    ⟨some 34, none, .p (.bin .add (.t 27) (.t 33))⟩,
    ⟨some 2, none, .p (.mv (.t 34))⟩] [2] [])
  .ret)))) }
theorem a56_ok : okFn Tryd.prog 56 a56 = true := by kernel_rfl
/-- loop.example/g01215/impl.isCommand -/
def a57 : AFn := { np := 1, nt := 15, res := [.t 2], body :=
  (.seq (.region [⟨some 2, none, .p (.mv (.k (.c (C.bool false))))⟩] [0])
  (.seq (.region [⟨some 3, none, .p (.mv (.t 0))⟩,
    ⟨some 4, none, .p (.lenStr (.t 3))⟩,
    ⟨some 5, none, .h (.call (.f 40) [.t 4, .k (.c (C.int .i64 1)), .k (.c (C.int .i64 160))])⟩,
    ⟨some 6, none, .p (.mv (.t 5))⟩,
    ⟨some 7, some (6, true), .p (.mv (.t 0))⟩,
    ⟨some 8, some (6, true), .h (.call (.f 58) [.t 7])⟩,
    ⟨some 9, none, .p (.pick (.t 6) (.t 8) (.k (.c (C.bool false))))⟩,
    ⟨some 10, none, .p (.mv (.t 9))⟩,
    ⟨some 11, some (10, true), .p (.mv (.t 0))⟩,
    ⟨some 12, some (10, true), .h (.call (.f 59) [.t 11, .k (.c (C.str [64]))])⟩,
    ⟨some 13, some (10, true), .p (.un .not (.t 12))⟩,
    ⟨some 14, none, .p (.pick (.t 10) (.t 13) (.k (.c (C.bool false))))⟩,
    ⟨some 2, none, .p (.mv (.t 14))⟩] [2])
  .ret)) }
theorem a57_ok : okFn Tryd.prog 57 a57 = true := by kernel_rfl
/-- loop.example/g01215/impl.isPlainText -/
def a58 : AFn := { np := 1, nt := 11, res := [.t 2], body :=
  (.seq (.region [⟨some 2, none, .p (.mv (.k (.c (C.bool false))))⟩] [0])
  (.seq (.region [⟨some 3, none, .p (.mv (.t 0))⟩,
    ⟨some 4, none, .h (.s2b (.t 3))⟩,
    ⟨some 5, none, .h (.call (.f 70) [.t 4, .f 71])⟩,
    ⟨some 6, none, .p (.mv (.t 5))⟩,
    ⟨some 7, some (6, true), .p (.mv (.t 0))⟩,
    ⟨some 8, some (6, true), .h (.call (.f 59) [.t 7, .k (.c (C.str [35]))])⟩,
    ⟨some 9, some (6, true), .p (.un .not (.t 8))⟩,
    ⟨some 10, none, .p (.pick (.t 6) (.t 9) (.k (.c (C.bool false))))⟩,
    ⟨some 2, none, .p (.mv (.t 10))⟩] [2])
  .ret)) }
theorem a58_ok : okFn Tryd.prog 58 a58 = true := by kernel_rfl
/-- loop.example/g01215/impl.checksum -/
def a60 : AFn := { np := 1, nt := 22, res := [.t 2], body :=
  (.seq (.region [⟨some 2, none, .p (.mv (.k (.c (C.int .i64 0))))⟩] [0])
  (.seq (.region [⟨some 3, none, .p (.mv (.k (.c (C.int .i64 7))))⟩] [0, 3])
  (.seq (.seq (.region [⟨some 6, none, .p (.mv (.t 0))⟩,
    ⟨some 7, none, .h (.s2b (.t 6))⟩,
    ⟨some 8, none, .p (.len (.t 7))⟩,
    ⟨some 9, none, .p (.mv (.k (.c (C.int .i64 0))))⟩] [3, 7, 8, 9])
  (.block 0 (.loop (.seq (.region [⟨some 10, none, .p (.bin .lss (.t 9) (.t 8))⟩] [3, 7, 8, 9, 10])
  (.seq (.cond (.t 10)
  .skip
  (.exit 0))
  (.seq (.block 1 (.seq (.region [⟨some 11, none, .p (.ixS 1 (.t 7) (.t 9))⟩,
    ⟨some 12, none, .h (.load 1 false (.t 11))⟩,
    ⟨some 5, none, .p (.mv (.t 12))⟩] [3, 5, 7, 8, 9])
  (.region [⟨some 13, none, .p (.mv (.t 3))⟩,
    ⟨some 14, none, .p (.bin .mul (.k (.c (C.int .i64 41))) (.t 13))⟩,
    ⟨some 15, none, .p (.mv (.t 5))⟩,
    ⟨some 16, none, .p (.conv .i64 (.t 15))⟩,
    ⟨some 17, none, .p (.bin .add (.t 14) (.t 16))⟩,
    ⟨some 18, none, .p (.bin .add (.t 17) (.k (.c (C.int .i64 1))))⟩,
    ⟨some 19, none, .p (.bin .rem (.t 18) (.k (.c (C.int .i64 999979))))⟩,
    ⟨some 3, none, .p (.mv (.t 19))⟩] [3, 7, 8, 9])))
  (.region [⟨some 20, none, .p (.bin .add (.t 9) (.k (.c (C.int .i64 1))))⟩,
    ⟨some 9, none, .p (.mv (.t 20))⟩] [3, 7, 8, 9])))) [3, 7, 8, 9])))
  (.seq (.region [⟨some 21, none, .p (.mv (.t 3))⟩,
    ⟨some 2, none, .p (.mv (.t 21))⟩] [2])
  .ret)))) }
theorem a60_ok : okFn Tryd.prog 60 a60 = true := by kernel_rfl
/-- loop.example/g01215/spec.l1Split -/
def a62 : AFn := { np := 2, nt := 35, res := [.t 4], body :=
  (.seq (.region [⟨some 4, none, .p (.nilsl 1)⟩] [0, 1])
  (.seq (.region [⟨some 8, none, .p (.mksl 1 0 [.k (C.str [])] [])⟩,
    ⟨some 5, none, .p (.mv (.t 8))⟩] [0, 1, 5])
  (.seq (.region [⟨some 6, none, .p (.mv (.k (.c (C.int .i64 0))))⟩] [0, 1, 5, 6])
  (.seq (.seq (.region [⟨some 7, none, .p (.mv (.k (.c (C.int .i64 0))))⟩] [0, 1, 5, 6, 7])
  (.block 0 (.loop (.seq (.seq (.region [⟨some 9, none, .p (.mv (.t 7))⟩,
    ⟨some 10, none, .p (.mv (.t 0))⟩,
    ⟨some 11, none, .p (.lenStr (.t 10))⟩,
    ⟨some 12, none, .p (.bin .lss (.t 9) (.t 11))⟩] [0, 1, 5, 6, 7, 12])
  (.cond (.t 12)
  .skip
  (.exit 0)))
  (.seq (.block 1 (.seq (.region [⟨some 15, none, .p (.mv (.t 0))⟩,
    ⟨some 16, none, .p (.mv (.t 7))⟩,
    ⟨some 17, none, .p (.ixStr (.t 15) (.t 16))⟩,
    ⟨some 18, none, .p (.mv (.t 1))⟩,
    ⟨some 19, none, .p (.bin .eql (.t 17) (.t 18))⟩] [0, 1, 5, 6, 7, 19])
  (.cond (.t 19)
  (.seq (.region [⟨some 20, none, .p (.mv (.t 5))⟩,
    ⟨some 21, none, .p (.mv (.t 0))⟩,
    ⟨some 22, none, .p (.mv (.t 6))⟩,
    ⟨some 23, none, .p (.mv (.t 7))⟩,
    ⟨some 24, none, .p (.slStr (.t 21) (some (.t 22)) (some (.t 23)))⟩,
    ⟨some 25, none, .p (.mksl 1 1 [.k (C.str [])] [(0, 1, .t 24)])⟩,
    ⟨some 26, none, .h (.app 1 (.t 20) (.t 25))⟩,
    ⟨some 5, none, .p (.mv (.t 26))⟩] [0, 1, 5, 7])
  (.region [⟨some 27, none, .p (.mv (.t 7))⟩,
    ⟨some 28, none, .p (.bin .add (.t 27) (.k (.c (C.int .i64 1))))⟩,
    ⟨some 6, none, .p (.mv (.t 28))⟩] [0, 1, 5, 6, 7]))
  .skip)))
  (.region [⟨some 13, none, .p (.mv (.t 7))⟩,
    ⟨some 14, none, .p (.bin .add (.t 13) (.k (.c (C.int .i64 1))))⟩,
    ⟨some 7, none, .p (.mv (.t 14))⟩] [0, 1, 5, 6, 7]))) [0, 1, 5, 6, 7])))
  (.seq (.region [⟨some 29, none, .p (.mv (.t 5))⟩,
    ⟨some 30, none, .p (.mv (.t 0))⟩,
    ⟨some 31, none, .p (.mv (.t 6))⟩,
    ⟨some 32, none, .p (.slStr (.t 30) (some (.t 31)) none)⟩,
    ⟨some 33, none, .p (.mksl 1 1 [.k (C.str [])] [(0, 1, .t 32)])⟩,
    ⟨some 34, none, .h (.app 1 (.t 29) (.t 33))⟩,
    ⟨some 4, none, .p (.mv (.t 34))⟩] [4])
  .ret))))) }
theorem a62_ok : okFn Tryd.prog 62 a62 = true := by kernel_rfl
/-- loop.example/g01215/spec.l12Decode -/
def a63 : AFn := { np := 2, nt := 64, res := [.cell 4 2 true, .t 5], body :=
  (.seq (.region [⟨some 4, none, .p (.alloc [.k (C.str []), .k (C.str [])])⟩,
    ⟨some 5, none, .p (.mv (.k (.c (C.bool false))))⟩] [0, 1, 4])
  (.seq (.region [⟨some 11, none, .p (.mv (.t 1))⟩,
    ⟨some 12, none, .h (.call (.f 56) [.t 11])⟩,
    ⟨some 13, none, .p (.bin .add (.t 12) (.k (.c (C.str [32]))))⟩,
    ⟨some 6, none, .p (.mv (.t 13))⟩] [0, 1, 4, 6])
  (.seq (.region [⟨some 14, none, .p (.mv (.t 0))⟩,
    ⟨some 15, none, .h (.call (.f 62) [.t 14, .k (.c (C.int .u8 35))])⟩,
    ⟨some 16, none, .p (.ixS 1 (.t 15) (.k (.c (C.int .i64 0))))⟩,
    ⟨some 17, none, .h (.load 1 false (.t 16))⟩,
    ⟨some 7, none, .p (.mv (.t 17))⟩] [0, 1, 4, 6, 7])
  (.seq (.seq (.region [⟨some 18, none, .p (.mv (.t 7))⟩,
    ⟨some 19, none, .p (.lenStr (.t 18))⟩,
    ⟨some 20, none, .p (.mv (.t 6))⟩,
    ⟨some 21, none, .p (.lenStr (.t 20))⟩,
    ⟨some 22, none, .p (.bin .lss (.t 19) (.t 21))⟩,
    ⟨some 23, none, .p (.mv (.t 22))⟩,
    ⟨some 24, some (23, false), .p (.mv (.t 7))⟩,
    ⟨some 25, some (23, false), .p (.mv (.t 6))⟩,
    ⟨some 26, some (23, false), .p (.lenStr (.t 25))⟩,
    ⟨some 27, some (23, false), .p (.slStr (.t 24) none (some (.t 26)))⟩,
    ⟨some 28, some (23, false), .p (.mv (.t 6))⟩,
    ⟨some 29, some (23, false), .p (.bin .neq (.t 27) (.t 28))⟩,
    ⟨some 30, none, .p (.pick (.t 23) (.k (.c (C.bool true))) (.t 29))⟩] [0, 1, 4, 6, 7, 30])
  (.cond (.t 30)
  (.seq (.region [⟨some 31, none, .p (.build [.k (C.str []), .k (C.str [])] [])⟩,
    ⟨none, none, .h (.store 2 (.t 4) (.t 31))⟩,
    ⟨some 5, none, .p (.mv (.k (.c (C.bool false))))⟩] [4, 5])
  .ret)
  .skip))
  (.seq (.region [⟨some 32, none, .p (.mv (.t 7))⟩,
    ⟨some 33, none, .p (.mv (.t 6))⟩,
    ⟨some 34, none, .p (.lenStr (.t 33))⟩,
    ⟨some 35, none, .p (.slStr (.t 32) (some (.t 34)) none)⟩,
    ⟨some 8, none, .p (.mv (.t 35))⟩] [0, 1, 4, 8])
  (.seq (.region [⟨some 36, none, .p (.mv (.t 8))⟩,
    ⟨some 37, none, .h (.call (.f 62) [.t 36, .k (.c (C.int .u8 64))])⟩,
    ⟨some 38, none, .p (.ixS 1 (.t 37) (.k (.c (C.int .i64 0))))⟩,
    ⟨some 39, none, .h (.load 1 false (.t 38))⟩,
    ⟨some 9, none, .p (.mv (.t 39))⟩] [0, 1, 4, 8, 9])
  (.seq (.seq (.region [⟨some 40, none, .p (.mv (.t 9))⟩,
    ⟨some 41, none, .p (.lenStr (.t 40))⟩,
    ⟨some 42, none, .p (.mv (.t 8))⟩,
    ⟨some 43, none, .p (.lenStr (.t 42))⟩,
    ⟨some 44, none, .p (.bin .eql (.t 41) (.t 43))⟩] [0, 1, 4, 8, 9, 44])
  (.cond (.t 44)
  (.seq (.region [⟨some 45, none, .p (.build [.k (C.str []), .k (C.str [])] [])⟩,
    ⟨none, none, .h (.store 2 (.t 4) (.t 45))⟩,
    ⟨some 5, none, .p (.mv (.k (.c (C.bool false))))⟩] [4, 5])
  .ret)
  .skip))
  (.seq (.region [⟨some 46, none, .p (.mv (.t 9))⟩,
    ⟨some 47, none, .p (.mv (.t 8))⟩,
    ⟨some 48, none, .p (.mv (.t 9))⟩,
    ⟨some 49, none, .p (.lenStr (.t 48))⟩,
    ⟨some 50, none, .p (.bin .add (.t 49) (.k (.c (C.int .i64 1))))⟩,
    ⟨some 51, none, .p (.slStr (.t 47) (some (.t 50)) none)⟩,
    ⟨some 52, none, .p (.build [.k (C.str []), .k (C.str [])] [(0, 1, .t 46), (1, 1, .t 51)])⟩,
    ⟨some 10, none, .p (.alloc [.k (C.str []), .k (C.str [])])⟩,
    ⟨none, none, .h (.store 2 (.t 10) (.t 52))⟩] [0, 1, 4, 10])
  (.seq (.regionD [⟨some 53, none, .h (.load 2 true (.t 10))⟩,
    ⟨some 54, none, .h (.load 2 true (.t 10))⟩,
    ⟨some 55, none, .h (.call (.f 38) [.t 54])⟩,
    ⟨some 56, none, .p (.mv (.t 55))⟩,
    ⟨some 57, some (56, true), .p (.mv (.t 1))⟩,
    ⟨some 58, some (56, true), .h (.load 2 true (.t 10))⟩,
    ⟨some 59, some (56, true), .h (.call (.f 39) [.t 57, .t 58])⟩,
    ⟨some 60, some (56, true), .p (.mv (.t 0))⟩,
    ⟨some 61, some (56, true), .p (.bin .add (.t 60) (.k (.c (C.str [10]))))⟩,
    ⟨some 62, some (56, true), .p (.bin .eql (.t 59) (.t 61))⟩,
    ⟨some 63, none, .p (.pick (.t 56) (.t 62) (.k (.c (C.bool false))))⟩,
    ⟨none, none, .h (.store 2 (.t 4) (.t 53))⟩,
    ⟨some 5, none, .p (.mv (.t 63))⟩] [4, 5] [])
  .ret))))))))) }
theorem a63_ok : okFn Tryd.prog 63 a63 = true := by kernel_rfl
/-- loop.example/g01215/impl.readRecord -/
def a64 : AFn := { np := 2, nt := 78, res := [.cell 4 2 true, .t 5, .t 6], body :=
  (.seq (.region [⟨some 4, none, .p (.alloc [.k (C.str []), .k (C.str [])])⟩,
    ⟨some 5, none, .p (.mv (.k (.c (C.int .i64 0))))⟩,
    ⟨some 6, none, .p (.mv (.k (.c (C.bool false))))⟩] [0, 1, 4])
  (.seq (.region [⟨some 21, none, .p (.mv (.t 1))⟩,
    ⟨some 22, none, .h (.call (.f 74) [.t 21, .k (.c (C.str [10]))])⟩,
    ⟨some 20, none, .p (.mv (.t 22))⟩,
    ⟨some 23, none, .p (.ext (.t 20) 0)⟩,
    ⟨some 24, none, .p (.ext (.t 20) 1)⟩,
    ⟨some 25, none, .p (.ext (.t 20) 2)⟩,
    ⟨some 7, none, .p (.mv (.t 23))⟩,
    ⟨some 8, none, .p (.mv (.t 24))⟩,
    ⟨some 9, none, .p (.mv (.t 25))⟩] [0, 4, 7, 9])
  (.seq (.seq (.region [⟨some 26, none, .p (.mv (.t 9))⟩,
    ⟨some 27, none, .p (.un .not (.t 26))⟩] [0, 4, 7, 27])
  (.cond (.t 27)
  (.seq (.region [⟨some 28, none, .p (.build [.k (C.str []), .k (C.str [])] [])⟩,
    ⟨none, none, .h (.store 2 (.t 4) (.t 28))⟩,
    ⟨some 5, none, .p (.mv (.k (.c (C.int .i64 0))))⟩,
    ⟨some 6, none, .p (.mv (.k (.c (C.bool false))))⟩] [4, 5, 6])
  .ret)
  .skip))
  (.seq (.region [⟨some 30, none, .p (.mv (.t 7))⟩,
    ⟨some 31, none, .h (.call (.f 75) [.t 30])⟩,
    ⟨some 29, none, .p (.mv (.t 31))⟩,
    ⟨some 32, none, .p (.ext (.t 29) 0)⟩,
    ⟨some 33, none, .p (.ext (.t 29) 1)⟩,
    ⟨some 10, none, .p (.mv (.t 32))⟩,
    ⟨some 11, none, .p (.mv (.t 33))⟩] [0, 4, 7, 10])
  (.seq (.region [⟨some 35, none, .p (.mv (.t 10))⟩,
    ⟨some 36, none, .p (.mv (.t 0))⟩,
    ⟨some 37, none, .h (.call (.f 43) [.t 36])⟩,
    ⟨some 38, none, .p (.bin .add (.t 37) (.k (.c (C.str [32]))))⟩,
    ⟨some 39, none, .h (.call (.f 76) [.t 35, .t 38])⟩,
    ⟨some 34, none, .p (.mv (.t 39))⟩,
    ⟨some 40, none, .p (.ext (.t 34) 0)⟩,
    ⟨some 41, none, .p (.ext (.t 34) 1)⟩,
    ⟨some 12, none, .p (.mv (.t 40))⟩,
    ⟨some 13, none, .p (.mv (.t 41))⟩] [0, 4, 7, 12, 13])
  (.seq (.region [⟨some 43, none, .p (.mv (.t 12))⟩,
    ⟨some 44, none, .h (.call (.f 74) [.t 43, .k (.c (C.str [64]))])⟩,
    ⟨some 42, none, .p (.mv (.t 44))⟩,
    ⟨some 45, none, .p (.ext (.t 42) 0)⟩,
    ⟨some 46, none, .p (.ext (.t 42) 1)⟩,
    ⟨some 47, none, .p (.ext (.t 42) 2)⟩,
    ⟨some 14, none, .p (.mv (.t 45))⟩,
    ⟨some 15, none, .p (.mv (.t 46))⟩,
    ⟨some 16, none, .p (.mv (.t 47))⟩] [0, 4, 7, 13, 14, 15, 16])
  (.seq (.region [⟨some 48, none, .p (.mv (.t 14))⟩,
    ⟨some 49, none, .p (.mv (.t 15))⟩,
    ⟨some 50, none, .p (.build [.k (C.str []), .k (C.str [])] [(0, 1, .t 48), (1, 1, .t 49)])⟩,
    ⟨some 17, none, .p (.alloc [.k (C.str []), .k (C.str [])])⟩,
    ⟨none, none, .h (.store 2 (.t 17) (.t 50))⟩] [0, 4, 7, 13, 16, 17])
  (.seq (.seq (.region [⟨some 52, none, .p (.mv (.t 0))⟩,
    ⟨some 53, none, .h (.load 2 true (.t 17))⟩,
    ⟨some 54, none, .h (.call (.f 14) [.t 52, .t 53])⟩,
    ⟨some 51, none, .p (.mv (.t 54))⟩,
    ⟨some 55, none, .p (.ext (.t 51) 0)⟩,
    ⟨some 56, none, .p (.ext (.t 51) 1)⟩,
    ⟨some 18, none, .p (.mv (.t 55))⟩,
    ⟨some 19, none, .p (.mv (.t 56))⟩] [4, 7, 13, 16, 17, 18, 19])
  (.seq (.region [⟨some 57, none, .p (.mv (.t 13))⟩,
    ⟨some 58, none, .p (.un .not (.t 57))⟩,
    ⟨some 59, none, .p (.mv (.t 58))⟩,
    ⟨some 60, some (59, false), .p (.mv (.t 16))⟩,
    ⟨some 61, some (59, false), .p (.un .not (.t 60))⟩,
    ⟨some 62, none, .p (.pick (.t 59) (.k (.c (C.bool true))) (.t 61))⟩,
    ⟨some 63, none, .p (.mv (.t 62))⟩,
    ⟨some 64, some (63, false), .p (.mv (.t 19))⟩,
    ⟨some 65, some (63, false), .p (.un .not (.t 64))⟩,
    ⟨some 66, none, .p (.pick (.t 63) (.k (.c (C.bool true))) (.t 65))⟩,
    ⟨some 67, none, .p (.mv (.t 66))⟩,
    ⟨some 68, some (67, false), .p (.mv (.t 18))⟩,
    ⟨some 69, some (67, false), .p (.mv (.t 7))⟩,
    ⟨some 70, some (67, false), .p (.bin .add (.t 69) (.k (.c (C.str [10]))))⟩,
    ⟨some 71, some (67, false), .p (.bin .neq (.t 68) (.t 70))⟩,
    ⟨some 72, none, .p (.pick (.t 67) (.k (.c (C.bool true))) (.t 71))⟩] [4, 7, 17, 72])
  (.cond (.t 72)
  (.seq (.region [⟨some 73, none, .p (.build [.k (C.str []), .k (C.str [])] [])⟩,
    ⟨none, none, .h (.store 2 (.t 4) (.t 73))⟩,
    ⟨some 5, none, .p (.mv (.k (.c (C.int .i64 0))))⟩,
    ⟨some 6, none, .p (.mv (.k (.c (C.bool false))))⟩] [4, 5, 6])
  .ret)
  .skip)))
  (.seq (.region [⟨some 74, none, .h (.load 2 true (.t 17))⟩,
    ⟨some 75, none, .p (.mv (.t 7))⟩,
    ⟨some 76, none, .p (.lenStr (.t 75))⟩,
    ⟨some 77, none, .p (.bin .add (.t 76) (.k (.c (C.int .i64 1))))⟩,
    ⟨none, none, .h (.store 2 (.t 4) (.t 74))⟩,
    ⟨some 5, none, .p (.mv (.t 77))⟩,
    ⟨some 6, none, .p (.mv (.k (.c (C.bool true))))⟩] [4, 5, 6])
  .ret))))))))) }
theorem a64_ok : okFn Tryd.prog 64 a64 = true := by kernel_rfl
/-- loop.example/g01215/spec.l2Rack -/
def a66 : AFn := { np := 1, nt := 44, res := [.t 2], body :=
  (.seq (.region [⟨some 1, none, .p (.box 24 (.t 0))⟩,
    ⟨some 2, none, .p (.mv (.k (.c (C.bool false))))⟩] [1])
  (.seq (.seq (.region [⟨some 3, none, .p (.mv (.k (.c (C.int .i64 0))))⟩] [1, 3])
  (.block 0 (.loop (.seq (.seq (.region [⟨some 5, none, .p (.mv (.t 3))⟩,
    ⟨some 6, none, .p (.bin .lss (.t 5) (.k (.c (C.int .i64 6))))⟩] [1, 3, 6])
  (.cond (.t 6)
  .skip
  (.exit 0)))
  (.seq (.block 1 (.seq (.region [⟨some 4, none, .p (.mv (.k (.c (C.int .i64 0))))⟩] [1, 3, 4])
  (.block 2 (.loop (.seq (.seq (.region [⟨some 9, none, .p (.mv (.t 4))⟩,
    ⟨some 10, none, .p (.bin .lss (.t 9) (.k (.c (C.int .i64 4))))⟩] [1, 3, 4, 10])
  (.cond (.t 10)
  .skip
  (.exit 2)))
  (.seq (.block 3 (.seq (.region [⟨some 13, none, .p (.mv (.t 3))⟩,
    ⟨some 14, none, .p (.mv (.t 4))⟩,
    ⟨some 15, none, .p (.fld 0 (.t 1))⟩,
    ⟨some 16, none, .p (.ixA 6 4 (.t 15) (.t 13))⟩,
    ⟨some 17, none, .p (.ixA 4 1 (.t 16) (.t 14))⟩,
    ⟨some 18, none, .h (.load 1 false (.t 17))⟩,
    ⟨some 19, none, .h (.call (.f 37) [.t 18, .k (.c (C.int .i64 0)), .k (.c (C.int .i64 5))])⟩,
    ⟨some 20, none, .p (.un .not (.t 19))⟩,
    ⟨some 21, none, .p (.mv (.t 20))⟩,
    ⟨some 22, some (21, false), .p (.mv (.t 4))⟩,
    ⟨some 23, some (21, false), .p (.bin .gtr (.t 22) (.k (.c (C.int .i64 0))))⟩,
    ⟨some 24, some (21, false), .p (.mv (.t 23))⟩,
    ⟨some 25, some (24, true), .p (.mv (.t 3))⟩,
    ⟨some 26, some (24, true), .p (.mv (.t 4))⟩,
    ⟨some 27, some (24, true), .p (.fld 0 (.t 1))⟩,
    ⟨some 28, some (24, true), .p (.ixA 6 4 (.t 27) (.t 25))⟩,
    ⟨some 29, some (24, true), .p (.ixA 4 1 (.t 28) (.t 26))⟩,
    ⟨some 30, some (24, true), .h (.load 1 false (.t 29))⟩,
    ⟨some 31, some (24, true), .p (.bin .gtr (.t 30) (.k (.c (C.int .i64 0))))⟩,
    ⟨some 32, some (21, false), .p (.pick (.t 24) (.t 31) (.k (.c (C.bool false))))⟩,
    ⟨some 33, some (21, false), .p (.mv (.t 32))⟩,
    ⟨some 34, some (33, true), .p (.mv (.t 3))⟩,
    ⟨some 35, some (33, true), .p (.mv (.t 4))⟩,
    ⟨some 36, some (33, true), .p (.bin .sub (.t 35) (.k (.c (C.int .i64 1))))⟩,
    ⟨some 37, some (33, true), .p (.fld 0 (.t 1))⟩,
    ⟨some 38, some (33, true), .p (.ixA 6 4 (.t 37) (.t 34))⟩,
    ⟨some 39, some (33, true), .p (.ixA 4 1 (.t 38) (.t 36))⟩,
    ⟨some 40, some (33, true), .h (.load 1 false (.t 39))⟩,
    ⟨some 41, some (33, true), .p (.bin .eql (.t 40) (.k (.c (C.int .i64 0))))⟩,
    ⟨some 42, some (21, false), .p (.pick (.t 33) (.t 41) (.k (.c (C.bool false))))⟩,
    ⟨some 43, none, .p (.pick (.t 21) (.k (.c (C.bool true))) (.t 42))⟩] [1, 3, 4, 43])
  (.cond (.t 43)
  (.seq (.region [⟨some 2, none, .p (.mv (.k (.c (C.bool false))))⟩] [2])
  .ret)
  .skip)))
  (.region [⟨some 11, none, .p (.mv (.t 4))⟩,
    ⟨some 12, none, .p (.bin .add (.t 11) (.k (.c (C.int .i64 1))))⟩,
    ⟨some 4, none, .p (.mv (.t 12))⟩] [1, 3, 4]))) [1, 3, 4]))))
  (.region [⟨some 7, none, .p (.mv (.t 3))⟩,
    ⟨some 8, none, .p (.bin .add (.t 7) (.k (.c (C.int .i64 1))))⟩,
    ⟨some 3, none, .p (.mv (.t 8))⟩] [1, 3]))) [1, 3])))
  (.seq (.region [⟨some 2, none, .p (.mv (.k (.c (C.bool true))))⟩] [2])
  .ret))) }
theorem a66_ok : okFn Tryd.prog 66 a66 = true := by kernel_rfl
/-- loop.example/g01215/laws.toRack -/
def a67 : AFn := { np := 1, nt := 9, res := [.cell 2 24 true], body :=
  (.seq (.region [⟨some 1, none, .p (.box 24 (.t 0))⟩,
    ⟨some 2, none, .p (.alloc (List.replicate 24 (.k (C.int .i64 0))))⟩] [1, 2])
  (.seq (.region [⟨some 3, none, .p (.alloc (List.replicate 24 (.k (C.int .i64 0))))⟩] [1, 2, 3])
  (.seq (.region [⟨some 4, none, .p (.fld 0 (.t 1))⟩,
    ⟨some 5, none, .h (.load 24 true (.t 4))⟩,
    ⟨some 6, none, .h (.call (.f 78) [.t 5])⟩,
    ⟨some 7, none, .p (.fld 0 (.t 3))⟩,
    ⟨none, none, .h (.store 24 (.t 7) (.t 6))⟩] [2, 3])
  (.seq (.region [⟨some 8, none, .h (.load 24 true (.t 3))⟩,
    ⟨none, none, .h (.store 24 (.t 2) (.t 8))⟩] [2])
  .ret)))) }
theorem a67_ok : okFn Tryd.prog 67 a67 = true := by kernel_rfl
/-- loop.example/g01215/impl.IsRack -/
def a68 : AFn := { np := 1, nt := 6, res := [.t 2], body :=
  (.seq (.region [⟨some 1, none, .p (.box 24 (.t 0))⟩,
    ⟨some 2, none, .p (.mv (.k (.c (C.bool false))))⟩] [1])
  (.seq (.region [⟨some 3, none, .p (.fld 0 (.t 1))⟩,
    ⟨some 4, none, .h (.slA 6 4 (.t 3) none none)⟩,
    ⟨some 5, none, .h (.call (.f 79) [.t 4, .f 80])⟩,
    ⟨some 2, none, .p (.mv (.t 5))⟩] [2])
  .ret)) }
theorem a68_ok : okFn Tryd.prog 68 a68 = true := by kernel_rfl
/-- loop.example/g01215/spec.l1Sum -/
def a69 : AFn := { np := 1, nt := 21, res := [.t 2], body :=
  (.seq (.region [⟨some 2, none, .p (.mv (.k (.c (C.int .i64 0))))⟩] [0])
  (.seq (.region [⟨some 3, none, .p (.mv (.k (.c (C.int .i64 7))))⟩] [0, 3])
  (.seq (.seq (.region [⟨some 4, none, .p (.mv (.k (.c (C.int .i64 0))))⟩] [0, 3, 4])
  (.block 0 (.loop (.seq (.seq (.region [⟨some 5, none, .p (.mv (.t 4))⟩,
    ⟨some 6, none, .p (.mv (.t 0))⟩,
    ⟨some 7, none, .p (.lenStr (.t 6))⟩,
    ⟨some 8, none, .p (.bin .lss (.t 5) (.t 7))⟩] [0, 3, 4, 8])
  (.cond (.t 8)
  .skip
  (.exit 0)))
  (.seq (.block 1 (.region [⟨some 11, none, .p (.mv (.t 3))⟩,
    ⟨some 12, none, .p (.bin .mul (.k (.c (C.int .i64 41))) (.t 11))⟩,
    ⟨some 13, none, .p (.mv (.t 0))⟩,
    ⟨some 14, none, .p (.mv (.t 4))⟩,
    ⟨some 15, none, .p (.ixStr (.t 13) (.t 14))⟩,
    ⟨some 16, none, .p (.conv .i64 (.t 15))⟩,
    ⟨some 17, none, .p (.bin .add (.t 12) (.t 16))⟩,
    ⟨some 18, none, .p (.bin .add (.t 17) (.k (.c (C.int .i64 1))))⟩,
    ⟨some 19, none, .p (.bin .rem (.t 18) (.k (.c (C.int .i64 999979))))⟩,
    ⟨some 3, none, .p (.mv (.t 19))⟩] [0, 3, 4]))
  (.region [⟨some 9, none, .p (.mv (.t 4))⟩,
    ⟨some 10, none, .p (.bin .add (.t 9) (.k (.c (C.int .i64 1))))⟩,
    ⟨some 4, none, .p (.mv (.t 10))⟩] [0, 3, 4]))) [0, 3, 4])))
  (.seq (.region [⟨some 20, none, .p (.mv (.t 3))⟩,
    ⟨some 2, none, .p (.mv (.t 20))⟩] [2])
  .ret)))) }
theorem a69_ok : okFn Tryd.prog 69 a69 = true := by kernel_rfl
/-- loop.example/g01215/impl.areAll[byte] -/
def a70 : AFn := { np := 2, nt := 9, res := [.t 4], body :=
  (.seq (.region [⟨some 3, none, .p (.box 1 (.t 1))⟩,
    ⟨some 4, none, .p (.mv (.k (.c (C.bool false))))⟩] [0, 3])
  (.seq (.region [⟨some 5, none, .p (.mv (.t 0))⟩,
    ⟨some 6, none, .p (.mkfn 82 [.t 3])⟩,
    ⟨some 7, none, .h (.call (.f 81) [.t 5, .t 6])⟩,
    ⟨some 8, none, .p (.un .not (.t 7))⟩,
    ⟨some 4, none, .p (.mv (.t 8))⟩] [4])
  .ret)) }
theorem a70_ok : okFn Tryd.prog 70 a70 = true := by kernel_rfl
/-- loop.example/g01215/impl.isPlainText$1 -/
def a71 : AFn := { np := 1, nt := 9, res := [.t 2], body :=
  (.seq (.region [⟨some 2, none, .p (.mv (.k (.c (C.bool false))))⟩] [0])
  (.seq (.region [⟨some 3, none, .p (.mv (.t 0))⟩,
    ⟨some 4, none, .p (.bin .geq (.t 3) (.k (.c (C.int .u8 32))))⟩,
    ⟨some 5, none, .p (.mv (.t 4))⟩,
    ⟨some 6, some (5, true), .p (.mv (.t 0))⟩,
    ⟨some 7, some (5, true), .p (.bin .leq (.t 6) (.k (.c (C.int .u8 126))))⟩,
    ⟨some 8, none, .p (.pick (.t 5) (.t 7) (.k (.c (C.bool false))))⟩,
    ⟨some 2, none, .p (.mv (.t 8))⟩] [2])
  .ret)) }
theorem a71_ok : okFn Tryd.prog 71 a71 = true := by kernel_rfl
/-- loop.example/g01215/impl.VerifyChecksum -/
def a75 : AFn := { np := 1, nt := 28, res := [.t 2, .t 3], body :=
  (.seq (.region [⟨some 2, none, .p (.mv (.k (.c (C.str []))))⟩,
    ⟨some 3, none, .p (.mv (.k (.c (C.bool false))))⟩] [0])
  (.seq (.region [⟨some 10, none, .p (.mv (.t 0))⟩,
    ⟨some 11, none, .h (.call (.f 74) [.t 10, .k (.c (C.str [35]))])⟩,
    ⟨some 9, none, .p (.mv (.t 11))⟩,
    ⟨some 12, none, .p (.ext (.t 9) 0)⟩,
    ⟨some 13, none, .p (.ext (.t 9) 1)⟩,
    ⟨some 14, none, .p (.ext (.t 9) 2)⟩,
    ⟨some 4, none, .p (.mv (.t 12))⟩,
    ⟨some 5, none, .p (.mv (.t 13))⟩,
    ⟨some 6, none, .p (.mv (.t 14))⟩] [0, 4])
  (.seq (.seq (.region [⟨some 16, none, .p (.mv (.t 4))⟩,
    ⟨some 17, none, .h (.call (.f 42) [.t 16])⟩,
    ⟨some 15, none, .p (.mv (.t 17))⟩,
    ⟨some 18, none, .p (.ext (.t 15) 0)⟩,
    ⟨some 19, none, .p (.ext (.t 15) 1)⟩,
    ⟨some 7, none, .p (.mv (.t 18))⟩,
    ⟨some 8, none, .p (.mv (.t 19))⟩] [0, 4, 7, 8])
  (.seq (.region [⟨some 20, none, .p (.mv (.t 8))⟩,
    ⟨some 21, none, .p (.un .not (.t 20))⟩,
    ⟨some 22, none, .p (.mv (.t 21))⟩,
    ⟨some 23, some (22, false), .p (.mv (.t 7))⟩,
    ⟨some 24, some (22, false), .p (.mv (.t 0))⟩,
    ⟨some 25, some (22, false), .p (.bin .neq (.t 23) (.t 24))⟩,
    ⟨some 26, none, .p (.pick (.t 22) (.k (.c (C.bool true))) (.t 25))⟩] [4, 26])
  (.cond (.t 26)
  (.seq (.region [⟨some 2, none, .p (.mv (.k (.c (C.str []))))⟩,
    ⟨some 3, none, .p (.mv (.k (.c (C.bool false))))⟩] [2, 3])
  .ret)
  .skip)))
  (.seq (.region [⟨some 27, none, .p (.mv (.t 4))⟩,
    ⟨some 2, none, .p (.mv (.t 27))⟩,
    ⟨some 3, none, .p (.mv (.k (.c (C.bool true))))⟩] [2, 3])
  .ret)))) }
theorem a75_ok : okFn Tryd.prog 75 a75 = true := by kernel_rfl
/-- loop.example/g01215/laws.toIntA4A6 -/
def a78 : AFn := { np := 1, nt := 16, res := [.cell 2 24 true], body :=
  (.seq (.region [⟨some 1, none, .p (.box 24 (.t 0))⟩,
    ⟨some 2, none, .p (.alloc (List.replicate 24 (.k (C.int .i64 0))))⟩] [1, 2])
  (.seq (.region [⟨some 3, none, .p (.alloc (List.replicate 24 (.k (C.int .i64 0))))⟩] [1, 2, 3])
  (.seq (.seq (.region [⟨some 4, none, .p (.mv (.k (.c (C.int .i64 0))))⟩] [1, 2, 3, 4])
  (.block 0 (.loop (.seq (.seq (.region [⟨some 5, none, .p (.mv (.t 4))⟩,
    ⟨some 6, none, .p (.bin .lss (.t 5) (.k (.c (C.int .i64 6))))⟩] [1, 2, 3, 4, 6])
  (.cond (.t 6)
  .skip
  (.exit 0)))
  (.seq (.block 1 (.region [⟨some 9, none, .p (.mv (.t 4))⟩,
    ⟨some 10, none, .p (.mv (.t 4))⟩,
    ⟨some 11, none, .p (.ixA 6 4 (.t 1) (.t 10))⟩,
    ⟨some 12, none, .h (.load 4 true (.t 11))⟩,
    ⟨some 13, none, .h (.call (.f 90) [.t 12])⟩,
    ⟨some 14, none, .p (.ixA 6 4 (.t 3) (.t 9))⟩,
    ⟨none, none, .h (.store 4 (.t 14) (.t 13))⟩] [1, 2, 3, 4]))
  (.region [⟨some 7, none, .p (.mv (.t 4))⟩,
    ⟨some 8, none, .p (.bin .add (.t 7) (.k (.c (C.int .i64 1))))⟩,
    ⟨some 4, none, .p (.mv (.t 8))⟩] [1, 2, 3, 4]))) [1, 2, 3, 4])))
  (.seq (.region [⟨some 15, none, .h (.load 24 true (.t 3))⟩,
    ⟨none, none, .h (.store 24 (.t 2) (.t 15))⟩] [2])
  .ret)))) }
theorem a78_ok : okFn Tryd.prog 78 a78 = true := by kernel_rfl
/-- loop.example/g01215/impl.areAll[[4]int] -/
def a79 : AFn := { np := 2, nt := 9, res := [.t 4], body :=
  (.seq (.region [⟨some 3, none, .p (.box 1 (.t 1))⟩,
    ⟨some 4, none, .p (.mv (.k (.c (C.bool false))))⟩] [0, 3])
  (.seq (.region [⟨some 5, none, .p (.mv (.t 0))⟩,
    ⟨some 6, none, .p (.mkfn 92 [.t 3])⟩,
    ⟨some 7, none, .h (.call (.f 91) [.t 5, .t 6])⟩,
    ⟨some 8, none, .p (.un .not (.t 7))⟩,
    ⟨some 4, none, .p (.mv (.t 8))⟩] [4])
  .ret)) }
theorem a79_ok : okFn Tryd.prog 79 a79 = true := by kernel_rfl
/-- loop.example/g01215/impl.isTube -/
def a80 : AFn := { np := 1, nt := 14, res := [.t 2], body :=
  (.seq (.region [⟨some 1, none, .p (.box 4 (.t 0))⟩,
    ⟨some 2, none, .p (.mv (.k (.c (C.bool false))))⟩] [1])
  (.seq (.region [⟨some 4, none, .h (.load 4 true (.t 1))⟩,
    ⟨some 5, none, .h (.call (.f 93) [.t 4])⟩,
    ⟨some 3, none, .p (.mv (.t 5))⟩] [1, 3])
  (.seq (.region [⟨some 6, none, .p (.mv (.t 3))⟩,
    ⟨some 7, none, .h (.slA 4 1 (.t 1) none (some (.t 6)))⟩,
    ⟨some 8, none, .h (.call (.f 94) [.t 7, .f 95])⟩,
    ⟨some 9, none, .p (.mv (.t 8))⟩,
    ⟨some 10, some (9, true), .p (.mv (.t 3))⟩,
    ⟨some 11, some (9, true), .h (.slA 4 1 (.t 1) (some (.t 10)) none)⟩,
    ⟨some 12, some (9, true), .h (.call (.f 94) [.t 11, .f 96])⟩,
    ⟨some 13, none, .p (.pick (.t 9) (.t 12) (.k (.c (C.bool false))))⟩,
    ⟨some 2, none, .p (.mv (.t 13))⟩] [2])
  .ret))) }
theorem a80_ok : okFn Tryd.prog 80 a80 = true := by kernel_rfl
/-- slices.ContainsFunc[[]byte,byte] -/
def a81 : AFn := { np := 2, nt := 9, res := [.t 4], body :=
  (.seq (.region [⟨some 4, none, .p (.mv (.k (.c (C.bool false))))⟩] [0, 1])
  (.seq (.region [⟨some 5, none, .p (.mv (.t 0))⟩,
    ⟨some 6, none, .p (.mv (.t 1))⟩,
    ⟨some 7, none, .h (.call (.f 97) [.t 5, .t 6])⟩,
    ⟨some 8, none, .p (.bin .geq (.t 7) (.k (.c (C.int .i64 0))))⟩,
    ⟨some 4, none, .p (.mv (.t 8))⟩] [4])
  .ret)) }
theorem a81_ok : okFn Tryd.prog 81 a81 = true := by kernel_rfl
/-- loop.example/g01215/impl.areAll[byte]$1 -/
def a82 : AFn := { np := 2, nt := 8, res := [.t 3], body :=
  (.seq (.region [⟨some 3, none, .p (.mv (.k (.c (C.bool false))))⟩] [0, 1])
  (.seq (.region [⟨some 4, none, .h (.load 1 false (.t 1))⟩,
    ⟨some 5, none, .p (.mv (.t 0))⟩,
    ⟨some 6, none, .h (.call (.t 4) [.t 5])⟩,
    ⟨some 7, none, .p (.un .not (.t 6))⟩,
    ⟨some 3, none, .p (.mv (.t 7))⟩] [3])
  .ret)) }
theorem a82_ok : okFn Tryd.prog 82 a82 = true := by kernel_rfl
/-- loop.example/g01215/laws.toIntA4 -/
def a90 : AFn := { np := 1, nt := 15, res := [.cell 2 4 true], body :=
  (.seq (.region [⟨some 1, none, .p (.box 4 (.t 0))⟩,
    ⟨some 2, none, .p (.alloc [.k (C.int .i64 0), .k (C.int .i64 0), .k (C.int .i64 0), .k (C.int .i64 0)])⟩] [1, 2])
  (.seq (.region [⟨some 3, none, .p (.alloc [.k (C.int .i64 0), .k (C.int .i64 0), .k (C.int .i64 0), .k (C.int .i64 0)])⟩] [1, 2, 3])
  (.seq (.seq (.region [⟨some 4, none, .p (.mv (.k (.c (C.int .i64 0))))⟩] [1, 2, 3, 4])
  (.block 0 (.loop (.seq (.seq (.region [⟨some 5, none, .p (.mv (.t 4))⟩,
    ⟨some 6, none, .p (.bin .lss (.t 5) (.k (.c (C.int .i64 4))))⟩] [1, 2, 3, 4, 6])
  (.cond (.t 6)
  .skip
  (.exit 0)))
  (.seq (.block 1 (.region [⟨some 9, none, .p (.mv (.t 4))⟩,
    ⟨some 10, none, .p (.mv (.t 4))⟩,
    ⟨some 11, none, .p (.ixA 4 1 (.t 1) (.t 10))⟩,
    ⟨some 12, none, .h (.load 1 false (.t 11))⟩,
    ⟨some 13, none, .p (.ixA 4 1 (.t 3) (.t 9))⟩,
    ⟨none, none, .h (.store 1 (.t 13) (.t 12))⟩] [1, 2, 3, 4]))
  (.region [⟨some 7, none, .p (.mv (.t 4))⟩,
    ⟨some 8, none, .p (.bin .add (.t 7) (.k (.c (C.int .i64 1))))⟩,
    ⟨some 4, none, .p (.mv (.t 8))⟩] [1, 2, 3, 4]))) [1, 2, 3, 4])))
  (.seq (.region [⟨some 14, none, .h (.load 4 true (.t 3))⟩,
    ⟨none, none, .h (.store 4 (.t 2) (.t 14))⟩] [2])
  .ret)))) }
theorem a90_ok : okFn Tryd.prog 90 a90 = true := by kernel_rfl
/-- slices.ContainsFunc[[][4]int,[4]int] -/
def a91 : AFn := { np := 2, nt := 9, res := [.t 4], body :=
  (.seq (.region [⟨some 4, none, .p (.mv (.k (.c (C.bool false))))⟩] [0, 1])
  (.seq (.region [⟨some 5, none, .p (.mv (.t 0))⟩,
    ⟨some 6, none, .p (.mv (.t 1))⟩,
    ⟨some 7, none, .h (.call (.f 108) [.t 5, .t 6])⟩,
    ⟨some 8, none, .p (.bin .geq (.t 7) (.k (.c (C.int .i64 0))))⟩,
    ⟨some 4, none, .p (.mv (.t 8))⟩] [4])
  .ret)) }
theorem a91_ok : okFn Tryd.prog 91 a91 = true := by kernel_rfl
/-- loop.example/g01215/impl.areAll[[4]int]$1 -/
def a92 : AFn := { np := 2, nt := 8, res := [.t 3], body :=
  (.seq (.region [⟨some 2, none, .p (.box 4 (.t 0))⟩,
    ⟨some 3, none, .p (.mv (.k (.c (C.bool false))))⟩] [1, 2])
  (.seq (.region [⟨some 4, none, .h (.load 1 false (.t 1))⟩,
    ⟨some 5, none, .h (.load 4 true (.t 2))⟩,
    ⟨some 6, none, .h (.call (.t 4) [.t 5])⟩,
    ⟨some 7, none, .p (.un .not (.t 6))⟩,
    ⟨some 3, none, .p (.mv (.t 7))⟩] [3])
  .ret)) }
theorem a92_ok : okFn Tryd.prog 92 a92 = true := by kernel_rfl
/-- loop.example/g01215/impl.layers -/
def a93 : AFn := { np := 1, nt := 9, res := [.t 2], body :=
  (.seq (.region [⟨some 1, none, .p (.box 4 (.t 0))⟩,
    ⟨some 2, none, .p (.mv (.k (.c (C.int .i64 0))))⟩] [1])
  (.seq (.region [⟨some 4, none, .h (.slA 4 1 (.t 1) none none)⟩,
    ⟨some 5, none, .h (.call (.f 109) [.t 4, .k (.c (C.int .i64 0))])⟩,
    ⟨some 3, none, .p (.mv (.t 5))⟩] [3])
  (.seq (.seq (.region [⟨some 6, none, .p (.mv (.t 3))⟩,
    ⟨some 7, none, .p (.bin .lss (.t 6) (.k (.c (C.int .i64 0))))⟩] [3, 7])
  (.cond (.t 7)
  (.seq (.region [⟨some 2, none, .p (.mv (.k (.c (C.int .i64 4))))⟩] [2])
  .ret)
  .skip))
  (.seq (.region [⟨some 8, none, .p (.mv (.t 3))⟩,
    ⟨some 2, none, .p (.mv (.t 8))⟩] [2])
  .ret)))) }
theorem a93_ok : okFn Tryd.prog 93 a93 = true := by kernel_rfl
/-- loop.example/g01215/impl.areAll[int] -/
def a94 : AFn := { np := 2, nt := 9, res := [.t 4], body :=
  (.seq (.region [⟨some 3, none, .p (.box 1 (.t 1))⟩,
    ⟨some 4, none, .p (.mv (.k (.c (C.bool false))))⟩] [0, 3])
  (.seq (.region [⟨some 5, none, .p (.mv (.t 0))⟩,
    ⟨some 6, none, .p (.mkfn 111 [.t 3])⟩,
    ⟨some 7, none, .h (.call (.f 110) [.t 5, .t 6])⟩,
    ⟨some 8, none, .p (.un .not (.t 7))⟩,
    ⟨some 4, none, .p (.mv (.t 8))⟩] [4])
  .ret)) }
theorem a94_ok : okFn Tryd.prog 94 a94 = true := by kernel_rfl
/-- loop.example/g01215/impl.isColor -/
def a95 : AFn := { np := 1, nt := 5, res := [.t 2], body :=
  (.seq (.region [⟨some 2, none, .p (.mv (.k (.c (C.bool false))))⟩] [0])
  (.seq (.region [⟨some 3, none, .p (.mv (.t 0))⟩,
    ⟨some 4, none, .h (.call (.f 40) [.t 3, .k (.c (C.int .i64 1)), .k (.c (C.int .i64 5))])⟩,
    ⟨some 2, none, .p (.mv (.t 4))⟩] [2])
  .ret)) }
theorem a95_ok : okFn Tryd.prog 95 a95 = true := by kernel_rfl
/-- loop.example/g01215/impl.isTube$1 -/
def a96 : AFn := { np := 1, nt := 5, res := [.t 2], body :=
  (.seq (.region [⟨some 2, none, .p (.mv (.k (.c (C.bool false))))⟩] [0])
  (.seq (.region [⟨some 3, none, .p (.mv (.t 0))⟩,
    ⟨some 4, none, .p (.bin .eql (.t 3) (.k (.c (C.int .i64 0))))⟩,
    ⟨some 2, none, .p (.mv (.t 4))⟩] [2])
  .ret)) }
theorem a96_ok : okFn Tryd.prog 96 a96 = true := by kernel_rfl
/-- slices.IndexFunc[[]byte,byte] -/
def a97 : AFn := { np := 2, nt := 19, res := [.t 4], body :=
  (.seq (.region [⟨some 4, none, .p (.mv (.k (.c (C.int .i64 0))))⟩] [0, 1])
  (.seq (.seq (.region [⟨some 6, none, .p (.mv (.t 0))⟩,
    ⟨some 7, none, .p (.len (.t 6))⟩,
    ⟨some 8, none, .p (.mv (.k (.c (C.int .i64 0))))⟩] [0, 1, 7, 8])
  (.block 0 (.loop (.seq (.region [⟨some 9, none, .p (.bin .lss (.t 8) (.t 7))⟩] [0, 1, 7, 8, 9])
  (.seq (.cond (.t 9)
  .skip
  (.exit 0))
  (.seq (.block 1 (.seq (.region [⟨some 10, none, .p (.mv (.t 8))⟩,
    ⟨some 5, none, .p (.mv (.t 10))⟩] [0, 1, 5, 7, 8])
  (.seq (.region [⟨some 11, none, .p (.mv (.t 1))⟩,
    ⟨some 12, none, .p (.mv (.t 0))⟩,
    ⟨some 13, none, .p (.mv (.t 5))⟩,
    ⟨some 14, none, .p (.ixS 1 (.t 12) (.t 13))⟩,
    ⟨some 15, none, .h (.load 1 false (.t 14))⟩,
    ⟨some 16, none, .h (.call (.t 11) [.t 15])⟩] [0, 1, 5, 7, 8, 16])
  (.cond (.t 16)
  (.seq (.region [⟨some 17, none, .p (.mv (.t 5))⟩,
    ⟨some 4, none, .p (.mv (.t 17))⟩] [4])
  .ret)
  .skip))))
  (.region [⟨some 18, none, .p (.bin .add (.t 8) (.k (.c (C.int .i64 1))))⟩,
    ⟨some 8, none, .p (.mv (.t 18))⟩] [0, 1, 7, 8])))) [0, 1, 7, 8])))
  (.seq (.region [⟨some 4, none, .p (.mv (.k (.c (C.int .i64 (-1)))))⟩] [4])
  .ret))) }
theorem a97_ok : okFn Tryd.prog 97 a97 = true := by kernel_rfl
/-- slices.IndexFunc[[][4]int,[4]int] -/
def a108 : AFn := { np := 2, nt := 19, res := [.t 4], body :=
  (.seq (.region [⟨some 4, none, .p (.mv (.k (.c (C.int .i64 0))))⟩] [0, 1])
  (.seq (.seq (.region [⟨some 6, none, .p (.mv (.t 0))⟩,
    ⟨some 7, none, .p (.len (.t 6))⟩,
    ⟨some 8, none, .p (.mv (.k (.c (C.int .i64 0))))⟩] [0, 1, 7, 8])
  (.block 0 (.loop (.seq (.region [⟨some 9, none, .p (.bin .lss (.t 8) (.t 7))⟩] [0, 1, 7, 8, 9])
  (.seq (.cond (.t 9)
  .skip
  (.exit 0))
  (.seq (.block 1 (.seq (.region [⟨some 10, none, .p (.mv (.t 8))⟩,
    ⟨some 5, none, .p (.mv (.t 10))⟩] [0, 1, 5, 7, 8])
  (.seq (.region [⟨some 11, none, .p (.mv (.t 1))⟩,
    ⟨some 12, none, .p (.mv (.t 0))⟩,
    ⟨some 13, none, .p (.mv (.t 5))⟩,
    ⟨some 14, none, .p (.ixS 4 (.t 12) (.t 13))⟩,
    ⟨some 15, none, .h (.load 4 true (.t 14))⟩,
    ⟨some 16, none, .h (.call (.t 11) [.t 15])⟩] [0, 1, 5, 7, 8, 16])
  (.cond (.t 16)
  (.seq (.region [⟨some 17, none, .p (.mv (.t 5))⟩,
    ⟨some 4, none, .p (.mv (.t 17))⟩] [4])
  .ret)
  .skip))))
  (.region [⟨some 18, none, .p (.bin .add (.t 8) (.k (.c (C.int .i64 1))))⟩,
    ⟨some 8, none, .p (.mv (.t 18))⟩] [0, 1, 7, 8])))) [0, 1, 7, 8])))
  (.seq (.region [⟨some 4, none, .p (.mv (.k (.c (C.int .i64 (-1)))))⟩] [4])
  .ret))) }
theorem a108_ok : okFn Tryd.prog 108 a108 = true := by kernel_rfl
/-- slices.Index[[]int,int] -/
def a109 : AFn := { np := 2, nt := 19, res := [.t 4], body :=
  (.seq (.region [⟨some 4, none, .p (.mv (.k (.c (C.int .i64 0))))⟩] [0, 1])
  (.seq (.seq (.region [⟨some 6, none, .p (.mv (.t 0))⟩,
    ⟨some 7, none, .p (.len (.t 6))⟩,
    ⟨some 8, none, .p (.mv (.k (.c (C.int .i64 0))))⟩] [0, 1, 7, 8])
  (.block 0 (.loop (.seq (.region [⟨some 9, none, .p (.bin .lss (.t 8) (.t 7))⟩] [0, 1, 7, 8, 9])
  (.seq (.cond (.t 9)
  .skip
  (.exit 0))
  (.seq (.block 1 (.seq (.region [⟨some 10, none, .p (.mv (.t 8))⟩,
    ⟨some 5, none, .p (.mv (.t 10))⟩] [0, 1, 5, 7, 8])
  (.seq (.region [⟨some 11, none, .p (.mv (.t 1))⟩,
    ⟨some 12, none, .p (.mv (.t 0))⟩,
    ⟨some 13, none, .p (.mv (.t 5))⟩,
    ⟨some 14, none, .p (.ixS 1 (.t 12) (.t 13))⟩,
    ⟨some 15, none, .h (.load 1 false (.t 14))⟩,
    ⟨some 16, none, .p (.bin .eql (.t 11) (.t 15))⟩] [0, 1, 5, 7, 8, 16])
  (.cond (.t 16)
  (.seq (.region [⟨some 17, none, .p (.mv (.t 5))⟩,
    ⟨some 4, none, .p (.mv (.t 17))⟩] [4])
  .ret)
  .skip))))
  (.region [⟨some 18, none, .p (.bin .add (.t 8) (.k (.c (C.int .i64 1))))⟩,
    ⟨some 8, none, .p (.mv (.t 18))⟩] [0, 1, 7, 8])))) [0, 1, 7, 8])))
  (.seq (.region [⟨some 4, none, .p (.mv (.k (.c (C.int .i64 (-1)))))⟩] [4])
  .ret))) }
theorem a109_ok : okFn Tryd.prog 109 a109 = true := by kernel_rfl
/-- slices.ContainsFunc[[]int,int] -/
def a110 : AFn := { np := 2, nt := 9, res := [.t 4], body :=
  (.seq (.region [⟨some 4, none, .p (.mv (.k (.c (C.bool false))))⟩] [0, 1])
  (.seq (.region [⟨some 5, none, .p (.mv (.t 0))⟩,
    ⟨some 6, none, .p (.mv (.t 1))⟩,
    ⟨some 7, none, .h (.call (.f 116) [.t 5, .t 6])⟩,
    ⟨some 8, none, .p (.bin .geq (.t 7) (.k (.c (C.int .i64 0))))⟩,
    ⟨some 4, none, .p (.mv (.t 8))⟩] [4])
  .ret)) }
theorem a110_ok : okFn Tryd.prog 110 a110 = true := by kernel_rfl
/-- loop.example/g01215/impl.areAll[int]$1 -/
def a111 : AFn := { np := 2, nt := 8, res := [.t 3], body :=
  (.seq (.region [⟨some 3, none, .p (.mv (.k (.c (C.bool false))))⟩] [0, 1])
  (.seq (.region [⟨some 4, none, .h (.load 1 false (.t 1))⟩,
    ⟨some 5, none, .p (.mv (.t 0))⟩,
    ⟨some 6, none, .h (.call (.t 4) [.t 5])⟩,
    ⟨some 7, none, .p (.un .not (.t 6))⟩,
    ⟨some 3, none, .p (.mv (.t 7))⟩] [3])
  .ret)) }
theorem a111_ok : okFn Tryd.prog 111 a111 = true := by kernel_rfl
/-- slices.IndexFunc[[]int,int] -/
def a116 : AFn := { np := 2, nt := 19, res := [.t 4], body :=
  (.seq (.region [⟨some 4, none, .p (.mv (.k (.c (C.int .i64 0))))⟩] [0, 1])
  (.seq (.seq (.region [⟨some 6, none, .p (.mv (.t 0))⟩,
    ⟨some 7, none, .p (.len (.t 6))⟩,
    ⟨some 8, none, .p (.mv (.k (.c (C.int .i64 0))))⟩] [0, 1, 7, 8])
  (.block 0 (.loop (.seq (.region [⟨some 9, none, .p (.bin .lss (.t 8) (.t 7))⟩] [0, 1, 7, 8, 9])
  (.seq (.cond (.t 9)
  .skip
  (.exit 0))
  (.seq (.block 1 (.seq (.region [⟨some 10, none, .p (.mv (.t 8))⟩,
    ⟨some 5, none, .p (.mv (.t 10))⟩] [0, 1, 5, 7, 8])
  (.seq (.region [⟨some 11, none, .p (.mv (.t 1))⟩,
    ⟨some 12, none, .p (.mv (.t 0))⟩,
    ⟨some 13, none, .p (.mv (.t 5))⟩,
    ⟨some 14, none, .p (.ixS 1 (.t 12) (.t 13))⟩,
    ⟨some 15, none, .h (.load 1 false (.t 14))⟩,
    ⟨some 16, none, .h (.call (.t 11) [.t 15])⟩] [0, 1, 5, 7, 8, 16])
  (.cond (.t 16)
  (.seq (.region [⟨some 17, none, .p (.mv (.t 5))⟩,
    ⟨some 4, none, .p (.mv (.t 17))⟩] [4])
  .ret)
  .skip))))
  (.region [⟨some 18, none, .p (.bin .add (.t 8) (.k (.c (C.int .i64 1))))⟩,
    ⟨some 8, none, .p (.mv (.t 18))⟩] [0, 1, 7, 8])))) [0, 1, 7, 8])))
  (.seq (.region [⟨some 4, none, .p (.mv (.k (.c (C.int .i64 (-1)))))⟩] [4])
  .ret))) }
theorem a116_ok : okFn Tryd.prog 116 a116 = true := by kernel_rfl
def prA : Prog
  | 3 => some a3
  | 4 => some a4
  | 5 => some a5
  | 6 => some a6
  | 7 => some a7
  | 8 => some a8
  | 9 => some a9
  | 10 => some a10
  | 11 => some a11
  | 12 => some a12
  | 13 => some a13
  | 14 => some a14
  | 15 => some a15
  | 16 => some a16
  | 17 => some a17
  | 18 => some a18
  | 19 => some a19
  | 20 => some a20
  | 21 => some a21
  | 22 => some a22
  | 23 => some a23
  | 24 => some a24
  | 25 => some a25
  | 26 => some a26
  | 27 => some a27
  | 28 => some a28
  | 29 => some a29
  | 30 => some a30
  | 31 => some a31
  | 32 => some a32
  | 33 => some a33
  | 34 => some a34
  | 35 => some a35
  | 36 => some a36
  | 37 => some a37
  | 38 => some a38
  | 39 => some a39
  | 40 => some a40
  | 41 => some a41
  | 42 => some a42
  | 44 => some a44
  | 45 => some a45
  | 46 => some a46
  | 47 => some a47
  | 48 => some a48
  | 49 => some a49
  | 50 => some a50
  | 51 => some a51
  | 52 => some a52
  | 53 => some a53
  | 54 => some a54
  | 55 => some a55
  | 56 => some a56
  | 57 => some a57
  | 58 => some a58
  | 60 => some a60
  | 62 => some a62
  | 63 => some a63
  | 64 => some a64
  | 66 => some a66
  | 67 => some a67
  | 68 => some a68
  | 69 => some a69
  | 70 => some a70
  | 71 => some a71
  | 75 => some a75
  | 78 => some a78
  | 79 => some a79
  | 80 => some a80
  | 81 => some a81
  | 82 => some a82
  | 90 => some a90
  | 91 => some a91
  | 92 => some a92
  | 93 => some a93
  | 94 => some a94
  | 95 => some a95
  | 96 => some a96
  | 97 => some a97
  | 108 => some a108
  | 109 => some a109
  | 110 => some a110
  | 111 => some a111
  | 116 => some a116
  | _ => none
theorem prA_ok : ProgOK Tryd.prog prA := by
  intro f fn h
  unfold prA at h
  split at h
  · injection h with h; subst h; exact a3_ok
  · injection h with h; subst h; exact a4_ok
  · injection h with h; subst h; exact a5_ok
  · injection h with h; subst h; exact a6_ok
  · injection h with h; subst h; exact a7_ok
  · injection h with h; subst h; exact a8_ok
  · injection h with h; subst h; exact a9_ok
  · injection h with h; subst h; exact a10_ok
  · injection h with h; subst h; exact a11_ok
  · injection h with h; subst h; exact a12_ok
  · injection h with h; subst h; exact a13_ok
  · injection h with h; subst h; exact a14_ok
  · injection h with h; subst h; exact a15_ok
  · injection h with h; subst h; exact a16_ok
  · injection h with h; subst h; exact a17_ok
  · injection h with h; subst h; exact a18_ok
  · injection h with h; subst h; exact a19_ok
  · injection h with h; subst h; exact a20_ok
  · injection h with h; subst h; exact a21_ok
  · injection h with h; subst h; exact a22_ok
  · injection h with h; subst h; exact a23_ok
  · injection h with h; subst h; exact a24_ok
  · injection h with h; subst h; exact a25_ok
  · injection h with h; subst h; exact a26_ok
  · injection h with h; subst h; exact a27_ok
  · injection h with h; subst h; exact a28_ok
  · injection h with h; subst h; exact a29_ok
  · injection h with h; subst h; exact a30_ok
  · injection h with h; subst h; exact a31_ok
  · injection h with h; subst h; exact a32_ok
  · injection h with h; subst h; exact a33_ok
  · injection h with h; subst h; exact a34_ok
  · injection h with h; subst h; exact a35_ok
  · injection h with h; subst h; exact a36_ok
  · injection h with h; subst h; exact a37_ok
  · injection h with h; subst h; exact a38_ok
  · injection h with h; subst h; exact a39_ok
  · injection h with h; subst h; exact a40_ok
  · injection h with h; subst h; exact a41_ok
  · injection h with h; subst h; exact a42_ok
  · injection h with h; subst h; exact a44_ok
  · injection h with h; subst h; exact a45_ok
  · injection h with h; subst h; exact a46_ok
  · injection h with h; subst h; exact a47_ok
  · injection h with h; subst h; exact a48_ok
  · injection h with h; subst h; exact a49_ok
  · injection h with h; subst h; exact a50_ok
  · injection h with h; subst h; exact a51_ok
  · injection h with h; subst h; exact a52_ok
  · injection h with h; subst h; exact a53_ok
  · injection h with h; subst h; exact a54_ok
  · injection h with h; subst h; exact a55_ok
  · injection h with h; subst h; exact a56_ok
  · injection h with h; subst h; exact a57_ok
  · injection h with h; subst h; exact a58_ok
  · injection h with h; subst h; exact a60_ok
  · injection h with h; subst h; exact a62_ok
  · injection h with h; subst h; exact a63_ok
  · injection h with h; subst h; exact a64_ok
  · injection h with h; subst h; exact a66_ok
  · injection h with h; subst h; exact a67_ok
  · injection h with h; subst h; exact a68_ok
  · injection h with h; subst h; exact a69_ok
  · injection h with h; subst h; exact a70_ok
  · injection h with h; subst h; exact a71_ok
  · injection h with h; subst h; exact a75_ok
  · injection h with h; subst h; exact a78_ok
  · injection h with h; subst h; exact a79_ok
  · injection h with h; subst h; exact a80_ok
  · injection h with h; subst h; exact a81_ok
  · injection h with h; subst h; exact a82_ok
  · injection h with h; subst h; exact a90_ok
  · injection h with h; subst h; exact a91_ok
  · injection h with h; subst h; exact a92_ok
  · injection h with h; subst h; exact a93_ok
  · injection h with h; subst h; exact a94_ok
  · injection h with h; subst h; exact a95_ok
  · injection h with h; subst h; exact a96_ok
  · injection h with h; subst h; exact a97_ok
  · injection h with h; subst h; exact a108_ok
  · injection h with h; subst h; exact a109_ok
  · injection h with h; subst h; exact a110_ok
  · injection h with h; subst h; exact a111_ok
  · injection h with h; subst h; exact a116_ok
  · cases h
end Go.Proofs.YtgkmdnngbbgboaaDoor.AM
