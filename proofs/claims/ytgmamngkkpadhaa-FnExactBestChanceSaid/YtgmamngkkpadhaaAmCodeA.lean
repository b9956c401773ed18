/- the functions' code in the abstract machine: printed by a program (wip/tools/genparts.py) out of the loaded program -/
import Derived.Test.YtgmamngkkpadhaaAmD
import Derived.Test.YtgmamngkkpadhaaProg
import Derived.KernelRfl
namespace Go.Proofs.Ytgmamngkkpadhaa.AM
open Go
set_option maxRecDepth 100000
/-- loop.example/g01215/laws.FnExactDealSame -/
def a3 : AFn := { np := 2, nt := 34, res := [.t 4], body :=
  (.seq (.region [⟨some 2, none, .p (.box 6 (.t 0))⟩,
    ⟨some 3, none, .p (.box 6 (.t 1))⟩,
    ⟨some 4, none, .p (.mv (.k (.c (C.bool false))))⟩] [2, 3])
  (.seq (.regionD [⟨some 10, none, .h (.load 6 true (.t 2))⟩,
    ⟨some 11, none, .h (.call (.f 34) [.t 10])⟩,
    ⟨some 12, none, .h (.load 6 true (.t 3))⟩,
    ⟨some 13, none, .h (.call (.f 34) [.t 12])⟩,
    ⟨some 14, none, .h (.call (.f 33) [.t 11, .t 13])⟩,
    ⟨some 9, none, .p (.mv (.t 14))⟩,
    ⟨some 15, none, .p (.ext (.t 9) 0)⟩,
    ⟨some 16, none, .p (.ext (.t 9) 1)⟩,
    ⟨some 5, none, .p (.alloc [.k (C.int .i64 0), .k (C.int .i64 0)])⟩,
    ⟨none, none, .h (.store 2 (.t 5) (.t 15))⟩,
    ⟨some 6, none, .p (.mv (.t 16))⟩] [2, 3, 5, 6] [])
  (.seq (.regionD [⟨some 18, none, .h (.load 6 true (.t 2))⟩,
    ⟨some 19, none, .h (.call (.f 34) [.t 18])⟩,
    ⟨some 20, none, .h (.load 6 true (.t 3))⟩,
    ⟨some 21, none, .h (.call (.f 34) [.t 20])⟩,
    ⟨some 22, none, .h (.call (.f 35) [.t 19, .t 21])⟩,
    ⟨some 17, none, .p (.mv (.t 22))⟩,
    ⟨some 23, none, .p (.ext (.t 17) 0)⟩,
    ⟨some 24, none, .p (.ext (.t 17) 1)⟩,
    ⟨some 7, none, .p (.alloc [.k (C.int .i64 0), .k (C.int .i64 0)])⟩,
    ⟨none, none, .h (.store 2 (.t 7) (.t 23))⟩,
    ⟨some 8, none, .p (.mv (.t 24))⟩] [5, 6, 7, 8] [])
  (.seq (.seq (.region [⟨some 25, none, .h (.load 2 true (.t 7))⟩,
    ⟨some 26, none, .h (.load 2 true (.t 5))⟩,
    ⟨some 27, none, .h (.call (.f 36) [.t 25, .t 26])⟩,
    ⟨some 28, none, .p (.un .not (.t 27))⟩,
    ⟨some 29, none, .p (.mv (.t 28))⟩,
    ⟨some 30, some (29, false), .p (.mv (.t 8))⟩,
    ⟨some 31, some (29, false), .p (.mv (.t 6))⟩,
    ⟨some 32, some (29, false), .p (.eqb true (.t 30) (.t 31))⟩,
    ⟨some 33, none, .p (.pick (.t 29) (.k (.c (C.bool true))) (.t 32))⟩] [33])
  (.cond (.t 33)
  (.seq (.region [⟨some 4, none, .p (.mv (.k (.c (C.bool false))))⟩] [4])
  .ret)
  .skip))
  (.seq (.region [⟨some 4, none, .p (.mv (.k (.c (C.bool true))))⟩] [4])
  .ret))))) }
theorem a3_ok : okFn Try.prog 3 a3 = true := by kernel_rfl
/-- loop.example/g01215/laws.FnExactIsLost -/
def a4 : AFn := { np := 1, nt := 27, res := [.t 2], body :=
  (.seq (.region [⟨some 1, none, .p (.box 24 (.t 0))⟩,
    ⟨some 2, none, .p (.mv (.k (.c (C.bool false))))⟩] [1])
  (.seq (.region [⟨some 8, none, .h (.load 24 true (.t 1))⟩,
    ⟨some 9, none, .h (.call (.f 38) [.t 8])⟩,
    ⟨some 10, none, .h (.call (.f 37) [.t 9])⟩,
    ⟨some 7, none, .p (.mv (.t 10))⟩,
    ⟨some 11, none, .p (.ext (.t 7) 0)⟩,
    ⟨some 12, none, .p (.ext (.t 7) 1)⟩,
    ⟨some 3, none, .p (.mv (.t 11))⟩,
    ⟨some 4, none, .p (.mv (.t 12))⟩] [1, 3, 4])
  (.seq (.region [⟨some 14, none, .h (.load 24 true (.t 1))⟩,
    ⟨some 15, none, .h (.call (.f 38) [.t 14])⟩,
    ⟨some 16, none, .h (.call (.f 39) [.t 15])⟩,
    ⟨some 13, none, .p (.mv (.t 16))⟩,
    ⟨some 17, none, .p (.ext (.t 13) 0)⟩,
    ⟨some 18, none, .p (.ext (.t 13) 1)⟩,
    ⟨some 5, none, .p (.mv (.t 17))⟩,
    ⟨some 6, none, .p (.mv (.t 18))⟩] [3, 4, 5, 6])
  (.seq (.seq (.region [⟨some 19, none, .p (.mv (.t 5))⟩,
    ⟨some 20, none, .p (.mv (.t 3))⟩,
    ⟨some 21, none, .p (.eqb true (.t 19) (.t 20))⟩,
    ⟨some 22, none, .p (.mv (.t 21))⟩,
    ⟨some 23, some (22, false), .p (.mv (.t 6))⟩,
    ⟨some 24, some (22, false), .p (.mv (.t 4))⟩,
    ⟨some 25, some (22, false), .p (.eqb true (.t 23) (.t 24))⟩,
    ⟨some 26, none, .p (.pick (.t 22) (.k (.c (C.bool true))) (.t 25))⟩] [26])
  (.cond (.t 26)
  (.seq (.region [⟨some 2, none, .p (.mv (.k (.c (C.bool false))))⟩] [2])
  .ret)
  .skip))
  (.seq (.region [⟨some 2, none, .p (.mv (.k (.c (C.bool true))))⟩] [2])
  .ret))))) }
theorem a4_ok : okFn Try.prog 4 a4 = true := by kernel_rfl
/-- loop.example/g01215/laws.FnExactEndValue -/
def a5 : AFn := { np := 2, nt := 31, res := [.t 4], body :=
  (.seq (.region [⟨some 2, none, .p (.box 24 (.t 0))⟩,
    ⟨some 4, none, .p (.mv (.k (.c (C.bool false))))⟩] [1, 2])
  (.seq (.region [⟨some 10, none, .h (.load 24 true (.t 2))⟩,
    ⟨some 11, none, .h (.call (.f 38) [.t 10])⟩,
    ⟨some 12, none, .p (.mv (.t 1))⟩,
    ⟨some 13, none, .h (.call (.f 40) [.t 11, .t 12])⟩,
    ⟨some 9, none, .p (.mv (.t 13))⟩,
    ⟨some 14, none, .p (.ext (.t 9) 0)⟩,
    ⟨some 15, none, .p (.ext (.t 9) 1)⟩,
    ⟨some 5, none, .p (.mv (.t 14))⟩,
    ⟨some 6, none, .p (.mv (.t 15))⟩] [1, 2, 5, 6])
  (.seq (.region [⟨some 17, none, .h (.load 24 true (.t 2))⟩,
    ⟨some 18, none, .h (.call (.f 38) [.t 17])⟩,
    ⟨some 19, none, .p (.mv (.t 1))⟩,
    ⟨some 20, none, .h (.call (.f 41) [.t 18, .t 19])⟩,
    ⟨some 16, none, .p (.mv (.t 20))⟩,
    ⟨some 21, none, .p (.ext (.t 16) 0)⟩,
    ⟨some 22, none, .p (.ext (.t 16) 1)⟩,
    ⟨some 7, none, .p (.mv (.t 21))⟩,
    ⟨some 8, none, .p (.mv (.t 22))⟩] [5, 6, 7, 8])
  (.seq (.seq (.region [⟨some 23, none, .p (.mv (.t 7))⟩,
    ⟨some 24, none, .p (.mv (.t 5))⟩,
    ⟨some 25, none, .p (.bin .neq (.t 23) (.t 24))⟩,
    ⟨some 26, none, .p (.mv (.t 25))⟩,
    ⟨some 27, some (26, false), .p (.mv (.t 8))⟩,
    ⟨some 28, some (26, false), .p (.mv (.t 6))⟩,
    ⟨some 29, some (26, false), .p (.eqb true (.t 27) (.t 28))⟩,
    ⟨some 30, none, .p (.pick (.t 26) (.k (.c (C.bool true))) (.t 29))⟩] [30])
  (.cond (.t 30)
  (.seq (.region [⟨some 4, none, .p (.mv (.k (.c (C.bool false))))⟩] [4])
  .ret)
  .skip))
  (.seq (.region [⟨some 4, none, .p (.mv (.k (.c (C.bool true))))⟩] [4])
  .ret))))) }
theorem a5_ok : okFn Try.prog 5 a5 = true := by kernel_rfl
/-- loop.example/g01215/laws.FnExactCountReplies -/
def a6 : AFn := { np := 1, nt := 66, res := [.t 2], body :=
  (.seq (.region [⟨some 1, none, .p (.box 24 (.t 0))⟩,
    ⟨some 2, none, .p (.mv (.k (.c (C.bool false))))⟩] [1])
  (.seq (.region [⟨some 12, none, .h (.load 24 true (.t 1))⟩,
    ⟨some 13, none, .h (.call (.f 38) [.t 12])⟩,
    ⟨some 14, none, .h (.call (.f 42) [.t 13])⟩,
    ⟨some 11, none, .p (.mv (.t 14))⟩,
    ⟨some 15, none, .p (.ext (.t 11) 0)⟩,
    ⟨some 16, none, .p (.ext (.t 11) 1)⟩,
    ⟨some 3, none, .p (.mv (.t 15))⟩,
    ⟨some 4, none, .p (.mv (.t 16))⟩] [1, 3, 4])
  (.seq (.region [⟨some 18, none, .h (.load 24 true (.t 1))⟩,
    ⟨some 19, none, .h (.call (.f 38) [.t 18])⟩,
    ⟨some 20, none, .h (.call (.f 43) [.t 19])⟩,
    ⟨some 17, none, .p (.mv (.t 20))⟩,
    ⟨some 21, none, .p (.ext (.t 17) 0)⟩,
    ⟨some 22, none, .p (.ext (.t 17) 1)⟩,
    ⟨some 5, none, .p (.mv (.t 21))⟩,
    ⟨some 6, none, .p (.mv (.t 22))⟩] [1, 3, 4, 5, 6])
  (.seq (.seq (.region [⟨some 23, none, .p (.mv (.t 5))⟩,
    ⟨some 24, none, .p (.mv (.t 3))⟩,
    ⟨some 25, none, .h (.call (.f 44) [.t 23, .t 24])⟩,
    ⟨some 26, none, .p (.un .not (.t 25))⟩,
    ⟨some 27, none, .p (.mv (.t 26))⟩,
    ⟨some 28, some (27, false), .p (.mv (.t 6))⟩,
    ⟨some 29, some (27, false), .p (.mv (.t 4))⟩,
    ⟨some 30, some (27, false), .p (.eqb true (.t 28) (.t 29))⟩,
    ⟨some 31, none, .p (.pick (.t 27) (.k (.c (C.bool true))) (.t 30))⟩] [1, 3, 4, 5, 31])
  (.cond (.t 31)
  (.seq (.region [⟨some 2, none, .p (.mv (.k (.c (C.bool false))))⟩] [2])
  .ret)
  .skip))
  (.seq (.region [⟨some 7, none, .p (.mv (.k (.c (C.int .i64 1))))⟩] [1, 3, 4, 5, 7])
  (.seq (.region [⟨some 32, none, .p (.mv (.t 5))⟩,
    ⟨some 33, none, .p (.mv (.t 7))⟩,
    ⟨some 34, none, .h (.call (.f 45) [.t 32, .t 33])⟩,
    ⟨some 7, none, .p (.mv (.t 34))⟩] [1, 3, 4, 5, 7])
  (.seq (.region [⟨some 8, none, .p (.mv (.k (.c (C.int .i64 1))))⟩] [1, 3, 4, 5, 7, 8])
  (.seq (.region [⟨some 35, none, .p (.mv (.t 5))⟩,
    ⟨some 36, none, .p (.mv (.t 8))⟩,
    ⟨some 37, none, .h (.call (.f 46) [.t 35, .t 36])⟩,
    ⟨some 8, none, .p (.mv (.t 37))⟩] [1, 3, 4, 5, 7, 8])
  (.seq (.seq (.region [⟨some 38, none, .p (.mv (.t 8))⟩,
    ⟨some 39, none, .p (.bin .lss (.t 38) (.k (.c (C.int .i64 0))))⟩] [1, 3, 4, 5, 7, 8, 39])
  (.cond (.t 39)
  (.seq (.region [⟨some 2, none, .p (.mv (.k (.c (C.bool false))))⟩] [2])
  .ret)
  .skip))
  (.seq (.seq (.region [⟨some 40, none, .p (.mv (.t 8))⟩,
    ⟨some 41, none, .p (.mv (.t 7))⟩,
    ⟨some 42, none, .p (.bin .neq (.t 40) (.t 41))⟩] [1, 3, 4, 5, 7, 42])
  (.cond (.t 42)
  (.seq (.region [⟨some 2, none, .p (.mv (.k (.c (C.bool false))))⟩] [2])
  .ret)
  .skip))
  (.seq (.region [⟨some 44, none, .h (.load 24 true (.t 1))⟩,
    ⟨some 45, none, .h (.call (.f 38) [.t 44])⟩,
    ⟨some 46, none, .h (.call (.f 43) [.t 45])⟩,
    ⟨some 43, none, .p (.mv (.t 46))⟩,
    ⟨some 47, none, .p (.ext (.t 43) 0)⟩,
    ⟨some 48, none, .p (.ext (.t 43) 1)⟩,
    ⟨some 9, none, .p (.mv (.t 47))⟩,
    ⟨some 10, none, .p (.mv (.t 48))⟩] [3, 4, 5, 7, 9, 10])
  (.seq (.seq (.region [⟨some 49, none, .p (.mv (.t 9))⟩,
    ⟨some 50, none, .p (.mv (.t 3))⟩,
    ⟨some 51, none, .h (.call (.f 44) [.t 49, .t 50])⟩,
    ⟨some 52, none, .p (.un .not (.t 51))⟩,
    ⟨some 53, none, .p (.mv (.t 52))⟩,
    ⟨some 54, some (53, false), .p (.mv (.t 10))⟩,
    ⟨some 55, some (53, false), .p (.mv (.t 4))⟩,
    ⟨some 56, some (53, false), .p (.eqb true (.t 54) (.t 55))⟩,
    ⟨some 57, none, .p (.pick (.t 53) (.k (.c (C.bool true))) (.t 56))⟩] [5, 7, 57])
  (.cond (.t 57)
  (.seq (.region [⟨some 2, none, .p (.mv (.k (.c (C.bool false))))⟩] [2])
  .ret)
  .skip))
  (.seq (.region [⟨some 8, none, .p (.mv (.k (.c (C.int .i64 1))))⟩] [5, 7, 8])
  (.seq (.region [⟨some 58, none, .p (.mv (.t 5))⟩,
    ⟨some 59, none, .p (.mv (.t 8))⟩,
    ⟨some 60, none, .h (.call (.f 46) [.t 58, .t 59])⟩,
    ⟨some 8, none, .p (.mv (.t 60))⟩] [7, 8])
  (.seq (.seq (.region [⟨some 61, none, .p (.mv (.t 8))⟩,
    ⟨some 62, none, .p (.bin .lss (.t 61) (.k (.c (C.int .i64 0))))⟩] [7, 8, 62])
  (.cond (.t 62)
  (.seq (.region [⟨some 2, none, .p (.mv (.k (.c (C.bool false))))⟩] [2])
  .ret)
  .skip))
  (.seq (.seq (.region [⟨some 63, none, .p (.mv (.t 8))⟩,
    ⟨some 64, none, .p (.mv (.t 7))⟩,
    ⟨some 65, none, .p (.bin .neq (.t 63) (.t 64))⟩] [65])
  (.cond (.t 65)
  (.seq (.region [⟨some 2, none, .p (.mv (.k (.c (C.bool false))))⟩] [2])
  .ret)
  .skip))
  (.seq (.region [⟨some 2, none, .p (.mv (.k (.c (C.bool true))))⟩] [2])
  .ret))))))))))))))))) }
theorem a6_ok : okFn Try.prog 6 a6 = true := by kernel_rfl
/-- loop.example/g01215/laws.FnExactIsReplay -/
def a7 : AFn := { np := 1, nt := 27, res := [.t 2], body :=
  (.seq (.region [⟨some 1, none, .p (.box 25 (.t 0))⟩,
    ⟨some 2, none, .p (.mv (.k (.c (C.bool false))))⟩] [1])
  (.seq (.region [⟨some 3, none, .p (.mv (.k (.c (C.int .i64 1048576))))⟩] [1, 3])
  (.seq (.region [⟨some 7, none, .h (.load 25 true (.t 1))⟩,
    ⟨some 8, none, .p (.mv (.t 3))⟩,
    ⟨some 9, none, .h (.call (.f 47) [.t 7, .t 8])⟩,
    ⟨some 3, none, .p (.mv (.t 9))⟩] [1, 3])
  (.seq (.seq (.region [⟨some 10, none, .p (.mv (.t 3))⟩,
    ⟨some 11, none, .p (.bin .lss (.t 10) (.k (.c (C.int .i64 0))))⟩] [1, 11])
  (.cond (.t 11)
  (.seq (.region [⟨some 2, none, .p (.mv (.k (.c (C.bool true))))⟩] [2])
  .ret)
  .skip))
  (.seq (.region [⟨some 12, none, .h (.load 25 true (.t 1))⟩,
    ⟨some 13, none, .h (.call (.f 49) [.t 12])⟩,
    ⟨some 14, none, .h (.call (.f 48) [.t 13])⟩,
    ⟨some 4, none, .p (.mv (.t 14))⟩] [1, 4])
  (.seq (.region [⟨some 15, none, .h (.load 25 true (.t 1))⟩,
    ⟨some 16, none, .h (.call (.f 49) [.t 15])⟩,
    ⟨some 5, none, .p (.alloc [.k (C.int .i64 0), .k (C.int .i64 0), .k (C.int .i64 0), .k (C.int .i64 0), .k (C.int .i64 0), .k (C.int .i64 0), .k (C.int .i64 0), .k (C.int .i64 0), .k (C.int .i64 0), .k (C.int .i64 0), .k (C.int .i64 0), .k (C.int .i64 0), .k (C.int .i64 0), .k (C.int .i64 0), .k (C.int .i64 0), .k (C.int .i64 0), .k (C.int .i64 0), .k (C.int .i64 0), .k (C.int .i64 0), .k (C.int .i64 0), .k (C.int .i64 0), .k (C.int .i64 0), .k (C.int .i64 0), .k (C.int .i64 0), .sl 2])⟩,
    ⟨none, none, .h (.store 25 (.t 5) (.t 16))⟩] [1, 4, 5])
  (.seq (.region [⟨some 17, none, .h (.load 25 true (.t 5))⟩,
    ⟨some 18, none, .h (.call (.f 50) [.t 17])⟩,
    ⟨some 6, none, .p (.mv (.t 18))⟩] [1, 4, 5, 6])
  (.seq (.seq (.region [⟨some 19, none, .p (.mv (.t 6))⟩,
    ⟨some 20, none, .p (.mv (.t 4))⟩,
    ⟨some 21, none, .p (.eqb true (.t 19) (.t 20))⟩] [1, 5, 21])
  (.cond (.t 21)
  (.seq (.region [⟨some 2, none, .p (.mv (.k (.c (C.bool false))))⟩] [2])
  .ret)
  .skip))
  (.seq (.seq (.regionD [⟨some 22, none, .h (.load 25 true (.t 5))⟩,
    ⟨some 23, none, .h (.load 25 true (.t 1))⟩,
    ⟨some 24, none, .h (.call (.f 49) [.t 23])⟩,
    ⟨some 25, none, .h (.call (.f 51) [.t 22, .t 24])⟩,
    ⟨some 26, none, .p (.un .not (.t 25))⟩] [26] [])
  (.cond (.t 26)
  (.seq (.region [⟨some 2, none, .p (.mv (.k (.c (C.bool false))))⟩] [2])
  .ret)
  .skip))
  (.seq (.region [⟨some 2, none, .p (.mv (.k (.c (C.bool true))))⟩] [2])
  .ret)))))))))) }
theorem a7_ok : okFn Try.prog 7 a7 = true := by kernel_rfl
/-- loop.example/g01215/laws.FnExactReplayRack -/
def a8 : AFn := { np := 2, nt := 45, res := [.t 4], body :=
  (.seq (.region [⟨some 2, none, .p (.box 25 (.t 0))⟩,
    ⟨some 4, none, .p (.mv (.k (.c (C.bool false))))⟩] [1, 2])
  (.seq (.region [⟨some 5, none, .p (.mv (.k (.c (C.int .i64 1048576))))⟩] [1, 2, 5])
  (.seq (.region [⟨some 11, none, .h (.load 25 true (.t 2))⟩,
    ⟨some 12, none, .p (.mv (.t 5))⟩,
    ⟨some 13, none, .h (.call (.f 47) [.t 11, .t 12])⟩,
    ⟨some 5, none, .p (.mv (.t 13))⟩] [1, 2, 5])
  (.seq (.seq (.region [⟨some 14, none, .p (.mv (.t 5))⟩,
    ⟨some 15, none, .p (.bin .lss (.t 14) (.k (.c (C.int .i64 0))))⟩] [1, 2, 15])
  (.cond (.t 15)
  (.seq (.region [⟨some 4, none, .p (.mv (.k (.c (C.bool true))))⟩] [4])
  .ret)
  .skip))
  (.seq (.region [⟨some 17, none, .h (.load 25 true (.t 2))⟩,
    ⟨some 18, none, .h (.call (.f 49) [.t 17])⟩,
    ⟨some 19, none, .p (.mv (.t 1))⟩,
    ⟨some 20, none, .h (.call (.f 52) [.t 18, .t 19])⟩,
    ⟨some 16, none, .p (.mv (.t 20))⟩,
    ⟨some 21, none, .p (.ext (.t 16) 0)⟩,
    ⟨some 22, none, .p (.ext (.t 16) 1)⟩,
    ⟨some 6, none, .p (.alloc (List.replicate 24 (.k (C.int .i64 0))))⟩,
    ⟨none, none, .h (.store 24 (.t 6) (.t 21))⟩,
    ⟨some 7, none, .p (.mv (.t 22))⟩] [1, 2, 6, 7])
  (.seq (.region [⟨some 23, none, .h (.load 25 true (.t 2))⟩,
    ⟨some 24, none, .h (.call (.f 49) [.t 23])⟩,
    ⟨some 8, none, .p (.alloc [.k (C.int .i64 0), .k (C.int .i64 0), .k (C.int .i64 0), .k (C.int .i64 0), .k (C.int .i64 0), .k (C.int .i64 0), .k (C.int .i64 0), .k (C.int .i64 0), .k (C.int .i64 0), .k (C.int .i64 0), .k (C.int .i64 0), .k (C.int .i64 0), .k (C.int .i64 0), .k (C.int .i64 0), .k (C.int .i64 0), .k (C.int .i64 0), .k (C.int .i64 0), .k (C.int .i64 0), .k (C.int .i64 0), .k (C.int .i64 0), .k (C.int .i64 0), .k (C.int .i64 0), .k (C.int .i64 0), .k (C.int .i64 0), .sl 2])⟩,
    ⟨none, none, .h (.store 25 (.t 8) (.t 24))⟩] [1, 2, 6, 7, 8])
  (.seq (.region [⟨some 26, none, .h (.load 25 true (.t 8))⟩,
    ⟨some 27, none, .p (.mv (.t 1))⟩,
    ⟨some 28, none, .h (.call (.f 53) [.t 26, .t 27])⟩,
    ⟨some 25, none, .p (.mv (.t 28))⟩,
    ⟨some 29, none, .p (.ext (.t 25) 0)⟩,
    ⟨some 30, none, .p (.ext (.t 25) 1)⟩,
    ⟨some 9, none, .p (.alloc (List.replicate 24 (.k (C.int .i64 0))))⟩,
    ⟨none, none, .h (.store 24 (.t 9) (.t 29))⟩,
    ⟨some 10, none, .p (.mv (.t 30))⟩] [2, 6, 7, 8, 9, 10])
  (.seq (.seq (.region [⟨some 31, none, .h (.load 24 true (.t 9))⟩,
    ⟨some 32, none, .h (.load 24 true (.t 6))⟩,
    ⟨some 33, none, .h (.call (.f 54) [.t 31, .t 32])⟩,
    ⟨some 34, none, .p (.un .not (.t 33))⟩,
    ⟨some 35, none, .p (.mv (.t 34))⟩,
    ⟨some 36, some (35, false), .p (.mv (.t 10))⟩,
    ⟨some 37, some (35, false), .p (.mv (.t 7))⟩,
    ⟨some 38, some (35, false), .p (.eqb true (.t 36) (.t 37))⟩,
    ⟨some 39, none, .p (.pick (.t 35) (.k (.c (C.bool true))) (.t 38))⟩] [2, 8, 39])
  (.cond (.t 39)
  (.seq (.region [⟨some 4, none, .p (.mv (.k (.c (C.bool false))))⟩] [4])
  .ret)
  .skip))
  (.seq (.seq (.regionD [⟨some 40, none, .h (.load 25 true (.t 8))⟩,
    ⟨some 41, none, .h (.load 25 true (.t 2))⟩,
    ⟨some 42, none, .h (.call (.f 49) [.t 41])⟩,
    ⟨some 43, none, .h (.call (.f 51) [.t 40, .t 42])⟩,
    ⟨some 44, none, .p (.un .not (.t 43))⟩] [44] [])
  (.cond (.t 44)
  (.seq (.region [⟨some 4, none, .p (.mv (.k (.c (C.bool false))))⟩] [4])
  .ret)
  .skip))
  (.seq (.region [⟨some 4, none, .p (.mv (.k (.c (C.bool true))))⟩] [4])
  .ret)))))))))) }
theorem a8_ok : okFn Try.prog 8 a8 = true := by kernel_rfl
/-- loop.example/g01215/laws.FnExactPlayParty -/
def a9 : AFn := { np := 2, nt := 66, res := [.t 4], body :=
  (.seq (.region [⟨some 2, none, .p (.box 24 (.t 0))⟩,
    ⟨some 4, none, .p (.mv (.k (.c (C.bool false))))⟩] [1, 2])
  (.seq (.region [⟨some 5, none, .p (.mv (.k (.c (C.int .i64 1048576))))⟩] [1, 2, 5])
  (.seq (.region [⟨some 15, none, .p (.mv (.t 1))⟩,
    ⟨some 16, none, .p (.mv (.t 5))⟩,
    ⟨some 17, none, .h (.call (.f 55) [.t 15, .t 16])⟩,
    ⟨some 5, none, .p (.mv (.t 17))⟩] [1, 2, 5])
  (.seq (.seq (.region [⟨some 18, none, .p (.mv (.t 5))⟩,
    ⟨some 19, none, .p (.bin .lss (.t 18) (.k (.c (C.int .i64 0))))⟩] [1, 2, 19])
  (.cond (.t 19)
  (.seq (.region [⟨some 4, none, .p (.mv (.k (.c (C.bool true))))⟩] [4])
  .ret)
  .skip))
  (.seq (.region [⟨some 21, none, .h (.load 24 true (.t 2))⟩,
    ⟨some 22, none, .h (.call (.f 38) [.t 21])⟩,
    ⟨some 23, none, .p (.mv (.t 1))⟩,
    ⟨some 24, none, .h (.call (.f 57) [.t 23])⟩,
    ⟨some 25, none, .h (.call (.f 56) [.t 22, .t 24])⟩,
    ⟨some 20, none, .p (.mv (.t 25))⟩,
    ⟨some 26, none, .p (.ext (.t 20) 0)⟩,
    ⟨some 27, none, .p (.ext (.t 20) 1)⟩,
    ⟨some 28, none, .p (.ext (.t 20) 2)⟩,
    ⟨some 29, none, .p (.ext (.t 20) 3)⟩,
    ⟨some 6, none, .p (.alloc (List.replicate 24 (.k (C.int .i64 0))))⟩,
    ⟨some 7, none, .p (.alloc [.k (C.int .i64 0), .k (C.int .i64 0)])⟩,
    ⟨none, none, .h (.store 24 (.t 6) (.t 26))⟩,
    ⟨none, none, .h (.store 2 (.t 7) (.t 27))⟩,
    ⟨some 8, none, .p (.mv (.t 28))⟩,
    ⟨some 9, none, .p (.mv (.t 29))⟩] [1, 2, 6, 7, 8, 9])
  (.seq (.region [⟨some 30, none, .p (.mv (.t 1))⟩,
    ⟨some 31, none, .h (.call (.f 57) [.t 30])⟩,
    ⟨some 10, none, .p (.mv (.t 31))⟩] [1, 2, 6, 7, 8, 9, 10])
  (.seq (.region [⟨some 33, none, .h (.load 24 true (.t 2))⟩,
    ⟨some 34, none, .h (.call (.f 38) [.t 33])⟩,
    ⟨some 35, none, .p (.mv (.t 10))⟩,
    ⟨some 36, none, .h (.call (.f 58) [.t 34, .t 35])⟩,
    ⟨some 32, none, .p (.mv (.t 36))⟩,
    ⟨some 37, none, .p (.ext (.t 32) 0)⟩,
    ⟨some 38, none, .p (.ext (.t 32) 1)⟩,
    ⟨some 39, none, .p (.ext (.t 32) 2)⟩,
    ⟨some 40, none, .p (.ext (.t 32) 3)⟩,
    ⟨some 11, none, .p (.alloc (List.replicate 24 (.k (C.int .i64 0))))⟩,
    ⟨some 12, none, .p (.alloc [.k (C.int .i64 0), .k (C.int .i64 0)])⟩,
    ⟨none, none, .h (.store 24 (.t 11) (.t 37))⟩,
    ⟨none, none, .h (.store 2 (.t 12) (.t 38))⟩,
    ⟨some 13, none, .p (.mv (.t 39))⟩,
    ⟨some 14, none, .p (.mv (.t 40))⟩] [1, 6, 7, 8, 9, 10, 11, 12, 13, 14])
  (.seq (.seq (.region [⟨some 41, none, .h (.load 24 true (.t 11))⟩,
    ⟨some 42, none, .h (.load 24 true (.t 6))⟩,
    ⟨some 43, none, .h (.call (.f 54) [.t 41, .t 42])⟩,
    ⟨some 44, none, .p (.un .not (.t 43))⟩,
    ⟨some 45, none, .p (.mv (.t 44))⟩,
    ⟨some 46, some (45, false), .h (.load 2 true (.t 12))⟩,
    ⟨some 47, some (45, false), .h (.load 2 true (.t 7))⟩,
    ⟨some 48, some (45, false), .h (.call (.f 36) [.t 46, .t 47])⟩,
    ⟨some 49, some (45, false), .p (.un .not (.t 48))⟩,
    ⟨some 50, none, .p (.pick (.t 45) (.k (.c (C.bool true))) (.t 49))⟩,
    ⟨some 51, none, .p (.mv (.t 50))⟩,
    ⟨some 52, some (51, false), .p (.mv (.t 13))⟩,
    ⟨some 53, some (51, false), .p (.mv (.t 8))⟩,
    ⟨some 54, some (51, false), .p (.bin .neq (.t 52) (.t 53))⟩,
    ⟨some 55, none, .p (.pick (.t 51) (.k (.c (C.bool true))) (.t 54))⟩,
    ⟨some 56, none, .p (.mv (.t 55))⟩,
    ⟨some 57, some (56, false), .p (.mv (.t 14))⟩,
    ⟨some 58, some (56, false), .p (.mv (.t 9))⟩,
    ⟨some 59, some (56, false), .p (.eqb true (.t 57) (.t 58))⟩,
    ⟨some 60, none, .p (.pick (.t 56) (.k (.c (C.bool true))) (.t 59))⟩] [1, 10, 60])
  (.cond (.t 60)
  (.seq (.region [⟨some 4, none, .p (.mv (.k (.c (C.bool false))))⟩] [4])
  .ret)
  .skip))
  (.seq (.seq (.region [⟨some 61, none, .p (.mv (.t 10))⟩,
    ⟨some 62, none, .p (.mv (.t 1))⟩,
    ⟨some 63, none, .h (.call (.f 57) [.t 62])⟩,
    ⟨some 64, none, .h (.call (.f 59) [.t 61, .t 63])⟩,
    ⟨some 65, none, .p (.un .not (.t 64))⟩] [65])
  (.cond (.t 65)
  (.seq (.region [⟨some 4, none, .p (.mv (.k (.c (C.bool false))))⟩] [4])
  .ret)
  .skip))
  (.seq (.region [⟨some 4, none, .p (.mv (.k (.c (C.bool true))))⟩] [4])
  .ret)))))))))) }
theorem a9_ok : okFn Try.prog 9 a9 = true := by kernel_rfl
/-- loop.example/g01215/laws.FnExactTubeValue -/
def a10 : AFn := { np := 2, nt := 31, res := [.t 4], body :=
  (.seq (.region [⟨some 2, none, .p (.box 24 (.t 0))⟩,
    ⟨some 4, none, .p (.mv (.k (.c (C.bool false))))⟩] [1, 2])
  (.seq (.region [⟨some 10, none, .h (.load 24 true (.t 2))⟩,
    ⟨some 11, none, .h (.call (.f 38) [.t 10])⟩,
    ⟨some 12, none, .p (.mv (.t 1))⟩,
    ⟨some 13, none, .h (.call (.f 60) [.t 11, .t 12])⟩,
    ⟨some 9, none, .p (.mv (.t 13))⟩,
    ⟨some 14, none, .p (.ext (.t 9) 0)⟩,
    ⟨some 15, none, .p (.ext (.t 9) 1)⟩,
    ⟨some 5, none, .p (.mv (.t 14))⟩,
    ⟨some 6, none, .p (.mv (.t 15))⟩] [1, 2, 5, 6])
  (.seq (.region [⟨some 17, none, .h (.load 24 true (.t 2))⟩,
    ⟨some 18, none, .h (.call (.f 38) [.t 17])⟩,
    ⟨some 19, none, .p (.mv (.t 1))⟩,
    ⟨some 20, none, .h (.call (.f 61) [.t 18, .t 19])⟩,
    ⟨some 16, none, .p (.mv (.t 20))⟩,
    ⟨some 21, none, .p (.ext (.t 16) 0)⟩,
    ⟨some 22, none, .p (.ext (.t 16) 1)⟩,
    ⟨some 7, none, .p (.mv (.t 21))⟩,
    ⟨some 8, none, .p (.mv (.t 22))⟩] [5, 6, 7, 8])
  (.seq (.seq (.region [⟨some 23, none, .p (.mv (.t 7))⟩,
    ⟨some 24, none, .p (.mv (.t 5))⟩,
    ⟨some 25, none, .p (.bin .neq (.t 23) (.t 24))⟩,
    ⟨some 26, none, .p (.mv (.t 25))⟩,
    ⟨some 27, some (26, false), .p (.mv (.t 8))⟩,
    ⟨some 28, some (26, false), .p (.mv (.t 6))⟩,
    ⟨some 29, some (26, false), .p (.eqb true (.t 27) (.t 28))⟩,
    ⟨some 30, none, .p (.pick (.t 26) (.k (.c (C.bool true))) (.t 29))⟩] [30])
  (.cond (.t 30)
  (.seq (.region [⟨some 4, none, .p (.mv (.k (.c (C.bool false))))⟩] [4])
  .ret)
  .skip))
  (.seq (.region [⟨some 4, none, .p (.mv (.k (.c (C.bool true))))⟩] [4])
  .ret))))) }
theorem a10_ok : okFn Try.prog 10 a10 = true := by kernel_rfl
/-- loop.example/g01215/laws.FnExactMovedLayers -/
def a11 : AFn := { np := 1, nt := 40, res := [.t 2], body :=
  (.seq (.region [⟨some 1, none, .p (.box 25 (.t 0))⟩,
    ⟨some 2, none, .p (.mv (.k (.c (C.bool false))))⟩] [1])
  (.seq (.region [⟨some 3, none, .p (.mv (.k (.c (C.int .i64 1048576))))⟩] [1, 3])
  (.seq (.region [⟨some 9, none, .h (.load 25 true (.t 1))⟩,
    ⟨some 10, none, .p (.mv (.t 3))⟩,
    ⟨some 11, none, .h (.call (.f 47) [.t 9, .t 10])⟩,
    ⟨some 3, none, .p (.mv (.t 11))⟩] [1, 3])
  (.seq (.seq (.region [⟨some 12, none, .p (.mv (.t 3))⟩,
    ⟨some 13, none, .p (.bin .lss (.t 12) (.k (.c (C.int .i64 0))))⟩] [1, 13])
  (.cond (.t 13)
  (.seq (.region [⟨some 2, none, .p (.mv (.k (.c (C.bool true))))⟩] [2])
  .ret)
  .skip))
  (.seq (.region [⟨some 15, none, .h (.load 25 true (.t 1))⟩,
    ⟨some 16, none, .h (.call (.f 49) [.t 15])⟩,
    ⟨some 17, none, .h (.call (.f 62) [.t 16])⟩,
    ⟨some 14, none, .p (.mv (.t 17))⟩,
    ⟨some 18, none, .p (.ext (.t 14) 0)⟩,
    ⟨some 19, none, .p (.ext (.t 14) 1)⟩,
    ⟨some 4, none, .p (.mv (.t 18))⟩,
    ⟨some 5, none, .p (.mv (.t 19))⟩] [1, 4, 5])
  (.seq (.region [⟨some 20, none, .h (.load 25 true (.t 1))⟩,
    ⟨some 21, none, .h (.call (.f 49) [.t 20])⟩,
    ⟨some 6, none, .p (.alloc [.k (C.int .i64 0), .k (C.int .i64 0), .k (C.int .i64 0), .k (C.int .i64 0), .k (C.int .i64 0), .k (C.int .i64 0), .k (C.int .i64 0), .k (C.int .i64 0), .k (C.int .i64 0), .k (C.int .i64 0), .k (C.int .i64 0), .k (C.int .i64 0), .k (C.int .i64 0), .k (C.int .i64 0), .k (C.int .i64 0), .k (C.int .i64 0), .k (C.int .i64 0), .k (C.int .i64 0), .k (C.int .i64 0), .k (C.int .i64 0), .k (C.int .i64 0), .k (C.int .i64 0), .k (C.int .i64 0), .k (C.int .i64 0), .sl 2])⟩,
    ⟨none, none, .h (.store 25 (.t 6) (.t 21))⟩] [1, 4, 5, 6])
  (.seq (.region [⟨some 23, none, .h (.load 25 true (.t 6))⟩,
    ⟨some 24, none, .h (.call (.f 63) [.t 23])⟩,
    ⟨some 22, none, .p (.mv (.t 24))⟩,
    ⟨some 25, none, .p (.ext (.t 22) 0)⟩,
    ⟨some 26, none, .p (.ext (.t 22) 1)⟩,
    ⟨some 7, none, .p (.mv (.t 25))⟩,
    ⟨some 8, none, .p (.mv (.t 26))⟩] [1, 4, 5, 6, 7, 8])
  (.seq (.seq (.region [⟨some 27, none, .p (.mv (.t 7))⟩,
    ⟨some 28, none, .p (.mv (.t 4))⟩,
    ⟨some 29, none, .p (.bin .neq (.t 27) (.t 28))⟩,
    ⟨some 30, none, .p (.mv (.t 29))⟩,
    ⟨some 31, some (30, false), .p (.mv (.t 8))⟩,
    ⟨some 32, some (30, false), .p (.mv (.t 5))⟩,
    ⟨some 33, some (30, false), .p (.eqb true (.t 31) (.t 32))⟩,
    ⟨some 34, none, .p (.pick (.t 30) (.k (.c (C.bool true))) (.t 33))⟩] [1, 6, 34])
  (.cond (.t 34)
  (.seq (.region [⟨some 2, none, .p (.mv (.k (.c (C.bool false))))⟩] [2])
  .ret)
  .skip))
  (.seq (.seq (.regionD [⟨some 35, none, .h (.load 25 true (.t 6))⟩,
    ⟨some 36, none, .h (.load 25 true (.t 1))⟩,
    ⟨some 37, none, .h (.call (.f 49) [.t 36])⟩,
    ⟨some 38, none, .h (.call (.f 51) [.t 35, .t 37])⟩,
    ⟨some 39, none, .p (.un .not (.t 38))⟩] [39] [])
  (.cond (.t 39)
  (.seq (.region [⟨some 2, none, .p (.mv (.k (.c (C.bool false))))⟩] [2])
  .ret)
  .skip))
  (.seq (.region [⟨some 2, none, .p (.mv (.k (.c (C.bool true))))⟩] [2])
  .ret)))))))))) }
theorem a11_ok : okFn Try.prog 11 a11 = true := by kernel_rfl
/-- loop.example/g01215/laws.FnExactEndPours -/
def a12 : AFn := { np := 2, nt := 71, res := [.t 4], body :=
  (.seq (.region [⟨some 2, none, .p (.box 24 (.t 0))⟩,
    ⟨some 4, none, .p (.mv (.k (.c (C.bool false))))⟩] [1, 2])
  (.seq (.region [⟨some 14, none, .h (.load 24 true (.t 2))⟩,
    ⟨some 15, none, .h (.call (.f 38) [.t 14])⟩,
    ⟨some 16, none, .p (.mv (.t 1))⟩,
    ⟨some 17, none, .h (.call (.f 64) [.t 15, .t 16])⟩,
    ⟨some 13, none, .p (.mv (.t 17))⟩,
    ⟨some 18, none, .p (.ext (.t 13) 0)⟩,
    ⟨some 19, none, .p (.ext (.t 13) 1)⟩,
    ⟨some 5, none, .p (.mv (.t 18))⟩,
    ⟨some 6, none, .p (.mv (.t 19))⟩] [1, 2, 5, 6])
  (.seq (.region [⟨some 21, none, .h (.load 24 true (.t 2))⟩,
    ⟨some 22, none, .h (.call (.f 38) [.t 21])⟩,
    ⟨some 23, none, .p (.mv (.t 1))⟩,
    ⟨some 24, none, .h (.call (.f 65) [.t 22, .t 23])⟩,
    ⟨some 20, none, .p (.mv (.t 24))⟩,
    ⟨some 25, none, .p (.ext (.t 20) 0)⟩,
    ⟨some 26, none, .p (.ext (.t 20) 1)⟩,
    ⟨some 7, none, .p (.mv (.t 25))⟩,
    ⟨some 8, none, .p (.mv (.t 26))⟩] [1, 2, 5, 6, 7, 8])
  (.seq (.seq (.region [⟨some 27, none, .p (.mv (.t 7))⟩,
    ⟨some 28, none, .p (.mv (.t 5))⟩,
    ⟨some 29, none, .h (.call (.f 59) [.t 27, .t 28])⟩,
    ⟨some 30, none, .p (.un .not (.t 29))⟩,
    ⟨some 31, none, .p (.mv (.t 30))⟩,
    ⟨some 32, some (31, false), .p (.mv (.t 8))⟩,
    ⟨some 33, some (31, false), .p (.mv (.t 6))⟩,
    ⟨some 34, some (31, false), .p (.eqb true (.t 32) (.t 33))⟩,
    ⟨some 35, none, .p (.pick (.t 31) (.k (.c (C.bool true))) (.t 34))⟩] [1, 2, 5, 6, 7, 35])
  (.cond (.t 35)
  (.seq (.region [⟨some 4, none, .p (.mv (.k (.c (C.bool false))))⟩] [4])
  .ret)
  .skip))
  (.seq (.region [⟨some 9, none, .p (.mv (.k (.c (C.int .i64 1))))⟩] [1, 2, 5, 6, 7, 9])
  (.seq (.region [⟨some 36, none, .p (.mv (.t 7))⟩,
    ⟨some 37, none, .p (.mv (.t 9))⟩,
    ⟨some 38, none, .h (.call (.f 66) [.t 36, .t 37])⟩,
    ⟨some 9, none, .p (.mv (.t 38))⟩] [1, 2, 5, 6, 7, 9])
  (.seq (.region [⟨some 10, none, .p (.mv (.k (.c (C.int .i64 1))))⟩] [1, 2, 5, 6, 7, 9, 10])
  (.seq (.region [⟨some 39, none, .p (.mv (.t 7))⟩,
    ⟨some 40, none, .p (.mv (.t 10))⟩,
    ⟨some 41, none, .h (.call (.f 67) [.t 39, .t 40])⟩,
    ⟨some 10, none, .p (.mv (.t 41))⟩] [1, 2, 5, 6, 7, 9, 10])
  (.seq (.seq (.region [⟨some 42, none, .p (.mv (.t 10))⟩,
    ⟨some 43, none, .p (.bin .lss (.t 42) (.k (.c (C.int .i64 0))))⟩] [1, 2, 5, 6, 7, 9, 10, 43])
  (.cond (.t 43)
  (.seq (.region [⟨some 4, none, .p (.mv (.k (.c (C.bool false))))⟩] [4])
  .ret)
  .skip))
  (.seq (.seq (.region [⟨some 44, none, .p (.mv (.t 10))⟩,
    ⟨some 45, none, .p (.mv (.t 9))⟩,
    ⟨some 46, none, .p (.bin .neq (.t 44) (.t 45))⟩] [1, 2, 5, 6, 7, 9, 46])
  (.cond (.t 46)
  (.seq (.region [⟨some 4, none, .p (.mv (.k (.c (C.bool false))))⟩] [4])
  .ret)
  .skip))
  (.seq (.region [⟨some 48, none, .h (.load 24 true (.t 2))⟩,
    ⟨some 49, none, .h (.call (.f 38) [.t 48])⟩,
    ⟨some 50, none, .p (.mv (.t 1))⟩,
    ⟨some 51, none, .h (.call (.f 65) [.t 49, .t 50])⟩,
    ⟨some 47, none, .p (.mv (.t 51))⟩,
    ⟨some 52, none, .p (.ext (.t 47) 0)⟩,
    ⟨some 53, none, .p (.ext (.t 47) 1)⟩,
    ⟨some 11, none, .p (.mv (.t 52))⟩,
    ⟨some 12, none, .p (.mv (.t 53))⟩] [5, 6, 7, 9, 11, 12])
  (.seq (.seq (.region [⟨some 54, none, .p (.mv (.t 11))⟩,
    ⟨some 55, none, .p (.mv (.t 5))⟩,
    ⟨some 56, none, .h (.call (.f 59) [.t 54, .t 55])⟩,
    ⟨some 57, none, .p (.un .not (.t 56))⟩,
    ⟨some 58, none, .p (.mv (.t 57))⟩,
    ⟨some 59, some (58, false), .p (.mv (.t 12))⟩,
    ⟨some 60, some (58, false), .p (.mv (.t 6))⟩,
    ⟨some 61, some (58, false), .p (.eqb true (.t 59) (.t 60))⟩,
    ⟨some 62, none, .p (.pick (.t 58) (.k (.c (C.bool true))) (.t 61))⟩] [7, 9, 62])
  (.cond (.t 62)
  (.seq (.region [⟨some 4, none, .p (.mv (.k (.c (C.bool false))))⟩] [4])
  .ret)
  .skip))
  (.seq (.region [⟨some 10, none, .p (.mv (.k (.c (C.int .i64 1))))⟩] [7, 9, 10])
  (.seq (.region [⟨some 63, none, .p (.mv (.t 7))⟩,
    ⟨some 64, none, .p (.mv (.t 10))⟩,
    ⟨some 65, none, .h (.call (.f 67) [.t 63, .t 64])⟩,
    ⟨some 10, none, .p (.mv (.t 65))⟩] [9, 10])
  (.seq (.seq (.region [⟨some 66, none, .p (.mv (.t 10))⟩,
    ⟨some 67, none, .p (.bin .lss (.t 66) (.k (.c (C.int .i64 0))))⟩] [9, 10, 67])
  (.cond (.t 67)
  (.seq (.region [⟨some 4, none, .p (.mv (.k (.c (C.bool false))))⟩] [4])
  .ret)
  .skip))
  (.seq (.seq (.region [⟨some 68, none, .p (.mv (.t 10))⟩,
    ⟨some 69, none, .p (.mv (.t 9))⟩,
    ⟨some 70, none, .p (.bin .neq (.t 68) (.t 69))⟩] [70])
  (.cond (.t 70)
  (.seq (.region [⟨some 4, none, .p (.mv (.k (.c (C.bool false))))⟩] [4])
  .ret)
  .skip))
  (.seq (.region [⟨some 4, none, .p (.mv (.k (.c (C.bool true))))⟩] [4])
  .ret))))))))))))))))) }
theorem a12_ok : okFn Try.prog 12 a12 = true := by kernel_rfl
/-- loop.example/g01215/laws.FnExactCanHurt -/
def a13 : AFn := { np := 1, nt := 66, res := [.t 2], body :=
  (.seq (.region [⟨some 1, none, .p (.box 24 (.t 0))⟩,
    ⟨some 2, none, .p (.mv (.k (.c (C.bool false))))⟩] [1])
  (.seq (.region [⟨some 12, none, .h (.load 24 true (.t 1))⟩,
    ⟨some 13, none, .h (.call (.f 38) [.t 12])⟩,
    ⟨some 14, none, .h (.call (.f 68) [.t 13])⟩,
    ⟨some 11, none, .p (.mv (.t 14))⟩,
    ⟨some 15, none, .p (.ext (.t 11) 0)⟩,
    ⟨some 16, none, .p (.ext (.t 11) 1)⟩,
    ⟨some 3, none, .p (.mv (.t 15))⟩,
    ⟨some 4, none, .p (.mv (.t 16))⟩] [1, 3, 4])
  (.seq (.region [⟨some 18, none, .h (.load 24 true (.t 1))⟩,
    ⟨some 19, none, .h (.call (.f 38) [.t 18])⟩,
    ⟨some 20, none, .h (.call (.f 69) [.t 19])⟩,
    ⟨some 17, none, .p (.mv (.t 20))⟩,
    ⟨some 21, none, .p (.ext (.t 17) 0)⟩,
    ⟨some 22, none, .p (.ext (.t 17) 1)⟩,
    ⟨some 5, none, .p (.mv (.t 21))⟩,
    ⟨some 6, none, .p (.mv (.t 22))⟩] [1, 3, 4, 5, 6])
  (.seq (.seq (.region [⟨some 23, none, .p (.mv (.t 5))⟩,
    ⟨some 24, none, .p (.mv (.t 3))⟩,
    ⟨some 25, none, .h (.call (.f 59) [.t 23, .t 24])⟩,
    ⟨some 26, none, .p (.un .not (.t 25))⟩,
    ⟨some 27, none, .p (.mv (.t 26))⟩,
    ⟨some 28, some (27, false), .p (.mv (.t 6))⟩,
    ⟨some 29, some (27, false), .p (.mv (.t 4))⟩,
    ⟨some 30, some (27, false), .p (.eqb true (.t 28) (.t 29))⟩,
    ⟨some 31, none, .p (.pick (.t 27) (.k (.c (C.bool true))) (.t 30))⟩] [1, 3, 4, 5, 31])
  (.cond (.t 31)
  (.seq (.region [⟨some 2, none, .p (.mv (.k (.c (C.bool false))))⟩] [2])
  .ret)
  .skip))
  (.seq (.region [⟨some 7, none, .p (.mv (.k (.c (C.int .i64 1))))⟩] [1, 3, 4, 5, 7])
  (.seq (.region [⟨some 32, none, .p (.mv (.t 5))⟩,
    ⟨some 33, none, .p (.mv (.t 7))⟩,
    ⟨some 34, none, .h (.call (.f 66) [.t 32, .t 33])⟩,
    ⟨some 7, none, .p (.mv (.t 34))⟩] [1, 3, 4, 5, 7])
  (.seq (.region [⟨some 8, none, .p (.mv (.k (.c (C.int .i64 1))))⟩] [1, 3, 4, 5, 7, 8])
  (.seq (.region [⟨some 35, none, .p (.mv (.t 5))⟩,
    ⟨some 36, none, .p (.mv (.t 8))⟩,
    ⟨some 37, none, .h (.call (.f 67) [.t 35, .t 36])⟩,
    ⟨some 8, none, .p (.mv (.t 37))⟩] [1, 3, 4, 5, 7, 8])
  (.seq (.seq (.region [⟨some 38, none, .p (.mv (.t 8))⟩,
    ⟨some 39, none, .p (.bin .lss (.t 38) (.k (.c (C.int .i64 0))))⟩] [1, 3, 4, 5, 7, 8, 39])
  (.cond (.t 39)
  (.seq (.region [⟨some 2, none, .p (.mv (.k (.c (C.bool false))))⟩] [2])
  .ret)
  .skip))
  (.seq (.seq (.region [⟨some 40, none, .p (.mv (.t 8))⟩,
    ⟨some 41, none, .p (.mv (.t 7))⟩,
    ⟨some 42, none, .p (.bin .neq (.t 40) (.t 41))⟩] [1, 3, 4, 5, 7, 42])
  (.cond (.t 42)
  (.seq (.region [⟨some 2, none, .p (.mv (.k (.c (C.bool false))))⟩] [2])
  .ret)
  .skip))
  (.seq (.region [⟨some 44, none, .h (.load 24 true (.t 1))⟩,
    ⟨some 45, none, .h (.call (.f 38) [.t 44])⟩,
    ⟨some 46, none, .h (.call (.f 69) [.t 45])⟩,
    ⟨some 43, none, .p (.mv (.t 46))⟩,
    ⟨some 47, none, .p (.ext (.t 43) 0)⟩,
    ⟨some 48, none, .p (.ext (.t 43) 1)⟩,
    ⟨some 9, none, .p (.mv (.t 47))⟩,
    ⟨some 10, none, .p (.mv (.t 48))⟩] [3, 4, 5, 7, 9, 10])
  (.seq (.seq (.region [⟨some 49, none, .p (.mv (.t 9))⟩,
    ⟨some 50, none, .p (.mv (.t 3))⟩,
    ⟨some 51, none, .h (.call (.f 59) [.t 49, .t 50])⟩,
    ⟨some 52, none, .p (.un .not (.t 51))⟩,
    ⟨some 53, none, .p (.mv (.t 52))⟩,
    ⟨some 54, some (53, false), .p (.mv (.t 10))⟩,
    ⟨some 55, some (53, false), .p (.mv (.t 4))⟩,
    ⟨some 56, some (53, false), .p (.eqb true (.t 54) (.t 55))⟩,
    ⟨some 57, none, .p (.pick (.t 53) (.k (.c (C.bool true))) (.t 56))⟩] [5, 7, 57])
  (.cond (.t 57)
  (.seq (.region [⟨some 2, none, .p (.mv (.k (.c (C.bool false))))⟩] [2])
  .ret)
  .skip))
  (.seq (.region [⟨some 8, none, .p (.mv (.k (.c (C.int .i64 1))))⟩] [5, 7, 8])
  (.seq (.region [⟨some 58, none, .p (.mv (.t 5))⟩,
    ⟨some 59, none, .p (.mv (.t 8))⟩,
    ⟨some 60, none, .h (.call (.f 67) [.t 58, .t 59])⟩,
    ⟨some 8, none, .p (.mv (.t 60))⟩] [7, 8])
  (.seq (.seq (.region [⟨some 61, none, .p (.mv (.t 8))⟩,
    ⟨some 62, none, .p (.bin .lss (.t 61) (.k (.c (C.int .i64 0))))⟩] [7, 8, 62])
  (.cond (.t 62)
  (.seq (.region [⟨some 2, none, .p (.mv (.k (.c (C.bool false))))⟩] [2])
  .ret)
  .skip))
  (.seq (.seq (.region [⟨some 63, none, .p (.mv (.t 8))⟩,
    ⟨some 64, none, .p (.mv (.t 7))⟩,
    ⟨some 65, none, .p (.bin .neq (.t 63) (.t 64))⟩] [65])
  (.cond (.t 65)
  (.seq (.region [⟨some 2, none, .p (.mv (.k (.c (C.bool false))))⟩] [2])
  .ret)
  .skip))
  (.seq (.region [⟨some 2, none, .p (.mv (.k (.c (C.bool true))))⟩] [2])
  .ret))))))))))))))))) }
theorem a13_ok : okFn Try.prog 13 a13 = true := by kernel_rfl
/-- loop.example/g01215/laws.FnExactCanSwap -/
def a14 : AFn := { np := 2, nt := 44, res := [.t 4], body :=
  (.seq (.region [⟨some 2, none, .p (.box 25 (.t 0))⟩,
    ⟨some 4, none, .p (.mv (.k (.c (C.bool false))))⟩] [1, 2])
  (.seq (.region [⟨some 5, none, .p (.mv (.k (.c (C.int .i64 1048576))))⟩] [1, 2, 5])
  (.seq (.region [⟨some 11, none, .h (.load 25 true (.t 2))⟩,
    ⟨some 12, none, .p (.mv (.t 5))⟩,
    ⟨some 13, none, .h (.call (.f 47) [.t 11, .t 12])⟩,
    ⟨some 5, none, .p (.mv (.t 13))⟩] [1, 2, 5])
  (.seq (.seq (.region [⟨some 14, none, .p (.mv (.t 5))⟩,
    ⟨some 15, none, .p (.bin .lss (.t 14) (.k (.c (C.int .i64 0))))⟩] [1, 2, 15])
  (.cond (.t 15)
  (.seq (.region [⟨some 4, none, .p (.mv (.k (.c (C.bool true))))⟩] [4])
  .ret)
  .skip))
  (.seq (.region [⟨some 17, none, .h (.load 25 true (.t 2))⟩,
    ⟨some 18, none, .h (.call (.f 49) [.t 17])⟩,
    ⟨some 19, none, .p (.mv (.t 1))⟩,
    ⟨some 20, none, .h (.call (.f 70) [.t 18, .t 19])⟩,
    ⟨some 16, none, .p (.mv (.t 20))⟩,
    ⟨some 21, none, .p (.ext (.t 16) 0)⟩,
    ⟨some 22, none, .p (.ext (.t 16) 1)⟩,
    ⟨some 6, none, .p (.mv (.t 21))⟩,
    ⟨some 7, none, .p (.mv (.t 22))⟩] [1, 2, 6, 7])
  (.seq (.region [⟨some 23, none, .h (.load 25 true (.t 2))⟩,
    ⟨some 24, none, .h (.call (.f 49) [.t 23])⟩,
    ⟨some 8, none, .p (.alloc [.k (C.int .i64 0), .k (C.int .i64 0), .k (C.int .i64 0), .k (C.int .i64 0), .k (C.int .i64 0), .k (C.int .i64 0), .k (C.int .i64 0), .k (C.int .i64 0), .k (C.int .i64 0), .k (C.int .i64 0), .k (C.int .i64 0), .k (C.int .i64 0), .k (C.int .i64 0), .k (C.int .i64 0), .k (C.int .i64 0), .k (C.int .i64 0), .k (C.int .i64 0), .k (C.int .i64 0), .k (C.int .i64 0), .k (C.int .i64 0), .k (C.int .i64 0), .k (C.int .i64 0), .k (C.int .i64 0), .k (C.int .i64 0), .sl 2])⟩,
    ⟨none, none, .h (.store 25 (.t 8) (.t 24))⟩] [1, 2, 6, 7, 8])
  (.seq (.region [⟨some 26, none, .h (.load 25 true (.t 8))⟩,
    ⟨some 27, none, .p (.mv (.t 1))⟩,
    ⟨some 28, none, .h (.call (.f 71) [.t 26, .t 27])⟩,
    ⟨some 25, none, .p (.mv (.t 28))⟩,
    ⟨some 29, none, .p (.ext (.t 25) 0)⟩,
    ⟨some 30, none, .p (.ext (.t 25) 1)⟩,
    ⟨some 9, none, .p (.mv (.t 29))⟩,
    ⟨some 10, none, .p (.mv (.t 30))⟩] [2, 6, 7, 8, 9, 10])
  (.seq (.seq (.region [⟨some 31, none, .p (.mv (.t 9))⟩,
    ⟨some 32, none, .p (.mv (.t 6))⟩,
    ⟨some 33, none, .p (.eqb true (.t 31) (.t 32))⟩,
    ⟨some 34, none, .p (.mv (.t 33))⟩,
    ⟨some 35, some (34, false), .p (.mv (.t 10))⟩,
    ⟨some 36, some (34, false), .p (.mv (.t 7))⟩,
    ⟨some 37, some (34, false), .p (.eqb true (.t 35) (.t 36))⟩,
    ⟨some 38, none, .p (.pick (.t 34) (.k (.c (C.bool true))) (.t 37))⟩] [2, 8, 38])
  (.cond (.t 38)
  (.seq (.region [⟨some 4, none, .p (.mv (.k (.c (C.bool false))))⟩] [4])
  .ret)
  .skip))
  (.seq (.seq (.regionD [⟨some 39, none, .h (.load 25 true (.t 8))⟩,
    ⟨some 40, none, .h (.load 25 true (.t 2))⟩,
    ⟨some 41, none, .h (.call (.f 49) [.t 40])⟩,
    ⟨some 42, none, .h (.call (.f 51) [.t 39, .t 41])⟩,
    ⟨some 43, none, .p (.un .not (.t 42))⟩] [43] [])
  (.cond (.t 43)
  (.seq (.region [⟨some 4, none, .p (.mv (.k (.c (C.bool false))))⟩] [4])
  .ret)
  .skip))
  (.seq (.region [⟨some 4, none, .p (.mv (.k (.c (C.bool true))))⟩] [4])
  .ret)))))))))) }
theorem a14_ok : okFn Try.prog 14 a14 = true := by kernel_rfl
/-- loop.example/g01215/laws.FnExactFirstBest -/
def a15 : AFn := { np := 2, nt := 32, res := [.t 4], body :=
  (.seq (.region [⟨some 2, none, .p (.box 24 (.t 0))⟩,
    ⟨some 4, none, .p (.mv (.k (.c (C.bool false))))⟩] [1, 2])
  (.seq (.region [⟨some 10, none, .h (.load 24 true (.t 2))⟩,
    ⟨some 11, none, .h (.call (.f 38) [.t 10])⟩,
    ⟨some 12, none, .p (.mv (.t 1))⟩,
    ⟨some 13, none, .h (.call (.f 72) [.t 11, .t 12])⟩,
    ⟨some 9, none, .p (.mv (.t 13))⟩,
    ⟨some 14, none, .p (.ext (.t 9) 0)⟩,
    ⟨some 15, none, .p (.ext (.t 9) 1)⟩,
    ⟨some 5, none, .p (.alloc [.k (C.int .i64 0), .k (C.int .i64 0)])⟩,
    ⟨none, none, .h (.store 2 (.t 5) (.t 14))⟩,
    ⟨some 6, none, .p (.mv (.t 15))⟩] [1, 2, 5, 6])
  (.seq (.region [⟨some 17, none, .h (.load 24 true (.t 2))⟩,
    ⟨some 18, none, .h (.call (.f 38) [.t 17])⟩,
    ⟨some 19, none, .p (.mv (.t 1))⟩,
    ⟨some 20, none, .h (.call (.f 73) [.t 18, .t 19])⟩,
    ⟨some 16, none, .p (.mv (.t 20))⟩,
    ⟨some 21, none, .p (.ext (.t 16) 0)⟩,
    ⟨some 22, none, .p (.ext (.t 16) 1)⟩,
    ⟨some 7, none, .p (.alloc [.k (C.int .i64 0), .k (C.int .i64 0)])⟩,
    ⟨none, none, .h (.store 2 (.t 7) (.t 21))⟩,
    ⟨some 8, none, .p (.mv (.t 22))⟩] [5, 6, 7, 8])
  (.seq (.seq (.region [⟨some 23, none, .h (.load 2 true (.t 7))⟩,
    ⟨some 24, none, .h (.load 2 true (.t 5))⟩,
    ⟨some 25, none, .h (.call (.f 36) [.t 23, .t 24])⟩,
    ⟨some 26, none, .p (.un .not (.t 25))⟩,
    ⟨some 27, none, .p (.mv (.t 26))⟩,
    ⟨some 28, some (27, false), .p (.mv (.t 8))⟩,
    ⟨some 29, some (27, false), .p (.mv (.t 6))⟩,
    ⟨some 30, some (27, false), .p (.eqb true (.t 28) (.t 29))⟩,
    ⟨some 31, none, .p (.pick (.t 27) (.k (.c (C.bool true))) (.t 30))⟩] [31])
  (.cond (.t 31)
  (.seq (.region [⟨some 4, none, .p (.mv (.k (.c (C.bool false))))⟩] [4])
  .ret)
  .skip))
  (.seq (.region [⟨some 4, none, .p (.mv (.k (.c (C.bool true))))⟩] [4])
  .ret))))) }
theorem a15_ok : okFn Try.prog 15 a15 = true := by kernel_rfl
/-- loop.example/g01215/laws.FnExactLoopsOf -/
def a16 : AFn := { np := 1, nt := 96, res := [.t 2], body :=
  (.seq (.region [⟨some 1, none, .p (.box 25 (.t 0))⟩,
    ⟨some 2, none, .p (.mv (.k (.c (C.bool false))))⟩] [1])
  (.seq (.region [⟨some 3, none, .p (.mv (.k (.c (C.int .i64 1048576))))⟩] [1, 3])
  (.seq (.region [⟨some 14, none, .h (.load 25 true (.t 1))⟩,
    ⟨some 15, none, .p (.mv (.t 3))⟩,
    ⟨some 16, none, .h (.call (.f 47) [.t 14, .t 15])⟩,
    ⟨some 3, none, .p (.mv (.t 16))⟩] [1, 3])
  (.seq (.seq (.region [⟨some 17, none, .p (.mv (.t 3))⟩,
    ⟨some 18, none, .p (.bin .lss (.t 17) (.k (.c (C.int .i64 0))))⟩] [1, 18])
  (.cond (.t 18)
  (.seq (.region [⟨some 2, none, .p (.mv (.k (.c (C.bool true))))⟩] [2])
  .ret)
  .skip))
  (.seq (.region [⟨some 20, none, .h (.load 25 true (.t 1))⟩,
    ⟨some 21, none, .h (.call (.f 49) [.t 20])⟩,
    ⟨some 22, none, .h (.call (.f 74) [.t 21])⟩,
    ⟨some 19, none, .p (.mv (.t 22))⟩,
    ⟨some 23, none, .p (.ext (.t 19) 0)⟩,
    ⟨some 24, none, .p (.ext (.t 19) 1)⟩,
    ⟨some 4, none, .p (.mv (.t 23))⟩,
    ⟨some 5, none, .p (.mv (.t 24))⟩] [1, 4, 5])
  (.seq (.region [⟨some 25, none, .h (.load 25 true (.t 1))⟩,
    ⟨some 26, none, .h (.call (.f 49) [.t 25])⟩,
    ⟨some 6, none, .p (.alloc [.k (C.int .i64 0), .k (C.int .i64 0), .k (C.int .i64 0), .k (C.int .i64 0), .k (C.int .i64 0), .k (C.int .i64 0), .k (C.int .i64 0), .k (C.int .i64 0), .k (C.int .i64 0), .k (C.int .i64 0), .k (C.int .i64 0), .k (C.int .i64 0), .k (C.int .i64 0), .k (C.int .i64 0), .k (C.int .i64 0), .k (C.int .i64 0), .k (C.int .i64 0), .k (C.int .i64 0), .k (C.int .i64 0), .k (C.int .i64 0), .k (C.int .i64 0), .k (C.int .i64 0), .k (C.int .i64 0), .k (C.int .i64 0), .sl 2])⟩,
    ⟨none, none, .h (.store 25 (.t 6) (.t 26))⟩] [1, 4, 5, 6])
  (.seq (.region [⟨some 28, none, .h (.load 25 true (.t 6))⟩,
    ⟨some 29, none, .h (.call (.f 75) [.t 28])⟩,
    ⟨some 27, none, .p (.mv (.t 29))⟩,
    ⟨some 30, none, .p (.ext (.t 27) 0)⟩,
    ⟨some 31, none, .p (.ext (.t 27) 1)⟩,
    ⟨some 7, none, .p (.mv (.t 30))⟩,
    ⟨some 8, none, .p (.mv (.t 31))⟩] [1, 4, 5, 6, 7, 8])
  (.seq (.seq (.region [⟨some 32, none, .p (.mv (.t 7))⟩,
    ⟨some 33, none, .p (.mv (.t 4))⟩,
    ⟨some 34, none, .h (.call (.f 59) [.t 32, .t 33])⟩,
    ⟨some 35, none, .p (.un .not (.t 34))⟩,
    ⟨some 36, none, .p (.mv (.t 35))⟩,
    ⟨some 37, some (36, false), .p (.mv (.t 8))⟩,
    ⟨some 38, some (36, false), .p (.mv (.t 5))⟩,
    ⟨some 39, some (36, false), .p (.eqb true (.t 37) (.t 38))⟩,
    ⟨some 40, none, .p (.pick (.t 36) (.k (.c (C.bool true))) (.t 39))⟩] [1, 4, 5, 6, 7, 8, 40])
  (.cond (.t 40)
  (.seq (.region [⟨some 2, none, .p (.mv (.k (.c (C.bool false))))⟩] [2])
  .ret)
  .skip))
  (.seq (.seq (.regionD [⟨some 41, none, .h (.load 25 true (.t 6))⟩,
    ⟨some 42, none, .h (.load 25 true (.t 1))⟩,
    ⟨some 43, none, .h (.call (.f 49) [.t 42])⟩,
    ⟨some 44, none, .h (.call (.f 51) [.t 41, .t 43])⟩,
    ⟨some 45, none, .p (.un .not (.t 44))⟩] [1, 4, 5, 6, 7, 8, 45] [])
  (.cond (.t 45)
  (.seq (.region [⟨some 2, none, .p (.mv (.k (.c (C.bool false))))⟩] [2])
  .ret)
  .skip))
  (.seq (.region [⟨some 9, none, .p (.mv (.k (.c (C.int .i64 1))))⟩] [1, 4, 5, 6, 7, 8, 9])
  (.seq (.region [⟨some 46, none, .h (.load 25 true (.t 6))⟩,
    ⟨some 47, none, .p (.mv (.t 9))⟩,
    ⟨some 48, none, .h (.call (.f 76) [.t 46, .t 47])⟩,
    ⟨some 9, none, .p (.mv (.t 48))⟩] [1, 4, 5, 7, 8, 9])
  (.seq (.seq (.region [⟨some 49, none, .p (.mv (.t 9))⟩,
    ⟨some 50, none, .p (.bin .lss (.t 49) (.k (.c (C.int .i64 0))))⟩,
    ⟨some 51, none, .p (.mv (.t 50))⟩,
    ⟨some 52, some (51, false), .p (.mv (.t 7))⟩,
    ⟨some 53, some (51, false), .p (.mv (.t 4))⟩,
    ⟨some 54, some (51, false), .h (.call (.f 59) [.t 52, .t 53])⟩,
    ⟨some 55, some (51, false), .p (.un .not (.t 54))⟩,
    ⟨some 56, none, .p (.pick (.t 51) (.k (.c (C.bool true))) (.t 55))⟩,
    ⟨some 57, none, .p (.mv (.t 56))⟩,
    ⟨some 58, some (57, false), .p (.mv (.t 8))⟩,
    ⟨some 59, some (57, false), .p (.mv (.t 5))⟩,
    ⟨some 60, some (57, false), .p (.eqb true (.t 58) (.t 59))⟩,
    ⟨some 61, none, .p (.pick (.t 57) (.k (.c (C.bool true))) (.t 60))⟩] [1, 4, 5, 7, 61])
  (.cond (.t 61)
  (.seq (.region [⟨some 2, none, .p (.mv (.k (.c (C.bool false))))⟩] [2])
  .ret)
  .skip))
  (.seq (.region [⟨some 10, none, .p (.mv (.k (.c (C.int .i64 1))))⟩] [1, 4, 5, 7, 10])
  (.seq (.region [⟨some 62, none, .p (.mv (.t 7))⟩,
    ⟨some 63, none, .p (.mv (.t 10))⟩,
    ⟨some 64, none, .h (.call (.f 66) [.t 62, .t 63])⟩,
    ⟨some 10, none, .p (.mv (.t 64))⟩] [1, 4, 5, 7, 10])
  (.seq (.region [⟨some 11, none, .p (.mv (.k (.c (C.int .i64 1))))⟩] [1, 4, 5, 7, 10, 11])
  (.seq (.region [⟨some 65, none, .p (.mv (.t 7))⟩,
    ⟨some 66, none, .p (.mv (.t 11))⟩,
    ⟨some 67, none, .h (.call (.f 67) [.t 65, .t 66])⟩,
    ⟨some 11, none, .p (.mv (.t 67))⟩] [1, 4, 5, 7, 10, 11])
  (.seq (.seq (.region [⟨some 68, none, .p (.mv (.t 11))⟩,
    ⟨some 69, none, .p (.bin .lss (.t 68) (.k (.c (C.int .i64 0))))⟩] [1, 4, 5, 7, 10, 11, 69])
  (.cond (.t 69)
  (.seq (.region [⟨some 2, none, .p (.mv (.k (.c (C.bool false))))⟩] [2])
  .ret)
  .skip))
  (.seq (.seq (.region [⟨some 70, none, .p (.mv (.t 11))⟩,
    ⟨some 71, none, .p (.mv (.t 10))⟩,
    ⟨some 72, none, .p (.bin .neq (.t 70) (.t 71))⟩] [1, 4, 5, 7, 10, 72])
  (.cond (.t 72)
  (.seq (.region [⟨some 2, none, .p (.mv (.k (.c (C.bool false))))⟩] [2])
  .ret)
  .skip))
  (.seq (.region [⟨some 74, none, .h (.load 25 true (.t 1))⟩,
    ⟨some 75, none, .h (.call (.f 49) [.t 74])⟩,
    ⟨some 76, none, .h (.call (.f 75) [.t 75])⟩,
    ⟨some 73, none, .p (.mv (.t 76))⟩,
    ⟨some 77, none, .p (.ext (.t 73) 0)⟩,
    ⟨some 78, none, .p (.ext (.t 73) 1)⟩,
    ⟨some 12, none, .p (.mv (.t 77))⟩,
    ⟨some 13, none, .p (.mv (.t 78))⟩] [4, 5, 7, 10, 12, 13])
  (.seq (.seq (.region [⟨some 79, none, .p (.mv (.t 12))⟩,
    ⟨some 80, none, .p (.mv (.t 4))⟩,
    ⟨some 81, none, .h (.call (.f 59) [.t 79, .t 80])⟩,
    ⟨some 82, none, .p (.un .not (.t 81))⟩,
    ⟨some 83, none, .p (.mv (.t 82))⟩,
    ⟨some 84, some (83, false), .p (.mv (.t 13))⟩,
    ⟨some 85, some (83, false), .p (.mv (.t 5))⟩,
    ⟨some 86, some (83, false), .p (.eqb true (.t 84) (.t 85))⟩,
    ⟨some 87, none, .p (.pick (.t 83) (.k (.c (C.bool true))) (.t 86))⟩] [7, 10, 87])
  (.cond (.t 87)
  (.seq (.region [⟨some 2, none, .p (.mv (.k (.c (C.bool false))))⟩] [2])
  .ret)
  .skip))
  (.seq (.region [⟨some 11, none, .p (.mv (.k (.c (C.int .i64 1))))⟩] [7, 10, 11])
  (.seq (.region [⟨some 88, none, .p (.mv (.t 7))⟩,
    ⟨some 89, none, .p (.mv (.t 11))⟩,
    ⟨some 90, none, .h (.call (.f 67) [.t 88, .t 89])⟩,
    ⟨some 11, none, .p (.mv (.t 90))⟩] [10, 11])
  (.seq (.seq (.region [⟨some 91, none, .p (.mv (.t 11))⟩,
    ⟨some 92, none, .p (.bin .lss (.t 91) (.k (.c (C.int .i64 0))))⟩] [10, 11, 92])
  (.cond (.t 92)
  (.seq (.region [⟨some 2, none, .p (.mv (.k (.c (C.bool false))))⟩] [2])
  .ret)
  .skip))
  (.seq (.seq (.region [⟨some 93, none, .p (.mv (.t 11))⟩,
    ⟨some 94, none, .p (.mv (.t 10))⟩,
    ⟨some 95, none, .p (.bin .neq (.t 93) (.t 94))⟩] [95])
  (.cond (.t 95)
  (.seq (.region [⟨some 2, none, .p (.mv (.k (.c (C.bool false))))⟩] [2])
  .ret)
  .skip))
  (.seq (.region [⟨some 2, none, .p (.mv (.k (.c (C.bool true))))⟩] [2])
  .ret))))))))))))))))))))))))) }
theorem a16_ok : okFn Try.prog 16 a16 = true := by kernel_rfl
/-- loop.example/g01215/laws.FnExactDoesSolve -/
def a17 : AFn := { np := 1, nt := 40, res := [.t 2], body :=
  (.seq (.region [⟨some 1, none, .p (.box 25 (.t 0))⟩,
    ⟨some 2, none, .p (.mv (.k (.c (C.bool false))))⟩] [1])
  (.seq (.region [⟨some 3, none, .p (.mv (.k (.c (C.int .i64 1048576))))⟩] [1, 3])
  (.seq (.region [⟨some 9, none, .h (.load 25 true (.t 1))⟩,
    ⟨some 10, none, .p (.mv (.t 3))⟩,
    ⟨some 11, none, .h (.call (.f 47) [.t 9, .t 10])⟩,
    ⟨some 3, none, .p (.mv (.t 11))⟩] [1, 3])
  (.seq (.seq (.region [⟨some 12, none, .p (.mv (.t 3))⟩,
    ⟨some 13, none, .p (.bin .lss (.t 12) (.k (.c (C.int .i64 0))))⟩] [1, 13])
  (.cond (.t 13)
  (.seq (.region [⟨some 2, none, .p (.mv (.k (.c (C.bool true))))⟩] [2])
  .ret)
  .skip))
  (.seq (.region [⟨some 15, none, .h (.load 25 true (.t 1))⟩,
    ⟨some 16, none, .h (.call (.f 49) [.t 15])⟩,
    ⟨some 17, none, .h (.call (.f 77) [.t 16])⟩,
    ⟨some 14, none, .p (.mv (.t 17))⟩,
    ⟨some 18, none, .p (.ext (.t 14) 0)⟩,
    ⟨some 19, none, .p (.ext (.t 14) 1)⟩,
    ⟨some 4, none, .p (.mv (.t 18))⟩,
    ⟨some 5, none, .p (.mv (.t 19))⟩] [1, 4, 5])
  (.seq (.region [⟨some 20, none, .h (.load 25 true (.t 1))⟩,
    ⟨some 21, none, .h (.call (.f 49) [.t 20])⟩,
    ⟨some 6, none, .p (.alloc [.k (C.int .i64 0), .k (C.int .i64 0), .k (C.int .i64 0), .k (C.int .i64 0), .k (C.int .i64 0), .k (C.int .i64 0), .k (C.int .i64 0), .k (C.int .i64 0), .k (C.int .i64 0), .k (C.int .i64 0), .k (C.int .i64 0), .k (C.int .i64 0), .k (C.int .i64 0), .k (C.int .i64 0), .k (C.int .i64 0), .k (C.int .i64 0), .k (C.int .i64 0), .k (C.int .i64 0), .k (C.int .i64 0), .k (C.int .i64 0), .k (C.int .i64 0), .k (C.int .i64 0), .k (C.int .i64 0), .k (C.int .i64 0), .sl 2])⟩,
    ⟨none, none, .h (.store 25 (.t 6) (.t 21))⟩] [1, 4, 5, 6])
  (.seq (.region [⟨some 23, none, .h (.load 25 true (.t 6))⟩,
    ⟨some 24, none, .h (.call (.f 78) [.t 23])⟩,
    ⟨some 22, none, .p (.mv (.t 24))⟩,
    ⟨some 25, none, .p (.ext (.t 22) 0)⟩,
    ⟨some 26, none, .p (.ext (.t 22) 1)⟩,
    ⟨some 7, none, .p (.mv (.t 25))⟩,
    ⟨some 8, none, .p (.mv (.t 26))⟩] [1, 4, 5, 6, 7, 8])
  (.seq (.seq (.region [⟨some 27, none, .p (.mv (.t 7))⟩,
    ⟨some 28, none, .p (.mv (.t 4))⟩,
    ⟨some 29, none, .p (.eqb true (.t 27) (.t 28))⟩,
    ⟨some 30, none, .p (.mv (.t 29))⟩,
    ⟨some 31, some (30, false), .p (.mv (.t 8))⟩,
    ⟨some 32, some (30, false), .p (.mv (.t 5))⟩,
    ⟨some 33, some (30, false), .p (.eqb true (.t 31) (.t 32))⟩,
    ⟨some 34, none, .p (.pick (.t 30) (.k (.c (C.bool true))) (.t 33))⟩] [1, 6, 34])
  (.cond (.t 34)
  (.seq (.region [⟨some 2, none, .p (.mv (.k (.c (C.bool false))))⟩] [2])
  .ret)
  .skip))
  (.seq (.seq (.regionD [⟨some 35, none, .h (.load 25 true (.t 6))⟩,
    ⟨some 36, none, .h (.load 25 true (.t 1))⟩,
    ⟨some 37, none, .h (.call (.f 49) [.t 36])⟩,
    ⟨some 38, none, .h (.call (.f 51) [.t 35, .t 37])⟩,
    ⟨some 39, none, .p (.un .not (.t 38))⟩] [39] [])
  (.cond (.t 39)
  (.seq (.region [⟨some 2, none, .p (.mv (.k (.c (C.bool false))))⟩] [2])
  .ret)
  .skip))
  (.seq (.region [⟨some 2, none, .p (.mv (.k (.c (C.bool true))))⟩] [2])
  .ret)))))))))) }
theorem a17_ok : okFn Try.prog 17 a17 = true := by kernel_rfl
/-- loop.example/g01215/laws.FnExactTubePours -/
def a18 : AFn := { np := 2, nt := 71, res := [.t 4], body :=
  (.seq (.region [⟨some 2, none, .p (.box 24 (.t 0))⟩,
    ⟨some 4, none, .p (.mv (.k (.c (C.bool false))))⟩] [1, 2])
  (.seq (.region [⟨some 14, none, .h (.load 24 true (.t 2))⟩,
    ⟨some 15, none, .h (.call (.f 38) [.t 14])⟩,
    ⟨some 16, none, .p (.mv (.t 1))⟩,
    ⟨some 17, none, .h (.call (.f 79) [.t 15, .t 16])⟩,
    ⟨some 13, none, .p (.mv (.t 17))⟩,
    ⟨some 18, none, .p (.ext (.t 13) 0)⟩,
    ⟨some 19, none, .p (.ext (.t 13) 1)⟩,
    ⟨some 5, none, .p (.mv (.t 18))⟩,
    ⟨some 6, none, .p (.mv (.t 19))⟩] [1, 2, 5, 6])
  (.seq (.region [⟨some 21, none, .h (.load 24 true (.t 2))⟩,
    ⟨some 22, none, .h (.call (.f 38) [.t 21])⟩,
    ⟨some 23, none, .p (.mv (.t 1))⟩,
    ⟨some 24, none, .h (.call (.f 80) [.t 22, .t 23])⟩,
    ⟨some 20, none, .p (.mv (.t 24))⟩,
    ⟨some 25, none, .p (.ext (.t 20) 0)⟩,
    ⟨some 26, none, .p (.ext (.t 20) 1)⟩,
    ⟨some 7, none, .p (.mv (.t 25))⟩,
    ⟨some 8, none, .p (.mv (.t 26))⟩] [1, 2, 5, 6, 7, 8])
  (.seq (.seq (.region [⟨some 27, none, .p (.mv (.t 7))⟩,
    ⟨some 28, none, .p (.mv (.t 5))⟩,
    ⟨some 29, none, .h (.call (.f 59) [.t 27, .t 28])⟩,
    ⟨some 30, none, .p (.un .not (.t 29))⟩,
    ⟨some 31, none, .p (.mv (.t 30))⟩,
    ⟨some 32, some (31, false), .p (.mv (.t 8))⟩,
    ⟨some 33, some (31, false), .p (.mv (.t 6))⟩,
    ⟨some 34, some (31, false), .p (.eqb true (.t 32) (.t 33))⟩,
    ⟨some 35, none, .p (.pick (.t 31) (.k (.c (C.bool true))) (.t 34))⟩] [1, 2, 5, 6, 7, 35])
  (.cond (.t 35)
  (.seq (.region [⟨some 4, none, .p (.mv (.k (.c (C.bool false))))⟩] [4])
  .ret)
  .skip))
  (.seq (.region [⟨some 9, none, .p (.mv (.k (.c (C.int .i64 1))))⟩] [1, 2, 5, 6, 7, 9])
  (.seq (.region [⟨some 36, none, .p (.mv (.t 7))⟩,
    ⟨some 37, none, .p (.mv (.t 9))⟩,
    ⟨some 38, none, .h (.call (.f 66) [.t 36, .t 37])⟩,
    ⟨some 9, none, .p (.mv (.t 38))⟩] [1, 2, 5, 6, 7, 9])
  (.seq (.region [⟨some 10, none, .p (.mv (.k (.c (C.int .i64 1))))⟩] [1, 2, 5, 6, 7, 9, 10])
  (.seq (.region [⟨some 39, none, .p (.mv (.t 7))⟩,
    ⟨some 40, none, .p (.mv (.t 10))⟩,
    ⟨some 41, none, .h (.call (.f 67) [.t 39, .t 40])⟩,
    ⟨some 10, none, .p (.mv (.t 41))⟩] [1, 2, 5, 6, 7, 9, 10])
  (.seq (.seq (.region [⟨some 42, none, .p (.mv (.t 10))⟩,
    ⟨some 43, none, .p (.bin .lss (.t 42) (.k (.c (C.int .i64 0))))⟩] [1, 2, 5, 6, 7, 9, 10, 43])
  (.cond (.t 43)
  (.seq (.region [⟨some 4, none, .p (.mv (.k (.c (C.bool false))))⟩] [4])
  .ret)
  .skip))
  (.seq (.seq (.region [⟨some 44, none, .p (.mv (.t 10))⟩,
    ⟨some 45, none, .p (.mv (.t 9))⟩,
    ⟨some 46, none, .p (.bin .neq (.t 44) (.t 45))⟩] [1, 2, 5, 6, 7, 9, 46])
  (.cond (.t 46)
  (.seq (.region [⟨some 4, none, .p (.mv (.k (.c (C.bool false))))⟩] [4])
  .ret)
  .skip))
  (.seq (.region [⟨some 48, none, .h (.load 24 true (.t 2))⟩,
    ⟨some 49, none, .h (.call (.f 38) [.t 48])⟩,
    ⟨some 50, none, .p (.mv (.t 1))⟩,
    ⟨some 51, none, .h (.call (.f 80) [.t 49, .t 50])⟩,
    ⟨some 47, none, .p (.mv (.t 51))⟩,
    ⟨some 52, none, .p (.ext (.t 47) 0)⟩,
    ⟨some 53, none, .p (.ext (.t 47) 1)⟩,
    ⟨some 11, none, .p (.mv (.t 52))⟩,
    ⟨some 12, none, .p (.mv (.t 53))⟩] [5, 6, 7, 9, 11, 12])
  (.seq (.seq (.region [⟨some 54, none, .p (.mv (.t 11))⟩,
    ⟨some 55, none, .p (.mv (.t 5))⟩,
    ⟨some 56, none, .h (.call (.f 59) [.t 54, .t 55])⟩,
    ⟨some 57, none, .p (.un .not (.t 56))⟩,
    ⟨some 58, none, .p (.mv (.t 57))⟩,
    ⟨some 59, some (58, false), .p (.mv (.t 12))⟩,
    ⟨some 60, some (58, false), .p (.mv (.t 6))⟩,
    ⟨some 61, some (58, false), .p (.eqb true (.t 59) (.t 60))⟩,
    ⟨some 62, none, .p (.pick (.t 58) (.k (.c (C.bool true))) (.t 61))⟩] [7, 9, 62])
  (.cond (.t 62)
  (.seq (.region [⟨some 4, none, .p (.mv (.k (.c (C.bool false))))⟩] [4])
  .ret)
  .skip))
  (.seq (.region [⟨some 10, none, .p (.mv (.k (.c (C.int .i64 1))))⟩] [7, 9, 10])
  (.seq (.region [⟨some 63, none, .p (.mv (.t 7))⟩,
    ⟨some 64, none, .p (.mv (.t 10))⟩,
    ⟨some 65, none, .h (.call (.f 67) [.t 63, .t 64])⟩,
    ⟨some 10, none, .p (.mv (.t 65))⟩] [9, 10])
  (.seq (.seq (.region [⟨some 66, none, .p (.mv (.t 10))⟩,
    ⟨some 67, none, .p (.bin .lss (.t 66) (.k (.c (C.int .i64 0))))⟩] [9, 10, 67])
  (.cond (.t 67)
  (.seq (.region [⟨some 4, none, .p (.mv (.k (.c (C.bool false))))⟩] [4])
  .ret)
  .skip))
  (.seq (.seq (.region [⟨some 68, none, .p (.mv (.t 10))⟩,
    ⟨some 69, none, .p (.mv (.t 9))⟩,
    ⟨some 70, none, .p (.bin .neq (.t 68) (.t 69))⟩] [70])
  (.cond (.t 70)
  (.seq (.region [⟨some 4, none, .p (.mv (.k (.c (C.bool false))))⟩] [4])
  .ret)
  .skip))
  (.seq (.region [⟨some 4, none, .p (.mv (.k (.c (C.bool true))))⟩] [4])
  .ret))))))))))))))))) }
theorem a18_ok : okFn Try.prog 18 a18 = true := by kernel_rfl
/-- loop.example/g01215/laws.FnExactAddPour -/
def a19 : AFn := { np := 2, nt := 104, res := [.t 4], body :=
  (.seq (.region [⟨some 2, none, .p (.box 25 (.t 0))⟩,
    ⟨some 3, none, .p (.box 2 (.t 1))⟩,
    ⟨some 4, none, .p (.mv (.k (.c (C.bool false))))⟩] [2, 3])
  (.seq (.region [⟨some 5, none, .p (.mv (.k (.c (C.int .i64 1048576))))⟩] [2, 3, 5])
  (.seq (.region [⟨some 16, none, .h (.load 25 true (.t 2))⟩,
    ⟨some 17, none, .p (.mv (.t 5))⟩,
    ⟨some 18, none, .h (.call (.f 47) [.t 16, .t 17])⟩,
    ⟨some 5, none, .p (.mv (.t 18))⟩] [2, 3, 5])
  (.seq (.seq (.region [⟨some 19, none, .p (.mv (.t 5))⟩,
    ⟨some 20, none, .p (.bin .lss (.t 19) (.k (.c (C.int .i64 0))))⟩] [2, 3, 20])
  (.cond (.t 20)
  (.seq (.region [⟨some 4, none, .p (.mv (.k (.c (C.bool true))))⟩] [4])
  .ret)
  .skip))
  (.seq (.regionD [⟨some 22, none, .h (.load 25 true (.t 2))⟩,
    ⟨some 23, none, .h (.call (.f 49) [.t 22])⟩,
    ⟨some 24, none, .h (.load 2 true (.t 3))⟩,
    ⟨some 25, none, .h (.call (.f 82) [.t 24])⟩,
    ⟨some 26, none, .h (.call (.f 81) [.t 23, .t 25])⟩,
    ⟨some 21, none, .p (.mv (.t 26))⟩,
    ⟨some 27, none, .p (.ext (.t 21) 0)⟩,
    ⟨some 28, none, .p (.ext (.t 21) 1)⟩,
    ⟨some 6, none, .p (.alloc [.k (C.int .i64 0), .k (C.int .i64 0), .k (C.int .i64 0), .k (C.int .i64 0), .k (C.int .i64 0), .k (C.int .i64 0), .k (C.int .i64 0), .k (C.int .i64 0), .k (C.int .i64 0), .k (C.int .i64 0), .k (C.int .i64 0), .k (C.int .i64 0), .k (C.int .i64 0), .k (C.int .i64 0), .k (C.int .i64 0), .k (C.int .i64 0), .k (C.int .i64 0), .k (C.int .i64 0), .k (C.int .i64 0), .k (C.int .i64 0), .k (C.int .i64 0), .k (C.int .i64 0), .k (C.int .i64 0), .k (C.int .i64 0), .sl 2])⟩,
    ⟨none, none, .h (.store 25 (.t 6) (.t 27))⟩,
    ⟨some 7, none, .p (.mv (.t 28))⟩] [2, 3, 6, 7] [])
  (.seq (.region [⟨some 29, none, .h (.load 25 true (.t 2))⟩,
    ⟨some 30, none, .h (.call (.f 49) [.t 29])⟩,
    ⟨some 8, none, .p (.alloc [.k (C.int .i64 0), .k (C.int .i64 0), .k (C.int .i64 0), .k (C.int .i64 0), .k (C.int .i64 0), .k (C.int .i64 0), .k (C.int .i64 0), .k (C.int .i64 0), .k (C.int .i64 0), .k (C.int .i64 0), .k (C.int .i64 0), .k (C.int .i64 0), .k (C.int .i64 0), .k (C.int .i64 0), .k (C.int .i64 0), .k (C.int .i64 0), .k (C.int .i64 0), .k (C.int .i64 0), .k (C.int .i64 0), .k (C.int .i64 0), .k (C.int .i64 0), .k (C.int .i64 0), .k (C.int .i64 0), .k (C.int .i64 0), .sl 2])⟩,
    ⟨none, none, .h (.store 25 (.t 8) (.t 30))⟩] [2, 3, 6, 7, 8])
  (.seq (.regionD [⟨some 32, none, .h (.load 25 true (.t 8))⟩,
    ⟨some 33, none, .h (.load 2 true (.t 3))⟩,
    ⟨some 34, none, .h (.call (.f 82) [.t 33])⟩,
    ⟨some 35, none, .h (.call (.f 83) [.t 32, .t 34])⟩,
    ⟨some 31, none, .p (.mv (.t 35))⟩,
    ⟨some 36, none, .p (.ext (.t 31) 0)⟩,
    ⟨some 37, none, .p (.ext (.t 31) 1)⟩,
    ⟨some 9, none, .p (.alloc [.k (C.int .i64 0), .k (C.int .i64 0), .k (C.int .i64 0), .k (C.int .i64 0), .k (C.int .i64 0), .k (C.int .i64 0), .k (C.int .i64 0), .k (C.int .i64 0), .k (C.int .i64 0), .k (C.int .i64 0), .k (C.int .i64 0), .k (C.int .i64 0), .k (C.int .i64 0), .k (C.int .i64 0), .k (C.int .i64 0), .k (C.int .i64 0), .k (C.int .i64 0), .k (C.int .i64 0), .k (C.int .i64 0), .k (C.int .i64 0), .k (C.int .i64 0), .k (C.int .i64 0), .k (C.int .i64 0), .k (C.int .i64 0), .sl 2])⟩,
    ⟨none, none, .h (.store 25 (.t 9) (.t 36))⟩,
    ⟨some 10, none, .p (.mv (.t 37))⟩] [2, 3, 6, 7, 8, 9, 10] [])
  (.seq (.seq (.region [⟨some 38, none, .h (.load 25 true (.t 9))⟩,
    ⟨some 39, none, .h (.load 25 true (.t 6))⟩,
    ⟨some 40, none, .h (.call (.f 51) [.t 38, .t 39])⟩,
    ⟨some 41, none, .p (.un .not (.t 40))⟩,
    ⟨some 42, none, .p (.mv (.t 41))⟩,
    ⟨some 43, some (42, false), .p (.mv (.t 10))⟩,
    ⟨some 44, some (42, false), .p (.mv (.t 7))⟩,
    ⟨some 45, some (42, false), .p (.eqb true (.t 43) (.t 44))⟩,
    ⟨some 46, none, .p (.pick (.t 42) (.k (.c (C.bool true))) (.t 45))⟩] [2, 3, 6, 7, 8, 9, 10, 46])
  (.cond (.t 46)
  (.seq (.region [⟨some 4, none, .p (.mv (.k (.c (C.bool false))))⟩] [4])
  .ret)
  .skip))
  (.seq (.seq (.regionD [⟨some 47, none, .h (.load 25 true (.t 8))⟩,
    ⟨some 48, none, .h (.load 25 true (.t 2))⟩,
    ⟨some 49, none, .h (.call (.f 49) [.t 48])⟩,
    ⟨some 50, none, .h (.call (.f 51) [.t 47, .t 49])⟩,
    ⟨some 51, none, .p (.un .not (.t 50))⟩] [2, 3, 6, 7, 8, 9, 10, 51] [])
  (.cond (.t 51)
  (.seq (.region [⟨some 4, none, .p (.mv (.k (.c (C.bool false))))⟩] [4])
  .ret)
  .skip))
  (.seq (.region [⟨some 11, none, .p (.mv (.k (.c (C.int .i64 1))))⟩] [2, 3, 6, 7, 8, 9, 10, 11])
  (.seq (.region [⟨some 52, none, .h (.load 25 true (.t 8))⟩,
    ⟨some 53, none, .p (.mv (.t 11))⟩,
    ⟨some 54, none, .h (.call (.f 76) [.t 52, .t 53])⟩,
    ⟨some 11, none, .p (.mv (.t 54))⟩] [2, 3, 6, 7, 9, 10, 11])
  (.seq (.seq (.region [⟨some 55, none, .p (.mv (.t 11))⟩,
    ⟨some 56, none, .p (.bin .lss (.t 55) (.k (.c (C.int .i64 0))))⟩,
    ⟨some 57, none, .p (.mv (.t 56))⟩,
    ⟨some 58, some (57, false), .h (.load 25 true (.t 9))⟩,
    ⟨some 59, some (57, false), .h (.load 25 true (.t 6))⟩,
    ⟨some 60, some (57, false), .h (.call (.f 51) [.t 58, .t 59])⟩,
    ⟨some 61, some (57, false), .p (.un .not (.t 60))⟩,
    ⟨some 62, none, .p (.pick (.t 57) (.k (.c (C.bool true))) (.t 61))⟩,
    ⟨some 63, none, .p (.mv (.t 62))⟩,
    ⟨some 64, some (63, false), .p (.mv (.t 10))⟩,
    ⟨some 65, some (63, false), .p (.mv (.t 7))⟩,
    ⟨some 66, some (63, false), .p (.eqb true (.t 64) (.t 65))⟩,
    ⟨some 67, none, .p (.pick (.t 63) (.k (.c (C.bool true))) (.t 66))⟩] [2, 3, 6, 7, 9, 67])
  (.cond (.t 67)
  (.seq (.region [⟨some 4, none, .p (.mv (.k (.c (C.bool false))))⟩] [4])
  .ret)
  .skip))
  (.seq (.region [⟨some 12, none, .p (.mv (.k (.c (C.int .i64 1))))⟩] [2, 3, 6, 7, 9, 12])
  (.seq (.region [⟨some 68, none, .h (.load 25 true (.t 9))⟩,
    ⟨some 69, none, .p (.mv (.t 12))⟩,
    ⟨some 70, none, .h (.call (.f 76) [.t 68, .t 69])⟩,
    ⟨some 12, none, .p (.mv (.t 70))⟩] [2, 3, 6, 7, 9, 12])
  (.seq (.region [⟨some 13, none, .p (.mv (.k (.c (C.int .i64 1))))⟩] [2, 3, 6, 7, 9, 12, 13])
  (.seq (.region [⟨some 71, none, .h (.load 25 true (.t 9))⟩,
    ⟨some 72, none, .p (.mv (.t 13))⟩,
    ⟨some 73, none, .h (.call (.f 84) [.t 71, .t 72])⟩,
    ⟨some 13, none, .p (.mv (.t 73))⟩] [2, 3, 6, 7, 9, 12, 13])
  (.seq (.seq (.region [⟨some 74, none, .p (.mv (.t 13))⟩,
    ⟨some 75, none, .p (.bin .lss (.t 74) (.k (.c (C.int .i64 0))))⟩] [2, 3, 6, 7, 9, 12, 13, 75])
  (.cond (.t 75)
  (.seq (.region [⟨some 4, none, .p (.mv (.k (.c (C.bool false))))⟩] [4])
  .ret)
  .skip))
  (.seq (.seq (.region [⟨some 76, none, .p (.mv (.t 13))⟩,
    ⟨some 77, none, .p (.mv (.t 12))⟩,
    ⟨some 78, none, .p (.bin .neq (.t 76) (.t 77))⟩] [2, 3, 6, 7, 9, 12, 78])
  (.cond (.t 78)
  (.seq (.region [⟨some 4, none, .p (.mv (.k (.c (C.bool false))))⟩] [4])
  .ret)
  .skip))
  (.seq (.regionD [⟨some 80, none, .h (.load 25 true (.t 2))⟩,
    ⟨some 81, none, .h (.call (.f 49) [.t 80])⟩,
    ⟨some 82, none, .h (.load 2 true (.t 3))⟩,
    ⟨some 83, none, .h (.call (.f 82) [.t 82])⟩,
    ⟨some 84, none, .h (.call (.f 83) [.t 81, .t 83])⟩,
    ⟨some 79, none, .p (.mv (.t 84))⟩,
    ⟨some 85, none, .p (.ext (.t 79) 0)⟩,
    ⟨some 86, none, .p (.ext (.t 79) 1)⟩,
    ⟨some 14, none, .p (.alloc [.k (C.int .i64 0), .k (C.int .i64 0), .k (C.int .i64 0), .k (C.int .i64 0), .k (C.int .i64 0), .k (C.int .i64 0), .k (C.int .i64 0), .k (C.int .i64 0), .k (C.int .i64 0), .k (C.int .i64 0), .k (C.int .i64 0), .k (C.int .i64 0), .k (C.int .i64 0), .k (C.int .i64 0), .k (C.int .i64 0), .k (C.int .i64 0), .k (C.int .i64 0), .k (C.int .i64 0), .k (C.int .i64 0), .k (C.int .i64 0), .k (C.int .i64 0), .k (C.int .i64 0), .k (C.int .i64 0), .k (C.int .i64 0), .sl 2])⟩,
    ⟨none, none, .h (.store 25 (.t 14) (.t 85))⟩,
    ⟨some 15, none, .p (.mv (.t 86))⟩] [6, 7, 9, 12, 14, 15] [])
  (.seq (.seq (.region [⟨some 87, none, .h (.load 25 true (.t 14))⟩,
    ⟨some 88, none, .h (.load 25 true (.t 6))⟩,
    ⟨some 89, none, .h (.call (.f 51) [.t 87, .t 88])⟩,
    ⟨some 90, none, .p (.un .not (.t 89))⟩,
    ⟨some 91, none, .p (.mv (.t 90))⟩,
    ⟨some 92, some (91, false), .p (.mv (.t 15))⟩,
    ⟨some 93, some (91, false), .p (.mv (.t 7))⟩,
    ⟨some 94, some (91, false), .p (.eqb true (.t 92) (.t 93))⟩,
    ⟨some 95, none, .p (.pick (.t 91) (.k (.c (C.bool true))) (.t 94))⟩] [9, 12, 95])
  (.cond (.t 95)
  (.seq (.region [⟨some 4, none, .p (.mv (.k (.c (C.bool false))))⟩] [4])
  .ret)
  .skip))
  (.seq (.region [⟨some 13, none, .p (.mv (.k (.c (C.int .i64 1))))⟩] [9, 12, 13])
  (.seq (.region [⟨some 96, none, .h (.load 25 true (.t 9))⟩,
    ⟨some 97, none, .p (.mv (.t 13))⟩,
    ⟨some 98, none, .h (.call (.f 84) [.t 96, .t 97])⟩,
    ⟨some 13, none, .p (.mv (.t 98))⟩] [12, 13])
  (.seq (.seq (.region [⟨some 99, none, .p (.mv (.t 13))⟩,
    ⟨some 100, none, .p (.bin .lss (.t 99) (.k (.c (C.int .i64 0))))⟩] [12, 13, 100])
  (.cond (.t 100)
  (.seq (.region [⟨some 4, none, .p (.mv (.k (.c (C.bool false))))⟩] [4])
  .ret)
  .skip))
  (.seq (.seq (.region [⟨some 101, none, .p (.mv (.t 13))⟩,
    ⟨some 102, none, .p (.mv (.t 12))⟩,
    ⟨some 103, none, .p (.bin .neq (.t 101) (.t 102))⟩] [103])
  (.cond (.t 103)
  (.seq (.region [⟨some 4, none, .p (.mv (.k (.c (C.bool false))))⟩] [4])
  .ret)
  .skip))
  (.seq (.region [⟨some 4, none, .p (.mv (.k (.c (C.bool true))))⟩] [4])
  .ret))))))))))))))))))))))))) }
theorem a19_ok : okFn Try.prog 19 a19 = true := by kernel_rfl
/-- loop.example/g01215/laws.FnExactUndoPours -/
def a20 : AFn := { np := 2, nt := 101, res := [.t 4], body :=
  (.seq (.region [⟨some 2, none, .p (.box 25 (.t 0))⟩,
    ⟨some 4, none, .p (.mv (.k (.c (C.bool false))))⟩] [1, 2])
  (.seq (.region [⟨some 5, none, .p (.mv (.k (.c (C.int .i64 1048576))))⟩] [1, 2, 5])
  (.seq (.region [⟨some 16, none, .h (.load 25 true (.t 2))⟩,
    ⟨some 17, none, .p (.mv (.t 5))⟩,
    ⟨some 18, none, .h (.call (.f 47) [.t 16, .t 17])⟩,
    ⟨some 5, none, .p (.mv (.t 18))⟩] [1, 2, 5])
  (.seq (.seq (.region [⟨some 19, none, .p (.mv (.t 5))⟩,
    ⟨some 20, none, .p (.bin .lss (.t 19) (.k (.c (C.int .i64 0))))⟩] [1, 2, 20])
  (.cond (.t 20)
  (.seq (.region [⟨some 4, none, .p (.mv (.k (.c (C.bool true))))⟩] [4])
  .ret)
  .skip))
  (.seq (.region [⟨some 22, none, .h (.load 25 true (.t 2))⟩,
    ⟨some 23, none, .h (.call (.f 49) [.t 22])⟩,
    ⟨some 24, none, .p (.mv (.t 1))⟩,
    ⟨some 25, none, .h (.call (.f 85) [.t 23, .t 24])⟩,
    ⟨some 21, none, .p (.mv (.t 25))⟩,
    ⟨some 26, none, .p (.ext (.t 21) 0)⟩,
    ⟨some 27, none, .p (.ext (.t 21) 1)⟩,
    ⟨some 6, none, .p (.alloc [.k (C.int .i64 0), .k (C.int .i64 0), .k (C.int .i64 0), .k (C.int .i64 0), .k (C.int .i64 0), .k (C.int .i64 0), .k (C.int .i64 0), .k (C.int .i64 0), .k (C.int .i64 0), .k (C.int .i64 0), .k (C.int .i64 0), .k (C.int .i64 0), .k (C.int .i64 0), .k (C.int .i64 0), .k (C.int .i64 0), .k (C.int .i64 0), .k (C.int .i64 0), .k (C.int .i64 0), .k (C.int .i64 0), .k (C.int .i64 0), .k (C.int .i64 0), .k (C.int .i64 0), .k (C.int .i64 0), .k (C.int .i64 0), .sl 2])⟩,
    ⟨none, none, .h (.store 25 (.t 6) (.t 26))⟩,
    ⟨some 7, none, .p (.mv (.t 27))⟩] [1, 2, 6, 7])
  (.seq (.region [⟨some 28, none, .h (.load 25 true (.t 2))⟩,
    ⟨some 29, none, .h (.call (.f 49) [.t 28])⟩,
    ⟨some 8, none, .p (.alloc [.k (C.int .i64 0), .k (C.int .i64 0), .k (C.int .i64 0), .k (C.int .i64 0), .k (C.int .i64 0), .k (C.int .i64 0), .k (C.int .i64 0), .k (C.int .i64 0), .k (C.int .i64 0), .k (C.int .i64 0), .k (C.int .i64 0), .k (C.int .i64 0), .k (C.int .i64 0), .k (C.int .i64 0), .k (C.int .i64 0), .k (C.int .i64 0), .k (C.int .i64 0), .k (C.int .i64 0), .k (C.int .i64 0), .k (C.int .i64 0), .k (C.int .i64 0), .k (C.int .i64 0), .k (C.int .i64 0), .k (C.int .i64 0), .sl 2])⟩,
    ⟨none, none, .h (.store 25 (.t 8) (.t 29))⟩] [1, 2, 6, 7, 8])
  (.seq (.region [⟨some 31, none, .h (.load 25 true (.t 8))⟩,
    ⟨some 32, none, .p (.mv (.t 1))⟩,
    ⟨some 33, none, .h (.call (.f 86) [.t 31, .t 32])⟩,
    ⟨some 30, none, .p (.mv (.t 33))⟩,
    ⟨some 34, none, .p (.ext (.t 30) 0)⟩,
    ⟨some 35, none, .p (.ext (.t 30) 1)⟩,
    ⟨some 9, none, .p (.alloc [.k (C.int .i64 0), .k (C.int .i64 0), .k (C.int .i64 0), .k (C.int .i64 0), .k (C.int .i64 0), .k (C.int .i64 0), .k (C.int .i64 0), .k (C.int .i64 0), .k (C.int .i64 0), .k (C.int .i64 0), .k (C.int .i64 0), .k (C.int .i64 0), .k (C.int .i64 0), .k (C.int .i64 0), .k (C.int .i64 0), .k (C.int .i64 0), .k (C.int .i64 0), .k (C.int .i64 0), .k (C.int .i64 0), .k (C.int .i64 0), .k (C.int .i64 0), .k (C.int .i64 0), .k (C.int .i64 0), .k (C.int .i64 0), .sl 2])⟩,
    ⟨none, none, .h (.store 25 (.t 9) (.t 34))⟩,
    ⟨some 10, none, .p (.mv (.t 35))⟩] [1, 2, 6, 7, 8, 9, 10])
  (.seq (.seq (.region [⟨some 36, none, .h (.load 25 true (.t 9))⟩,
    ⟨some 37, none, .h (.load 25 true (.t 6))⟩,
    ⟨some 38, none, .h (.call (.f 51) [.t 36, .t 37])⟩,
    ⟨some 39, none, .p (.un .not (.t 38))⟩,
    ⟨some 40, none, .p (.mv (.t 39))⟩,
    ⟨some 41, some (40, false), .p (.mv (.t 10))⟩,
    ⟨some 42, some (40, false), .p (.mv (.t 7))⟩,
    ⟨some 43, some (40, false), .p (.eqb true (.t 41) (.t 42))⟩,
    ⟨some 44, none, .p (.pick (.t 40) (.k (.c (C.bool true))) (.t 43))⟩] [1, 2, 6, 7, 8, 9, 10, 44])
  (.cond (.t 44)
  (.seq (.region [⟨some 4, none, .p (.mv (.k (.c (C.bool false))))⟩] [4])
  .ret)
  .skip))
  (.seq (.seq (.regionD [⟨some 45, none, .h (.load 25 true (.t 8))⟩,
    ⟨some 46, none, .h (.load 25 true (.t 2))⟩,
    ⟨some 47, none, .h (.call (.f 49) [.t 46])⟩,
    ⟨some 48, none, .h (.call (.f 51) [.t 45, .t 47])⟩,
    ⟨some 49, none, .p (.un .not (.t 48))⟩] [1, 2, 6, 7, 8, 9, 10, 49] [])
  (.cond (.t 49)
  (.seq (.region [⟨some 4, none, .p (.mv (.k (.c (C.bool false))))⟩] [4])
  .ret)
  .skip))
  (.seq (.region [⟨some 11, none, .p (.mv (.k (.c (C.int .i64 1))))⟩] [1, 2, 6, 7, 8, 9, 10, 11])
  (.seq (.region [⟨some 50, none, .h (.load 25 true (.t 8))⟩,
    ⟨some 51, none, .p (.mv (.t 11))⟩,
    ⟨some 52, none, .h (.call (.f 76) [.t 50, .t 51])⟩,
    ⟨some 11, none, .p (.mv (.t 52))⟩] [1, 2, 6, 7, 9, 10, 11])
  (.seq (.seq (.region [⟨some 53, none, .p (.mv (.t 11))⟩,
    ⟨some 54, none, .p (.bin .lss (.t 53) (.k (.c (C.int .i64 0))))⟩,
    ⟨some 55, none, .p (.mv (.t 54))⟩,
    ⟨some 56, some (55, false), .h (.load 25 true (.t 9))⟩,
    ⟨some 57, some (55, false), .h (.load 25 true (.t 6))⟩,
    ⟨some 58, some (55, false), .h (.call (.f 51) [.t 56, .t 57])⟩,
    ⟨some 59, some (55, false), .p (.un .not (.t 58))⟩,
    ⟨some 60, none, .p (.pick (.t 55) (.k (.c (C.bool true))) (.t 59))⟩,
    ⟨some 61, none, .p (.mv (.t 60))⟩,
    ⟨some 62, some (61, false), .p (.mv (.t 10))⟩,
    ⟨some 63, some (61, false), .p (.mv (.t 7))⟩,
    ⟨some 64, some (61, false), .p (.eqb true (.t 62) (.t 63))⟩,
    ⟨some 65, none, .p (.pick (.t 61) (.k (.c (C.bool true))) (.t 64))⟩] [1, 2, 6, 7, 9, 65])
  (.cond (.t 65)
  (.seq (.region [⟨some 4, none, .p (.mv (.k (.c (C.bool false))))⟩] [4])
  .ret)
  .skip))
  (.seq (.region [⟨some 12, none, .p (.mv (.k (.c (C.int .i64 1))))⟩] [1, 2, 6, 7, 9, 12])
  (.seq (.region [⟨some 66, none, .h (.load 25 true (.t 9))⟩,
    ⟨some 67, none, .p (.mv (.t 12))⟩,
    ⟨some 68, none, .h (.call (.f 76) [.t 66, .t 67])⟩,
    ⟨some 12, none, .p (.mv (.t 68))⟩] [1, 2, 6, 7, 9, 12])
  (.seq (.region [⟨some 13, none, .p (.mv (.k (.c (C.int .i64 1))))⟩] [1, 2, 6, 7, 9, 12, 13])
  (.seq (.region [⟨some 69, none, .h (.load 25 true (.t 9))⟩,
    ⟨some 70, none, .p (.mv (.t 13))⟩,
    ⟨some 71, none, .h (.call (.f 84) [.t 69, .t 70])⟩,
    ⟨some 13, none, .p (.mv (.t 71))⟩] [1, 2, 6, 7, 9, 12, 13])
  (.seq (.seq (.region [⟨some 72, none, .p (.mv (.t 13))⟩,
    ⟨some 73, none, .p (.bin .lss (.t 72) (.k (.c (C.int .i64 0))))⟩] [1, 2, 6, 7, 9, 12, 13, 73])
  (.cond (.t 73)
  (.seq (.region [⟨some 4, none, .p (.mv (.k (.c (C.bool false))))⟩] [4])
  .ret)
  .skip))
  (.seq (.seq (.region [⟨some 74, none, .p (.mv (.t 13))⟩,
    ⟨some 75, none, .p (.mv (.t 12))⟩,
    ⟨some 76, none, .p (.bin .neq (.t 74) (.t 75))⟩] [1, 2, 6, 7, 9, 12, 76])
  (.cond (.t 76)
  (.seq (.region [⟨some 4, none, .p (.mv (.k (.c (C.bool false))))⟩] [4])
  .ret)
  .skip))
  (.seq (.region [⟨some 78, none, .h (.load 25 true (.t 2))⟩,
    ⟨some 79, none, .h (.call (.f 49) [.t 78])⟩,
    ⟨some 80, none, .p (.mv (.t 1))⟩,
    ⟨some 81, none, .h (.call (.f 86) [.t 79, .t 80])⟩,
    ⟨some 77, none, .p (.mv (.t 81))⟩,
    ⟨some 82, none, .p (.ext (.t 77) 0)⟩,
    ⟨some 83, none, .p (.ext (.t 77) 1)⟩,
    ⟨some 14, none, .p (.alloc [.k (C.int .i64 0), .k (C.int .i64 0), .k (C.int .i64 0), .k (C.int .i64 0), .k (C.int .i64 0), .k (C.int .i64 0), .k (C.int .i64 0), .k (C.int .i64 0), .k (C.int .i64 0), .k (C.int .i64 0), .k (C.int .i64 0), .k (C.int .i64 0), .k (C.int .i64 0), .k (C.int .i64 0), .k (C.int .i64 0), .k (C.int .i64 0), .k (C.int .i64 0), .k (C.int .i64 0), .k (C.int .i64 0), .k (C.int .i64 0), .k (C.int .i64 0), .k (C.int .i64 0), .k (C.int .i64 0), .k (C.int .i64 0), .sl 2])⟩,
    ⟨none, none, .h (.store 25 (.t 14) (.t 82))⟩,
    ⟨some 15, none, .p (.mv (.t 83))⟩] [6, 7, 9, 12, 14, 15])
  (.seq (.seq (.region [⟨some 84, none, .h (.load 25 true (.t 14))⟩,
    ⟨some 85, none, .h (.load 25 true (.t 6))⟩,
    ⟨some 86, none, .h (.call (.f 51) [.t 84, .t 85])⟩,
    ⟨some 87, none, .p (.un .not (.t 86))⟩,
    ⟨some 88, none, .p (.mv (.t 87))⟩,
    ⟨some 89, some (88, false), .p (.mv (.t 15))⟩,
    ⟨some 90, some (88, false), .p (.mv (.t 7))⟩,
    ⟨some 91, some (88, false), .p (.eqb true (.t 89) (.t 90))⟩,
    ⟨some 92, none, .p (.pick (.t 88) (.k (.c (C.bool true))) (.t 91))⟩] [9, 12, 92])
  (.cond (.t 92)
  (.seq (.region [⟨some 4, none, .p (.mv (.k (.c (C.bool false))))⟩] [4])
  .ret)
  .skip))
  (.seq (.region [⟨some 13, none, .p (.mv (.k (.c (C.int .i64 1))))⟩] [9, 12, 13])
  (.seq (.region [⟨some 93, none, .h (.load 25 true (.t 9))⟩,
    ⟨some 94, none, .p (.mv (.t 13))⟩,
    ⟨some 95, none, .h (.call (.f 84) [.t 93, .t 94])⟩,
    ⟨some 13, none, .p (.mv (.t 95))⟩] [12, 13])
  (.seq (.seq (.region [⟨some 96, none, .p (.mv (.t 13))⟩,
    ⟨some 97, none, .p (.bin .lss (.t 96) (.k (.c (C.int .i64 0))))⟩] [12, 13, 97])
  (.cond (.t 97)
  (.seq (.region [⟨some 4, none, .p (.mv (.k (.c (C.bool false))))⟩] [4])
  .ret)
  .skip))
  (.seq (.seq (.region [⟨some 98, none, .p (.mv (.t 13))⟩,
    ⟨some 99, none, .p (.mv (.t 12))⟩,
    ⟨some 100, none, .p (.bin .neq (.t 98) (.t 99))⟩] [100])
  (.cond (.t 100)
  (.seq (.region [⟨some 4, none, .p (.mv (.k (.c (C.bool false))))⟩] [4])
  .ret)
  .skip))
  (.seq (.region [⟨some 4, none, .p (.mv (.k (.c (C.bool true))))⟩] [4])
  .ret))))))))))))))))))))))))) }
theorem a20_ok : okFn Try.prog 20 a20 = true := by kernel_rfl
/-- loop.example/g01215/laws.FnExactChanceStuckBy -/
def a21 : AFn := { np := 2, nt := 32, res := [.t 4], body :=
  (.seq (.region [⟨some 2, none, .p (.box 24 (.t 0))⟩,
    ⟨some 4, none, .p (.mv (.k (.c (C.bool false))))⟩] [1, 2])
  (.seq (.region [⟨some 10, none, .h (.load 24 true (.t 2))⟩,
    ⟨some 11, none, .h (.call (.f 38) [.t 10])⟩,
    ⟨some 12, none, .p (.mv (.t 1))⟩,
    ⟨some 13, none, .h (.call (.f 87) [.t 11, .t 12])⟩,
    ⟨some 9, none, .p (.mv (.t 13))⟩,
    ⟨some 14, none, .p (.ext (.t 9) 0)⟩,
    ⟨some 15, none, .p (.ext (.t 9) 1)⟩,
    ⟨some 5, none, .p (.alloc [.k (C.int .i64 0), .k (C.int .i64 0)])⟩,
    ⟨none, none, .h (.store 2 (.t 5) (.t 14))⟩,
    ⟨some 6, none, .p (.mv (.t 15))⟩] [1, 2, 5, 6])
  (.seq (.region [⟨some 17, none, .h (.load 24 true (.t 2))⟩,
    ⟨some 18, none, .h (.call (.f 38) [.t 17])⟩,
    ⟨some 19, none, .p (.mv (.t 1))⟩,
    ⟨some 20, none, .h (.call (.f 88) [.t 18, .t 19])⟩,
    ⟨some 16, none, .p (.mv (.t 20))⟩,
    ⟨some 21, none, .p (.ext (.t 16) 0)⟩,
    ⟨some 22, none, .p (.ext (.t 16) 1)⟩,
    ⟨some 7, none, .p (.alloc [.k (C.int .i64 0), .k (C.int .i64 0)])⟩,
    ⟨none, none, .h (.store 2 (.t 7) (.t 21))⟩,
    ⟨some 8, none, .p (.mv (.t 22))⟩] [5, 6, 7, 8])
  (.seq (.seq (.region [⟨some 23, none, .h (.load 2 true (.t 7))⟩,
    ⟨some 24, none, .h (.load 2 true (.t 5))⟩,
    ⟨some 25, none, .h (.call (.f 36) [.t 23, .t 24])⟩,
    ⟨some 26, none, .p (.un .not (.t 25))⟩,
    ⟨some 27, none, .p (.mv (.t 26))⟩,
    ⟨some 28, some (27, false), .p (.mv (.t 8))⟩,
    ⟨some 29, some (27, false), .p (.mv (.t 6))⟩,
    ⟨some 30, some (27, false), .p (.eqb true (.t 28) (.t 29))⟩,
    ⟨some 31, none, .p (.pick (.t 27) (.k (.c (C.bool true))) (.t 30))⟩] [31])
  (.cond (.t 31)
  (.seq (.region [⟨some 4, none, .p (.mv (.k (.c (C.bool false))))⟩] [4])
  .ret)
  .skip))
  (.seq (.region [⟨some 4, none, .p (.mv (.k (.c (C.bool true))))⟩] [4])
  .ret))))) }
theorem a21_ok : okFn Try.prog 21 a21 = true := by kernel_rfl
/-- loop.example/g01215/laws.FnExactMeanRunsBehind -/
def a22 : AFn := { np := 2, nt := 32, res := [.t 4], body :=
  (.seq (.region [⟨some 2, none, .p (.box 24 (.t 0))⟩,
    ⟨some 4, none, .p (.mv (.k (.c (C.bool false))))⟩] [1, 2])
  (.seq (.region [⟨some 10, none, .h (.load 24 true (.t 2))⟩,
    ⟨some 11, none, .h (.call (.f 38) [.t 10])⟩,
    ⟨some 12, none, .p (.mv (.t 1))⟩,
    ⟨some 13, none, .h (.call (.f 89) [.t 11, .t 12])⟩,
    ⟨some 9, none, .p (.mv (.t 13))⟩,
    ⟨some 14, none, .p (.ext (.t 9) 0)⟩,
    ⟨some 15, none, .p (.ext (.t 9) 1)⟩,
    ⟨some 5, none, .p (.alloc [.k (C.int .i64 0), .k (C.int .i64 0)])⟩,
    ⟨none, none, .h (.store 2 (.t 5) (.t 14))⟩,
    ⟨some 6, none, .p (.mv (.t 15))⟩] [1, 2, 5, 6])
  (.seq (.region [⟨some 17, none, .h (.load 24 true (.t 2))⟩,
    ⟨some 18, none, .h (.call (.f 38) [.t 17])⟩,
    ⟨some 19, none, .p (.mv (.t 1))⟩,
    ⟨some 20, none, .h (.call (.f 90) [.t 18, .t 19])⟩,
    ⟨some 16, none, .p (.mv (.t 20))⟩,
    ⟨some 21, none, .p (.ext (.t 16) 0)⟩,
    ⟨some 22, none, .p (.ext (.t 16) 1)⟩,
    ⟨some 7, none, .p (.alloc [.k (C.int .i64 0), .k (C.int .i64 0)])⟩,
    ⟨none, none, .h (.store 2 (.t 7) (.t 21))⟩,
    ⟨some 8, none, .p (.mv (.t 22))⟩] [5, 6, 7, 8])
  (.seq (.seq (.region [⟨some 23, none, .h (.load 2 true (.t 7))⟩,
    ⟨some 24, none, .h (.load 2 true (.t 5))⟩,
    ⟨some 25, none, .h (.call (.f 36) [.t 23, .t 24])⟩,
    ⟨some 26, none, .p (.un .not (.t 25))⟩,
    ⟨some 27, none, .p (.mv (.t 26))⟩,
    ⟨some 28, some (27, false), .p (.mv (.t 8))⟩,
    ⟨some 29, some (27, false), .p (.mv (.t 6))⟩,
    ⟨some 30, some (27, false), .p (.eqb true (.t 28) (.t 29))⟩,
    ⟨some 31, none, .p (.pick (.t 27) (.k (.c (C.bool true))) (.t 30))⟩] [31])
  (.cond (.t 31)
  (.seq (.region [⟨some 4, none, .p (.mv (.k (.c (C.bool false))))⟩] [4])
  .ret)
  .skip))
  (.seq (.region [⟨some 4, none, .p (.mv (.k (.c (C.bool true))))⟩] [4])
  .ret))))) }
theorem a22_ok : okFn Try.prog 22 a22 = true := by kernel_rfl
/-- loop.example/g01215/laws.FnExactChanceSortedBy -/
def a23 : AFn := { np := 2, nt := 32, res := [.t 4], body :=
  (.seq (.region [⟨some 2, none, .p (.box 24 (.t 0))⟩,
    ⟨some 4, none, .p (.mv (.k (.c (C.bool false))))⟩] [1, 2])
  (.seq (.region [⟨some 10, none, .h (.load 24 true (.t 2))⟩,
    ⟨some 11, none, .h (.call (.f 38) [.t 10])⟩,
    ⟨some 12, none, .p (.mv (.t 1))⟩,
    ⟨some 13, none, .h (.call (.f 91) [.t 11, .t 12])⟩,
    ⟨some 9, none, .p (.mv (.t 13))⟩,
    ⟨some 14, none, .p (.ext (.t 9) 0)⟩,
    ⟨some 15, none, .p (.ext (.t 9) 1)⟩,
    ⟨some 5, none, .p (.alloc [.k (C.int .i64 0), .k (C.int .i64 0)])⟩,
    ⟨none, none, .h (.store 2 (.t 5) (.t 14))⟩,
    ⟨some 6, none, .p (.mv (.t 15))⟩] [1, 2, 5, 6])
  (.seq (.region [⟨some 17, none, .h (.load 24 true (.t 2))⟩,
    ⟨some 18, none, .h (.call (.f 38) [.t 17])⟩,
    ⟨some 19, none, .p (.mv (.t 1))⟩,
    ⟨some 20, none, .h (.call (.f 92) [.t 18, .t 19])⟩,
    ⟨some 16, none, .p (.mv (.t 20))⟩,
    ⟨some 21, none, .p (.ext (.t 16) 0)⟩,
    ⟨some 22, none, .p (.ext (.t 16) 1)⟩,
    ⟨some 7, none, .p (.alloc [.k (C.int .i64 0), .k (C.int .i64 0)])⟩,
    ⟨none, none, .h (.store 2 (.t 7) (.t 21))⟩,
    ⟨some 8, none, .p (.mv (.t 22))⟩] [5, 6, 7, 8])
  (.seq (.seq (.region [⟨some 23, none, .h (.load 2 true (.t 7))⟩,
    ⟨some 24, none, .h (.load 2 true (.t 5))⟩,
    ⟨some 25, none, .h (.call (.f 36) [.t 23, .t 24])⟩,
    ⟨some 26, none, .p (.un .not (.t 25))⟩,
    ⟨some 27, none, .p (.mv (.t 26))⟩,
    ⟨some 28, some (27, false), .p (.mv (.t 8))⟩,
    ⟨some 29, some (27, false), .p (.mv (.t 6))⟩,
    ⟨some 30, some (27, false), .p (.eqb true (.t 28) (.t 29))⟩,
    ⟨some 31, none, .p (.pick (.t 27) (.k (.c (C.bool true))) (.t 30))⟩] [31])
  (.cond (.t 31)
  (.seq (.region [⟨some 4, none, .p (.mv (.k (.c (C.bool false))))⟩] [4])
  .ret)
  .skip))
  (.seq (.region [⟨some 4, none, .p (.mv (.k (.c (C.bool true))))⟩] [4])
  .ret))))) }
theorem a23_ok : okFn Try.prog 23 a23 = true := by kernel_rfl
/-- loop.example/g01215/laws.FnExactDropIdle -/
def a24 : AFn := { np := 1, nt := 96, res := [.t 2], body :=
  (.seq (.region [⟨some 1, none, .p (.box 25 (.t 0))⟩,
    ⟨some 2, none, .p (.mv (.k (.c (C.bool false))))⟩] [1])
  (.seq (.region [⟨some 3, none, .p (.mv (.k (.c (C.int .i64 1048576))))⟩] [1, 3])
  (.seq (.region [⟨some 14, none, .h (.load 25 true (.t 1))⟩,
    ⟨some 15, none, .p (.mv (.t 3))⟩,
    ⟨some 16, none, .h (.call (.f 47) [.t 14, .t 15])⟩,
    ⟨some 3, none, .p (.mv (.t 16))⟩] [1, 3])
  (.seq (.seq (.region [⟨some 17, none, .p (.mv (.t 3))⟩,
    ⟨some 18, none, .p (.bin .lss (.t 17) (.k (.c (C.int .i64 0))))⟩] [1, 18])
  (.cond (.t 18)
  (.seq (.region [⟨some 2, none, .p (.mv (.k (.c (C.bool true))))⟩] [2])
  .ret)
  .skip))
  (.seq (.region [⟨some 20, none, .h (.load 25 true (.t 1))⟩,
    ⟨some 21, none, .h (.call (.f 49) [.t 20])⟩,
    ⟨some 22, none, .h (.call (.f 93) [.t 21])⟩,
    ⟨some 19, none, .p (.mv (.t 22))⟩,
    ⟨some 23, none, .p (.ext (.t 19) 0)⟩,
    ⟨some 24, none, .p (.ext (.t 19) 1)⟩,
    ⟨some 4, none, .p (.alloc [.k (C.int .i64 0), .k (C.int .i64 0), .k (C.int .i64 0), .k (C.int .i64 0), .k (C.int .i64 0), .k (C.int .i64 0), .k (C.int .i64 0), .k (C.int .i64 0), .k (C.int .i64 0), .k (C.int .i64 0), .k (C.int .i64 0), .k (C.int .i64 0), .k (C.int .i64 0), .k (C.int .i64 0), .k (C.int .i64 0), .k (C.int .i64 0), .k (C.int .i64 0), .k (C.int .i64 0), .k (C.int .i64 0), .k (C.int .i64 0), .k (C.int .i64 0), .k (C.int .i64 0), .k (C.int .i64 0), .k (C.int .i64 0), .sl 2])⟩,
    ⟨none, none, .h (.store 25 (.t 4) (.t 23))⟩,
    ⟨some 5, none, .p (.mv (.t 24))⟩] [1, 4, 5])
  (.seq (.region [⟨some 25, none, .h (.load 25 true (.t 1))⟩,
    ⟨some 26, none, .h (.call (.f 49) [.t 25])⟩,
    ⟨some 6, none, .p (.alloc [.k (C.int .i64 0), .k (C.int .i64 0), .k (C.int .i64 0), .k (C.int .i64 0), .k (C.int .i64 0), .k (C.int .i64 0), .k (C.int .i64 0), .k (C.int .i64 0), .k (C.int .i64 0), .k (C.int .i64 0), .k (C.int .i64 0), .k (C.int .i64 0), .k (C.int .i64 0), .k (C.int .i64 0), .k (C.int .i64 0), .k (C.int .i64 0), .k (C.int .i64 0), .k (C.int .i64 0), .k (C.int .i64 0), .k (C.int .i64 0), .k (C.int .i64 0), .k (C.int .i64 0), .k (C.int .i64 0), .k (C.int .i64 0), .sl 2])⟩,
    ⟨none, none, .h (.store 25 (.t 6) (.t 26))⟩] [1, 4, 5, 6])
  (.seq (.region [⟨some 28, none, .h (.load 25 true (.t 6))⟩,
    ⟨some 29, none, .h (.call (.f 94) [.t 28])⟩,
    ⟨some 27, none, .p (.mv (.t 29))⟩,
    ⟨some 30, none, .p (.ext (.t 27) 0)⟩,
    ⟨some 31, none, .p (.ext (.t 27) 1)⟩,
    ⟨some 7, none, .p (.alloc [.k (C.int .i64 0), .k (C.int .i64 0), .k (C.int .i64 0), .k (C.int .i64 0), .k (C.int .i64 0), .k (C.int .i64 0), .k (C.int .i64 0), .k (C.int .i64 0), .k (C.int .i64 0), .k (C.int .i64 0), .k (C.int .i64 0), .k (C.int .i64 0), .k (C.int .i64 0), .k (C.int .i64 0), .k (C.int .i64 0), .k (C.int .i64 0), .k (C.int .i64 0), .k (C.int .i64 0), .k (C.int .i64 0), .k (C.int .i64 0), .k (C.int .i64 0), .k (C.int .i64 0), .k (C.int .i64 0), .k (C.int .i64 0), .sl 2])⟩,
    ⟨none, none, .h (.store 25 (.t 7) (.t 30))⟩,
    ⟨some 8, none, .p (.mv (.t 31))⟩] [1, 4, 5, 6, 7, 8])
  (.seq (.seq (.region [⟨some 32, none, .h (.load 25 true (.t 7))⟩,
    ⟨some 33, none, .h (.load 25 true (.t 4))⟩,
    ⟨some 34, none, .h (.call (.f 51) [.t 32, .t 33])⟩,
    ⟨some 35, none, .p (.un .not (.t 34))⟩,
    ⟨some 36, none, .p (.mv (.t 35))⟩,
    ⟨some 37, some (36, false), .p (.mv (.t 8))⟩,
    ⟨some 38, some (36, false), .p (.mv (.t 5))⟩,
    ⟨some 39, some (36, false), .p (.eqb true (.t 37) (.t 38))⟩,
    ⟨some 40, none, .p (.pick (.t 36) (.k (.c (C.bool true))) (.t 39))⟩] [1, 4, 5, 6, 7, 8, 40])
  (.cond (.t 40)
  (.seq (.region [⟨some 2, none, .p (.mv (.k (.c (C.bool false))))⟩] [2])
  .ret)
  .skip))
  (.seq (.seq (.regionD [⟨some 41, none, .h (.load 25 true (.t 6))⟩,
    ⟨some 42, none, .h (.load 25 true (.t 1))⟩,
    ⟨some 43, none, .h (.call (.f 49) [.t 42])⟩,
    ⟨some 44, none, .h (.call (.f 51) [.t 41, .t 43])⟩,
    ⟨some 45, none, .p (.un .not (.t 44))⟩] [1, 4, 5, 6, 7, 8, 45] [])
  (.cond (.t 45)
  (.seq (.region [⟨some 2, none, .p (.mv (.k (.c (C.bool false))))⟩] [2])
  .ret)
  .skip))
  (.seq (.region [⟨some 9, none, .p (.mv (.k (.c (C.int .i64 1))))⟩] [1, 4, 5, 6, 7, 8, 9])
  (.seq (.region [⟨some 46, none, .h (.load 25 true (.t 6))⟩,
    ⟨some 47, none, .p (.mv (.t 9))⟩,
    ⟨some 48, none, .h (.call (.f 76) [.t 46, .t 47])⟩,
    ⟨some 9, none, .p (.mv (.t 48))⟩] [1, 4, 5, 7, 8, 9])
  (.seq (.seq (.region [⟨some 49, none, .p (.mv (.t 9))⟩,
    ⟨some 50, none, .p (.bin .lss (.t 49) (.k (.c (C.int .i64 0))))⟩,
    ⟨some 51, none, .p (.mv (.t 50))⟩,
    ⟨some 52, some (51, false), .h (.load 25 true (.t 7))⟩,
    ⟨some 53, some (51, false), .h (.load 25 true (.t 4))⟩,
    ⟨some 54, some (51, false), .h (.call (.f 51) [.t 52, .t 53])⟩,
    ⟨some 55, some (51, false), .p (.un .not (.t 54))⟩,
    ⟨some 56, none, .p (.pick (.t 51) (.k (.c (C.bool true))) (.t 55))⟩,
    ⟨some 57, none, .p (.mv (.t 56))⟩,
    ⟨some 58, some (57, false), .p (.mv (.t 8))⟩,
    ⟨some 59, some (57, false), .p (.mv (.t 5))⟩,
    ⟨some 60, some (57, false), .p (.eqb true (.t 58) (.t 59))⟩,
    ⟨some 61, none, .p (.pick (.t 57) (.k (.c (C.bool true))) (.t 60))⟩] [1, 4, 5, 7, 61])
  (.cond (.t 61)
  (.seq (.region [⟨some 2, none, .p (.mv (.k (.c (C.bool false))))⟩] [2])
  .ret)
  .skip))
  (.seq (.region [⟨some 10, none, .p (.mv (.k (.c (C.int .i64 1))))⟩] [1, 4, 5, 7, 10])
  (.seq (.region [⟨some 62, none, .h (.load 25 true (.t 7))⟩,
    ⟨some 63, none, .p (.mv (.t 10))⟩,
    ⟨some 64, none, .h (.call (.f 76) [.t 62, .t 63])⟩,
    ⟨some 10, none, .p (.mv (.t 64))⟩] [1, 4, 5, 7, 10])
  (.seq (.region [⟨some 11, none, .p (.mv (.k (.c (C.int .i64 1))))⟩] [1, 4, 5, 7, 10, 11])
  (.seq (.region [⟨some 65, none, .h (.load 25 true (.t 7))⟩,
    ⟨some 66, none, .p (.mv (.t 11))⟩,
    ⟨some 67, none, .h (.call (.f 84) [.t 65, .t 66])⟩,
    ⟨some 11, none, .p (.mv (.t 67))⟩] [1, 4, 5, 7, 10, 11])
  (.seq (.seq (.region [⟨some 68, none, .p (.mv (.t 11))⟩,
    ⟨some 69, none, .p (.bin .lss (.t 68) (.k (.c (C.int .i64 0))))⟩] [1, 4, 5, 7, 10, 11, 69])
  (.cond (.t 69)
  (.seq (.region [⟨some 2, none, .p (.mv (.k (.c (C.bool false))))⟩] [2])
  .ret)
  .skip))
  (.seq (.seq (.region [⟨some 70, none, .p (.mv (.t 11))⟩,
    ⟨some 71, none, .p (.mv (.t 10))⟩,
    ⟨some 72, none, .p (.bin .neq (.t 70) (.t 71))⟩] [1, 4, 5, 7, 10, 72])
  (.cond (.t 72)
  (.seq (.region [⟨some 2, none, .p (.mv (.k (.c (C.bool false))))⟩] [2])
  .ret)
  .skip))
  (.seq (.region [⟨some 74, none, .h (.load 25 true (.t 1))⟩,
    ⟨some 75, none, .h (.call (.f 49) [.t 74])⟩,
    ⟨some 76, none, .h (.call (.f 94) [.t 75])⟩,
    ⟨some 73, none, .p (.mv (.t 76))⟩,
    ⟨some 77, none, .p (.ext (.t 73) 0)⟩,
    ⟨some 78, none, .p (.ext (.t 73) 1)⟩,
    ⟨some 12, none, .p (.alloc [.k (C.int .i64 0), .k (C.int .i64 0), .k (C.int .i64 0), .k (C.int .i64 0), .k (C.int .i64 0), .k (C.int .i64 0), .k (C.int .i64 0), .k (C.int .i64 0), .k (C.int .i64 0), .k (C.int .i64 0), .k (C.int .i64 0), .k (C.int .i64 0), .k (C.int .i64 0), .k (C.int .i64 0), .k (C.int .i64 0), .k (C.int .i64 0), .k (C.int .i64 0), .k (C.int .i64 0), .k (C.int .i64 0), .k (C.int .i64 0), .k (C.int .i64 0), .k (C.int .i64 0), .k (C.int .i64 0), .k (C.int .i64 0), .sl 2])⟩,
    ⟨none, none, .h (.store 25 (.t 12) (.t 77))⟩,
    ⟨some 13, none, .p (.mv (.t 78))⟩] [4, 5, 7, 10, 12, 13])
  (.seq (.seq (.region [⟨some 79, none, .h (.load 25 true (.t 12))⟩,
    ⟨some 80, none, .h (.load 25 true (.t 4))⟩,
    ⟨some 81, none, .h (.call (.f 51) [.t 79, .t 80])⟩,
    ⟨some 82, none, .p (.un .not (.t 81))⟩,
    ⟨some 83, none, .p (.mv (.t 82))⟩,
    ⟨some 84, some (83, false), .p (.mv (.t 13))⟩,
    ⟨some 85, some (83, false), .p (.mv (.t 5))⟩,
    ⟨some 86, some (83, false), .p (.eqb true (.t 84) (.t 85))⟩,
    ⟨some 87, none, .p (.pick (.t 83) (.k (.c (C.bool true))) (.t 86))⟩] [7, 10, 87])
  (.cond (.t 87)
  (.seq (.region [⟨some 2, none, .p (.mv (.k (.c (C.bool false))))⟩] [2])
  .ret)
  .skip))
  (.seq (.region [⟨some 11, none, .p (.mv (.k (.c (C.int .i64 1))))⟩] [7, 10, 11])
  (.seq (.region [⟨some 88, none, .h (.load 25 true (.t 7))⟩,
    ⟨some 89, none, .p (.mv (.t 11))⟩,
    ⟨some 90, none, .h (.call (.f 84) [.t 88, .t 89])⟩,
    ⟨some 11, none, .p (.mv (.t 90))⟩] [10, 11])
  (.seq (.seq (.region [⟨some 91, none, .p (.mv (.t 11))⟩,
    ⟨some 92, none, .p (.bin .lss (.t 91) (.k (.c (C.int .i64 0))))⟩] [10, 11, 92])
  (.cond (.t 92)
  (.seq (.region [⟨some 2, none, .p (.mv (.k (.c (C.bool false))))⟩] [2])
  .ret)
  .skip))
  (.seq (.seq (.region [⟨some 93, none, .p (.mv (.t 11))⟩,
    ⟨some 94, none, .p (.mv (.t 10))⟩,
    ⟨some 95, none, .p (.bin .neq (.t 93) (.t 94))⟩] [95])
  (.cond (.t 95)
  (.seq (.region [⟨some 2, none, .p (.mv (.k (.c (C.bool false))))⟩] [2])
  .ret)
  .skip))
  (.seq (.region [⟨some 2, none, .p (.mv (.k (.c (C.bool true))))⟩] [2])
  .ret))))))))))))))))))))))))) }
theorem a24_ok : okFn Try.prog 24 a24 = true := by kernel_rfl
/-- loop.example/g01215/laws.FnExactBestParty -/
def a25 : AFn := { np := 2, nt := 71, res := [.t 4], body :=
  (.seq (.region [⟨some 2, none, .p (.box 24 (.t 0))⟩,
    ⟨some 4, none, .p (.mv (.k (.c (C.bool false))))⟩] [1, 2])
  (.seq (.region [⟨some 14, none, .h (.load 24 true (.t 2))⟩,
    ⟨some 15, none, .h (.call (.f 38) [.t 14])⟩,
    ⟨some 16, none, .p (.mv (.t 1))⟩,
    ⟨some 17, none, .h (.call (.f 95) [.t 15, .t 16])⟩,
    ⟨some 13, none, .p (.mv (.t 17))⟩,
    ⟨some 18, none, .p (.ext (.t 13) 0)⟩,
    ⟨some 19, none, .p (.ext (.t 13) 1)⟩,
    ⟨some 5, none, .p (.mv (.t 18))⟩,
    ⟨some 6, none, .p (.mv (.t 19))⟩] [1, 2, 5, 6])
  (.seq (.region [⟨some 21, none, .h (.load 24 true (.t 2))⟩,
    ⟨some 22, none, .h (.call (.f 38) [.t 21])⟩,
    ⟨some 23, none, .p (.mv (.t 1))⟩,
    ⟨some 24, none, .h (.call (.f 96) [.t 22, .t 23])⟩,
    ⟨some 20, none, .p (.mv (.t 24))⟩,
    ⟨some 25, none, .p (.ext (.t 20) 0)⟩,
    ⟨some 26, none, .p (.ext (.t 20) 1)⟩,
    ⟨some 7, none, .p (.mv (.t 25))⟩,
    ⟨some 8, none, .p (.mv (.t 26))⟩] [1, 2, 5, 6, 7, 8])
  (.seq (.seq (.region [⟨some 27, none, .p (.mv (.t 7))⟩,
    ⟨some 28, none, .p (.mv (.t 5))⟩,
    ⟨some 29, none, .h (.call (.f 59) [.t 27, .t 28])⟩,
    ⟨some 30, none, .p (.un .not (.t 29))⟩,
    ⟨some 31, none, .p (.mv (.t 30))⟩,
    ⟨some 32, some (31, false), .p (.mv (.t 8))⟩,
    ⟨some 33, some (31, false), .p (.mv (.t 6))⟩,
    ⟨some 34, some (31, false), .p (.eqb true (.t 32) (.t 33))⟩,
    ⟨some 35, none, .p (.pick (.t 31) (.k (.c (C.bool true))) (.t 34))⟩] [1, 2, 5, 6, 7, 35])
  (.cond (.t 35)
  (.seq (.region [⟨some 4, none, .p (.mv (.k (.c (C.bool false))))⟩] [4])
  .ret)
  .skip))
  (.seq (.region [⟨some 9, none, .p (.mv (.k (.c (C.int .i64 1))))⟩] [1, 2, 5, 6, 7, 9])
  (.seq (.region [⟨some 36, none, .p (.mv (.t 7))⟩,
    ⟨some 37, none, .p (.mv (.t 9))⟩,
    ⟨some 38, none, .h (.call (.f 66) [.t 36, .t 37])⟩,
    ⟨some 9, none, .p (.mv (.t 38))⟩] [1, 2, 5, 6, 7, 9])
  (.seq (.region [⟨some 10, none, .p (.mv (.k (.c (C.int .i64 1))))⟩] [1, 2, 5, 6, 7, 9, 10])
  (.seq (.region [⟨some 39, none, .p (.mv (.t 7))⟩,
    ⟨some 40, none, .p (.mv (.t 10))⟩,
    ⟨some 41, none, .h (.call (.f 67) [.t 39, .t 40])⟩,
    ⟨some 10, none, .p (.mv (.t 41))⟩] [1, 2, 5, 6, 7, 9, 10])
  (.seq (.seq (.region [⟨some 42, none, .p (.mv (.t 10))⟩,
    ⟨some 43, none, .p (.bin .lss (.t 42) (.k (.c (C.int .i64 0))))⟩] [1, 2, 5, 6, 7, 9, 10, 43])
  (.cond (.t 43)
  (.seq (.region [⟨some 4, none, .p (.mv (.k (.c (C.bool false))))⟩] [4])
  .ret)
  .skip))
  (.seq (.seq (.region [⟨some 44, none, .p (.mv (.t 10))⟩,
    ⟨some 45, none, .p (.mv (.t 9))⟩,
    ⟨some 46, none, .p (.bin .neq (.t 44) (.t 45))⟩] [1, 2, 5, 6, 7, 9, 46])
  (.cond (.t 46)
  (.seq (.region [⟨some 4, none, .p (.mv (.k (.c (C.bool false))))⟩] [4])
  .ret)
  .skip))
  (.seq (.region [⟨some 48, none, .h (.load 24 true (.t 2))⟩,
    ⟨some 49, none, .h (.call (.f 38) [.t 48])⟩,
    ⟨some 50, none, .p (.mv (.t 1))⟩,
    ⟨some 51, none, .h (.call (.f 96) [.t 49, .t 50])⟩,
    ⟨some 47, none, .p (.mv (.t 51))⟩,
    ⟨some 52, none, .p (.ext (.t 47) 0)⟩,
    ⟨some 53, none, .p (.ext (.t 47) 1)⟩,
    ⟨some 11, none, .p (.mv (.t 52))⟩,
    ⟨some 12, none, .p (.mv (.t 53))⟩] [5, 6, 7, 9, 11, 12])
  (.seq (.seq (.region [⟨some 54, none, .p (.mv (.t 11))⟩,
    ⟨some 55, none, .p (.mv (.t 5))⟩,
    ⟨some 56, none, .h (.call (.f 59) [.t 54, .t 55])⟩,
    ⟨some 57, none, .p (.un .not (.t 56))⟩,
    ⟨some 58, none, .p (.mv (.t 57))⟩,
    ⟨some 59, some (58, false), .p (.mv (.t 12))⟩,
    ⟨some 60, some (58, false), .p (.mv (.t 6))⟩,
    ⟨some 61, some (58, false), .p (.eqb true (.t 59) (.t 60))⟩,
    ⟨some 62, none, .p (.pick (.t 58) (.k (.c (C.bool true))) (.t 61))⟩] [7, 9, 62])
  (.cond (.t 62)
  (.seq (.region [⟨some 4, none, .p (.mv (.k (.c (C.bool false))))⟩] [4])
  .ret)
  .skip))
  (.seq (.region [⟨some 10, none, .p (.mv (.k (.c (C.int .i64 1))))⟩] [7, 9, 10])
  (.seq (.region [⟨some 63, none, .p (.mv (.t 7))⟩,
    ⟨some 64, none, .p (.mv (.t 10))⟩,
    ⟨some 65, none, .h (.call (.f 67) [.t 63, .t 64])⟩,
    ⟨some 10, none, .p (.mv (.t 65))⟩] [9, 10])
  (.seq (.seq (.region [⟨some 66, none, .p (.mv (.t 10))⟩,
    ⟨some 67, none, .p (.bin .lss (.t 66) (.k (.c (C.int .i64 0))))⟩] [9, 10, 67])
  (.cond (.t 67)
  (.seq (.region [⟨some 4, none, .p (.mv (.k (.c (C.bool false))))⟩] [4])
  .ret)
  .skip))
  (.seq (.seq (.region [⟨some 68, none, .p (.mv (.t 10))⟩,
    ⟨some 69, none, .p (.mv (.t 9))⟩,
    ⟨some 70, none, .p (.bin .neq (.t 68) (.t 69))⟩] [70])
  (.cond (.t 70)
  (.seq (.region [⟨some 4, none, .p (.mv (.k (.c (C.bool false))))⟩] [4])
  .ret)
  .skip))
  (.seq (.region [⟨some 4, none, .p (.mv (.k (.c (C.bool true))))⟩] [4])
  .ret))))))))))))))))) }
theorem a25_ok : okFn Try.prog 25 a25 = true := by kernel_rfl
/-- loop.example/g01215/laws.FnExactBestChance -/
def a26 : AFn := { np := 2, nt := 42, res := [.t 4], body :=
  (.seq (.region [⟨some 2, none, .p (.box 24 (.t 0))⟩,
    ⟨some 4, none, .p (.mv (.k (.c (C.bool false))))⟩] [1, 2])
  (.seq (.region [⟨some 12, none, .h (.load 24 true (.t 2))⟩,
    ⟨some 13, none, .h (.call (.f 38) [.t 12])⟩,
    ⟨some 14, none, .p (.mv (.t 1))⟩,
    ⟨some 15, none, .h (.call (.f 97) [.t 13, .t 14])⟩,
    ⟨some 11, none, .p (.mv (.t 15))⟩,
    ⟨some 16, none, .p (.ext (.t 11) 0)⟩,
    ⟨some 17, none, .p (.ext (.t 11) 1)⟩,
    ⟨some 18, none, .p (.ext (.t 11) 2)⟩,
    ⟨some 5, none, .p (.alloc [.k (C.int .i64 0), .k (C.int .i64 0)])⟩,
    ⟨some 6, none, .p (.alloc [.k (C.int .i64 0), .k (C.int .i64 0)])⟩,
    ⟨none, none, .h (.store 2 (.t 5) (.t 16))⟩,
    ⟨none, none, .h (.store 2 (.t 6) (.t 17))⟩,
    ⟨some 7, none, .p (.mv (.t 18))⟩] [1, 2, 5, 6, 7])
  (.seq (.region [⟨some 20, none, .h (.load 24 true (.t 2))⟩,
    ⟨some 21, none, .h (.call (.f 38) [.t 20])⟩,
    ⟨some 22, none, .p (.mv (.t 1))⟩,
    ⟨some 23, none, .h (.call (.f 98) [.t 21, .t 22])⟩,
    ⟨some 19, none, .p (.mv (.t 23))⟩,
    ⟨some 24, none, .p (.ext (.t 19) 0)⟩,
    ⟨some 25, none, .p (.ext (.t 19) 1)⟩,
    ⟨some 26, none, .p (.ext (.t 19) 2)⟩,
    ⟨some 8, none, .p (.alloc [.k (C.int .i64 0), .k (C.int .i64 0)])⟩,
    ⟨some 9, none, .p (.alloc [.k (C.int .i64 0), .k (C.int .i64 0)])⟩,
    ⟨none, none, .h (.store 2 (.t 8) (.t 24))⟩,
    ⟨none, none, .h (.store 2 (.t 9) (.t 25))⟩,
    ⟨some 10, none, .p (.mv (.t 26))⟩] [5, 6, 7, 8, 9, 10])
  (.seq (.seq (.region [⟨some 27, none, .h (.load 2 true (.t 8))⟩,
    ⟨some 28, none, .h (.load 2 true (.t 5))⟩,
    ⟨some 29, none, .h (.call (.f 36) [.t 27, .t 28])⟩,
    ⟨some 30, none, .p (.un .not (.t 29))⟩,
    ⟨some 31, none, .p (.mv (.t 30))⟩,
    ⟨some 32, some (31, false), .h (.load 2 true (.t 9))⟩,
    ⟨some 33, some (31, false), .h (.load 2 true (.t 6))⟩,
    ⟨some 34, some (31, false), .h (.call (.f 36) [.t 32, .t 33])⟩,
    ⟨some 35, some (31, false), .p (.un .not (.t 34))⟩,
    ⟨some 36, none, .p (.pick (.t 31) (.k (.c (C.bool true))) (.t 35))⟩,
    ⟨some 37, none, .p (.mv (.t 36))⟩,
    ⟨some 38, some (37, false), .p (.mv (.t 10))⟩,
    ⟨some 39, some (37, false), .p (.mv (.t 7))⟩,
    ⟨some 40, some (37, false), .p (.eqb true (.t 38) (.t 39))⟩,
    ⟨some 41, none, .p (.pick (.t 37) (.k (.c (C.bool true))) (.t 40))⟩] [41])
  (.cond (.t 41)
  (.seq (.region [⟨some 4, none, .p (.mv (.k (.c (C.bool false))))⟩] [4])
  .ret)
  .skip))
  (.seq (.region [⟨some 4, none, .p (.mv (.k (.c (C.bool true))))⟩] [4])
  .ret))))) }
theorem a26_ok : okFn Try.prog 26 a26 = true := by kernel_rfl
/-- loop.example/g01215/laws.FnExactCertifyReplay -/
def a27 : AFn := { np := 1, nt := 40, res := [.t 2], body :=
  (.seq (.region [⟨some 1, none, .p (.box 25 (.t 0))⟩,
    ⟨some 2, none, .p (.mv (.k (.c (C.bool false))))⟩] [1])
  (.seq (.region [⟨some 3, none, .p (.mv (.k (.c (C.int .i64 1048576))))⟩] [1, 3])
  (.seq (.region [⟨some 9, none, .h (.load 25 true (.t 1))⟩,
    ⟨some 10, none, .p (.mv (.t 3))⟩,
    ⟨some 11, none, .h (.call (.f 47) [.t 9, .t 10])⟩,
    ⟨some 3, none, .p (.mv (.t 11))⟩] [1, 3])
  (.seq (.seq (.region [⟨some 12, none, .p (.mv (.t 3))⟩,
    ⟨some 13, none, .p (.bin .lss (.t 12) (.k (.c (C.int .i64 0))))⟩] [1, 13])
  (.cond (.t 13)
  (.seq (.region [⟨some 2, none, .p (.mv (.k (.c (C.bool true))))⟩] [2])
  .ret)
  .skip))
  (.seq (.region [⟨some 15, none, .h (.load 25 true (.t 1))⟩,
    ⟨some 16, none, .h (.call (.f 49) [.t 15])⟩,
    ⟨some 17, none, .h (.call (.f 99) [.t 16])⟩,
    ⟨some 14, none, .p (.mv (.t 17))⟩,
    ⟨some 18, none, .p (.ext (.t 14) 0)⟩,
    ⟨some 19, none, .p (.ext (.t 14) 1)⟩,
    ⟨some 4, none, .p (.mv (.t 18))⟩,
    ⟨some 5, none, .p (.mv (.t 19))⟩] [1, 4, 5])
  (.seq (.region [⟨some 20, none, .h (.load 25 true (.t 1))⟩,
    ⟨some 21, none, .h (.call (.f 49) [.t 20])⟩,
    ⟨some 6, none, .p (.alloc [.k (C.int .i64 0), .k (C.int .i64 0), .k (C.int .i64 0), .k (C.int .i64 0), .k (C.int .i64 0), .k (C.int .i64 0), .k (C.int .i64 0), .k (C.int .i64 0), .k (C.int .i64 0), .k (C.int .i64 0), .k (C.int .i64 0), .k (C.int .i64 0), .k (C.int .i64 0), .k (C.int .i64 0), .k (C.int .i64 0), .k (C.int .i64 0), .k (C.int .i64 0), .k (C.int .i64 0), .k (C.int .i64 0), .k (C.int .i64 0), .k (C.int .i64 0), .k (C.int .i64 0), .k (C.int .i64 0), .k (C.int .i64 0), .sl 2])⟩,
    ⟨none, none, .h (.store 25 (.t 6) (.t 21))⟩] [1, 4, 5, 6])
  (.seq (.region [⟨some 23, none, .h (.load 25 true (.t 6))⟩,
    ⟨some 24, none, .h (.call (.f 100) [.t 23])⟩,
    ⟨some 22, none, .p (.mv (.t 24))⟩,
    ⟨some 25, none, .p (.ext (.t 22) 0)⟩,
    ⟨some 26, none, .p (.ext (.t 22) 1)⟩,
    ⟨some 7, none, .p (.mv (.t 25))⟩,
    ⟨some 8, none, .p (.mv (.t 26))⟩] [1, 4, 5, 6, 7, 8])
  (.seq (.seq (.region [⟨some 27, none, .p (.mv (.t 7))⟩,
    ⟨some 28, none, .p (.mv (.t 4))⟩,
    ⟨some 29, none, .p (.bin .neq (.t 27) (.t 28))⟩,
    ⟨some 30, none, .p (.mv (.t 29))⟩,
    ⟨some 31, some (30, false), .p (.mv (.t 8))⟩,
    ⟨some 32, some (30, false), .p (.mv (.t 5))⟩,
    ⟨some 33, some (30, false), .p (.eqb true (.t 31) (.t 32))⟩,
    ⟨some 34, none, .p (.pick (.t 30) (.k (.c (C.bool true))) (.t 33))⟩] [1, 6, 34])
  (.cond (.t 34)
  (.seq (.region [⟨some 2, none, .p (.mv (.k (.c (C.bool false))))⟩] [2])
  .ret)
  .skip))
  (.seq (.seq (.regionD [⟨some 35, none, .h (.load 25 true (.t 6))⟩,
    ⟨some 36, none, .h (.load 25 true (.t 1))⟩,
    ⟨some 37, none, .h (.call (.f 49) [.t 36])⟩,
    ⟨some 38, none, .h (.call (.f 51) [.t 35, .t 37])⟩,
    ⟨some 39, none, .p (.un .not (.t 38))⟩] [39] [])
  (.cond (.t 39)
  (.seq (.region [⟨some 2, none, .p (.mv (.k (.c (C.bool false))))⟩] [2])
  .ret)
  .skip))
  (.seq (.region [⟨some 2, none, .p (.mv (.k (.c (C.bool true))))⟩] [2])
  .ret)))))))))) }
theorem a27_ok : okFn Try.prog 27 a27 = true := by kernel_rfl
/-- loop.example/g01215/laws.FnExactCutLoops -/
def a28 : AFn := { np := 1, nt := 96, res := [.t 2], body :=
  (.seq (.region [⟨some 1, none, .p (.box 25 (.t 0))⟩,
    ⟨some 2, none, .p (.mv (.k (.c (C.bool false))))⟩] [1])
  (.seq (.region [⟨some 3, none, .p (.mv (.k (.c (C.int .i64 1048576))))⟩] [1, 3])
  (.seq (.region [⟨some 14, none, .h (.load 25 true (.t 1))⟩,
    ⟨some 15, none, .p (.mv (.t 3))⟩,
    ⟨some 16, none, .h (.call (.f 47) [.t 14, .t 15])⟩,
    ⟨some 3, none, .p (.mv (.t 16))⟩] [1, 3])
  (.seq (.seq (.region [⟨some 17, none, .p (.mv (.t 3))⟩,
    ⟨some 18, none, .p (.bin .lss (.t 17) (.k (.c (C.int .i64 0))))⟩] [1, 18])
  (.cond (.t 18)
  (.seq (.region [⟨some 2, none, .p (.mv (.k (.c (C.bool true))))⟩] [2])
  .ret)
  .skip))
  (.seq (.region [⟨some 20, none, .h (.load 25 true (.t 1))⟩,
    ⟨some 21, none, .h (.call (.f 49) [.t 20])⟩,
    ⟨some 22, none, .h (.call (.f 101) [.t 21])⟩,
    ⟨some 19, none, .p (.mv (.t 22))⟩,
    ⟨some 23, none, .p (.ext (.t 19) 0)⟩,
    ⟨some 24, none, .p (.ext (.t 19) 1)⟩,
    ⟨some 4, none, .p (.alloc [.k (C.int .i64 0), .k (C.int .i64 0), .k (C.int .i64 0), .k (C.int .i64 0), .k (C.int .i64 0), .k (C.int .i64 0), .k (C.int .i64 0), .k (C.int .i64 0), .k (C.int .i64 0), .k (C.int .i64 0), .k (C.int .i64 0), .k (C.int .i64 0), .k (C.int .i64 0), .k (C.int .i64 0), .k (C.int .i64 0), .k (C.int .i64 0), .k (C.int .i64 0), .k (C.int .i64 0), .k (C.int .i64 0), .k (C.int .i64 0), .k (C.int .i64 0), .k (C.int .i64 0), .k (C.int .i64 0), .k (C.int .i64 0), .sl 2])⟩,
    ⟨none, none, .h (.store 25 (.t 4) (.t 23))⟩,
    ⟨some 5, none, .p (.mv (.t 24))⟩] [1, 4, 5])
  (.seq (.region [⟨some 25, none, .h (.load 25 true (.t 1))⟩,
    ⟨some 26, none, .h (.call (.f 49) [.t 25])⟩,
    ⟨some 6, none, .p (.alloc [.k (C.int .i64 0), .k (C.int .i64 0), .k (C.int .i64 0), .k (C.int .i64 0), .k (C.int .i64 0), .k (C.int .i64 0), .k (C.int .i64 0), .k (C.int .i64 0), .k (C.int .i64 0), .k (C.int .i64 0), .k (C.int .i64 0), .k (C.int .i64 0), .k (C.int .i64 0), .k (C.int .i64 0), .k (C.int .i64 0), .k (C.int .i64 0), .k (C.int .i64 0), .k (C.int .i64 0), .k (C.int .i64 0), .k (C.int .i64 0), .k (C.int .i64 0), .k (C.int .i64 0), .k (C.int .i64 0), .k (C.int .i64 0), .sl 2])⟩,
    ⟨none, none, .h (.store 25 (.t 6) (.t 26))⟩] [1, 4, 5, 6])
  (.seq (.region [⟨some 28, none, .h (.load 25 true (.t 6))⟩,
    ⟨some 29, none, .h (.call (.f 102) [.t 28])⟩,
    ⟨some 27, none, .p (.mv (.t 29))⟩,
    ⟨some 30, none, .p (.ext (.t 27) 0)⟩,
    ⟨some 31, none, .p (.ext (.t 27) 1)⟩,
    ⟨some 7, none, .p (.alloc [.k (C.int .i64 0), .k (C.int .i64 0), .k (C.int .i64 0), .k (C.int .i64 0), .k (C.int .i64 0), .k (C.int .i64 0), .k (C.int .i64 0), .k (C.int .i64 0), .k (C.int .i64 0), .k (C.int .i64 0), .k (C.int .i64 0), .k (C.int .i64 0), .k (C.int .i64 0), .k (C.int .i64 0), .k (C.int .i64 0), .k (C.int .i64 0), .k (C.int .i64 0), .k (C.int .i64 0), .k (C.int .i64 0), .k (C.int .i64 0), .k (C.int .i64 0), .k (C.int .i64 0), .k (C.int .i64 0), .k (C.int .i64 0), .sl 2])⟩,
    ⟨none, none, .h (.store 25 (.t 7) (.t 30))⟩,
    ⟨some 8, none, .p (.mv (.t 31))⟩] [1, 4, 5, 6, 7, 8])
  (.seq (.seq (.region [⟨some 32, none, .h (.load 25 true (.t 7))⟩,
    ⟨some 33, none, .h (.load 25 true (.t 4))⟩,
    ⟨some 34, none, .h (.call (.f 51) [.t 32, .t 33])⟩,
    ⟨some 35, none, .p (.un .not (.t 34))⟩,
    ⟨some 36, none, .p (.mv (.t 35))⟩,
    ⟨some 37, some (36, false), .p (.mv (.t 8))⟩,
    ⟨some 38, some (36, false), .p (.mv (.t 5))⟩,
    ⟨some 39, some (36, false), .p (.eqb true (.t 37) (.t 38))⟩,
    ⟨some 40, none, .p (.pick (.t 36) (.k (.c (C.bool true))) (.t 39))⟩] [1, 4, 5, 6, 7, 8, 40])
  (.cond (.t 40)
  (.seq (.region [⟨some 2, none, .p (.mv (.k (.c (C.bool false))))⟩] [2])
  .ret)
  .skip))
  (.seq (.seq (.regionD [⟨some 41, none, .h (.load 25 true (.t 6))⟩,
    ⟨some 42, none, .h (.load 25 true (.t 1))⟩,
    ⟨some 43, none, .h (.call (.f 49) [.t 42])⟩,
    ⟨some 44, none, .h (.call (.f 51) [.t 41, .t 43])⟩,
    ⟨some 45, none, .p (.un .not (.t 44))⟩] [1, 4, 5, 6, 7, 8, 45] [])
  (.cond (.t 45)
  (.seq (.region [⟨some 2, none, .p (.mv (.k (.c (C.bool false))))⟩] [2])
  .ret)
  .skip))
  (.seq (.region [⟨some 9, none, .p (.mv (.k (.c (C.int .i64 1))))⟩] [1, 4, 5, 6, 7, 8, 9])
  (.seq (.region [⟨some 46, none, .h (.load 25 true (.t 6))⟩,
    ⟨some 47, none, .p (.mv (.t 9))⟩,
    ⟨some 48, none, .h (.call (.f 76) [.t 46, .t 47])⟩,
    ⟨some 9, none, .p (.mv (.t 48))⟩] [1, 4, 5, 7, 8, 9])
  (.seq (.seq (.region [⟨some 49, none, .p (.mv (.t 9))⟩,
    ⟨some 50, none, .p (.bin .lss (.t 49) (.k (.c (C.int .i64 0))))⟩,
    ⟨some 51, none, .p (.mv (.t 50))⟩,
    ⟨some 52, some (51, false), .h (.load 25 true (.t 7))⟩,
    ⟨some 53, some (51, false), .h (.load 25 true (.t 4))⟩,
    ⟨some 54, some (51, false), .h (.call (.f 51) [.t 52, .t 53])⟩,
    ⟨some 55, some (51, false), .p (.un .not (.t 54))⟩,
    ⟨some 56, none, .p (.pick (.t 51) (.k (.c (C.bool true))) (.t 55))⟩,
    ⟨some 57, none, .p (.mv (.t 56))⟩,
    ⟨some 58, some (57, false), .p (.mv (.t 8))⟩,
    ⟨some 59, some (57, false), .p (.mv (.t 5))⟩,
    ⟨some 60, some (57, false), .p (.eqb true (.t 58) (.t 59))⟩,
    ⟨some 61, none, .p (.pick (.t 57) (.k (.c (C.bool true))) (.t 60))⟩] [1, 4, 5, 7, 61])
  (.cond (.t 61)
  (.seq (.region [⟨some 2, none, .p (.mv (.k (.c (C.bool false))))⟩] [2])
  .ret)
  .skip))
  (.seq (.region [⟨some 10, none, .p (.mv (.k (.c (C.int .i64 1))))⟩] [1, 4, 5, 7, 10])
  (.seq (.region [⟨some 62, none, .h (.load 25 true (.t 7))⟩,
    ⟨some 63, none, .p (.mv (.t 10))⟩,
    ⟨some 64, none, .h (.call (.f 76) [.t 62, .t 63])⟩,
    ⟨some 10, none, .p (.mv (.t 64))⟩] [1, 4, 5, 7, 10])
  (.seq (.region [⟨some 11, none, .p (.mv (.k (.c (C.int .i64 1))))⟩] [1, 4, 5, 7, 10, 11])
  (.seq (.region [⟨some 65, none, .h (.load 25 true (.t 7))⟩,
    ⟨some 66, none, .p (.mv (.t 11))⟩,
    ⟨some 67, none, .h (.call (.f 84) [.t 65, .t 66])⟩,
    ⟨some 11, none, .p (.mv (.t 67))⟩] [1, 4, 5, 7, 10, 11])
  (.seq (.seq (.region [⟨some 68, none, .p (.mv (.t 11))⟩,
    ⟨some 69, none, .p (.bin .lss (.t 68) (.k (.c (C.int .i64 0))))⟩] [1, 4, 5, 7, 10, 11, 69])
  (.cond (.t 69)
  (.seq (.region [⟨some 2, none, .p (.mv (.k (.c (C.bool false))))⟩] [2])
  .ret)
  .skip))
  (.seq (.seq (.region [⟨some 70, none, .p (.mv (.t 11))⟩,
    ⟨some 71, none, .p (.mv (.t 10))⟩,
    ⟨some 72, none, .p (.bin .neq (.t 70) (.t 71))⟩] [1, 4, 5, 7, 10, 72])
  (.cond (.t 72)
  (.seq (.region [⟨some 2, none, .p (.mv (.k (.c (C.bool false))))⟩] [2])
  .ret)
  .skip))
  (.seq (.region [⟨some 74, none, .h (.load 25 true (.t 1))⟩,
    ⟨some 75, none, .h (.call (.f 49) [.t 74])⟩,
    ⟨some 76, none, .h (.call (.f 102) [.t 75])⟩,
    ⟨some 73, none, .p (.mv (.t 76))⟩,
    ⟨some 77, none, .p (.ext (.t 73) 0)⟩,
    ⟨some 78, none, .p (.ext (.t 73) 1)⟩,
    ⟨some 12, none, .p (.alloc [.k (C.int .i64 0), .k (C.int .i64 0), .k (C.int .i64 0), .k (C.int .i64 0), .k (C.int .i64 0), .k (C.int .i64 0), .k (C.int .i64 0), .k (C.int .i64 0), .k (C.int .i64 0), .k (C.int .i64 0), .k (C.int .i64 0), .k (C.int .i64 0), .k (C.int .i64 0), .k (C.int .i64 0), .k (C.int .i64 0), .k (C.int .i64 0), .k (C.int .i64 0), .k (C.int .i64 0), .k (C.int .i64 0), .k (C.int .i64 0), .k (C.int .i64 0), .k (C.int .i64 0), .k (C.int .i64 0), .k (C.int .i64 0), .sl 2])⟩,
    ⟨none, none, .h (.store 25 (.t 12) (.t 77))⟩,
    ⟨some 13, none, .p (.mv (.t 78))⟩] [4, 5, 7, 10, 12, 13])
  (.seq (.seq (.region [⟨some 79, none, .h (.load 25 true (.t 12))⟩,
    ⟨some 80, none, .h (.load 25 true (.t 4))⟩,
    ⟨some 81, none, .h (.call (.f 51) [.t 79, .t 80])⟩,
    ⟨some 82, none, .p (.un .not (.t 81))⟩,
    ⟨some 83, none, .p (.mv (.t 82))⟩,
    ⟨some 84, some (83, false), .p (.mv (.t 13))⟩,
    ⟨some 85, some (83, false), .p (.mv (.t 5))⟩,
    ⟨some 86, some (83, false), .p (.eqb true (.t 84) (.t 85))⟩,
    ⟨some 87, none, .p (.pick (.t 83) (.k (.c (C.bool true))) (.t 86))⟩] [7, 10, 87])
  (.cond (.t 87)
  (.seq (.region [⟨some 2, none, .p (.mv (.k (.c (C.bool false))))⟩] [2])
  .ret)
  .skip))
  (.seq (.region [⟨some 11, none, .p (.mv (.k (.c (C.int .i64 1))))⟩] [7, 10, 11])
  (.seq (.region [⟨some 88, none, .h (.load 25 true (.t 7))⟩,
    ⟨some 89, none, .p (.mv (.t 11))⟩,
    ⟨some 90, none, .h (.call (.f 84) [.t 88, .t 89])⟩,
    ⟨some 11, none, .p (.mv (.t 90))⟩] [10, 11])
  (.seq (.seq (.region [⟨some 91, none, .p (.mv (.t 11))⟩,
    ⟨some 92, none, .p (.bin .lss (.t 91) (.k (.c (C.int .i64 0))))⟩] [10, 11, 92])
  (.cond (.t 92)
  (.seq (.region [⟨some 2, none, .p (.mv (.k (.c (C.bool false))))⟩] [2])
  .ret)
  .skip))
  (.seq (.seq (.region [⟨some 93, none, .p (.mv (.t 11))⟩,
    ⟨some 94, none, .p (.mv (.t 10))⟩,
    ⟨some 95, none, .p (.bin .neq (.t 93) (.t 94))⟩] [95])
  (.cond (.t 95)
  (.seq (.region [⟨some 2, none, .p (.mv (.k (.c (C.bool false))))⟩] [2])
  .ret)
  .skip))
  (.seq (.region [⟨some 2, none, .p (.mv (.k (.c (C.bool true))))⟩] [2])
  .ret))))))))))))))))))))))))) }
theorem a28_ok : okFn Try.prog 28 a28 = true := by kernel_rfl
/-- loop.example/g01215/spec.DealSame -/
def a33 : AFn := { np := 2, nt := 23, res := [.cell 4 2 true, .t 5], body :=
  (.seq (.region [⟨some 2, none, .p (.box 6 (.t 0))⟩,
    ⟨some 3, none, .p (.box 6 (.t 1))⟩,
    ⟨some 4, none, .p (.alloc [.k (C.int .i64 0), .k (C.int .i64 0)])⟩,
    ⟨some 5, none, .p (.mv (.k (.c (C.bool false))))⟩] [2, 3, 4])
  (.seq (.seq (.region [⟨some 9, none, .h (.load 6 true (.t 2))⟩,
    ⟨some 10, none, .h (.load 6 true (.t 3))⟩,
    ⟨some 11, none, .h (.call (.f 132) [.t 9, .t 10])⟩,
    ⟨some 8, none, .p (.mv (.t 11))⟩,
    ⟨some 12, none, .p (.ext (.t 8) 0)⟩,
    ⟨some 13, none, .p (.ext (.t 8) 1)⟩,
    ⟨some 6, none, .p (.mv (.t 12))⟩,
    ⟨some 7, none, .p (.mv (.t 13))⟩] [2, 3, 4, 7])
  (.seq (.region [⟨some 14, none, .p (.mv (.t 7))⟩,
    ⟨some 15, none, .p (.un .not (.t 14))⟩] [2, 3, 4, 15])
  (.cond (.t 15)
  (.seq (.region [⟨some 16, none, .p (.build [.k (C.int .i64 0), .k (C.int .i64 0)] [])⟩,
    ⟨none, none, .h (.store 2 (.t 4) (.t 16))⟩,
    ⟨some 5, none, .p (.mv (.k (.c (C.bool false))))⟩] [4, 5])
  .ret)
  .skip)))
  (.seq (.regionD [⟨some 17, none, .h (.load 6 true (.t 2))⟩,
    ⟨some 18, none, .h (.load 6 true (.t 3))⟩,
    ⟨some 19, none, .h (.call (.f 134) [.t 17, .t 18, .k (.c (C.int .i64 0))])⟩,
    ⟨some 20, none, .h (.load 6 true (.t 3))⟩,
    ⟨some 21, none, .h (.call (.f 135) [.t 20])⟩,
    ⟨some 22, none, .h (.call (.f 133) [.t 19, .t 21])⟩,
    ⟨none, none, .h (.store 2 (.t 4) (.t 22))⟩,
    ⟨some 5, none, .p (.mv (.k (.c (C.bool true))))⟩] [4, 5] [])
  .ret))) }
theorem a33_ok : okFn Try.prog 33 a33 = true := by kernel_rfl
/-- loop.example/g01215/laws.toIntA6 -/
def a34 : AFn := { np := 1, nt := 15, res := [.cell 2 6 true], body :=
  (.seq (.region [⟨some 1, none, .p (.box 6 (.t 0))⟩,
    ⟨some 2, none, .p (.alloc [.k (C.int .i64 0), .k (C.int .i64 0), .k (C.int .i64 0), .k (C.int .i64 0), .k (C.int .i64 0), .k (C.int .i64 0)])⟩] [1, 2])
  (.seq (.region [⟨some 3, none, .p (.alloc [.k (C.int .i64 0), .k (C.int .i64 0), .k (C.int .i64 0), .k (C.int .i64 0), .k (C.int .i64 0), .k (C.int .i64 0)])⟩] [1, 2, 3])
  (.seq (.seq (.region [⟨some 4, none, .p (.mv (.k (.c (C.int .i64 0))))⟩] [1, 2, 3, 4])
  (.block 0 (.loop (.seq (.seq (.region [⟨some 5, none, .p (.mv (.t 4))⟩,
    ⟨some 6, none, .p (.bin .lss (.t 5) (.k (.c (C.int .i64 6))))⟩] [1, 2, 3, 4, 6])
  (.cond (.t 6)
  .skip
  (.exit 0)))
  (.seq (.block 1 (.region [⟨some 9, none, .p (.mv (.t 4))⟩,
    ⟨some 10, none, .p (.mv (.t 4))⟩,
    ⟨some 11, none, .p (.ixA 6 1 (.t 1) (.t 10))⟩,
    ⟨some 12, none, .h (.load 1 false (.t 11))⟩,
    ⟨some 13, none, .p (.ixA 6 1 (.t 3) (.t 9))⟩,
    ⟨none, none, .h (.store 1 (.t 13) (.t 12))⟩] [1, 2, 3, 4]))
  (.region [⟨some 7, none, .p (.mv (.t 4))⟩,
    ⟨some 8, none, .p (.bin .add (.t 7) (.k (.c (C.int .i64 1))))⟩,
    ⟨some 4, none, .p (.mv (.t 8))⟩] [1, 2, 3, 4]))) [1, 2, 3, 4])))
  (.seq (.region [⟨some 14, none, .h (.load 6 true (.t 3))⟩,
    ⟨none, none, .h (.store 6 (.t 2) (.t 14))⟩] [2])
  .ret)))) }
theorem a34_ok : okFn Try.prog 34 a34 = true := by kernel_rfl
/-- loop.example/g01215/impl.DealSame -/
def a35 : AFn := { np := 2, nt := 17, res := [.cell 4 2 true, .t 5], body :=
  (.seq (.region [⟨some 2, none, .p (.box 6 (.t 0))⟩,
    ⟨some 3, none, .p (.box 6 (.t 1))⟩,
    ⟨some 4, none, .p (.alloc [.k (C.int .i64 0), .k (C.int .i64 0)])⟩,
    ⟨some 5, none, .p (.mv (.k (.c (C.bool false))))⟩] [2, 3, 4])
  (.seq (.seq (.region [⟨some 6, none, .h (.load 6 true (.t 2))⟩,
    ⟨some 7, none, .h (.load 6 true (.t 3))⟩,
    ⟨some 8, none, .h (.call (.f 136) [.t 6, .t 7])⟩,
    ⟨some 9, none, .p (.un .not (.t 8))⟩] [2, 3, 4, 9])
  (.cond (.t 9)
  (.seq (.region [⟨some 10, none, .p (.build [.k (C.int .i64 0), .k (C.int .i64 0)] [])⟩,
    ⟨none, none, .h (.store 2 (.t 4) (.t 10))⟩,
    ⟨some 5, none, .p (.mv (.k (.c (C.bool false))))⟩] [4, 5])
  .ret)
  .skip))
  (.seq (.regionD [⟨some 11, none, .h (.slA 6 1 (.t 2) none none)⟩,
    ⟨some 12, none, .h (.load 6 true (.t 3))⟩,
    ⟨some 13, none, .h (.call (.f 138) [.t 11, .t 12])⟩,
    ⟨some 14, none, .h (.load 6 true (.t 3))⟩,
    ⟨some 15, none, .h (.call (.f 139) [.t 14])⟩,
    ⟨some 16, none, .h (.call (.f 137) [.t 13, .t 15])⟩,
    ⟨none, none, .h (.store 2 (.t 4) (.t 16))⟩,
    ⟨some 5, none, .p (.mv (.k (.c (C.bool true))))⟩] [4, 5] [])
  .ret))) }
theorem a35_ok : okFn Try.prog 35 a35 = true := by kernel_rfl
/-- loop.example/g01215/laws.eqIntA2 -/
def a36 : AFn := { np := 2, nt := 17, res := [.t 4], body :=
  (.seq (.region [⟨some 2, none, .p (.box 2 (.t 0))⟩,
    ⟨some 3, none, .p (.box 2 (.t 1))⟩,
    ⟨some 4, none, .p (.mv (.k (.c (C.bool false))))⟩] [2, 3])
  (.seq (.seq (.region [⟨some 5, none, .p (.mv (.k (.c (C.int .i64 0))))⟩] [2, 3, 5])
  (.block 0 (.loop (.seq (.seq (.region [⟨some 6, none, .p (.mv (.t 5))⟩,
    ⟨some 7, none, .p (.bin .lss (.t 6) (.k (.c (C.int .i64 2))))⟩] [2, 3, 5, 7])
  (.cond (.t 7)
  .skip
  (.exit 0)))
  (.seq (.block 1 (.seq (.regionD [⟨some 10, none, .p (.mv (.t 5))⟩,
    ⟨some 11, none, .p (.ixA 2 1 (.t 2) (.t 10))⟩,
    ⟨some 12, none, .h (.load 1 false (.t 11))⟩,
    ⟨some 13, none, .p (.mv (.t 5))⟩,
    ⟨some 14, none, .p (.ixA 2 1 (.t 3) (.t 13))⟩,
    ⟨some 15, none, .h (.load 1 false (.t 14))⟩,
    ⟨some 16, none, .p (.bin .neq (.t 12) (.t 15))⟩] [2, 3, 5, 16] [])
  (.cond (.t 16)
  (.seq (.region [⟨some 4, none, .p (.mv (.k (.c (C.bool false))))⟩] [4])
  .ret)
  .skip)))
  (.region [⟨some 8, none, .p (.mv (.t 5))⟩,
    ⟨some 9, none, .p (.bin .add (.t 8) (.k (.c (C.int .i64 1))))⟩,
    ⟨some 5, none, .p (.mv (.t 9))⟩] [2, 3, 5]))) [2, 3, 5])))
  (.seq (.region [⟨some 4, none, .p (.mv (.k (.c (C.bool true))))⟩] [4])
  .ret))) }
theorem a36_ok : okFn Try.prog 36 a36 = true := by kernel_rfl
/-- loop.example/g01215/spec.IsLost -/
def a37 : AFn := { np := 1, nt := 11, res := [.t 2, .t 3], body :=
  (.seq (.region [⟨some 1, none, .p (.box 24 (.t 0))⟩,
    ⟨some 2, none, .p (.mv (.k (.c (C.bool false))))⟩,
    ⟨some 3, none, .p (.mv (.k (.c (C.bool false))))⟩] [1])
  (.seq (.seq (.region [⟨some 4, none, .h (.load 24 true (.t 1))⟩,
    ⟨some 5, none, .h (.call (.f 140) [.t 4])⟩,
    ⟨some 6, none, .p (.un .not (.t 5))⟩] [1, 6])
  (.cond (.t 6)
  (.seq (.region [⟨some 2, none, .p (.mv (.k (.c (C.bool false))))⟩,
    ⟨some 3, none, .p (.mv (.k (.c (C.bool false))))⟩] [2, 3])
  .ret)
  .skip))
  (.seq (.region [⟨some 7, none, .h (.load 24 true (.t 1))⟩,
    ⟨some 8, none, .h (.call (.f 141) [.t 7])⟩,
    ⟨some 9, none, .p (.len (.t 8))⟩,
    ⟨some 10, none, .p (.bin .eql (.t 9) (.k (.c (C.int .i64 0))))⟩,
    ⟨some 2, none, .p (.mv (.t 10))⟩,
    ⟨some 3, none, .p (.mv (.k (.c (C.bool true))))⟩] [2, 3])
  .ret))) }
theorem a37_ok : okFn Try.prog 37 a37 = true := by kernel_rfl
/-- loop.example/g01215/laws.toRack -/
def a38 : AFn := { np := 1, nt := 9, res := [.cell 2 24 true], body :=
  (.seq (.region [⟨some 1, none, .p (.box 24 (.t 0))⟩,
    ⟨some 2, none, .p (.alloc (List.replicate 24 (.k (C.int .i64 0))))⟩] [1, 2])
  (.seq (.region [⟨some 3, none, .p (.alloc (List.replicate 24 (.k (C.int .i64 0))))⟩] [1, 2, 3])
  (.seq (.region [⟨some 4, none, .p (.fld 0 (.t 1))⟩,
    ⟨some 5, none, .h (.load 24 true (.t 4))⟩,
    ⟨some 6, none, .h (.call (.f 142) [.t 5])⟩,
    ⟨some 7, none, .p (.fld 0 (.t 3))⟩,
    ⟨none, none, .h (.store 24 (.t 7) (.t 6))⟩] [2, 3])
  (.seq (.region [⟨some 8, none, .h (.load 24 true (.t 3))⟩,
    ⟨none, none, .h (.store 24 (.t 2) (.t 8))⟩] [2])
  .ret)))) }
theorem a38_ok : okFn Try.prog 38 a38 = true := by kernel_rfl
/-- loop.example/g01215/impl.IsLost -/
def a39 : AFn := { np := 1, nt := 11, res := [.t 2, .t 3], body :=
  (.seq (.region [⟨some 1, none, .p (.box 24 (.t 0))⟩,
    ⟨some 2, none, .p (.mv (.k (.c (C.bool false))))⟩,
    ⟨some 3, none, .p (.mv (.k (.c (C.bool false))))⟩] [1])
  (.seq (.seq (.region [⟨some 4, none, .h (.load 24 true (.t 1))⟩,
    ⟨some 5, none, .h (.call (.f 121) [.t 4])⟩,
    ⟨some 6, none, .p (.un .not (.t 5))⟩] [1, 6])
  (.cond (.t 6)
  (.seq (.region [⟨some 2, none, .p (.mv (.k (.c (C.bool false))))⟩,
    ⟨some 3, none, .p (.mv (.k (.c (C.bool false))))⟩] [2, 3])
  .ret)
  .skip))
  (.seq (.region [⟨some 7, none, .h (.load 24 true (.t 1))⟩,
    ⟨some 8, none, .h (.call (.f 143) [.t 7])⟩,
    ⟨some 9, none, .p (.len (.t 8))⟩,
    ⟨some 10, none, .p (.bin .eql (.t 9) (.k (.c (C.int .i64 0))))⟩,
    ⟨some 2, none, .p (.mv (.t 10))⟩,
    ⟨some 3, none, .p (.mv (.k (.c (C.bool true))))⟩] [2, 3])
  .ret))) }
theorem a39_ok : okFn Try.prog 39 a39 = true := by kernel_rfl
/-- loop.example/g01215/spec.EndValue -/
def a40 : AFn := { np := 2, nt := 17, res := [.t 4, .t 5], body :=
  (.seq (.region [⟨some 2, none, .p (.box 24 (.t 0))⟩,
    ⟨some 4, none, .p (.mv (.k (.c (C.int .i64 0))))⟩,
    ⟨some 5, none, .p (.mv (.k (.c (C.bool false))))⟩] [1, 2])
  (.seq (.seq (.region [⟨some 6, none, .h (.load 24 true (.t 2))⟩,
    ⟨some 7, none, .h (.call (.f 140) [.t 6])⟩,
    ⟨some 8, none, .p (.un .not (.t 7))⟩,
    ⟨some 9, none, .p (.mv (.t 8))⟩,
    ⟨some 10, some (9, false), .p (.mv (.t 1))⟩,
    ⟨some 11, some (9, false), .h (.call (.f 144) [.t 10, .k (.c (C.int .i64 0)), .k (.c (C.int .i64 3))])⟩,
    ⟨some 12, some (9, false), .p (.un .not (.t 11))⟩,
    ⟨some 13, none, .p (.pick (.t 9) (.k (.c (C.bool true))) (.t 12))⟩] [1, 2, 13])
  (.cond (.t 13)
  (.seq (.region [⟨some 4, none, .p (.mv (.k (.c (C.int .i64 0))))⟩,
    ⟨some 5, none, .p (.mv (.k (.c (C.bool false))))⟩] [4, 5])
  .ret)
  .skip))
  (.seq (.region [⟨some 14, none, .h (.load 24 true (.t 2))⟩,
    ⟨some 15, none, .p (.mv (.t 1))⟩,
    ⟨some 16, none, .h (.call (.f 145) [.t 14, .t 15])⟩,
    ⟨some 4, none, .p (.mv (.t 16))⟩,
    ⟨some 5, none, .p (.mv (.k (.c (C.bool true))))⟩] [4, 5])
  .ret))) }
theorem a40_ok : okFn Try.prog 40 a40 = true := by kernel_rfl
/-- loop.example/g01215/impl.EndValue -/
def a41 : AFn := { np := 2, nt := 13, res := [.t 4, .t 5], body :=
  (.seq (.region [⟨some 2, none, .p (.box 24 (.t 0))⟩,
    ⟨some 4, none, .p (.mv (.k (.c (C.int .i64 0))))⟩,
    ⟨some 5, none, .p (.mv (.k (.c (C.bool false))))⟩] [1, 2])
  (.seq (.seq (.region [⟨some 6, none, .h (.load 24 true (.t 2))⟩,
    ⟨some 7, none, .p (.mv (.t 1))⟩,
    ⟨some 8, none, .h (.call (.f 146) [.t 6, .t 7, .k (.c (C.int .i64 0))])⟩,
    ⟨some 9, none, .p (.un .not (.t 8))⟩] [1, 2, 9])
  (.cond (.t 9)
  (.seq (.region [⟨some 4, none, .p (.mv (.k (.c (C.int .i64 0))))⟩,
    ⟨some 5, none, .p (.mv (.k (.c (C.bool false))))⟩] [4, 5])
  .ret)
  .skip))
  (.seq (.region [⟨some 10, none, .h (.load 24 true (.t 2))⟩,
    ⟨some 11, none, .p (.mv (.t 1))⟩,
    ⟨some 12, none, .h (.call (.f 147) [.t 10, .t 11])⟩,
    ⟨some 4, none, .p (.mv (.t 12))⟩,
    ⟨some 5, none, .p (.mv (.k (.c (C.bool true))))⟩] [4, 5])
  .ret))) }
theorem a41_ok : okFn Try.prog 41 a41 = true := by kernel_rfl
/-- loop.example/g01215/spec.CountReplies -/
def a42 : AFn := { np := 1, nt := 44, res := [.t 2, .t 3], body :=
  (.seq (.region [⟨some 1, none, .p (.box 24 (.t 0))⟩,
    ⟨some 2, none, .p (.nilsl 1)⟩,
    ⟨some 3, none, .p (.mv (.k (.c (C.bool false))))⟩] [1])
  (.seq (.region [⟨some 9, none, .p (.mksl 1 0 [.k (C.int .i64 0)] [])⟩,
    ⟨some 4, none, .p (.mv (.t 9))⟩] [1, 4])
  (.seq (.seq (.region [⟨some 10, none, .h (.load 24 true (.t 1))⟩,
    ⟨some 11, none, .h (.call (.f 140) [.t 10])⟩,
    ⟨some 12, none, .p (.un .not (.t 11))⟩] [1, 4, 12])
  (.cond (.t 12)
  (.seq (.region [⟨some 13, none, .p (.mv (.t 4))⟩,
    ⟨some 2, none, .p (.mv (.t 13))⟩,
    ⟨some 3, none, .p (.mv (.k (.c (C.bool false))))⟩] [2, 3])
  .ret)
  .skip))
  (.seq (.region [⟨some 14, none, .h (.load 24 true (.t 1))⟩,
    ⟨some 15, none, .h (.call (.f 141) [.t 14])⟩,
    ⟨some 5, none, .p (.mv (.t 15))⟩] [1, 4, 5])
  (.seq (.seq (.region [⟨some 6, none, .p (.mv (.k (.c (C.int .i64 0))))⟩] [1, 4, 5, 6])
  (.block 0 (.loop (.seq (.seq (.region [⟨some 16, none, .p (.mv (.t 6))⟩,
    ⟨some 17, none, .p (.mv (.t 5))⟩,
    ⟨some 18, none, .p (.len (.t 17))⟩,
    ⟨some 19, none, .p (.bin .lss (.t 16) (.t 18))⟩] [1, 4, 5, 6, 19])
  (.cond (.t 19)
  .skip
  (.exit 0)))
  (.seq (.block 1 (.seq (.regionD [⟨some 23, none, .h (.load 24 true (.t 1))⟩,
    ⟨some 24, none, .p (.mv (.t 5))⟩,
    ⟨some 25, none, .p (.mv (.t 6))⟩,
    ⟨some 26, none, .p (.ixS 2 (.t 24) (.t 25))⟩,
    ⟨some 27, none, .p (.ixA 2 1 (.t 26) (.k (.c (C.int .i64 0))))⟩,
    ⟨some 28, none, .h (.load 1 false (.t 27))⟩,
    ⟨some 29, none, .p (.mv (.t 5))⟩,
    ⟨some 30, none, .p (.mv (.t 6))⟩,
    ⟨some 31, none, .p (.ixS 2 (.t 29) (.t 30))⟩,
    ⟨some 32, none, .p (.ixA 2 1 (.t 31) (.k (.c (C.int .i64 1))))⟩,
    ⟨some 33, none, .h (.load 1 false (.t 32))⟩,
    ⟨some 34, none, .h (.call (.f 148) [.t 23, .t 28, .t 33])⟩,
    ⟨some 22, none, .p (.mv (.t 34))⟩,
    ⟨some 35, none, .p (.ext (.t 22) 0)⟩,
    ⟨some 36, none, .p (.ext (.t 22) 1)⟩,
    ⟨some 7, none, .p (.alloc (List.replicate 24 (.k (C.int .i64 0))))⟩,
    ⟨none, none, .h (.store 24 (.t 7) (.t 35))⟩,
    ⟨some 8, none, .p (.mv (.t 36))⟩] [1, 4, 5, 6, 7] [])
  (.region [⟨some 37, none, .p (.mv (.t 4))⟩,
    ⟨some 38, none, .h (.load 24 true (.t 7))⟩,
    ⟨some 39, none, .h (.call (.f 141) [.t 38])⟩,
    ⟨some 40, none, .p (.len (.t 39))⟩,
    ⟨some 41, none, .p (.mksl 1 1 [.k (C.int .i64 0)] [(0, 1, .t 40)])⟩,
    ⟨some 42, none, .h (.app 1 (.t 37) (.t 41))⟩,
    ⟨some 4, none, .p (.mv (.t 42))⟩] [1, 4, 5, 6])))
  (.region [⟨some 20, none, .p (.mv (.t 6))⟩,
    ⟨some 21, none, .p (.bin .add (.t 20) (.k (.c (C.int .i64 1))))⟩,
    ⟨some 6, none, .p (.mv (.t 21))⟩] [1, 4, 5, 6]))) [1, 4, 5, 6])))
  (.seq (.region [⟨some 43, none, .p (.mv (.t 4))⟩,
    ⟨some 2, none, .p (.mv (.t 43))⟩,
    ⟨some 3, none, .p (.mv (.k (.c (C.bool true))))⟩] [2, 3])
  .ret)))))) }
theorem a42_ok : okFn Try.prog 42 a42 = true := by kernel_rfl
/-- loop.example/g01215/impl.CountReplies -/
def a43 : AFn := { np := 1, nt := 36, res := [.t 2, .t 3], body :=
  (.seq (.region [⟨some 1, none, .p (.box 24 (.t 0))⟩,
    ⟨some 2, none, .p (.nilsl 1)⟩,
    ⟨some 3, none, .p (.mv (.k (.c (C.bool false))))⟩] [1])
  (.seq (.seq (.region [⟨some 9, none, .h (.load 24 true (.t 1))⟩,
    ⟨some 10, none, .h (.call (.f 121) [.t 9])⟩,
    ⟨some 11, none, .p (.un .not (.t 10))⟩] [1, 11])
  (.cond (.t 11)
  (.seq (.region [⟨some 2, none, .p (.nilsl 1)⟩,
    ⟨some 3, none, .p (.mv (.k (.c (C.bool false))))⟩] [2, 3])
  .ret)
  .skip))
  (.seq (.region [⟨some 4, none, .p (.nilsl 1)⟩] [1, 4])
  (.seq (.seq (.region [⟨some 12, none, .h (.load 24 true (.t 1))⟩,
    ⟨some 13, none, .h (.call (.f 143) [.t 12])⟩,
    ⟨some 14, none, .p (.len (.t 13))⟩,
    ⟨some 15, none, .p (.mv (.k (.c (C.int .i64 0))))⟩] [1, 4, 13, 14, 15])
  (.block 0 (.loop (.seq (.region [⟨some 16, none, .p (.bin .lss (.t 15) (.t 14))⟩] [1, 4, 13, 14, 15, 16])
  (.seq (.cond (.t 16)
  .skip
  (.exit 0))
  (.seq (.block 1 (.seq (.region [⟨some 17, none, .p (.ixS 2 (.t 13) (.t 15))⟩,
    ⟨some 18, none, .h (.load 2 true (.t 17))⟩,
    ⟨some 6, none, .p (.alloc [.k (C.int .i64 0), .k (C.int .i64 0)])⟩,
    ⟨none, none, .h (.store 2 (.t 6) (.t 18))⟩] [1, 4, 6, 13, 14, 15])
  (.seq (.region [⟨some 20, none, .h (.load 24 true (.t 1))⟩,
    ⟨some 21, none, .p (.ixA 2 1 (.t 6) (.k (.c (C.int .i64 0))))⟩,
    ⟨some 22, none, .h (.load 1 false (.t 21))⟩,
    ⟨some 23, none, .p (.ixA 2 1 (.t 6) (.k (.c (C.int .i64 1))))⟩,
    ⟨some 24, none, .h (.load 1 false (.t 23))⟩,
    ⟨some 25, none, .h (.call (.f 149) [.t 20, .t 22, .t 24])⟩,
    ⟨some 19, none, .p (.mv (.t 25))⟩,
    ⟨some 26, none, .p (.ext (.t 19) 0)⟩,
    ⟨some 27, none, .p (.ext (.t 19) 1)⟩,
    ⟨some 7, none, .p (.alloc (List.replicate 24 (.k (C.int .i64 0))))⟩,
    ⟨none, none, .h (.store 24 (.t 7) (.t 26))⟩,
    ⟨some 8, none, .p (.mv (.t 27))⟩] [1, 4, 7, 13, 14, 15])
  (.region [⟨some 28, none, .p (.mv (.t 4))⟩,
    ⟨some 29, none, .h (.load 24 true (.t 7))⟩,
    ⟨some 30, none, .h (.call (.f 143) [.t 29])⟩,
    ⟨some 31, none, .p (.len (.t 30))⟩,
    ⟨some 32, none, .p (.mksl 1 1 [.k (C.int .i64 0)] [(0, 1, .t 31)])⟩,
    ⟨some 33, none, .h (.app 1 (.t 28) (.t 32))⟩,
    ⟨some 4, none, .p (.mv (.t 33))⟩] [1, 4, 13, 14, 15]))))
  (.region [⟨some 34, none, .p (.bin .add (.t 15) (.k (.c (C.int .i64 1))))⟩,
    ⟨some 15, none, .p (.mv (.t 34))⟩] [1, 4, 13, 14, 15])))) [1, 4, 13, 14, 15])))
  (.seq (.region [⟨some 35, none, .p (.mv (.t 4))⟩,
    ⟨some 2, none, .p (.mv (.t 35))⟩,
    ⟨some 3, none, .p (.mv (.k (.c (C.bool true))))⟩] [2, 3])
  .ret))))) }
theorem a43_ok : okFn Try.prog 43 a43 = true := by kernel_rfl
/-- loop.example/g01215/laws.eqIntS -/
def a44 : AFn := { np := 2, nt := 26, res := [.t 4], body :=
  (.seq (.region [⟨some 4, none, .p (.mv (.k (.c (C.bool false))))⟩] [0, 1])
  (.seq (.seq (.region [⟨some 6, none, .p (.mv (.t 0))⟩,
    ⟨some 7, none, .p (.len (.t 6))⟩,
    ⟨some 8, none, .p (.mv (.t 1))⟩,
    ⟨some 9, none, .p (.len (.t 8))⟩,
    ⟨some 10, none, .p (.bin .neq (.t 7) (.t 9))⟩] [0, 1, 10])
  (.cond (.t 10)
  (.seq (.region [⟨some 4, none, .p (.mv (.k (.c (C.bool false))))⟩] [4])
  .ret)
  .skip))
  (.seq (.seq (.region [⟨some 5, none, .p (.mv (.k (.c (C.int .i64 0))))⟩] [0, 1, 5])
  (.block 0 (.loop (.seq (.seq (.region [⟨some 11, none, .p (.mv (.t 5))⟩,
    ⟨some 12, none, .p (.mv (.t 0))⟩,
    ⟨some 13, none, .p (.len (.t 12))⟩,
    ⟨some 14, none, .p (.bin .lss (.t 11) (.t 13))⟩] [0, 1, 5, 14])
  (.cond (.t 14)
  .skip
  (.exit 0)))
  (.seq (.block 1 (.seq (.regionD [⟨some 17, none, .p (.mv (.t 0))⟩,
    ⟨some 18, none, .p (.mv (.t 5))⟩,
    ⟨some 19, none, .p (.ixS 1 (.t 17) (.t 18))⟩,
    ⟨some 20, none, .h (.load 1 false (.t 19))⟩,
    ⟨some 21, none, .p (.mv (.t 1))⟩,
    ⟨some 22, none, .p (.mv (.t 5))⟩,
    ⟨some 23, none, .p (.ixS 1 (.t 21) (.t 22))⟩,
    ⟨some 24, none, .h (.load 1 false (.t 23))⟩,
    ⟨some 25, none, .p (.bin .neq (.t 20) (.t 24))⟩] [0, 1, 5, 25] [])
  (.cond (.t 25)
  (.seq (.region [⟨some 4, none, .p (.mv (.k (.c (C.bool false))))⟩] [4])
  .ret)
  .skip)))
  (.region [⟨some 15, none, .p (.mv (.t 5))⟩,
    ⟨some 16, none, .p (.bin .add (.t 15) (.k (.c (C.int .i64 1))))⟩,
    ⟨some 5, none, .p (.mv (.t 16))⟩] [0, 1, 5]))) [0, 1, 5])))
  (.seq (.region [⟨some 4, none, .p (.mv (.k (.c (C.bool true))))⟩] [4])
  .ret)))) }
theorem a44_ok : okFn Try.prog 44 a44 = true := by kernel_rfl
/-- loop.example/g01215/laws.markIntS -/
def a45 : AFn := { np := 2, nt := 19, res := [.t 4], body :=
  (.seq (.region [⟨some 4, none, .p (.mv (.k (.c (C.int .i64 0))))⟩] [0, 1])
  (.seq (.seq (.region [⟨some 5, none, .p (.mv (.k (.c (C.int .i64 0))))⟩] [0, 1, 5])
  (.block 0 (.loop (.seq (.seq (.region [⟨some 6, none, .p (.mv (.t 5))⟩,
    ⟨some 7, none, .p (.mv (.t 0))⟩,
    ⟨some 8, none, .p (.len (.t 7))⟩,
    ⟨some 9, none, .p (.bin .lss (.t 6) (.t 8))⟩] [0, 1, 5, 9])
  (.cond (.t 9)
  .skip
  (.exit 0)))
  (.seq (.block 1 (.seq (.region [⟨some 12, none, .p (.mv (.t 0))⟩,
    ⟨some 13, none, .p (.mv (.t 5))⟩,
    ⟨some 14, none, .p (.mv (.t 1))⟩,
    ⟨some 15, none, .p (.ixS 1 (.t 12) (.t 13))⟩,
    ⟨none, none, .h (.store 1 (.t 15) (.t 14))⟩] [0, 1, 5])
  (.region [⟨some 16, none, .p (.mv (.t 1))⟩,
    ⟨some 17, none, .p (.bin .add (.t 16) (.k (.c (C.int .i64 1))))⟩,
    ⟨some 1, none, .p (.mv (.t 17))⟩] [0, 1, 5])))
  (.region [⟨some 10, none, .p (.mv (.t 5))⟩,
    ⟨some 11, none, .p (.bin .add (.t 10) (.k (.c (C.int .i64 1))))⟩,
    ⟨some 5, none, .p (.mv (.t 11))⟩] [0, 1, 5]))) [0, 1, 5])))
  (.seq (.region [⟨some 18, none, .p (.mv (.t 1))⟩,
    ⟨some 4, none, .p (.mv (.t 18))⟩] [4])
  .ret))) }
theorem a45_ok : okFn Try.prog 45 a45 = true := by kernel_rfl
/-- loop.example/g01215/laws.heldIntS -/
def a46 : AFn := { np := 2, nt := 21, res := [.t 4], body :=
  (.seq (.region [⟨some 4, none, .p (.mv (.k (.c (C.int .i64 0))))⟩] [0, 1])
  (.seq (.seq (.region [⟨some 5, none, .p (.mv (.k (.c (C.int .i64 0))))⟩] [0, 1, 5])
  (.block 0 (.loop (.seq (.seq (.region [⟨some 6, none, .p (.mv (.t 5))⟩,
    ⟨some 7, none, .p (.mv (.t 0))⟩,
    ⟨some 8, none, .p (.len (.t 7))⟩,
    ⟨some 9, none, .p (.bin .lss (.t 6) (.t 8))⟩] [0, 1, 5, 9])
  (.cond (.t 9)
  .skip
  (.exit 0)))
  (.seq (.block 1 (.seq (.seq (.region [⟨some 12, none, .p (.mv (.t 0))⟩,
    ⟨some 13, none, .p (.mv (.t 5))⟩,
    ⟨some 14, none, .p (.ixS 1 (.t 12) (.t 13))⟩,
    ⟨some 15, none, .h (.load 1 false (.t 14))⟩,
    ⟨some 16, none, .p (.mv (.t 1))⟩,
    ⟨some 17, none, .p (.bin .neq (.t 15) (.t 16))⟩] [0, 1, 5, 17])
  (.cond (.t 17)
  (.seq (.region [⟨some 4, none, .p (.mv (.k (.c (C.int .i64 (-1)))))⟩] [4])
  .ret)
  .skip))
  (.region [⟨some 18, none, .p (.mv (.t 1))⟩,
    ⟨some 19, none, .p (.bin .add (.t 18) (.k (.c (C.int .i64 1))))⟩,
    ⟨some 1, none, .p (.mv (.t 19))⟩] [0, 1, 5])))
  (.region [⟨some 10, none, .p (.mv (.t 5))⟩,
    ⟨some 11, none, .p (.bin .add (.t 10) (.k (.c (C.int .i64 1))))⟩,
    ⟨some 5, none, .p (.mv (.t 11))⟩] [0, 1, 5]))) [0, 1, 5])))
  (.seq (.region [⟨some 20, none, .p (.mv (.t 1))⟩,
    ⟨some 4, none, .p (.mv (.t 20))⟩] [4])
  .ret))) }
theorem a46_ok : okFn Try.prog 46 a46 = true := by kernel_rfl
/-- loop.example/g01215/laws.szReplay -/
def a47 : AFn := { np := 2, nt := 12, res := [.t 4], body :=
  (.seq (.region [⟨some 2, none, .p (.box 25 (.t 0))⟩,
    ⟨some 4, none, .p (.mv (.k (.c (C.int .i64 0))))⟩] [1, 2])
  (.seq (.region [⟨some 5, none, .p (.fld 24 (.t 2))⟩,
    ⟨some 6, none, .h (.load 1 false (.t 5))⟩,
    ⟨some 7, none, .p (.mv (.t 1))⟩,
    ⟨some 8, none, .h (.call (.f 55) [.t 6, .t 7])⟩,
    ⟨some 1, none, .p (.mv (.t 8))⟩] [1])
  (.seq (.seq (.region [⟨some 9, none, .p (.mv (.t 1))⟩,
    ⟨some 10, none, .p (.bin .lss (.t 9) (.k (.c (C.int .i64 0))))⟩] [1, 10])
  (.cond (.t 10)
  (.seq (.region [⟨some 4, none, .p (.mv (.k (.c (C.int .i64 (-1)))))⟩] [4])
  .ret)
  .skip))
  (.seq (.region [⟨some 11, none, .p (.mv (.t 1))⟩,
    ⟨some 4, none, .p (.mv (.t 11))⟩] [4])
  .ret)))) }
theorem a47_ok : okFn Try.prog 47 a47 = true := by kernel_rfl
/-- loop.example/g01215/spec.IsReplay -/
def a48 : AFn := { np := 1, nt := 11, res := [.t 2], body :=
  (.seq (.region [⟨some 1, none, .p (.box 25 (.t 0))⟩,
    ⟨some 2, none, .p (.mv (.k (.c (C.bool false))))⟩] [1])
  (.seq (.region [⟨some 6, none, .h (.load 25 true (.t 1))⟩,
    ⟨some 7, none, .h (.call (.f 150) [.t 6])⟩,
    ⟨some 5, none, .p (.mv (.t 7))⟩,
    ⟨some 8, none, .p (.ext (.t 5) 0)⟩,
    ⟨some 9, none, .p (.ext (.t 5) 1)⟩,
    ⟨some 3, none, .p (.mv (.t 8))⟩,
    ⟨some 4, none, .p (.mv (.t 9))⟩] [4])
  (.seq (.region [⟨some 10, none, .p (.mv (.t 4))⟩,
    ⟨some 2, none, .p (.mv (.t 10))⟩] [2])
  .ret))) }
theorem a48_ok : okFn Try.prog 48 a48 = true := by kernel_rfl
/-- loop.example/g01215/laws.toReplay -/
def a49 : AFn := { np := 1, nt := 13, res := [.cell 2 25 true], body :=
  (.seq (.region [⟨some 1, none, .p (.box 25 (.t 0))⟩,
    ⟨some 2, none, .p (.alloc [.k (C.int .i64 0), .k (C.int .i64 0), .k (C.int .i64 0), .k (C.int .i64 0), .k (C.int .i64 0), .k (C.int .i64 0), .k (C.int .i64 0), .k (C.int .i64 0), .k (C.int .i64 0), .k (C.int .i64 0), .k (C.int .i64 0), .k (C.int .i64 0), .k (C.int .i64 0), .k (C.int .i64 0), .k (C.int .i64 0), .k (C.int .i64 0), .k (C.int .i64 0), .k (C.int .i64 0), .k (C.int .i64 0), .k (C.int .i64 0), .k (C.int .i64 0), .k (C.int .i64 0), .k (C.int .i64 0), .k (C.int .i64 0), .sl 2])⟩] [1, 2])
  (.seq (.region [⟨some 3, none, .p (.alloc [.k (C.int .i64 0), .k (C.int .i64 0), .k (C.int .i64 0), .k (C.int .i64 0), .k (C.int .i64 0), .k (C.int .i64 0), .k (C.int .i64 0), .k (C.int .i64 0), .k (C.int .i64 0), .k (C.int .i64 0), .k (C.int .i64 0), .k (C.int .i64 0), .k (C.int .i64 0), .k (C.int .i64 0), .k (C.int .i64 0), .k (C.int .i64 0), .k (C.int .i64 0), .k (C.int .i64 0), .k (C.int .i64 0), .k (C.int .i64 0), .k (C.int .i64 0), .k (C.int .i64 0), .k (C.int .i64 0), .k (C.int .i64 0), .sl 2])⟩] [1, 2, 3])
  (.seq (.region [⟨some 4, none, .p (.fld 0 (.t 1))⟩,
    ⟨some 5, none, .h (.load 24 true (.t 4))⟩,
    ⟨some 6, none, .h (.call (.f 38) [.t 5])⟩,
    ⟨some 7, none, .p (.fld 0 (.t 3))⟩,
    ⟨none, none, .h (.store 24 (.t 7) (.t 6))⟩] [1, 2, 3])
  (.seq (.region [⟨some 8, none, .p (.fld 24 (.t 1))⟩,
    ⟨some 9, none, .h (.load 1 false (.t 8))⟩,
    ⟨some 10, none, .h (.call (.f 57) [.t 9])⟩,
    ⟨some 11, none, .p (.fld 24 (.t 3))⟩,
    ⟨none, none, .h (.store 1 (.t 11) (.t 10))⟩] [2, 3])
  (.seq (.region [⟨some 12, none, .h (.load 25 true (.t 3))⟩,
    ⟨none, none, .h (.store 25 (.t 2) (.t 12))⟩] [2])
  .ret))))) }
theorem a49_ok : okFn Try.prog 49 a49 = true := by kernel_rfl
/-- loop.example/g01215/impl.IsReplay -/
def a50 : AFn := { np := 1, nt := 11, res := [.t 2], body :=
  (.seq (.region [⟨some 1, none, .p (.box 25 (.t 0))⟩,
    ⟨some 2, none, .p (.mv (.k (.c (C.bool false))))⟩] [1])
  (.seq (.region [⟨some 6, none, .h (.load 25 true (.t 1))⟩,
    ⟨some 7, none, .h (.call (.f 151) [.t 6])⟩,
    ⟨some 5, none, .p (.mv (.t 7))⟩,
    ⟨some 8, none, .p (.ext (.t 5) 0)⟩,
    ⟨some 9, none, .p (.ext (.t 5) 1)⟩,
    ⟨some 3, none, .p (.mv (.t 8))⟩,
    ⟨some 4, none, .p (.mv (.t 9))⟩] [4])
  (.seq (.region [⟨some 10, none, .p (.mv (.t 4))⟩,
    ⟨some 2, none, .p (.mv (.t 10))⟩] [2])
  .ret))) }
theorem a50_ok : okFn Try.prog 50 a50 = true := by kernel_rfl
/-- loop.example/g01215/laws.eqReplay -/
def a51 : AFn := { np := 2, nt := 17, res := [.t 4], body :=
  (.seq (.region [⟨some 2, none, .p (.box 25 (.t 0))⟩,
    ⟨some 3, none, .p (.box 25 (.t 1))⟩,
    ⟨some 4, none, .p (.mv (.k (.c (C.bool false))))⟩] [2, 3])
  (.seq (.seq (.region [⟨some 5, none, .p (.fld 0 (.t 2))⟩,
    ⟨some 6, none, .h (.load 24 true (.t 5))⟩,
    ⟨some 7, none, .p (.fld 0 (.t 3))⟩,
    ⟨some 8, none, .h (.load 24 true (.t 7))⟩,
    ⟨some 9, none, .h (.call (.f 54) [.t 6, .t 8])⟩,
    ⟨some 10, none, .p (.un .not (.t 9))⟩] [2, 3, 10])
  (.cond (.t 10)
  (.seq (.region [⟨some 4, none, .p (.mv (.k (.c (C.bool false))))⟩] [4])
  .ret)
  .skip))
  (.seq (.seq (.region [⟨some 11, none, .p (.fld 24 (.t 2))⟩,
    ⟨some 12, none, .h (.load 1 false (.t 11))⟩,
    ⟨some 13, none, .p (.fld 24 (.t 3))⟩,
    ⟨some 14, none, .h (.load 1 false (.t 13))⟩,
    ⟨some 15, none, .h (.call (.f 59) [.t 12, .t 14])⟩,
    ⟨some 16, none, .p (.un .not (.t 15))⟩] [16])
  (.cond (.t 16)
  (.seq (.region [⟨some 4, none, .p (.mv (.k (.c (C.bool false))))⟩] [4])
  .ret)
  .skip))
  (.seq (.region [⟨some 4, none, .p (.mv (.k (.c (C.bool true))))⟩] [4])
  .ret)))) }
theorem a51_ok : okFn Try.prog 51 a51 = true := by kernel_rfl
/-- loop.example/g01215/spec.ReplayRack -/
def a52 : AFn := { np := 2, nt := 28, res := [.cell 4 24 true, .t 5], body :=
  (.seq (.region [⟨some 2, none, .p (.box 25 (.t 0))⟩,
    ⟨some 4, none, .p (.alloc (List.replicate 24 (.k (C.int .i64 0))))⟩,
    ⟨some 5, none, .p (.mv (.k (.c (C.bool false))))⟩] [1, 2, 4])
  (.seq (.region [⟨some 9, none, .h (.load 25 true (.t 2))⟩,
    ⟨some 10, none, .h (.call (.f 150) [.t 9])⟩,
    ⟨some 8, none, .p (.mv (.t 10))⟩,
    ⟨some 11, none, .p (.ext (.t 8) 0)⟩,
    ⟨some 12, none, .p (.ext (.t 8) 1)⟩,
    ⟨some 6, none, .p (.mv (.t 11))⟩,
    ⟨some 7, none, .p (.mv (.t 12))⟩] [1, 4, 6, 7])
  (.seq (.seq (.region [⟨some 13, none, .p (.mv (.t 7))⟩,
    ⟨some 14, none, .p (.un .not (.t 13))⟩,
    ⟨some 15, none, .p (.mv (.t 14))⟩,
    ⟨some 16, some (15, false), .p (.mv (.t 1))⟩,
    ⟨some 17, some (15, false), .p (.mv (.t 6))⟩,
    ⟨some 18, some (15, false), .p (.len (.t 17))⟩,
    ⟨some 19, some (15, false), .p (.bin .sub (.t 18) (.k (.c (C.int .i64 1))))⟩,
    ⟨some 20, some (15, false), .h (.call (.f 144) [.t 16, .k (.c (C.int .i64 0)), .t 19])⟩,
    ⟨some 21, some (15, false), .p (.un .not (.t 20))⟩,
    ⟨some 22, none, .p (.pick (.t 15) (.k (.c (C.bool true))) (.t 21))⟩] [1, 4, 6, 22])
  (.cond (.t 22)
  (.seq (.region [⟨some 23, none, .p (.build (List.replicate 24 (.k (C.int .i64 0))) [])⟩,
    ⟨none, none, .h (.store 24 (.t 4) (.t 23))⟩,
    ⟨some 5, none, .p (.mv (.k (.c (C.bool false))))⟩] [4, 5])
  .ret)
  .skip))
  (.seq (.region [⟨some 24, none, .p (.mv (.t 6))⟩,
    ⟨some 25, none, .p (.mv (.t 1))⟩,
    ⟨some 26, none, .p (.ixS 24 (.t 24) (.t 25))⟩,
    ⟨some 27, none, .h (.load 24 true (.t 26))⟩,
    ⟨none, none, .h (.store 24 (.t 4) (.t 27))⟩,
    ⟨some 5, none, .p (.mv (.k (.c (C.bool true))))⟩] [4, 5])
  .ret)))) }
theorem a52_ok : okFn Try.prog 52 a52 = true := by kernel_rfl
/-- loop.example/g01215/impl.ReplayRack -/
def a53 : AFn := { np := 2, nt := 28, res := [.cell 4 24 true, .t 5], body :=
  (.seq (.region [⟨some 2, none, .p (.box 25 (.t 0))⟩,
    ⟨some 4, none, .p (.alloc (List.replicate 24 (.k (C.int .i64 0))))⟩,
    ⟨some 5, none, .p (.mv (.k (.c (C.bool false))))⟩] [1, 2, 4])
  (.seq (.region [⟨some 9, none, .h (.load 25 true (.t 2))⟩,
    ⟨some 10, none, .h (.call (.f 151) [.t 9])⟩,
    ⟨some 8, none, .p (.mv (.t 10))⟩,
    ⟨some 11, none, .p (.ext (.t 8) 0)⟩,
    ⟨some 12, none, .p (.ext (.t 8) 1)⟩,
    ⟨some 6, none, .p (.mv (.t 11))⟩,
    ⟨some 7, none, .p (.mv (.t 12))⟩] [1, 2, 4, 6, 7])
  (.seq (.seq (.region [⟨some 13, none, .p (.mv (.t 7))⟩,
    ⟨some 14, none, .p (.un .not (.t 13))⟩,
    ⟨some 15, none, .p (.mv (.t 14))⟩,
    ⟨some 16, some (15, false), .p (.mv (.t 1))⟩,
    ⟨some 17, some (15, false), .p (.fld 24 (.t 2))⟩,
    ⟨some 18, some (15, false), .h (.load 1 false (.t 17))⟩,
    ⟨some 19, some (15, false), .p (.len (.t 18))⟩,
    ⟨some 20, some (15, false), .h (.call (.f 152) [.t 16, .k (.c (C.int .i64 0)), .t 19])⟩,
    ⟨some 21, some (15, false), .p (.un .not (.t 20))⟩,
    ⟨some 22, none, .p (.pick (.t 15) (.k (.c (C.bool true))) (.t 21))⟩] [1, 4, 6, 22])
  (.cond (.t 22)
  (.seq (.region [⟨some 23, none, .p (.build (List.replicate 24 (.k (C.int .i64 0))) [])⟩,
    ⟨none, none, .h (.store 24 (.t 4) (.t 23))⟩,
    ⟨some 5, none, .p (.mv (.k (.c (C.bool false))))⟩] [4, 5])
  .ret)
  .skip))
  (.seq (.region [⟨some 24, none, .p (.mv (.t 6))⟩,
    ⟨some 25, none, .p (.mv (.t 1))⟩,
    ⟨some 26, none, .p (.ixS 24 (.t 24) (.t 25))⟩,
    ⟨some 27, none, .h (.load 24 true (.t 26))⟩,
    ⟨none, none, .h (.store 24 (.t 4) (.t 27))⟩,
    ⟨some 5, none, .p (.mv (.k (.c (C.bool true))))⟩] [4, 5])
  .ret)))) }
theorem a53_ok : okFn Try.prog 53 a53 = true := by kernel_rfl
/-- loop.example/g01215/laws.eqRack -/
def a54 : AFn := { np := 2, nt := 11, res := [.t 4], body :=
  (.seq (.region [⟨some 2, none, .p (.box 24 (.t 0))⟩,
    ⟨some 3, none, .p (.box 24 (.t 1))⟩,
    ⟨some 4, none, .p (.mv (.k (.c (C.bool false))))⟩] [2, 3])
  (.seq (.seq (.region [⟨some 5, none, .p (.fld 0 (.t 2))⟩,
    ⟨some 6, none, .h (.load 24 true (.t 5))⟩,
    ⟨some 7, none, .p (.fld 0 (.t 3))⟩,
    ⟨some 8, none, .h (.load 24 true (.t 7))⟩,
    ⟨some 9, none, .h (.call (.f 153) [.t 6, .t 8])⟩,
    ⟨some 10, none, .p (.un .not (.t 9))⟩] [10])
  (.cond (.t 10)
  (.seq (.region [⟨some 4, none, .p (.mv (.k (.c (C.bool false))))⟩] [4])
  .ret)
  .skip))
  (.seq (.region [⟨some 4, none, .p (.mv (.k (.c (C.bool true))))⟩] [4])
  .ret))) }
theorem a54_ok : okFn Try.prog 54 a54 = true := by kernel_rfl
/-- loop.example/g01215/laws.szIntA2S -/
def a55 : AFn := { np := 2, nt := 12, res := [.t 4], body :=
  (.seq (.region [⟨some 4, none, .p (.mv (.k (.c (C.int .i64 0))))⟩] [0, 1])
  (.seq (.region [⟨some 5, none, .p (.mv (.t 1))⟩,
    ⟨some 6, none, .p (.mv (.t 0))⟩,
    ⟨some 7, none, .p (.len (.t 6))⟩,
    ⟨some 8, none, .p (.bin .sub (.t 5) (.t 7))⟩,
    ⟨some 1, none, .p (.mv (.t 8))⟩] [1])
  (.seq (.seq (.region [⟨some 9, none, .p (.mv (.t 1))⟩,
    ⟨some 10, none, .p (.bin .lss (.t 9) (.k (.c (C.int .i64 0))))⟩] [1, 10])
  (.cond (.t 10)
  (.seq (.region [⟨some 4, none, .p (.mv (.k (.c (C.int .i64 (-1)))))⟩] [4])
  .ret)
  .skip))
  (.seq (.region [⟨some 11, none, .p (.mv (.t 1))⟩,
    ⟨some 4, none, .p (.mv (.t 11))⟩] [4])
  .ret)))) }
theorem a55_ok : okFn Try.prog 55 a55 = true := by kernel_rfl
/-- loop.example/g01215/spec.PlayParty -/
def a56 : AFn := { np := 2, nt := 76, res := [.cell 4 24 true, .cell 5 2 true, .t 6, .t 7], body :=
  (.seq (.region [⟨some 2, none, .p (.box 24 (.t 0))⟩,
    ⟨some 4, none, .p (.alloc (List.replicate 24 (.k (C.int .i64 0))))⟩,
    ⟨some 5, none, .p (.alloc [.k (C.int .i64 0), .k (C.int .i64 0)])⟩,
    ⟨some 6, none, .p (.mv (.k (.c (C.int .i64 0))))⟩,
    ⟨some 7, none, .p (.mv (.k (.c (C.bool false))))⟩] [1, 2, 4, 5])
  (.seq (.region [⟨some 12, none, .p (.build [.k (C.int .i64 0), .k (C.int .i64 0)] [])⟩,
    ⟨some 8, none, .p (.alloc [.k (C.int .i64 0), .k (C.int .i64 0)])⟩,
    ⟨none, none, .h (.store 2 (.t 8) (.t 12))⟩] [1, 2, 4, 5, 8])
  (.seq (.seq (.region [⟨some 13, none, .h (.load 24 true (.t 2))⟩,
    ⟨some 14, none, .h (.call (.f 140) [.t 13])⟩,
    ⟨some 15, none, .p (.un .not (.t 14))⟩,
    ⟨some 16, none, .p (.mv (.t 15))⟩,
    ⟨some 17, some (16, false), .p (.mv (.t 1))⟩,
    ⟨some 18, some (16, false), .p (.len (.t 17))⟩,
    ⟨some 19, some (16, false), .p (.bin .gtr (.t 18) (.k (.c (C.int .i64 60))))⟩,
    ⟨some 20, none, .p (.pick (.t 16) (.k (.c (C.bool true))) (.t 19))⟩] [1, 2, 4, 5, 8, 20])
  (.cond (.t 20)
  (.seq (.regionD [⟨some 21, none, .p (.build (List.replicate 24 (.k (C.int .i64 0))) [])⟩,
    ⟨some 22, none, .h (.load 2 true (.t 8))⟩,
    ⟨none, none, .h (.store 24 (.t 4) (.t 21))⟩,
    ⟨none, none, .h (.store 2 (.t 5) (.t 22))⟩,
    ⟨some 6, none, .p (.mv (.k (.c (C.int .i64 0))))⟩,
    ⟨some 7, none, .p (.mv (.k (.c (C.bool false))))⟩] [4, 5, 6, 7] [(.t 8, .t 4)])
  .ret)
  .skip))
  (.seq (.seq (.region [⟨some 9, none, .p (.mv (.k (.c (C.int .i64 0))))⟩] [1, 2, 4, 5, 8, 9])
  (.block 0 (.loop (.seq (.seq (.region [⟨some 23, none, .p (.mv (.t 9))⟩,
    ⟨some 24, none, .p (.mv (.t 1))⟩,
    ⟨some 25, none, .p (.len (.t 24))⟩,
    ⟨some 26, none, .p (.bin .lss (.t 23) (.t 25))⟩] [1, 2, 4, 5, 8, 9, 26])
  (.cond (.t 26)
  .skip
  (.exit 0)))
  (.seq (.block 1 (.seq (.seq (.regionD [⟨some 29, none, .h (.load 24 true (.t 2))⟩,
    ⟨some 30, none, .p (.mv (.t 1))⟩,
    ⟨some 31, none, .p (.mv (.t 9))⟩,
    ⟨some 32, none, .p (.ixS 2 (.t 30) (.t 31))⟩,
    ⟨some 33, none, .h (.load 2 true (.t 32))⟩,
    ⟨some 34, none, .h (.call (.f 154) [.t 29, .t 33])⟩,
    ⟨some 35, none, .p (.un .not (.t 34))⟩,
    ⟨some 36, none, .p (.mv (.t 35))⟩,
    ⟨some 37, some (36, false), .h (.load 24 true (.t 2))⟩,
    ⟨some 38, some (36, false), .p (.mv (.t 1))⟩,
    ⟨some 39, some (36, false), .p (.mv (.t 9))⟩,
    ⟨some 40, some (36, false), .p (.ixS 2 (.t 38) (.t 39))⟩,
    ⟨some 41, some (36, false), .p (.ixA 2 1 (.t 40) (.k (.c (C.int .i64 0))))⟩,
    ⟨some 42, some (36, false), .h (.load 1 false (.t 41))⟩,
    ⟨some 43, some (36, false), .p (.mv (.t 1))⟩,
    ⟨some 44, some (36, false), .p (.mv (.t 9))⟩,
    ⟨some 45, some (36, false), .p (.ixS 2 (.t 43) (.t 44))⟩,
    ⟨some 46, some (36, false), .p (.ixA 2 1 (.t 45) (.k (.c (C.int .i64 1))))⟩,
    ⟨some 47, some (36, false), .h (.load 1 false (.t 46))⟩,
    ⟨some 48, some (36, false), .h (.call (.f 155) [.t 37, .t 42, .t 47])⟩,
    ⟨some 49, none, .p (.pick (.t 36) (.k (.c (C.bool true))) (.t 48))⟩] [1, 2, 4, 5, 8, 9, 49] [])
  (.cond (.t 49)
  (.seq (.regionD [⟨some 50, none, .h (.load 24 true (.t 2))⟩,
    ⟨some 51, none, .h (.load 2 true (.t 8))⟩,
    ⟨some 52, none, .p (.mv (.t 9))⟩,
    ⟨none, none, .h (.store 24 (.t 4) (.t 50))⟩,
    ⟨none, none, .h (.store 2 (.t 5) (.t 51))⟩,
    ⟨some 6, none, .p (.mv (.t 52))⟩,
    ⟨some 7, none, .p (.mv (.k (.c (C.bool true))))⟩] [4, 5, 6, 7] [(.t 8, .t 4)])
  .ret)
  .skip))
  (.seq (.regionD [⟨some 54, none, .h (.load 24 true (.t 2))⟩,
    ⟨some 55, none, .p (.mv (.t 1))⟩,
    ⟨some 56, none, .p (.mv (.t 9))⟩,
    ⟨some 57, none, .p (.ixS 2 (.t 55) (.t 56))⟩,
    ⟨some 58, none, .h (.load 2 true (.t 57))⟩,
    ⟨some 59, none, .h (.call (.f 156) [.t 54, .t 58])⟩,
    ⟨some 53, none, .p (.mv (.t 59))⟩,
    ⟨some 60, none, .p (.ext (.t 53) 0)⟩,
    ⟨some 61, none, .p (.ext (.t 53) 1)⟩,
    ⟨some 11, none, .p (.alloc (List.replicate 24 (.k (C.int .i64 0))))⟩,
    ⟨some 10, none, .p (.mv (.t 60))⟩,
    ⟨none, none, .h (.store 24 (.t 11) (.t 61))⟩] [1, 2, 4, 5, 8, 9, 10, 11] [])
  (.seq (.region [⟨some 62, none, .p (.mv (.t 9))⟩,
    ⟨some 63, none, .p (.bin .rem (.t 62) (.k (.c (C.int .i64 2))))⟩,
    ⟨some 64, none, .p (.mv (.t 9))⟩,
    ⟨some 65, none, .p (.bin .rem (.t 64) (.k (.c (C.int .i64 2))))⟩,
    ⟨some 66, none, .p (.ixA 2 1 (.t 8) (.t 65))⟩,
    ⟨some 67, none, .h (.load 1 false (.t 66))⟩,
    ⟨some 68, none, .p (.mv (.t 10))⟩,
    ⟨some 69, none, .p (.bin .add (.t 67) (.t 68))⟩,
    ⟨some 70, none, .p (.ixA 2 1 (.t 8) (.t 63))⟩,
    ⟨none, none, .h (.store 1 (.t 70) (.t 69))⟩] [1, 2, 4, 5, 8, 9, 11])
  (.region [⟨some 71, none, .h (.load 24 true (.t 11))⟩,
    ⟨none, none, .h (.store 24 (.t 2) (.t 71))⟩] [1, 2, 4, 5, 8, 9])))))
  (.region [⟨some 27, none, .p (.mv (.t 9))⟩,
    ⟨some 28, none, .p (.bin .add (.t 27) (.k (.c (C.int .i64 1))))⟩,
    ⟨some 9, none, .p (.mv (.t 28))⟩] [1, 2, 4, 5, 8, 9]))) [1, 2, 4, 5, 8, 9])))
  (.seq (.regionD [⟨some 72, none, .h (.load 24 true (.t 2))⟩,
    ⟨some 73, none, .h (.load 2 true (.t 8))⟩,
    ⟨some 74, none, .p (.mv (.t 1))⟩,
    ⟨some 75, none, .p (.len (.t 74))⟩,
    ⟨none, none, .h (.store 24 (.t 4) (.t 72))⟩,
    ⟨none, none, .h (.store 2 (.t 5) (.t 73))⟩,
    ⟨some 6, none, .p (.mv (.t 75))⟩,
    ⟨some 7, none, .p (.mv (.k (.c (C.bool true))))⟩] [4, 5, 6, 7] [(.t 8, .t 4)])
  .ret))))) }
theorem a56_ok : okFn Try.prog 56 a56 = true := by kernel_rfl
/-- loop.example/g01215/laws.toIntA2S -/
def a57 : AFn := { np := 1, nt := 23, res := [.t 2], body :=
  (.seq (.region [⟨some 2, none, .p (.nilsl 2)⟩] [0])
  (.seq (.region [⟨some 5, none, .p (.mv (.t 0))⟩,
    ⟨some 6, none, .p (.len (.t 5))⟩,
    ⟨some 7, none, .p (.mkslice 2 [.k (C.int .i64 0), .k (C.int .i64 0)] (.t 6) (.t 6))⟩,
    ⟨some 3, none, .p (.mv (.t 7))⟩] [0, 3])
  (.seq (.seq (.region [⟨some 4, none, .p (.mv (.k (.c (C.int .i64 0))))⟩] [0, 3, 4])
  (.block 0 (.loop (.seq (.seq (.region [⟨some 8, none, .p (.mv (.t 4))⟩,
    ⟨some 9, none, .p (.mv (.t 0))⟩,
    ⟨some 10, none, .p (.len (.t 9))⟩,
    ⟨some 11, none, .p (.bin .lss (.t 8) (.t 10))⟩] [0, 3, 4, 11])
  (.cond (.t 11)
  .skip
  (.exit 0)))
  (.seq (.block 1 (.region [⟨some 14, none, .p (.mv (.t 3))⟩,
    ⟨some 15, none, .p (.mv (.t 4))⟩,
    ⟨some 16, none, .p (.mv (.t 0))⟩,
    ⟨some 17, none, .p (.mv (.t 4))⟩,
    ⟨some 18, none, .p (.ixS 2 (.t 16) (.t 17))⟩,
    ⟨some 19, none, .h (.load 2 true (.t 18))⟩,
    ⟨some 20, none, .h (.call (.f 82) [.t 19])⟩,
    ⟨some 21, none, .p (.ixS 2 (.t 14) (.t 15))⟩,
    ⟨none, none, .h (.store 2 (.t 21) (.t 20))⟩] [0, 3, 4]))
  (.region [⟨some 12, none, .p (.mv (.t 4))⟩,
    ⟨some 13, none, .p (.bin .add (.t 12) (.k (.c (C.int .i64 1))))⟩,
    ⟨some 4, none, .p (.mv (.t 13))⟩] [0, 3, 4]))) [0, 3, 4])))
  (.seq (.region [⟨some 22, none, .p (.mv (.t 3))⟩,
    ⟨some 2, none, .p (.mv (.t 22))⟩] [2])
  .ret)))) }
theorem a57_ok : okFn Try.prog 57 a57 = true := by kernel_rfl
/-- loop.example/g01215/impl.PlayParty -/
def a58 : AFn := { np := 2, nt := 61, res := [.cell 4 24 true, .cell 5 2 true, .t 6, .t 7], body :=
  (.seq (.region [⟨some 2, none, .p (.box 24 (.t 0))⟩,
    ⟨some 4, none, .p (.alloc (List.replicate 24 (.k (C.int .i64 0))))⟩,
    ⟨some 5, none, .p (.alloc [.k (C.int .i64 0), .k (C.int .i64 0)])⟩,
    ⟨some 6, none, .p (.mv (.k (.c (C.int .i64 0))))⟩,
    ⟨some 7, none, .p (.mv (.k (.c (C.bool false))))⟩] [1, 2, 4, 5])
  (.seq (.seq (.region [⟨some 13, none, .h (.load 24 true (.t 2))⟩,
    ⟨some 14, none, .h (.call (.f 121) [.t 13])⟩,
    ⟨some 15, none, .p (.un .not (.t 14))⟩,
    ⟨some 16, none, .p (.mv (.t 15))⟩,
    ⟨some 17, some (16, false), .p (.mv (.t 1))⟩,
    ⟨some 18, some (16, false), .p (.len (.t 17))⟩,
    ⟨some 19, some (16, false), .p (.bin .gtr (.t 18) (.k (.c (C.int .i64 60))))⟩,
    ⟨some 20, none, .p (.pick (.t 16) (.k (.c (C.bool true))) (.t 19))⟩] [1, 2, 4, 5, 20])
  (.cond (.t 20)
  (.seq (.region [⟨some 21, none, .p (.build (List.replicate 24 (.k (C.int .i64 0))) [])⟩,
    ⟨some 22, none, .p (.build [.k (C.int .i64 0), .k (C.int .i64 0)] [])⟩,
    ⟨none, none, .h (.store 24 (.t 4) (.t 21))⟩,
    ⟨none, none, .h (.store 2 (.t 5) (.t 22))⟩,
    ⟨some 6, none, .p (.mv (.k (.c (C.int .i64 0))))⟩,
    ⟨some 7, none, .p (.mv (.k (.c (C.bool false))))⟩] [4, 5, 6, 7])
  .ret)
  .skip))
  (.seq (.region [⟨some 8, none, .p (.alloc [.k (C.int .i64 0), .k (C.int .i64 0)])⟩] [1, 2, 4, 5, 8])
  (.seq (.seq (.region [⟨some 23, none, .p (.mv (.t 1))⟩,
    ⟨some 24, none, .p (.len (.t 23))⟩,
    ⟨some 25, none, .p (.mv (.k (.c (C.int .i64 0))))⟩] [1, 2, 4, 5, 8, 23, 24, 25])
  (.block 0 (.loop (.seq (.region [⟨some 26, none, .p (.bin .lss (.t 25) (.t 24))⟩] [1, 2, 4, 5, 8, 23, 24, 25, 26])
  (.seq (.cond (.t 26)
  .skip
  (.exit 0))
  (.seq (.block 1 (.seq (.region [⟨some 27, none, .p (.mv (.t 25))⟩,
    ⟨some 28, none, .p (.ixS 2 (.t 23) (.t 25))⟩,
    ⟨some 29, none, .h (.load 2 true (.t 28))⟩,
    ⟨some 10, none, .p (.alloc [.k (C.int .i64 0), .k (C.int .i64 0)])⟩,
    ⟨some 9, none, .p (.mv (.t 27))⟩,
    ⟨none, none, .h (.store 2 (.t 10) (.t 29))⟩] [1, 2, 4, 5, 8, 9, 10, 23, 24, 25])
  (.seq (.seq (.region [⟨some 30, none, .h (.load 24 true (.t 2))⟩,
    ⟨some 31, none, .h (.load 2 true (.t 10))⟩,
    ⟨some 32, none, .h (.call (.f 157) [.t 30, .t 31])⟩,
    ⟨some 33, none, .p (.un .not (.t 32))⟩,
    ⟨some 34, none, .p (.mv (.t 33))⟩,
    ⟨some 35, some (34, false), .h (.load 24 true (.t 2))⟩,
    ⟨some 36, some (34, false), .h (.load 2 true (.t 10))⟩,
    ⟨some 37, some (34, false), .h (.call (.f 158) [.t 35, .t 36])⟩,
    ⟨some 38, none, .p (.pick (.t 34) (.k (.c (C.bool true))) (.t 37))⟩] [1, 2, 4, 5, 8, 9, 10, 23, 24, 25, 38])
  (.cond (.t 38)
  (.seq (.regionD [⟨some 39, none, .h (.load 24 true (.t 2))⟩,
    ⟨some 40, none, .h (.load 2 true (.t 8))⟩,
    ⟨some 41, none, .p (.mv (.t 9))⟩,
    ⟨none, none, .h (.store 24 (.t 4) (.t 39))⟩,
    ⟨none, none, .h (.store 2 (.t 5) (.t 40))⟩,
    ⟨some 6, none, .p (.mv (.t 41))⟩,
    ⟨some 7, none, .p (.mv (.k (.c (C.bool true))))⟩] [4, 5, 6, 7] [(.t 8, .t 4)])
  .ret)
  .skip))
  (.seq (.region [⟨some 43, none, .h (.load 24 true (.t 2))⟩,
    ⟨some 44, none, .h (.load 2 true (.t 10))⟩,
    ⟨some 45, none, .h (.call (.f 159) [.t 43, .t 44])⟩,
    ⟨some 42, none, .p (.mv (.t 45))⟩,
    ⟨some 46, none, .p (.ext (.t 42) 0)⟩,
    ⟨some 47, none, .p (.ext (.t 42) 1)⟩,
    ⟨some 12, none, .p (.alloc (List.replicate 24 (.k (C.int .i64 0))))⟩,
    ⟨some 11, none, .p (.mv (.t 46))⟩,
    ⟨none, none, .h (.store 24 (.t 12) (.t 47))⟩] [1, 2, 4, 5, 8, 9, 11, 12, 23, 24, 25])
  (.seq (.region [⟨some 48, none, .p (.mv (.t 9))⟩,
    ⟨some 49, none, .p (.bin .rem (.t 48) (.k (.c (C.int .i64 2))))⟩,
    ⟨some 50, none, .p (.ixA 2 1 (.t 8) (.t 49))⟩,
    ⟨some 51, none, .h (.load 1 false (.t 50))⟩,
    ⟨some 52, none, .p (.mv (.t 11))⟩,
    ⟨some 53, none, .p (.bin .add (.t 51) (.t 52))⟩,
    ⟨some 54, none, .p (.ixA 2 1 (.t 8) (.t 49))⟩,
    ⟨none, none, .h (.store 1 (.t 54) (.t 53))⟩] [1, 2, 4, 5, 8, 12, 23, 24, 25])
  (.region [⟨some 55, none, .h (.load 24 true (.t 12))⟩,
    ⟨none, none, .h (.store 24 (.t 2) (.t 55))⟩] [1, 2, 4, 5, 8, 23, 24, 25]))))))
  (.region [⟨some 56, none, .p (.bin .add (.t 25) (.k (.c (C.int .i64 1))))⟩,
    ⟨some 25, none, .p (.mv (.t 56))⟩] [1, 2, 4, 5, 8, 23, 24, 25])))) [1, 2, 4, 5, 8, 23, 24, 25])))
  (.seq (.regionD [⟨some 57, none, .h (.load 24 true (.t 2))⟩,
    ⟨some 58, none, .h (.load 2 true (.t 8))⟩,
    ⟨some 59, none, .p (.mv (.t 1))⟩,
    ⟨some 60, none, .p (.len (.t 59))⟩,
    ⟨none, none, .h (.store 24 (.t 4) (.t 57))⟩,
    ⟨none, none, .h (.store 2 (.t 5) (.t 58))⟩,
    ⟨some 6, none, .p (.mv (.t 60))⟩,
    ⟨some 7, none, .p (.mv (.k (.c (C.bool true))))⟩] [4, 5, 6, 7] [(.t 8, .t 4)])
  .ret))))) }
theorem a58_ok : okFn Try.prog 58 a58 = true := by kernel_rfl
/-- loop.example/g01215/laws.eqIntA2S -/
def a59 : AFn := { np := 2, nt := 27, res := [.t 4], body :=
  (.seq (.region [⟨some 4, none, .p (.mv (.k (.c (C.bool false))))⟩] [0, 1])
  (.seq (.seq (.region [⟨some 6, none, .p (.mv (.t 0))⟩,
    ⟨some 7, none, .p (.len (.t 6))⟩,
    ⟨some 8, none, .p (.mv (.t 1))⟩,
    ⟨some 9, none, .p (.len (.t 8))⟩,
    ⟨some 10, none, .p (.bin .neq (.t 7) (.t 9))⟩] [0, 1, 10])
  (.cond (.t 10)
  (.seq (.region [⟨some 4, none, .p (.mv (.k (.c (C.bool false))))⟩] [4])
  .ret)
  .skip))
  (.seq (.seq (.region [⟨some 5, none, .p (.mv (.k (.c (C.int .i64 0))))⟩] [0, 1, 5])
  (.block 0 (.loop (.seq (.seq (.region [⟨some 11, none, .p (.mv (.t 5))⟩,
    ⟨some 12, none, .p (.mv (.t 0))⟩,
    ⟨some 13, none, .p (.len (.t 12))⟩,
    ⟨some 14, none, .p (.bin .lss (.t 11) (.t 13))⟩] [0, 1, 5, 14])
  (.cond (.t 14)
  .skip
  (.exit 0)))
  (.seq (.block 1 (.seq (.regionD [⟨some 17, none, .p (.mv (.t 0))⟩,
    ⟨some 18, none, .p (.mv (.t 5))⟩,
    ⟨some 19, none, .p (.ixS 2 (.t 17) (.t 18))⟩,
    ⟨some 20, none, .h (.load 2 true (.t 19))⟩,
    ⟨some 21, none, .p (.mv (.t 1))⟩,
    ⟨some 22, none, .p (.mv (.t 5))⟩,
    ⟨some 23, none, .p (.ixS 2 (.t 21) (.t 22))⟩,
    ⟨some 24, none, .h (.load 2 true (.t 23))⟩,
    ⟨some 25, none, .h (.call (.f 36) [.t 20, .t 24])⟩,
    ⟨some 26, none, .p (.un .not (.t 25))⟩] [0, 1, 5, 26] [])
  (.cond (.t 26)
  (.seq (.region [⟨some 4, none, .p (.mv (.k (.c (C.bool false))))⟩] [4])
  .ret)
  .skip)))
  (.region [⟨some 15, none, .p (.mv (.t 5))⟩,
    ⟨some 16, none, .p (.bin .add (.t 15) (.k (.c (C.int .i64 1))))⟩,
    ⟨some 5, none, .p (.mv (.t 16))⟩] [0, 1, 5]))) [0, 1, 5])))
  (.seq (.region [⟨some 4, none, .p (.mv (.k (.c (C.bool true))))⟩] [4])
  .ret)))) }
theorem a59_ok : okFn Try.prog 59 a59 = true := by kernel_rfl
/-- loop.example/g01215/spec.TubeValue -/
def a60 : AFn := { np := 2, nt := 17, res := [.t 4, .t 5], body :=
  (.seq (.region [⟨some 2, none, .p (.box 24 (.t 0))⟩,
    ⟨some 4, none, .p (.mv (.k (.c (C.int .i64 0))))⟩,
    ⟨some 5, none, .p (.mv (.k (.c (C.bool false))))⟩] [1, 2])
  (.seq (.seq (.region [⟨some 6, none, .h (.load 24 true (.t 2))⟩,
    ⟨some 7, none, .h (.call (.f 140) [.t 6])⟩,
    ⟨some 8, none, .p (.un .not (.t 7))⟩,
    ⟨some 9, none, .p (.mv (.t 8))⟩,
    ⟨some 10, some (9, false), .p (.mv (.t 1))⟩,
    ⟨some 11, some (9, false), .h (.call (.f 144) [.t 10, .k (.c (C.int .i64 0)), .k (.c (C.int .i64 3))])⟩,
    ⟨some 12, some (9, false), .p (.un .not (.t 11))⟩,
    ⟨some 13, none, .p (.pick (.t 9) (.k (.c (C.bool true))) (.t 12))⟩] [1, 2, 13])
  (.cond (.t 13)
  (.seq (.region [⟨some 4, none, .p (.mv (.k (.c (C.int .i64 0))))⟩,
    ⟨some 5, none, .p (.mv (.k (.c (C.bool false))))⟩] [4, 5])
  .ret)
  .skip))
  (.seq (.region [⟨some 14, none, .h (.load 24 true (.t 2))⟩,
    ⟨some 15, none, .p (.mv (.t 1))⟩,
    ⟨some 16, none, .h (.call (.f 160) [.t 14, .t 15])⟩,
    ⟨some 4, none, .p (.mv (.t 16))⟩,
    ⟨some 5, none, .p (.mv (.k (.c (C.bool true))))⟩] [4, 5])
  .ret))) }
theorem a60_ok : okFn Try.prog 60 a60 = true := by kernel_rfl
/-- loop.example/g01215/impl.TubeValue -/
def a61 : AFn := { np := 2, nt := 19, res := [.t 4, .t 5], body :=
  (.seq (.region [⟨some 2, none, .p (.box 24 (.t 0))⟩,
    ⟨some 4, none, .p (.mv (.k (.c (C.int .i64 0))))⟩,
    ⟨some 5, none, .p (.mv (.k (.c (C.bool false))))⟩] [1, 2])
  (.seq (.seq (.region [⟨some 8, none, .h (.load 24 true (.t 2))⟩,
    ⟨some 9, none, .p (.mv (.t 1))⟩,
    ⟨some 10, none, .h (.call (.f 146) [.t 8, .t 9, .k (.c (C.int .i64 0))])⟩,
    ⟨some 11, none, .p (.un .not (.t 10))⟩] [1, 2, 11])
  (.cond (.t 11)
  (.seq (.region [⟨some 4, none, .p (.mv (.k (.c (C.int .i64 0))))⟩,
    ⟨some 5, none, .p (.mv (.k (.c (C.bool false))))⟩] [4, 5])
  .ret)
  .skip))
  (.seq (.region [⟨some 13, none, .h (.load 24 true (.t 2))⟩,
    ⟨some 14, none, .p (.mv (.t 1))⟩,
    ⟨some 15, none, .h (.call (.f 161) [.t 13, .t 14])⟩,
    ⟨some 12, none, .p (.mv (.t 15))⟩,
    ⟨some 16, none, .p (.ext (.t 12) 0)⟩,
    ⟨some 17, none, .p (.ext (.t 12) 1)⟩,
    ⟨some 6, none, .p (.mv (.t 16))⟩,
    ⟨some 7, none, .p (.mv (.t 17))⟩] [6])
  (.seq (.region [⟨some 18, none, .p (.mv (.t 6))⟩,
    ⟨some 4, none, .p (.mv (.t 18))⟩,
    ⟨some 5, none, .p (.mv (.k (.c (C.bool true))))⟩] [4, 5])
  .ret)))) }
theorem a61_ok : okFn Try.prog 61 a61 = true := by kernel_rfl
/-- loop.example/g01215/spec.MovedLayers -/
def a62 : AFn := { np := 1, nt := 50, res := [.t 2, .t 3], body :=
  (.seq (.region [⟨some 1, none, .p (.box 25 (.t 0))⟩,
    ⟨some 2, none, .p (.mv (.k (.c (C.int .i64 0))))⟩,
    ⟨some 3, none, .p (.mv (.k (.c (C.bool false))))⟩] [1])
  (.seq (.region [⟨some 11, none, .h (.load 25 true (.t 1))⟩,
    ⟨some 12, none, .h (.call (.f 150) [.t 11])⟩,
    ⟨some 10, none, .p (.mv (.t 12))⟩,
    ⟨some 13, none, .p (.ext (.t 10) 0)⟩,
    ⟨some 14, none, .p (.ext (.t 10) 1)⟩,
    ⟨some 4, none, .p (.mv (.t 13))⟩,
    ⟨some 5, none, .p (.mv (.t 14))⟩] [1, 4, 5])
  (.seq (.region [⟨some 6, none, .p (.mv (.k (.c (C.int .i64 0))))⟩] [1, 4, 5, 6])
  (.seq (.seq (.region [⟨some 7, none, .p (.mv (.k (.c (C.int .i64 0))))⟩] [1, 4, 5, 6, 7])
  (.block 0 (.loop (.seq (.seq (.region [⟨some 15, none, .p (.mv (.t 7))⟩,
    ⟨some 16, none, .p (.fld 24 (.t 1))⟩,
    ⟨some 17, none, .h (.load 1 false (.t 16))⟩,
    ⟨some 18, none, .p (.len (.t 17))⟩,
    ⟨some 19, none, .p (.bin .lss (.t 15) (.t 18))⟩,
    ⟨some 20, none, .p (.mv (.t 19))⟩,
    ⟨some 21, some (20, true), .p (.mv (.t 5))⟩,
    ⟨some 22, none, .p (.pick (.t 20) (.t 21) (.k (.c (C.bool false))))⟩] [1, 4, 5, 6, 7, 22])
  (.cond (.t 22)
  .skip
  (.exit 0)))
  (.seq (.block 1 (.seq (.regionD [⟨some 26, none, .p (.mv (.t 4))⟩,
    ⟨some 27, none, .p (.mv (.t 7))⟩,
    ⟨some 28, none, .p (.ixS 24 (.t 26) (.t 27))⟩,
    ⟨some 29, none, .h (.load 24 true (.t 28))⟩,
    ⟨some 30, none, .p (.fld 24 (.t 1))⟩,
    ⟨some 31, none, .h (.load 1 false (.t 30))⟩,
    ⟨some 32, none, .p (.mv (.t 7))⟩,
    ⟨some 33, none, .p (.ixS 2 (.t 31) (.t 32))⟩,
    ⟨some 34, none, .p (.ixA 2 1 (.t 33) (.k (.c (C.int .i64 0))))⟩,
    ⟨some 35, none, .h (.load 1 false (.t 34))⟩,
    ⟨some 36, none, .p (.fld 24 (.t 1))⟩,
    ⟨some 37, none, .h (.load 1 false (.t 36))⟩,
    ⟨some 38, none, .p (.mv (.t 7))⟩,
    ⟨some 39, none, .p (.ixS 2 (.t 37) (.t 38))⟩,
    ⟨some 40, none, .p (.ixA 2 1 (.t 39) (.k (.c (C.int .i64 1))))⟩,
    ⟨some 41, none, .h (.load 1 false (.t 40))⟩,
    ⟨some 42, none, .h (.call (.f 148) [.t 29, .t 35, .t 41])⟩,
    ⟨some 25, none, .p (.mv (.t 42))⟩,
    ⟨some 43, none, .p (.ext (.t 25) 0)⟩,
    ⟨some 44, none, .p (.ext (.t 25) 1)⟩,
    ⟨some 8, none, .p (.alloc (List.replicate 24 (.k (C.int .i64 0))))⟩,
    ⟨none, none, .h (.store 24 (.t 8) (.t 43))⟩,
    ⟨some 9, none, .p (.mv (.t 44))⟩] [1, 4, 5, 6, 7, 9] [])
  (.region [⟨some 45, none, .p (.mv (.t 6))⟩,
    ⟨some 46, none, .p (.mv (.t 9))⟩,
    ⟨some 47, none, .p (.bin .add (.t 45) (.t 46))⟩,
    ⟨some 6, none, .p (.mv (.t 47))⟩] [1, 4, 5, 6, 7])))
  (.region [⟨some 23, none, .p (.mv (.t 7))⟩,
    ⟨some 24, none, .p (.bin .add (.t 23) (.k (.c (C.int .i64 1))))⟩,
    ⟨some 7, none, .p (.mv (.t 24))⟩] [1, 4, 5, 6, 7]))) [1, 4, 5, 6, 7])))
  (.seq (.region [⟨some 48, none, .p (.mv (.t 6))⟩,
    ⟨some 49, none, .p (.mv (.t 5))⟩,
    ⟨some 2, none, .p (.mv (.t 48))⟩,
    ⟨some 3, none, .p (.mv (.t 49))⟩] [2, 3])
  .ret))))) }
theorem a62_ok : okFn Try.prog 62 a62 = true := by kernel_rfl
/-- loop.example/g01215/impl.MovedLayers -/
def a63 : AFn := { np := 1, nt := 20, res := [.t 2, .t 3], body :=
  (.seq (.region [⟨some 1, none, .p (.box 25 (.t 0))⟩,
    ⟨some 2, none, .p (.mv (.k (.c (C.int .i64 0))))⟩,
    ⟨some 3, none, .p (.mv (.k (.c (C.bool false))))⟩] [1])
  (.seq (.seq (.region [⟨some 7, none, .h (.load 25 true (.t 1))⟩,
    ⟨some 8, none, .h (.call (.f 50) [.t 7])⟩,
    ⟨some 9, none, .p (.un .not (.t 8))⟩] [1, 9])
  (.cond (.t 9)
  (.seq (.region [⟨some 2, none, .p (.mv (.k (.c (C.int .i64 0))))⟩,
    ⟨some 3, none, .p (.mv (.k (.c (C.bool false))))⟩] [2, 3])
  .ret)
  .skip))
  (.seq (.region [⟨some 11, none, .p (.fld 0 (.t 1))⟩,
    ⟨some 12, none, .h (.load 24 true (.t 11))⟩,
    ⟨some 13, none, .p (.fld 24 (.t 1))⟩,
    ⟨some 14, none, .h (.load 1 false (.t 13))⟩,
    ⟨some 15, none, .h (.call (.f 162) [.t 12, .t 14])⟩,
    ⟨some 10, none, .p (.mv (.t 15))⟩,
    ⟨some 16, none, .p (.ext (.t 10) 0)⟩,
    ⟨some 17, none, .p (.ext (.t 10) 1)⟩,
    ⟨some 18, none, .p (.ext (.t 10) 2)⟩,
    ⟨some 4, none, .p (.alloc (List.replicate 24 (.k (C.int .i64 0))))⟩,
    ⟨none, none, .h (.store 24 (.t 4) (.t 16))⟩,
    ⟨some 5, none, .p (.mv (.t 17))⟩,
    ⟨some 6, none, .p (.mv (.t 18))⟩] [5])
  (.seq (.region [⟨some 19, none, .p (.mv (.t 5))⟩,
    ⟨some 2, none, .p (.mv (.t 19))⟩,
    ⟨some 3, none, .p (.mv (.k (.c (C.bool true))))⟩] [2, 3])
  .ret)))) }
theorem a63_ok : okFn Try.prog 63 a63 = true := by kernel_rfl
/-- loop.example/g01215/spec.EndPours -/
def a64 : AFn := { np := 2, nt := 63, res := [.t 4, .t 5], body :=
  (.seq (.region [⟨some 2, none, .p (.box 24 (.t 0))⟩,
    ⟨some 4, none, .p (.nilsl 2)⟩,
    ⟨some 5, none, .p (.mv (.k (.c (C.bool false))))⟩] [1, 2])
  (.seq (.region [⟨some 12, none, .p (.mksl 2 0 [.k (C.int .i64 0), .k (C.int .i64 0)] [])⟩,
    ⟨some 6, none, .p (.mv (.t 12))⟩] [1, 2, 6])
  (.seq (.seq (.region [⟨some 13, none, .h (.load 24 true (.t 2))⟩,
    ⟨some 14, none, .h (.call (.f 140) [.t 13])⟩,
    ⟨some 15, none, .p (.un .not (.t 14))⟩,
    ⟨some 16, none, .p (.mv (.t 15))⟩,
    ⟨some 17, some (16, false), .p (.mv (.t 1))⟩,
    ⟨some 18, some (16, false), .h (.call (.f 144) [.t 17, .k (.c (C.int .i64 1)), .k (.c (C.int .i64 3))])⟩,
    ⟨some 19, some (16, false), .p (.un .not (.t 18))⟩,
    ⟨some 20, none, .p (.pick (.t 16) (.k (.c (C.bool true))) (.t 19))⟩] [1, 2, 6, 20])
  (.cond (.t 20)
  (.seq (.region [⟨some 21, none, .p (.mv (.t 6))⟩,
    ⟨some 4, none, .p (.mv (.t 21))⟩,
    ⟨some 5, none, .p (.mv (.k (.c (C.bool false))))⟩] [4, 5])
  .ret)
  .skip))
  (.seq (.regionD [⟨some 22, none, .h (.load 24 true (.t 2))⟩,
    ⟨some 23, none, .p (.mv (.t 1))⟩,
    ⟨some 24, none, .h (.call (.f 145) [.t 22, .t 23])⟩,
    ⟨some 25, none, .h (.load 24 true (.t 2))⟩,
    ⟨some 26, none, .h (.call (.f 141) [.t 25])⟩,
    ⟨some 7, none, .p (.mv (.t 24))⟩,
    ⟨some 8, none, .p (.mv (.t 26))⟩] [1, 2, 6, 7, 8] [])
  (.seq (.seq (.region [⟨some 9, none, .p (.mv (.k (.c (C.int .i64 0))))⟩] [1, 2, 6, 7, 8, 9])
  (.block 0 (.loop (.seq (.seq (.region [⟨some 27, none, .p (.mv (.t 9))⟩,
    ⟨some 28, none, .p (.mv (.t 8))⟩,
    ⟨some 29, none, .p (.len (.t 28))⟩,
    ⟨some 30, none, .p (.bin .lss (.t 27) (.t 29))⟩] [1, 2, 6, 7, 8, 9, 30])
  (.cond (.t 30)
  .skip
  (.exit 0)))
  (.seq (.block 1 (.seq (.regionD [⟨some 34, none, .h (.load 24 true (.t 2))⟩,
    ⟨some 35, none, .p (.mv (.t 8))⟩,
    ⟨some 36, none, .p (.mv (.t 9))⟩,
    ⟨some 37, none, .p (.ixS 2 (.t 35) (.t 36))⟩,
    ⟨some 38, none, .p (.ixA 2 1 (.t 37) (.k (.c (C.int .i64 0))))⟩,
    ⟨some 39, none, .h (.load 1 false (.t 38))⟩,
    ⟨some 40, none, .p (.mv (.t 8))⟩,
    ⟨some 41, none, .p (.mv (.t 9))⟩,
    ⟨some 42, none, .p (.ixS 2 (.t 40) (.t 41))⟩,
    ⟨some 43, none, .p (.ixA 2 1 (.t 42) (.k (.c (C.int .i64 1))))⟩,
    ⟨some 44, none, .h (.load 1 false (.t 43))⟩,
    ⟨some 45, none, .h (.call (.f 148) [.t 34, .t 39, .t 44])⟩,
    ⟨some 33, none, .p (.mv (.t 45))⟩,
    ⟨some 46, none, .p (.ext (.t 33) 0)⟩,
    ⟨some 47, none, .p (.ext (.t 33) 1)⟩,
    ⟨some 10, none, .p (.alloc (List.replicate 24 (.k (C.int .i64 0))))⟩,
    ⟨none, none, .h (.store 24 (.t 10) (.t 46))⟩,
    ⟨some 11, none, .p (.mv (.t 47))⟩] [1, 2, 6, 7, 8, 9, 10] [])
  (.seq (.region [⟨some 48, none, .h (.load 24 true (.t 10))⟩,
    ⟨some 49, none, .p (.mv (.t 1))⟩,
    ⟨some 50, none, .p (.bin .sub (.t 49) (.k (.c (C.int .i64 1))))⟩,
    ⟨some 51, none, .h (.call (.f 145) [.t 48, .t 50])⟩,
    ⟨some 52, none, .p (.un .neg (.t 51))⟩,
    ⟨some 53, none, .p (.mv (.t 7))⟩,
    ⟨some 54, none, .p (.bin .eql (.t 52) (.t 53))⟩] [1, 2, 6, 7, 8, 9, 54])
  (.cond (.t 54)
  (.region [⟨some 55, none, .p (.mv (.t 6))⟩,
    ⟨some 56, none, .p (.mv (.t 8))⟩,
    ⟨some 57, none, .p (.mv (.t 9))⟩,
    ⟨some 58, none, .p (.ixS 2 (.t 56) (.t 57))⟩,
    ⟨some 59, none, .h (.load 2 true (.t 58))⟩,
    ⟨some 60, none, .p (.mksl 2 1 [.k (C.int .i64 0), .k (C.int .i64 0)] [(0, 2, .t 59)])⟩,
    ⟨some 61, none, .h (.app 2 (.t 55) (.t 60))⟩,
    ⟨some 6, none, .p (.mv (.t 61))⟩] [1, 2, 6, 7, 8, 9])
  .skip))))
  (.region [⟨some 31, none, .p (.mv (.t 9))⟩,
    ⟨some 32, none, .p (.bin .add (.t 31) (.k (.c (C.int .i64 1))))⟩,
    ⟨some 9, none, .p (.mv (.t 32))⟩] [1, 2, 6, 7, 8, 9]))) [1, 2, 6, 7, 8, 9])))
  (.seq (.region [⟨some 62, none, .p (.mv (.t 6))⟩,
    ⟨some 4, none, .p (.mv (.t 62))⟩,
    ⟨some 5, none, .p (.mv (.k (.c (C.bool true))))⟩] [4, 5])
  .ret)))))) }
theorem a64_ok : okFn Try.prog 64 a64 = true := by kernel_rfl
/-- loop.example/g01215/impl.EndPours -/
def a65 : AFn := { np := 2, nt := 18, res := [.t 4, .t 5], body :=
  (.seq (.region [⟨some 2, none, .p (.box 24 (.t 0))⟩,
    ⟨some 3, none, .p (.box 1 (.t 1))⟩,
    ⟨some 4, none, .p (.nilsl 2)⟩,
    ⟨some 5, none, .p (.mv (.k (.c (C.bool false))))⟩] [2, 3])
  (.seq (.seq (.region [⟨some 7, none, .h (.load 24 true (.t 2))⟩,
    ⟨some 8, none, .h (.load 1 false (.t 3))⟩,
    ⟨some 9, none, .h (.call (.f 146) [.t 7, .t 8, .k (.c (C.int .i64 1))])⟩,
    ⟨some 10, none, .p (.un .not (.t 9))⟩] [2, 3, 10])
  (.cond (.t 10)
  (.seq (.region [⟨some 4, none, .p (.nilsl 2)⟩,
    ⟨some 5, none, .p (.mv (.k (.c (C.bool false))))⟩] [4, 5])
  .ret)
  .skip))
  (.seq (.region [⟨some 11, none, .h (.load 24 true (.t 2))⟩,
    ⟨some 12, none, .h (.load 1 false (.t 3))⟩,
    ⟨some 13, none, .h (.call (.f 147) [.t 11, .t 12])⟩,
    ⟨some 6, none, .p (.alloc [.k (C.int .i64 0)])⟩,
    ⟨none, none, .h (.store 1 (.t 6) (.t 13))⟩] [2, 3, 6])
  (.seq (.region [⟨some 14, none, .h (.load 24 true (.t 2))⟩,
    ⟨some 15, none, .h (.call (.f 143) [.t 14])⟩,
    ⟨some 16, none, .p (.mkfn 164 [.t 2, .t 3, .t 6])⟩,
    ⟨some 17, none, .h (.call (.f 163) [.t 15, .t 16])⟩,
    ⟨some 4, none, .p (.mv (.t 17))⟩,
    ⟨some 5, none, .p (.mv (.k (.c (C.bool true))))⟩] [4, 5])
  .ret)))) }
theorem a65_ok : okFn Try.prog 65 a65 = true := by kernel_rfl
/-- loop.example/g01215/laws.markIntA2S -/
def a66 : AFn := { np := 2, nt := 26, res := [.t 4], body :=
  (.seq (.region [⟨some 4, none, .p (.mv (.k (.c (C.int .i64 0))))⟩] [0, 1])
  (.seq (.seq (.region [⟨some 5, none, .p (.mv (.k (.c (C.int .i64 0))))⟩] [0, 1, 5])
  (.block 0 (.loop (.seq (.seq (.region [⟨some 7, none, .p (.mv (.t 5))⟩,
    ⟨some 8, none, .p (.mv (.t 0))⟩,
    ⟨some 9, none, .p (.len (.t 8))⟩,
    ⟨some 10, none, .p (.bin .lss (.t 7) (.t 9))⟩] [0, 1, 5, 10])
  (.cond (.t 10)
  .skip
  (.exit 0)))
  (.seq (.block 1 (.seq (.region [⟨some 6, none, .p (.mv (.k (.c (C.int .i64 0))))⟩] [0, 1, 5, 6])
  (.block 2 (.loop (.seq (.seq (.region [⟨some 13, none, .p (.mv (.t 6))⟩,
    ⟨some 14, none, .p (.bin .lss (.t 13) (.k (.c (C.int .i64 2))))⟩] [0, 1, 5, 6, 14])
  (.cond (.t 14)
  .skip
  (.exit 2)))
  (.seq (.block 3 (.seq (.region [⟨some 17, none, .p (.mv (.t 0))⟩,
    ⟨some 18, none, .p (.mv (.t 5))⟩,
    ⟨some 19, none, .p (.mv (.t 6))⟩,
    ⟨some 20, none, .p (.mv (.t 1))⟩,
    ⟨some 21, none, .p (.ixS 2 (.t 17) (.t 18))⟩,
    ⟨some 22, none, .p (.ixA 2 1 (.t 21) (.t 19))⟩,
    ⟨none, none, .h (.store 1 (.t 22) (.t 20))⟩] [0, 1, 5, 6])
  (.region [⟨some 23, none, .p (.mv (.t 1))⟩,
    ⟨some 24, none, .p (.bin .add (.t 23) (.k (.c (C.int .i64 1))))⟩,
    ⟨some 1, none, .p (.mv (.t 24))⟩] [0, 1, 5, 6])))
  (.region [⟨some 15, none, .p (.mv (.t 6))⟩,
    ⟨some 16, none, .p (.bin .add (.t 15) (.k (.c (C.int .i64 1))))⟩,
    ⟨some 6, none, .p (.mv (.t 16))⟩] [0, 1, 5, 6]))) [0, 1, 5, 6]))))
  (.region [⟨some 11, none, .p (.mv (.t 5))⟩,
    ⟨some 12, none, .p (.bin .add (.t 11) (.k (.c (C.int .i64 1))))⟩,
    ⟨some 5, none, .p (.mv (.t 12))⟩] [0, 1, 5]))) [0, 1, 5])))
  (.seq (.region [⟨some 25, none, .p (.mv (.t 1))⟩,
    ⟨some 4, none, .p (.mv (.t 25))⟩] [4])
  .ret))) }
theorem a66_ok : okFn Try.prog 66 a66 = true := by kernel_rfl
/-- loop.example/g01215/laws.heldIntA2S -/
def a67 : AFn := { np := 2, nt := 28, res := [.t 4], body :=
  (.seq (.region [⟨some 4, none, .p (.mv (.k (.c (C.int .i64 0))))⟩] [0, 1])
  (.seq (.seq (.region [⟨some 5, none, .p (.mv (.k (.c (C.int .i64 0))))⟩] [0, 1, 5])
  (.block 0 (.loop (.seq (.seq (.region [⟨some 7, none, .p (.mv (.t 5))⟩,
    ⟨some 8, none, .p (.mv (.t 0))⟩,
    ⟨some 9, none, .p (.len (.t 8))⟩,
    ⟨some 10, none, .p (.bin .lss (.t 7) (.t 9))⟩] [0, 1, 5, 10])
  (.cond (.t 10)
  .skip
  (.exit 0)))
  (.seq (.block 1 (.seq (.region [⟨some 6, none, .p (.mv (.k (.c (C.int .i64 0))))⟩] [0, 1, 5, 6])
  (.block 2 (.loop (.seq (.seq (.region [⟨some 13, none, .p (.mv (.t 6))⟩,
    ⟨some 14, none, .p (.bin .lss (.t 13) (.k (.c (C.int .i64 2))))⟩] [0, 1, 5, 6, 14])
  (.cond (.t 14)
  .skip
  (.exit 2)))
  (.seq (.block 3 (.seq (.seq (.region [⟨some 17, none, .p (.mv (.t 0))⟩,
    ⟨some 18, none, .p (.mv (.t 5))⟩,
    ⟨some 19, none, .p (.mv (.t 6))⟩,
    ⟨some 20, none, .p (.ixS 2 (.t 17) (.t 18))⟩,
    ⟨some 21, none, .p (.ixA 2 1 (.t 20) (.t 19))⟩,
    ⟨some 22, none, .h (.load 1 false (.t 21))⟩,
    ⟨some 23, none, .p (.mv (.t 1))⟩,
    ⟨some 24, none, .p (.bin .neq (.t 22) (.t 23))⟩] [0, 1, 5, 6, 24])
  (.cond (.t 24)
  (.seq (.region [⟨some 4, none, .p (.mv (.k (.c (C.int .i64 (-1)))))⟩] [4])
  .ret)
  .skip))
  (.region [⟨some 25, none, .p (.mv (.t 1))⟩,
    ⟨some 26, none, .p (.bin .add (.t 25) (.k (.c (C.int .i64 1))))⟩,
    ⟨some 1, none, .p (.mv (.t 26))⟩] [0, 1, 5, 6])))
  (.region [⟨some 15, none, .p (.mv (.t 6))⟩,
    ⟨some 16, none, .p (.bin .add (.t 15) (.k (.c (C.int .i64 1))))⟩,
    ⟨some 6, none, .p (.mv (.t 16))⟩] [0, 1, 5, 6]))) [0, 1, 5, 6]))))
  (.region [⟨some 11, none, .p (.mv (.t 5))⟩,
    ⟨some 12, none, .p (.bin .add (.t 11) (.k (.c (C.int .i64 1))))⟩,
    ⟨some 5, none, .p (.mv (.t 12))⟩] [0, 1, 5]))) [0, 1, 5])))
  (.seq (.region [⟨some 27, none, .p (.mv (.t 1))⟩,
    ⟨some 4, none, .p (.mv (.t 27))⟩] [4])
  .ret))) }
theorem a67_ok : okFn Try.prog 67 a67 = true := by kernel_rfl
/-- loop.example/g01215/spec.CanHurt -/
def a68 : AFn := { np := 1, nt := 47, res := [.t 2, .t 3], body :=
  (.seq (.region [⟨some 1, none, .p (.box 24 (.t 0))⟩,
    ⟨some 2, none, .p (.nilsl 2)⟩,
    ⟨some 3, none, .p (.mv (.k (.c (C.bool false))))⟩] [1])
  (.seq (.region [⟨some 9, none, .p (.mksl 2 0 [.k (C.int .i64 0), .k (C.int .i64 0)] [])⟩,
    ⟨some 4, none, .p (.mv (.t 9))⟩] [1, 4])
  (.seq (.seq (.region [⟨some 10, none, .h (.load 24 true (.t 1))⟩,
    ⟨some 11, none, .h (.call (.f 140) [.t 10])⟩,
    ⟨some 12, none, .p (.un .not (.t 11))⟩] [1, 4, 12])
  (.cond (.t 12)
  (.seq (.region [⟨some 13, none, .p (.mv (.t 4))⟩,
    ⟨some 2, none, .p (.mv (.t 13))⟩,
    ⟨some 3, none, .p (.mv (.k (.c (C.bool false))))⟩] [2, 3])
  .ret)
  .skip))
  (.seq (.region [⟨some 14, none, .h (.load 24 true (.t 1))⟩,
    ⟨some 15, none, .h (.call (.f 141) [.t 14])⟩,
    ⟨some 5, none, .p (.mv (.t 15))⟩] [1, 4, 5])
  (.seq (.seq (.region [⟨some 6, none, .p (.mv (.k (.c (C.int .i64 0))))⟩] [1, 4, 5, 6])
  (.block 0 (.loop (.seq (.seq (.region [⟨some 16, none, .p (.mv (.t 6))⟩,
    ⟨some 17, none, .p (.mv (.t 5))⟩,
    ⟨some 18, none, .p (.len (.t 17))⟩,
    ⟨some 19, none, .p (.bin .lss (.t 16) (.t 18))⟩] [1, 4, 5, 6, 19])
  (.cond (.t 19)
  .skip
  (.exit 0)))
  (.seq (.block 1 (.seq (.regionD [⟨some 23, none, .h (.load 24 true (.t 1))⟩,
    ⟨some 24, none, .p (.mv (.t 5))⟩,
    ⟨some 25, none, .p (.mv (.t 6))⟩,
    ⟨some 26, none, .p (.ixS 2 (.t 24) (.t 25))⟩,
    ⟨some 27, none, .p (.ixA 2 1 (.t 26) (.k (.c (C.int .i64 0))))⟩,
    ⟨some 28, none, .h (.load 1 false (.t 27))⟩,
    ⟨some 29, none, .p (.mv (.t 5))⟩,
    ⟨some 30, none, .p (.mv (.t 6))⟩,
    ⟨some 31, none, .p (.ixS 2 (.t 29) (.t 30))⟩,
    ⟨some 32, none, .p (.ixA 2 1 (.t 31) (.k (.c (C.int .i64 1))))⟩,
    ⟨some 33, none, .h (.load 1 false (.t 32))⟩,
    ⟨some 34, none, .h (.call (.f 148) [.t 23, .t 28, .t 33])⟩,
    ⟨some 22, none, .p (.mv (.t 34))⟩,
    ⟨some 35, none, .p (.ext (.t 22) 0)⟩,
    ⟨some 36, none, .p (.ext (.t 22) 1)⟩,
    ⟨some 7, none, .p (.alloc (List.replicate 24 (.k (C.int .i64 0))))⟩,
    ⟨none, none, .h (.store 24 (.t 7) (.t 35))⟩,
    ⟨some 8, none, .p (.mv (.t 36))⟩] [1, 4, 5, 6, 7] [])
  (.seq (.region [⟨some 37, none, .h (.load 24 true (.t 7))⟩,
    ⟨some 38, none, .h (.call (.f 165) [.t 37])⟩] [1, 4, 5, 6, 38])
  (.cond (.t 38)
  (.region [⟨some 39, none, .p (.mv (.t 4))⟩,
    ⟨some 40, none, .p (.mv (.t 5))⟩,
    ⟨some 41, none, .p (.mv (.t 6))⟩,
    ⟨some 42, none, .p (.ixS 2 (.t 40) (.t 41))⟩,
    ⟨some 43, none, .h (.load 2 true (.t 42))⟩,
    ⟨some 44, none, .p (.mksl 2 1 [.k (C.int .i64 0), .k (C.int .i64 0)] [(0, 2, .t 43)])⟩,
    ⟨some 45, none, .h (.app 2 (.t 39) (.t 44))⟩,
    ⟨some 4, none, .p (.mv (.t 45))⟩] [1, 4, 5, 6])
  .skip))))
  (.region [⟨some 20, none, .p (.mv (.t 6))⟩,
    ⟨some 21, none, .p (.bin .add (.t 20) (.k (.c (C.int .i64 1))))⟩,
    ⟨some 6, none, .p (.mv (.t 21))⟩] [1, 4, 5, 6]))) [1, 4, 5, 6])))
  (.seq (.region [⟨some 46, none, .p (.mv (.t 4))⟩,
    ⟨some 2, none, .p (.mv (.t 46))⟩,
    ⟨some 3, none, .p (.mv (.k (.c (C.bool true))))⟩] [2, 3])
  .ret)))))) }
theorem a68_ok : okFn Try.prog 68 a68 = true := by kernel_rfl
/-- loop.example/g01215/impl.CanHurt -/
def a69 : AFn := { np := 1, nt := 11, res := [.t 2, .t 3], body :=
  (.seq (.region [⟨some 1, none, .p (.box 24 (.t 0))⟩,
    ⟨some 2, none, .p (.nilsl 2)⟩,
    ⟨some 3, none, .p (.mv (.k (.c (C.bool false))))⟩] [1])
  (.seq (.seq (.region [⟨some 4, none, .h (.load 24 true (.t 1))⟩,
    ⟨some 5, none, .h (.call (.f 121) [.t 4])⟩,
    ⟨some 6, none, .p (.un .not (.t 5))⟩] [1, 6])
  (.cond (.t 6)
  (.seq (.region [⟨some 2, none, .p (.nilsl 2)⟩,
    ⟨some 3, none, .p (.mv (.k (.c (C.bool false))))⟩] [2, 3])
  .ret)
  .skip))
  (.seq (.region [⟨some 7, none, .h (.load 24 true (.t 1))⟩,
    ⟨some 8, none, .h (.call (.f 143) [.t 7])⟩,
    ⟨some 9, none, .p (.mkfn 166 [.t 1])⟩,
    ⟨some 10, none, .h (.call (.f 163) [.t 8, .t 9])⟩,
    ⟨some 2, none, .p (.mv (.t 10))⟩,
    ⟨some 3, none, .p (.mv (.k (.c (C.bool true))))⟩] [2, 3])
  .ret))) }
theorem a69_ok : okFn Try.prog 69 a69 = true := by kernel_rfl
/-- loop.example/g01215/spec.CanSwap -/
def a70 : AFn := { np := 2, nt := 73, res := [.t 4, .t 5], body :=
  (.seq (.region [⟨some 2, none, .p (.box 25 (.t 0))⟩,
    ⟨some 4, none, .p (.mv (.k (.c (C.bool false))))⟩,
    ⟨some 5, none, .p (.mv (.k (.c (C.bool false))))⟩] [1, 2])
  (.seq (.region [⟨some 12, none, .h (.load 25 true (.t 2))⟩,
    ⟨some 13, none, .h (.call (.f 150) [.t 12])⟩,
    ⟨some 11, none, .p (.mv (.t 13))⟩,
    ⟨some 14, none, .p (.ext (.t 11) 0)⟩,
    ⟨some 15, none, .p (.ext (.t 11) 1)⟩,
    ⟨some 6, none, .p (.mv (.t 14))⟩,
    ⟨some 7, none, .p (.mv (.t 15))⟩] [1, 2, 6, 7])
  (.seq (.seq (.region [⟨some 16, none, .p (.mv (.t 7))⟩,
    ⟨some 17, none, .p (.un .not (.t 16))⟩,
    ⟨some 18, none, .p (.mv (.t 17))⟩,
    ⟨some 19, some (18, false), .p (.mv (.t 1))⟩,
    ⟨some 20, some (18, false), .p (.fld 24 (.t 2))⟩,
    ⟨some 21, some (18, false), .h (.load 1 false (.t 20))⟩,
    ⟨some 22, some (18, false), .p (.len (.t 21))⟩,
    ⟨some 23, some (18, false), .p (.bin .sub (.t 22) (.k (.c (C.int .i64 2))))⟩,
    ⟨some 24, some (18, false), .h (.call (.f 144) [.t 19, .k (.c (C.int .i64 0)), .t 23])⟩,
    ⟨some 25, some (18, false), .p (.un .not (.t 24))⟩,
    ⟨some 26, none, .p (.pick (.t 18) (.k (.c (C.bool true))) (.t 25))⟩] [1, 2, 6, 26])
  (.cond (.t 26)
  (.seq (.region [⟨some 4, none, .p (.mv (.k (.c (C.bool false))))⟩,
    ⟨some 5, none, .p (.mv (.k (.c (C.bool false))))⟩] [4, 5])
  .ret)
  .skip))
  (.seq (.region [⟨some 27, none, .h (.load 25 true (.t 2))⟩,
    ⟨some 28, none, .p (.fld 24 (.t 2))⟩,
    ⟨some 29, none, .h (.load 1 false (.t 28))⟩,
    ⟨some 30, none, .p (.len (.t 29))⟩,
    ⟨some 31, none, .h (.call (.f 168) [.t 27, .t 30])⟩,
    ⟨some 8, none, .p (.alloc [.k (C.int .i64 0), .k (C.int .i64 0), .k (C.int .i64 0), .k (C.int .i64 0), .k (C.int .i64 0), .k (C.int .i64 0), .k (C.int .i64 0), .k (C.int .i64 0), .k (C.int .i64 0), .k (C.int .i64 0), .k (C.int .i64 0), .k (C.int .i64 0), .k (C.int .i64 0), .k (C.int .i64 0), .k (C.int .i64 0), .k (C.int .i64 0), .k (C.int .i64 0), .k (C.int .i64 0), .k (C.int .i64 0), .k (C.int .i64 0), .k (C.int .i64 0), .k (C.int .i64 0), .k (C.int .i64 0), .k (C.int .i64 0), .sl 2])⟩,
    ⟨none, none, .h (.store 25 (.t 8) (.t 31))⟩] [1, 2, 6, 8])
  (.seq (.regionD [⟨some 32, none, .p (.fld 24 (.t 8))⟩,
    ⟨some 33, none, .h (.load 1 false (.t 32))⟩,
    ⟨some 34, none, .p (.mv (.t 1))⟩,
    ⟨some 35, none, .p (.fld 24 (.t 2))⟩,
    ⟨some 36, none, .h (.load 1 false (.t 35))⟩,
    ⟨some 37, none, .p (.mv (.t 1))⟩,
    ⟨some 38, none, .p (.bin .add (.t 37) (.k (.c (C.int .i64 1))))⟩,
    ⟨some 39, none, .p (.ixS 2 (.t 36) (.t 38))⟩,
    ⟨some 40, none, .h (.load 2 true (.t 39))⟩,
    ⟨some 41, none, .p (.ixS 2 (.t 33) (.t 34))⟩,
    ⟨none, none, .h (.store 2 (.t 41) (.t 40))⟩] [1, 2, 6, 8] [])
  (.seq (.regionD [⟨some 42, none, .p (.fld 24 (.t 8))⟩,
    ⟨some 43, none, .h (.load 1 false (.t 42))⟩,
    ⟨some 44, none, .p (.mv (.t 1))⟩,
    ⟨some 45, none, .p (.bin .add (.t 44) (.k (.c (C.int .i64 1))))⟩,
    ⟨some 46, none, .p (.fld 24 (.t 2))⟩,
    ⟨some 47, none, .h (.load 1 false (.t 46))⟩,
    ⟨some 48, none, .p (.mv (.t 1))⟩,
    ⟨some 49, none, .p (.ixS 2 (.t 47) (.t 48))⟩,
    ⟨some 50, none, .h (.load 2 true (.t 49))⟩,
    ⟨some 51, none, .p (.ixS 2 (.t 43) (.t 45))⟩,
    ⟨none, none, .h (.store 2 (.t 51) (.t 50))⟩] [6, 8] [])
  (.seq (.region [⟨some 53, none, .h (.load 25 true (.t 8))⟩,
    ⟨some 54, none, .h (.call (.f 150) [.t 53])⟩,
    ⟨some 52, none, .p (.mv (.t 54))⟩,
    ⟨some 55, none, .p (.ext (.t 52) 0)⟩,
    ⟨some 56, none, .p (.ext (.t 52) 1)⟩,
    ⟨some 9, none, .p (.mv (.t 55))⟩,
    ⟨some 10, none, .p (.mv (.t 56))⟩] [6, 9, 10])
  (.seq (.regionD [⟨some 57, none, .p (.mv (.t 10))⟩,
    ⟨some 58, none, .p (.mv (.t 57))⟩,
    ⟨some 59, some (58, true), .p (.mv (.t 9))⟩,
    ⟨some 60, some (58, true), .p (.mv (.t 9))⟩,
    ⟨some 61, some (58, true), .p (.len (.t 60))⟩,
    ⟨some 62, some (58, true), .p (.bin .sub (.t 61) (.k (.c (C.int .i64 1))))⟩,
    ⟨some 63, some (58, true), .p (.ixS 24 (.t 59) (.t 62))⟩,
    ⟨some 64, some (58, true), .h (.load 24 true (.t 63))⟩,
    ⟨some 65, some (58, true), .p (.mv (.t 6))⟩,
    ⟨some 66, some (58, true), .p (.mv (.t 6))⟩,
    ⟨some 67, some (58, true), .p (.len (.t 66))⟩,
    ⟨some 68, some (58, true), .p (.bin .sub (.t 67) (.k (.c (C.int .i64 1))))⟩,
    ⟨some 69, some (58, true), .p (.ixS 24 (.t 65) (.t 68))⟩,
    ⟨some 70, some (58, true), .h (.load 24 true (.t 69))⟩,
    ⟨some 71, some (58, true), .p (.eqv false (List.replicate 24 (.int .i64)) (.t 64) (.t 70))⟩,
    ⟨some 72, none, .p (.pick (.t 58) (.t 71) (.k (.c (C.bool false))))⟩,
    ⟨some 4, none, .p (.mv (.t 72))⟩,
    ⟨some 5, none, .p (.mv (.k (.c (C.bool true))))⟩] [4, 5] [])
  .ret)))))))) }
theorem a70_ok : okFn Try.prog 70 a70 = true := by kernel_rfl
/-- loop.example/g01215/impl.CanSwap -/
def a71 : AFn := { np := 2, nt := 72, res := [.t 4, .t 5], body :=
  (.seq (.region [⟨some 2, none, .p (.box 25 (.t 0))⟩,
    ⟨some 4, none, .p (.mv (.k (.c (C.bool false))))⟩,
    ⟨some 5, none, .p (.mv (.k (.c (C.bool false))))⟩] [1, 2])
  (.seq (.region [⟨some 11, none, .h (.load 25 true (.t 2))⟩,
    ⟨some 12, none, .h (.call (.f 151) [.t 11])⟩,
    ⟨some 10, none, .p (.mv (.t 12))⟩,
    ⟨some 13, none, .p (.ext (.t 10) 0)⟩,
    ⟨some 14, none, .p (.ext (.t 10) 1)⟩,
    ⟨some 6, none, .p (.mv (.t 13))⟩,
    ⟨some 7, none, .p (.mv (.t 14))⟩] [1, 2, 6, 7])
  (.seq (.seq (.region [⟨some 15, none, .p (.mv (.t 7))⟩,
    ⟨some 16, none, .p (.un .not (.t 15))⟩,
    ⟨some 17, none, .p (.mv (.t 16))⟩,
    ⟨some 18, some (17, false), .p (.mv (.t 1))⟩,
    ⟨some 19, some (17, false), .p (.fld 24 (.t 2))⟩,
    ⟨some 20, some (17, false), .h (.load 1 false (.t 19))⟩,
    ⟨some 21, some (17, false), .p (.len (.t 20))⟩,
    ⟨some 22, some (17, false), .p (.bin .sub (.t 21) (.k (.c (C.int .i64 2))))⟩,
    ⟨some 23, some (17, false), .h (.call (.f 152) [.t 18, .k (.c (C.int .i64 0)), .t 22])⟩,
    ⟨some 24, some (17, false), .p (.un .not (.t 23))⟩,
    ⟨some 25, none, .p (.pick (.t 17) (.k (.c (C.bool true))) (.t 24))⟩] [1, 2, 6, 25])
  (.cond (.t 25)
  (.seq (.region [⟨some 4, none, .p (.mv (.k (.c (C.bool false))))⟩,
    ⟨some 5, none, .p (.mv (.k (.c (C.bool false))))⟩] [4, 5])
  .ret)
  .skip))
  (.seq (.region [⟨some 26, none, .h (.load 25 true (.t 2))⟩,
    ⟨some 27, none, .p (.fld 24 (.t 2))⟩,
    ⟨some 28, none, .h (.load 1 false (.t 27))⟩,
    ⟨some 29, none, .p (.mksl 1 1 [.sl 2] [(0, 1, .t 28)])⟩,
    ⟨some 30, none, .h (.call (.f 169) [.t 26, .t 29])⟩,
    ⟨some 8, none, .p (.alloc [.k (C.int .i64 0), .k (C.int .i64 0), .k (C.int .i64 0), .k (C.int .i64 0), .k (C.int .i64 0), .k (C.int .i64 0), .k (C.int .i64 0), .k (C.int .i64 0), .k (C.int .i64 0), .k (C.int .i64 0), .k (C.int .i64 0), .k (C.int .i64 0), .k (C.int .i64 0), .k (C.int .i64 0), .k (C.int .i64 0), .k (C.int .i64 0), .k (C.int .i64 0), .k (C.int .i64 0), .k (C.int .i64 0), .k (C.int .i64 0), .k (C.int .i64 0), .k (C.int .i64 0), .k (C.int .i64 0), .k (C.int .i64 0), .sl 2])⟩,
    ⟨none, none, .h (.store 25 (.t 8) (.t 30))⟩] [1, 6, 8])
  (.seq (.regionD [⟨some 31, none, .p (.fld 24 (.t 8))⟩,
    ⟨some 32, none, .h (.load 1 false (.t 31))⟩,
    ⟨some 33, none, .p (.mv (.t 1))⟩,
    ⟨some 34, none, .p (.fld 24 (.t 8))⟩,
    ⟨some 35, none, .h (.load 1 false (.t 34))⟩,
    ⟨some 36, none, .p (.mv (.t 1))⟩,
    ⟨some 37, none, .p (.bin .add (.t 36) (.k (.c (C.int .i64 1))))⟩,
    ⟨some 38, none, .p (.fld 24 (.t 8))⟩,
    ⟨some 39, none, .h (.load 1 false (.t 38))⟩,
    ⟨some 40, none, .p (.mv (.t 1))⟩,
    ⟨some 41, none, .p (.bin .add (.t 40) (.k (.c (C.int .i64 1))))⟩,
    ⟨some 42, none, .p (.ixS 2 (.t 39) (.t 41))⟩,
    ⟨some 43, none, .h (.load 2 true (.t 42))⟩,
    ⟨some 44, none, .p (.fld 24 (.t 8))⟩,
    ⟨some 45, none, .h (.load 1 false (.t 44))⟩,
    ⟨some 46, none, .p (.mv (.t 1))⟩,
    ⟨some 47, none, .p (.ixS 2 (.t 45) (.t 46))⟩,
    ⟨some 48, none, .h (.load 2 true (.t 47))⟩,
    ⟨some 49, none, .p (.ixS 2 (.t 32) (.t 33))⟩,
    ⟨none, none, .h (.store 2 (.t 49) (.t 43))⟩,
    ⟨some 50, none, .p (.ixS 2 (.t 35) (.t 37))⟩,
    ⟨none, none, .h (.store 2 (.t 50) (.t 48))⟩] [6, 8] [(.t 34, .t 49)])
  (.seq (.region [⟨some 52, none, .h (.load 25 true (.t 8))⟩,
    ⟨some 53, none, .h (.call (.f 151) [.t 52])⟩,
    ⟨some 51, none, .p (.mv (.t 53))⟩,
    ⟨some 54, none, .p (.ext (.t 51) 0)⟩,
    ⟨some 55, none, .p (.ext (.t 51) 1)⟩,
    ⟨some 9, none, .p (.mv (.t 54))⟩,
    ⟨some 7, none, .p (.mv (.t 55))⟩] [6, 7, 9])
  (.seq (.regionD [⟨some 56, none, .p (.mv (.t 7))⟩,
    ⟨some 57, none, .p (.mv (.t 56))⟩,
    ⟨some 58, some (57, true), .p (.mv (.t 9))⟩,
    ⟨some 59, some (57, true), .p (.mv (.t 9))⟩,
    ⟨some 60, some (57, true), .p (.len (.t 59))⟩,
    ⟨some 61, some (57, true), .p (.bin .sub (.t 60) (.k (.c (C.int .i64 1))))⟩,
    ⟨some 62, some (57, true), .p (.ixS 24 (.t 58) (.t 61))⟩,
    ⟨some 63, some (57, true), .h (.load 24 true (.t 62))⟩,
    ⟨some 64, some (57, true), .p (.mv (.t 6))⟩,
    ⟨some 65, some (57, true), .p (.mv (.t 6))⟩,
    ⟨some 66, some (57, true), .p (.len (.t 65))⟩,
    ⟨some 67, some (57, true), .p (.bin .sub (.t 66) (.k (.c (C.int .i64 1))))⟩,
    ⟨some 68, some (57, true), .p (.ixS 24 (.t 64) (.t 67))⟩,
    ⟨some 69, some (57, true), .h (.load 24 true (.t 68))⟩,
    ⟨some 70, some (57, true), .p (.eqv false (List.replicate 24 (.int .i64)) (.t 63) (.t 69))⟩,
    ⟨some 71, none, .p (.pick (.t 57) (.t 70) (.k (.c (C.bool false))))⟩,
    ⟨some 4, none, .p (.mv (.t 71))⟩,
    ⟨some 5, none, .p (.mv (.k (.c (C.bool true))))⟩] [4, 5] [])
  .ret))))))) }
theorem a71_ok : okFn Try.prog 71 a71 = true := by kernel_rfl
/-- loop.example/g01215/spec.FirstBest -/
def a72 : AFn := { np := 2, nt := 25, res := [.cell 4 2 true, .t 5], body :=
  (.seq (.region [⟨some 2, none, .p (.box 24 (.t 0))⟩,
    ⟨some 4, none, .p (.alloc [.k (C.int .i64 0), .k (C.int .i64 0)])⟩,
    ⟨some 5, none, .p (.mv (.k (.c (C.bool false))))⟩] [1, 2, 4])
  (.seq (.region [⟨some 9, none, .h (.load 24 true (.t 2))⟩,
    ⟨some 10, none, .p (.mv (.t 1))⟩,
    ⟨some 11, none, .h (.call (.f 79) [.t 9, .t 10])⟩,
    ⟨some 8, none, .p (.mv (.t 11))⟩,
    ⟨some 12, none, .p (.ext (.t 8) 0)⟩,
    ⟨some 13, none, .p (.ext (.t 8) 1)⟩,
    ⟨some 6, none, .p (.mv (.t 12))⟩,
    ⟨some 7, none, .p (.mv (.t 13))⟩] [4, 6, 7])
  (.seq (.seq (.region [⟨some 14, none, .p (.mv (.t 7))⟩,
    ⟨some 15, none, .p (.un .not (.t 14))⟩,
    ⟨some 16, none, .p (.mv (.t 15))⟩,
    ⟨some 17, some (16, false), .p (.mv (.t 6))⟩,
    ⟨some 18, some (16, false), .p (.len (.t 17))⟩,
    ⟨some 19, some (16, false), .p (.bin .eql (.t 18) (.k (.c (C.int .i64 0))))⟩,
    ⟨some 20, none, .p (.pick (.t 16) (.k (.c (C.bool true))) (.t 19))⟩] [4, 6, 20])
  (.cond (.t 20)
  (.seq (.region [⟨some 21, none, .p (.build [.k (C.int .i64 0), .k (C.int .i64 0)] [])⟩,
    ⟨none, none, .h (.store 2 (.t 4) (.t 21))⟩,
    ⟨some 5, none, .p (.mv (.k (.c (C.bool false))))⟩] [4, 5])
  .ret)
  .skip))
  (.seq (.region [⟨some 22, none, .p (.mv (.t 6))⟩,
    ⟨some 23, none, .p (.ixS 2 (.t 22) (.k (.c (C.int .i64 0))))⟩,
    ⟨some 24, none, .h (.load 2 true (.t 23))⟩,
    ⟨none, none, .h (.store 2 (.t 4) (.t 24))⟩,
    ⟨some 5, none, .p (.mv (.k (.c (C.bool true))))⟩] [4, 5])
  .ret)))) }
theorem a72_ok : okFn Try.prog 72 a72 = true := by kernel_rfl
/-- loop.example/g01215/impl.FirstBest -/
def a73 : AFn := { np := 2, nt := 25, res := [.cell 4 2 true, .t 5], body :=
  (.seq (.region [⟨some 2, none, .p (.box 24 (.t 0))⟩,
    ⟨some 4, none, .p (.alloc [.k (C.int .i64 0), .k (C.int .i64 0)])⟩,
    ⟨some 5, none, .p (.mv (.k (.c (C.bool false))))⟩] [1, 2, 4])
  (.seq (.region [⟨some 9, none, .h (.load 24 true (.t 2))⟩,
    ⟨some 10, none, .p (.mv (.t 1))⟩,
    ⟨some 11, none, .h (.call (.f 80) [.t 9, .t 10])⟩,
    ⟨some 8, none, .p (.mv (.t 11))⟩,
    ⟨some 12, none, .p (.ext (.t 8) 0)⟩,
    ⟨some 13, none, .p (.ext (.t 8) 1)⟩,
    ⟨some 6, none, .p (.mv (.t 12))⟩,
    ⟨some 7, none, .p (.mv (.t 13))⟩] [4, 6, 7])
  (.seq (.seq (.region [⟨some 14, none, .p (.mv (.t 7))⟩,
    ⟨some 15, none, .p (.un .not (.t 14))⟩,
    ⟨some 16, none, .p (.mv (.t 15))⟩,
    ⟨some 17, some (16, false), .p (.mv (.t 6))⟩,
    ⟨some 18, some (16, false), .p (.len (.t 17))⟩,
    ⟨some 19, some (16, false), .p (.bin .eql (.t 18) (.k (.c (C.int .i64 0))))⟩,
    ⟨some 20, none, .p (.pick (.t 16) (.k (.c (C.bool true))) (.t 19))⟩] [4, 6, 20])
  (.cond (.t 20)
  (.seq (.region [⟨some 21, none, .p (.build [.k (C.int .i64 0), .k (C.int .i64 0)] [])⟩,
    ⟨none, none, .h (.store 2 (.t 4) (.t 21))⟩,
    ⟨some 5, none, .p (.mv (.k (.c (C.bool false))))⟩] [4, 5])
  .ret)
  .skip))
  (.seq (.region [⟨some 22, none, .p (.mv (.t 6))⟩,
    ⟨some 23, none, .p (.ixS 2 (.t 22) (.k (.c (C.int .i64 0))))⟩,
    ⟨some 24, none, .h (.load 2 true (.t 23))⟩,
    ⟨none, none, .h (.store 2 (.t 4) (.t 24))⟩,
    ⟨some 5, none, .p (.mv (.k (.c (C.bool true))))⟩] [4, 5])
  .ret)))) }
theorem a73_ok : okFn Try.prog 73 a73 = true := by kernel_rfl
/-- loop.example/g01215/spec.LoopsOf -/
def a74 : AFn := { np := 1, nt := 16, res := [.t 2, .t 3], body :=
  (.seq (.region [⟨some 1, none, .p (.box 25 (.t 0))⟩,
    ⟨some 2, none, .p (.nilsl 2)⟩,
    ⟨some 3, none, .p (.mv (.k (.c (C.bool false))))⟩] [1])
  (.seq (.region [⟨some 7, none, .h (.load 25 true (.t 1))⟩,
    ⟨some 8, none, .h (.call (.f 150) [.t 7])⟩,
    ⟨some 6, none, .p (.mv (.t 8))⟩,
    ⟨some 9, none, .p (.ext (.t 6) 0)⟩,
    ⟨some 10, none, .p (.ext (.t 6) 1)⟩,
    ⟨some 4, none, .p (.mv (.t 9))⟩,
    ⟨some 5, none, .p (.mv (.t 10))⟩] [4, 5])
  (.seq (.seq (.region [⟨some 11, none, .p (.mv (.t 5))⟩,
    ⟨some 12, none, .p (.un .not (.t 11))⟩] [4, 12])
  (.cond (.t 12)
  (.seq (.region [⟨some 13, none, .p (.mksl 2 0 [.k (C.int .i64 0), .k (C.int .i64 0)] [])⟩,
    ⟨some 2, none, .p (.mv (.t 13))⟩,
    ⟨some 3, none, .p (.mv (.k (.c (C.bool false))))⟩] [2, 3])
  .ret)
  .skip))
  (.seq (.region [⟨some 14, none, .p (.mv (.t 4))⟩,
    ⟨some 15, none, .h (.call (.f 170) [.t 14])⟩,
    ⟨some 2, none, .p (.mv (.t 15))⟩,
    ⟨some 3, none, .p (.mv (.k (.c (C.bool true))))⟩] [2, 3])
  .ret)))) }
theorem a74_ok : okFn Try.prog 74 a74 = true := by kernel_rfl
/-- loop.example/g01215/impl.LoopsOf -/
def a75 : AFn := { np := 1, nt := 9, res := [.t 2, .t 3], body :=
  (.seq (.region [⟨some 1, none, .p (.box 25 (.t 0))⟩,
    ⟨some 2, none, .p (.nilsl 2)⟩,
    ⟨some 3, none, .p (.mv (.k (.c (C.bool false))))⟩] [1])
  (.seq (.seq (.region [⟨some 4, none, .h (.load 25 true (.t 1))⟩,
    ⟨some 5, none, .h (.call (.f 50) [.t 4])⟩,
    ⟨some 6, none, .p (.un .not (.t 5))⟩] [1, 6])
  (.cond (.t 6)
  (.seq (.region [⟨some 2, none, .p (.nilsl 2)⟩,
    ⟨some 3, none, .p (.mv (.k (.c (C.bool false))))⟩] [2, 3])
  .ret)
  .skip))
  (.seq (.region [⟨some 7, none, .h (.load 25 true (.t 1))⟩,
    ⟨some 8, none, .h (.call (.f 171) [.t 7])⟩,
    ⟨some 2, none, .p (.mv (.t 8))⟩,
    ⟨some 3, none, .p (.mv (.k (.c (C.bool true))))⟩] [2, 3])
  .ret))) }
theorem a75_ok : okFn Try.prog 75 a75 = true := by kernel_rfl
/-- loop.example/g01215/laws.markReplay -/
def a76 : AFn := { np := 2, nt := 10, res := [.t 4], body :=
  (.seq (.region [⟨some 2, none, .p (.box 25 (.t 0))⟩,
    ⟨some 4, none, .p (.mv (.k (.c (C.int .i64 0))))⟩] [1, 2])
  (.seq (.region [⟨some 5, none, .p (.fld 24 (.t 2))⟩,
    ⟨some 6, none, .h (.load 1 false (.t 5))⟩,
    ⟨some 7, none, .p (.mv (.t 1))⟩,
    ⟨some 8, none, .h (.call (.f 66) [.t 6, .t 7])⟩,
    ⟨some 1, none, .p (.mv (.t 8))⟩] [1])
  (.seq (.region [⟨some 9, none, .p (.mv (.t 1))⟩,
    ⟨some 4, none, .p (.mv (.t 9))⟩] [4])
  .ret))) }
theorem a76_ok : okFn Try.prog 76 a76 = true := by kernel_rfl
/-- loop.example/g01215/spec.DoesSolve -/
def a77 : AFn := { np := 1, nt := 20, res := [.t 2, .t 3], body :=
  (.seq (.region [⟨some 1, none, .p (.box 25 (.t 0))⟩,
    ⟨some 2, none, .p (.mv (.k (.c (C.bool false))))⟩,
    ⟨some 3, none, .p (.mv (.k (.c (C.bool false))))⟩] [1])
  (.seq (.region [⟨some 7, none, .h (.load 25 true (.t 1))⟩,
    ⟨some 8, none, .h (.call (.f 150) [.t 7])⟩,
    ⟨some 6, none, .p (.mv (.t 8))⟩,
    ⟨some 9, none, .p (.ext (.t 6) 0)⟩,
    ⟨some 10, none, .p (.ext (.t 6) 1)⟩,
    ⟨some 4, none, .p (.mv (.t 9))⟩,
    ⟨some 5, none, .p (.mv (.t 10))⟩] [4, 5])
  (.seq (.seq (.region [⟨some 11, none, .p (.mv (.t 5))⟩,
    ⟨some 12, none, .p (.un .not (.t 11))⟩] [4, 12])
  (.cond (.t 12)
  (.seq (.region [⟨some 2, none, .p (.mv (.k (.c (C.bool false))))⟩,
    ⟨some 3, none, .p (.mv (.k (.c (C.bool false))))⟩] [2, 3])
  .ret)
  .skip))
  (.seq (.region [⟨some 13, none, .p (.mv (.t 4))⟩,
    ⟨some 14, none, .p (.mv (.t 4))⟩,
    ⟨some 15, none, .p (.len (.t 14))⟩,
    ⟨some 16, none, .p (.bin .sub (.t 15) (.k (.c (C.int .i64 1))))⟩,
    ⟨some 17, none, .p (.ixS 24 (.t 13) (.t 16))⟩,
    ⟨some 18, none, .h (.load 24 true (.t 17))⟩,
    ⟨some 19, none, .h (.call (.f 172) [.t 18])⟩,
    ⟨some 2, none, .p (.mv (.t 19))⟩,
    ⟨some 3, none, .p (.mv (.k (.c (C.bool true))))⟩] [2, 3])
  .ret)))) }
theorem a77_ok : okFn Try.prog 77 a77 = true := by kernel_rfl
/-- loop.example/g01215/impl.DoesSolve -/
def a78 : AFn := { np := 1, nt := 9, res := [.t 2, .t 3], body :=
  (.seq (.region [⟨some 1, none, .p (.box 25 (.t 0))⟩,
    ⟨some 2, none, .p (.mv (.k (.c (C.bool false))))⟩,
    ⟨some 3, none, .p (.mv (.k (.c (C.bool false))))⟩] [1])
  (.seq (.seq (.region [⟨some 4, none, .h (.load 25 true (.t 1))⟩,
    ⟨some 5, none, .h (.call (.f 50) [.t 4])⟩,
    ⟨some 6, none, .p (.un .not (.t 5))⟩] [1, 6])
  (.cond (.t 6)
  (.seq (.region [⟨some 2, none, .p (.mv (.k (.c (C.bool false))))⟩,
    ⟨some 3, none, .p (.mv (.k (.c (C.bool false))))⟩] [2, 3])
  .ret)
  .skip))
  (.seq (.region [⟨some 7, none, .h (.load 25 true (.t 1))⟩,
    ⟨some 8, none, .h (.call (.f 173) [.t 7])⟩,
    ⟨some 2, none, .p (.mv (.t 8))⟩,
    ⟨some 3, none, .p (.mv (.k (.c (C.bool true))))⟩] [2, 3])
  .ret))) }
theorem a78_ok : okFn Try.prog 78 a78 = true := by kernel_rfl
/-- loop.example/g01215/spec.TubePours -/
def a79 : AFn := { np := 2, nt := 18, res := [.t 4, .t 5], body :=
  (.seq (.region [⟨some 2, none, .p (.box 24 (.t 0))⟩,
    ⟨some 4, none, .p (.nilsl 2)⟩,
    ⟨some 5, none, .p (.mv (.k (.c (C.bool false))))⟩] [1, 2])
  (.seq (.seq (.region [⟨some 6, none, .h (.load 24 true (.t 2))⟩,
    ⟨some 7, none, .h (.call (.f 140) [.t 6])⟩,
    ⟨some 8, none, .p (.un .not (.t 7))⟩,
    ⟨some 9, none, .p (.mv (.t 8))⟩,
    ⟨some 10, some (9, false), .p (.mv (.t 1))⟩,
    ⟨some 11, some (9, false), .h (.call (.f 144) [.t 10, .k (.c (C.int .i64 1)), .k (.c (C.int .i64 3))])⟩,
    ⟨some 12, some (9, false), .p (.un .not (.t 11))⟩,
    ⟨some 13, none, .p (.pick (.t 9) (.k (.c (C.bool true))) (.t 12))⟩] [1, 2, 13])
  (.cond (.t 13)
  (.seq (.region [⟨some 14, none, .p (.mksl 2 0 [.k (C.int .i64 0), .k (C.int .i64 0)] [])⟩,
    ⟨some 4, none, .p (.mv (.t 14))⟩,
    ⟨some 5, none, .p (.mv (.k (.c (C.bool false))))⟩] [4, 5])
  .ret)
  .skip))
  (.seq (.region [⟨some 15, none, .h (.load 24 true (.t 2))⟩,
    ⟨some 16, none, .p (.mv (.t 1))⟩,
    ⟨some 17, none, .h (.call (.f 174) [.t 15, .t 16])⟩,
    ⟨some 4, none, .p (.mv (.t 17))⟩,
    ⟨some 5, none, .p (.mv (.k (.c (C.bool true))))⟩] [4, 5])
  .ret))) }
theorem a79_ok : okFn Try.prog 79 a79 = true := by kernel_rfl
/-- loop.example/g01215/impl.TubePours -/
def a80 : AFn := { np := 2, nt := 19, res := [.t 4, .t 5], body :=
  (.seq (.region [⟨some 2, none, .p (.box 24 (.t 0))⟩,
    ⟨some 4, none, .p (.nilsl 2)⟩,
    ⟨some 5, none, .p (.mv (.k (.c (C.bool false))))⟩] [1, 2])
  (.seq (.seq (.region [⟨some 8, none, .h (.load 24 true (.t 2))⟩,
    ⟨some 9, none, .p (.mv (.t 1))⟩,
    ⟨some 10, none, .h (.call (.f 146) [.t 8, .t 9, .k (.c (C.int .i64 1))])⟩,
    ⟨some 11, none, .p (.un .not (.t 10))⟩] [1, 2, 11])
  (.cond (.t 11)
  (.seq (.region [⟨some 4, none, .p (.nilsl 2)⟩,
    ⟨some 5, none, .p (.mv (.k (.c (C.bool false))))⟩] [4, 5])
  .ret)
  .skip))
  (.seq (.region [⟨some 13, none, .h (.load 24 true (.t 2))⟩,
    ⟨some 14, none, .p (.mv (.t 1))⟩,
    ⟨some 15, none, .h (.call (.f 161) [.t 13, .t 14])⟩,
    ⟨some 12, none, .p (.mv (.t 15))⟩,
    ⟨some 16, none, .p (.ext (.t 12) 0)⟩,
    ⟨some 17, none, .p (.ext (.t 12) 1)⟩,
    ⟨some 6, none, .p (.mv (.t 16))⟩,
    ⟨some 7, none, .p (.mv (.t 17))⟩] [7])
  (.seq (.region [⟨some 18, none, .p (.mv (.t 7))⟩,
    ⟨some 4, none, .p (.mv (.t 18))⟩,
    ⟨some 5, none, .p (.mv (.k (.c (C.bool true))))⟩] [4, 5])
  .ret)))) }
theorem a80_ok : okFn Try.prog 80 a80 = true := by kernel_rfl
/-- loop.example/g01215/spec.AddPour -/
def a81 : AFn := { np := 2, nt := 46, res := [.cell 4 25 true, .t 5], body :=
  (.seq (.region [⟨some 2, none, .p (.box 25 (.t 0))⟩,
    ⟨some 3, none, .p (.box 2 (.t 1))⟩,
    ⟨some 4, none, .p (.alloc [.k (C.int .i64 0), .k (C.int .i64 0), .k (C.int .i64 0), .k (C.int .i64 0), .k (C.int .i64 0), .k (C.int .i64 0), .k (C.int .i64 0), .k (C.int .i64 0), .k (C.int .i64 0), .k (C.int .i64 0), .k (C.int .i64 0), .k (C.int .i64 0), .k (C.int .i64 0), .k (C.int .i64 0), .k (C.int .i64 0), .k (C.int .i64 0), .k (C.int .i64 0), .k (C.int .i64 0), .k (C.int .i64 0), .k (C.int .i64 0), .k (C.int .i64 0), .k (C.int .i64 0), .k (C.int .i64 0), .k (C.int .i64 0), .sl 2])⟩,
    ⟨some 5, none, .p (.mv (.k (.c (C.bool false))))⟩] [2, 3, 4])
  (.seq (.region [⟨some 10, none, .h (.load 25 true (.t 2))⟩,
    ⟨some 11, none, .h (.call (.f 150) [.t 10])⟩,
    ⟨some 9, none, .p (.mv (.t 11))⟩,
    ⟨some 12, none, .p (.ext (.t 9) 0)⟩,
    ⟨some 13, none, .p (.ext (.t 9) 1)⟩,
    ⟨some 6, none, .p (.mv (.t 12))⟩,
    ⟨some 7, none, .p (.mv (.t 13))⟩] [2, 3, 4, 6, 7])
  (.seq (.seq (.regionD [⟨some 14, none, .p (.mv (.t 7))⟩,
    ⟨some 15, none, .p (.un .not (.t 14))⟩,
    ⟨some 16, none, .p (.mv (.t 15))⟩,
    ⟨some 17, some (16, false), .p (.fld 24 (.t 2))⟩,
    ⟨some 18, some (16, false), .h (.load 1 false (.t 17))⟩,
    ⟨some 19, some (16, false), .p (.len (.t 18))⟩,
    ⟨some 20, some (16, false), .p (.bin .geq (.t 19) (.k (.c (C.int .i64 60))))⟩,
    ⟨some 21, none, .p (.pick (.t 16) (.k (.c (C.bool true))) (.t 20))⟩,
    ⟨some 22, none, .p (.mv (.t 21))⟩,
    ⟨some 23, some (22, false), .p (.mv (.t 6))⟩,
    ⟨some 24, some (22, false), .p (.mv (.t 6))⟩,
    ⟨some 25, some (22, false), .p (.len (.t 24))⟩,
    ⟨some 26, some (22, false), .p (.bin .sub (.t 25) (.k (.c (C.int .i64 1))))⟩,
    ⟨some 27, some (22, false), .p (.ixS 24 (.t 23) (.t 26))⟩,
    ⟨some 28, some (22, false), .h (.load 24 true (.t 27))⟩,
    ⟨some 29, some (22, false), .h (.load 2 true (.t 3))⟩,
    ⟨some 30, some (22, false), .h (.call (.f 154) [.t 28, .t 29])⟩,
    ⟨some 31, some (22, false), .p (.un .not (.t 30))⟩,
    ⟨some 32, none, .p (.pick (.t 22) (.k (.c (C.bool true))) (.t 31))⟩] [2, 3, 4, 32] [])
  (.cond (.t 32)
  (.seq (.region [⟨some 33, none, .p (.build [.k (C.int .i64 0), .k (C.int .i64 0), .k (C.int .i64 0), .k (C.int .i64 0), .k (C.int .i64 0), .k (C.int .i64 0), .k (C.int .i64 0), .k (C.int .i64 0), .k (C.int .i64 0), .k (C.int .i64 0), .k (C.int .i64 0), .k (C.int .i64 0), .k (C.int .i64 0), .k (C.int .i64 0), .k (C.int .i64 0), .k (C.int .i64 0), .k (C.int .i64 0), .k (C.int .i64 0), .k (C.int .i64 0), .k (C.int .i64 0), .k (C.int .i64 0), .k (C.int .i64 0), .k (C.int .i64 0), .k (C.int .i64 0), .sl 2] [])⟩,
    ⟨none, none, .h (.store 25 (.t 4) (.t 33))⟩,
    ⟨some 5, none, .p (.mv (.k (.c (C.bool false))))⟩] [4, 5])
  .ret)
  .skip))
  (.seq (.region [⟨some 34, none, .h (.load 25 true (.t 2))⟩,
    ⟨some 35, none, .p (.fld 24 (.t 2))⟩,
    ⟨some 36, none, .h (.load 1 false (.t 35))⟩,
    ⟨some 37, none, .p (.len (.t 36))⟩,
    ⟨some 38, none, .h (.call (.f 168) [.t 34, .t 37])⟩,
    ⟨some 8, none, .p (.alloc [.k (C.int .i64 0), .k (C.int .i64 0), .k (C.int .i64 0), .k (C.int .i64 0), .k (C.int .i64 0), .k (C.int .i64 0), .k (C.int .i64 0), .k (C.int .i64 0), .k (C.int .i64 0), .k (C.int .i64 0), .k (C.int .i64 0), .k (C.int .i64 0), .k (C.int .i64 0), .k (C.int .i64 0), .k (C.int .i64 0), .k (C.int .i64 0), .k (C.int .i64 0), .k (C.int .i64 0), .k (C.int .i64 0), .k (C.int .i64 0), .k (C.int .i64 0), .k (C.int .i64 0), .k (C.int .i64 0), .k (C.int .i64 0), .sl 2])⟩,
    ⟨none, none, .h (.store 25 (.t 8) (.t 38))⟩] [3, 4, 8])
  (.seq (.region [⟨some 39, none, .p (.fld 24 (.t 8))⟩,
    ⟨some 40, none, .h (.load 1 false (.t 39))⟩,
    ⟨some 41, none, .h (.load 2 true (.t 3))⟩,
    ⟨some 42, none, .p (.mksl 2 1 [.k (C.int .i64 0), .k (C.int .i64 0)] [(0, 2, .t 41)])⟩,
    ⟨some 43, none, .h (.app 2 (.t 40) (.t 42))⟩,
    ⟨some 44, none, .p (.fld 24 (.t 8))⟩,
    ⟨none, none, .h (.store 1 (.t 44) (.t 43))⟩] [4, 8])
  (.seq (.region [⟨some 45, none, .h (.load 25 true (.t 8))⟩,
    ⟨none, none, .h (.store 25 (.t 4) (.t 45))⟩,
    ⟨some 5, none, .p (.mv (.k (.c (C.bool true))))⟩] [4, 5])
  .ret)))))) }
theorem a81_ok : okFn Try.prog 81 a81 = true := by kernel_rfl
/-- loop.example/g01215/laws.toIntA2 -/
def a82 : AFn := { np := 1, nt := 15, res := [.cell 2 2 true], body :=
  (.seq (.region [⟨some 1, none, .p (.box 2 (.t 0))⟩,
    ⟨some 2, none, .p (.alloc [.k (C.int .i64 0), .k (C.int .i64 0)])⟩] [1, 2])
  (.seq (.region [⟨some 3, none, .p (.alloc [.k (C.int .i64 0), .k (C.int .i64 0)])⟩] [1, 2, 3])
  (.seq (.seq (.region [⟨some 4, none, .p (.mv (.k (.c (C.int .i64 0))))⟩] [1, 2, 3, 4])
  (.block 0 (.loop (.seq (.seq (.region [⟨some 5, none, .p (.mv (.t 4))⟩,
    ⟨some 6, none, .p (.bin .lss (.t 5) (.k (.c (C.int .i64 2))))⟩] [1, 2, 3, 4, 6])
  (.cond (.t 6)
  .skip
  (.exit 0)))
  (.seq (.block 1 (.region [⟨some 9, none, .p (.mv (.t 4))⟩,
    ⟨some 10, none, .p (.mv (.t 4))⟩,
    ⟨some 11, none, .p (.ixA 2 1 (.t 1) (.t 10))⟩,
    ⟨some 12, none, .h (.load 1 false (.t 11))⟩,
    ⟨some 13, none, .p (.ixA 2 1 (.t 3) (.t 9))⟩,
    ⟨none, none, .h (.store 1 (.t 13) (.t 12))⟩] [1, 2, 3, 4]))
  (.region [⟨some 7, none, .p (.mv (.t 4))⟩,
    ⟨some 8, none, .p (.bin .add (.t 7) (.k (.c (C.int .i64 1))))⟩,
    ⟨some 4, none, .p (.mv (.t 8))⟩] [1, 2, 3, 4]))) [1, 2, 3, 4])))
  (.seq (.region [⟨some 14, none, .h (.load 2 true (.t 3))⟩,
    ⟨none, none, .h (.store 2 (.t 2) (.t 14))⟩] [2])
  .ret)))) }
theorem a82_ok : okFn Try.prog 82 a82 = true := by kernel_rfl
/-- loop.example/g01215/impl.AddPour -/
def a83 : AFn := { np := 2, nt := 19, res := [.cell 4 25 true, .t 5], body :=
  (.seq (.region [⟨some 2, none, .p (.box 25 (.t 0))⟩,
    ⟨some 3, none, .p (.box 2 (.t 1))⟩,
    ⟨some 4, none, .p (.alloc [.k (C.int .i64 0), .k (C.int .i64 0), .k (C.int .i64 0), .k (C.int .i64 0), .k (C.int .i64 0), .k (C.int .i64 0), .k (C.int .i64 0), .k (C.int .i64 0), .k (C.int .i64 0), .k (C.int .i64 0), .k (C.int .i64 0), .k (C.int .i64 0), .k (C.int .i64 0), .k (C.int .i64 0), .k (C.int .i64 0), .k (C.int .i64 0), .k (C.int .i64 0), .k (C.int .i64 0), .k (C.int .i64 0), .k (C.int .i64 0), .k (C.int .i64 0), .k (C.int .i64 0), .k (C.int .i64 0), .k (C.int .i64 0), .sl 2])⟩,
    ⟨some 5, none, .p (.mv (.k (.c (C.bool false))))⟩] [2, 3, 4])
  (.seq (.region [⟨some 7, none, .h (.load 25 true (.t 2))⟩,
    ⟨some 8, none, .p (.fld 24 (.t 2))⟩,
    ⟨some 9, none, .h (.load 1 false (.t 8))⟩,
    ⟨some 10, none, .h (.load 2 true (.t 3))⟩,
    ⟨some 11, none, .p (.mksl 2 1 [.k (C.int .i64 0), .k (C.int .i64 0)] [(0, 2, .t 10)])⟩,
    ⟨some 12, none, .p (.mksl 1 2 [.sl 2] [(0, 1, .t 9), (1, 1, .t 11)])⟩,
    ⟨some 13, none, .h (.call (.f 169) [.t 7, .t 12])⟩,
    ⟨some 6, none, .p (.alloc [.k (C.int .i64 0), .k (C.int .i64 0), .k (C.int .i64 0), .k (C.int .i64 0), .k (C.int .i64 0), .k (C.int .i64 0), .k (C.int .i64 0), .k (C.int .i64 0), .k (C.int .i64 0), .k (C.int .i64 0), .k (C.int .i64 0), .k (C.int .i64 0), .k (C.int .i64 0), .k (C.int .i64 0), .k (C.int .i64 0), .k (C.int .i64 0), .k (C.int .i64 0), .k (C.int .i64 0), .k (C.int .i64 0), .k (C.int .i64 0), .k (C.int .i64 0), .k (C.int .i64 0), .k (C.int .i64 0), .k (C.int .i64 0), .sl 2])⟩,
    ⟨none, none, .h (.store 25 (.t 6) (.t 13))⟩] [4, 6])
  (.seq (.seq (.region [⟨some 14, none, .h (.load 25 true (.t 6))⟩,
    ⟨some 15, none, .h (.call (.f 50) [.t 14])⟩,
    ⟨some 16, none, .p (.un .not (.t 15))⟩] [4, 6, 16])
  (.cond (.t 16)
  (.seq (.region [⟨some 17, none, .p (.build [.k (C.int .i64 0), .k (C.int .i64 0), .k (C.int .i64 0), .k (C.int .i64 0), .k (C.int .i64 0), .k (C.int .i64 0), .k (C.int .i64 0), .k (C.int .i64 0), .k (C.int .i64 0), .k (C.int .i64 0), .k (C.int .i64 0), .k (C.int .i64 0), .k (C.int .i64 0), .k (C.int .i64 0), .k (C.int .i64 0), .k (C.int .i64 0), .k (C.int .i64 0), .k (C.int .i64 0), .k (C.int .i64 0), .k (C.int .i64 0), .k (C.int .i64 0), .k (C.int .i64 0), .k (C.int .i64 0), .k (C.int .i64 0), .sl 2] [])⟩,
    ⟨none, none, .h (.store 25 (.t 4) (.t 17))⟩,
    ⟨some 5, none, .p (.mv (.k (.c (C.bool false))))⟩] [4, 5])
  .ret)
  .skip))
  (.seq (.region [⟨some 18, none, .h (.load 25 true (.t 6))⟩,
    ⟨none, none, .h (.store 25 (.t 4) (.t 18))⟩,
    ⟨some 5, none, .p (.mv (.k (.c (C.bool true))))⟩] [4, 5])
  .ret)))) }
theorem a83_ok : okFn Try.prog 83 a83 = true := by kernel_rfl
/-- loop.example/g01215/laws.heldReplay -/
def a84 : AFn := { np := 2, nt := 12, res := [.t 4], body :=
  (.seq (.region [⟨some 2, none, .p (.box 25 (.t 0))⟩,
    ⟨some 4, none, .p (.mv (.k (.c (C.int .i64 0))))⟩] [1, 2])
  (.seq (.region [⟨some 5, none, .p (.fld 24 (.t 2))⟩,
    ⟨some 6, none, .h (.load 1 false (.t 5))⟩,
    ⟨some 7, none, .p (.mv (.t 1))⟩,
    ⟨some 8, none, .h (.call (.f 67) [.t 6, .t 7])⟩,
    ⟨some 1, none, .p (.mv (.t 8))⟩] [1])
  (.seq (.seq (.region [⟨some 9, none, .p (.mv (.t 1))⟩,
    ⟨some 10, none, .p (.bin .lss (.t 9) (.k (.c (C.int .i64 0))))⟩] [1, 10])
  (.cond (.t 10)
  (.seq (.region [⟨some 4, none, .p (.mv (.k (.c (C.int .i64 (-1)))))⟩] [4])
  .ret)
  .skip))
  (.seq (.region [⟨some 11, none, .p (.mv (.t 1))⟩,
    ⟨some 4, none, .p (.mv (.t 11))⟩] [4])
  .ret)))) }
theorem a84_ok : okFn Try.prog 84 a84 = true := by kernel_rfl
/-- loop.example/g01215/spec.UndoPours -/
def a85 : AFn := { np := 2, nt := 25, res := [.cell 4 25 true, .t 5], body :=
  (.seq (.region [⟨some 2, none, .p (.box 25 (.t 0))⟩,
    ⟨some 4, none, .p (.alloc [.k (C.int .i64 0), .k (C.int .i64 0), .k (C.int .i64 0), .k (C.int .i64 0), .k (C.int .i64 0), .k (C.int .i64 0), .k (C.int .i64 0), .k (C.int .i64 0), .k (C.int .i64 0), .k (C.int .i64 0), .k (C.int .i64 0), .k (C.int .i64 0), .k (C.int .i64 0), .k (C.int .i64 0), .k (C.int .i64 0), .k (C.int .i64 0), .k (C.int .i64 0), .k (C.int .i64 0), .k (C.int .i64 0), .k (C.int .i64 0), .k (C.int .i64 0), .k (C.int .i64 0), .k (C.int .i64 0), .k (C.int .i64 0), .sl 2])⟩,
    ⟨some 5, none, .p (.mv (.k (.c (C.bool false))))⟩] [1, 2, 4])
  (.seq (.seq (.region [⟨some 6, none, .h (.load 25 true (.t 2))⟩,
    ⟨some 7, none, .h (.call (.f 48) [.t 6])⟩,
    ⟨some 8, none, .p (.un .not (.t 7))⟩,
    ⟨some 9, none, .p (.mv (.t 8))⟩,
    ⟨some 10, some (9, false), .p (.mv (.t 1))⟩,
    ⟨some 11, some (9, false), .p (.fld 24 (.t 2))⟩,
    ⟨some 12, some (9, false), .h (.load 1 false (.t 11))⟩,
    ⟨some 13, some (9, false), .p (.len (.t 12))⟩,
    ⟨some 14, some (9, false), .h (.call (.f 144) [.t 10, .k (.c (C.int .i64 0)), .t 13])⟩,
    ⟨some 15, some (9, false), .p (.un .not (.t 14))⟩,
    ⟨some 16, none, .p (.pick (.t 9) (.k (.c (C.bool true))) (.t 15))⟩] [1, 2, 4, 16])
  (.cond (.t 16)
  (.seq (.region [⟨some 17, none, .p (.build [.k (C.int .i64 0), .k (C.int .i64 0), .k (C.int .i64 0), .k (C.int .i64 0), .k (C.int .i64 0), .k (C.int .i64 0), .k (C.int .i64 0), .k (C.int .i64 0), .k (C.int .i64 0), .k (C.int .i64 0), .k (C.int .i64 0), .k (C.int .i64 0), .k (C.int .i64 0), .k (C.int .i64 0), .k (C.int .i64 0), .k (C.int .i64 0), .k (C.int .i64 0), .k (C.int .i64 0), .k (C.int .i64 0), .k (C.int .i64 0), .k (C.int .i64 0), .k (C.int .i64 0), .k (C.int .i64 0), .k (C.int .i64 0), .sl 2] [])⟩,
    ⟨none, none, .h (.store 25 (.t 4) (.t 17))⟩,
    ⟨some 5, none, .p (.mv (.k (.c (C.bool false))))⟩] [4, 5])
  .ret)
  .skip))
  (.seq (.region [⟨some 18, none, .h (.load 25 true (.t 2))⟩,
    ⟨some 19, none, .p (.fld 24 (.t 2))⟩,
    ⟨some 20, none, .h (.load 1 false (.t 19))⟩,
    ⟨some 21, none, .p (.len (.t 20))⟩,
    ⟨some 22, none, .p (.mv (.t 1))⟩,
    ⟨some 23, none, .p (.bin .sub (.t 21) (.t 22))⟩,
    ⟨some 24, none, .h (.call (.f 168) [.t 18, .t 23])⟩,
    ⟨none, none, .h (.store 25 (.t 4) (.t 24))⟩,
    ⟨some 5, none, .p (.mv (.k (.c (C.bool true))))⟩] [4, 5])
  .ret))) }
theorem a85_ok : okFn Try.prog 85 a85 = true := by kernel_rfl
/-- loop.example/g01215/impl.UndoPours -/
def a86 : AFn := { np := 2, nt := 29, res := [.cell 4 25 true, .t 5], body :=
  (.seq (.region [⟨some 2, none, .p (.box 25 (.t 0))⟩,
    ⟨some 4, none, .p (.alloc [.k (C.int .i64 0), .k (C.int .i64 0), .k (C.int .i64 0), .k (C.int .i64 0), .k (C.int .i64 0), .k (C.int .i64 0), .k (C.int .i64 0), .k (C.int .i64 0), .k (C.int .i64 0), .k (C.int .i64 0), .k (C.int .i64 0), .k (C.int .i64 0), .k (C.int .i64 0), .k (C.int .i64 0), .k (C.int .i64 0), .k (C.int .i64 0), .k (C.int .i64 0), .k (C.int .i64 0), .k (C.int .i64 0), .k (C.int .i64 0), .k (C.int .i64 0), .k (C.int .i64 0), .k (C.int .i64 0), .k (C.int .i64 0), .sl 2])⟩,
    ⟨some 5, none, .p (.mv (.k (.c (C.bool false))))⟩] [1, 2, 4])
  (.seq (.seq (.region [⟨some 6, none, .h (.load 25 true (.t 2))⟩,
    ⟨some 7, none, .h (.call (.f 50) [.t 6])⟩,
    ⟨some 8, none, .p (.un .not (.t 7))⟩,
    ⟨some 9, none, .p (.mv (.t 8))⟩,
    ⟨some 10, some (9, false), .p (.mv (.t 1))⟩,
    ⟨some 11, some (9, false), .p (.fld 24 (.t 2))⟩,
    ⟨some 12, some (9, false), .h (.load 1 false (.t 11))⟩,
    ⟨some 13, some (9, false), .p (.len (.t 12))⟩,
    ⟨some 14, some (9, false), .h (.call (.f 152) [.t 10, .k (.c (C.int .i64 0)), .t 13])⟩,
    ⟨some 15, some (9, false), .p (.un .not (.t 14))⟩,
    ⟨some 16, none, .p (.pick (.t 9) (.k (.c (C.bool true))) (.t 15))⟩] [1, 2, 4, 16])
  (.cond (.t 16)
  (.seq (.region [⟨some 17, none, .p (.build [.k (C.int .i64 0), .k (C.int .i64 0), .k (C.int .i64 0), .k (C.int .i64 0), .k (C.int .i64 0), .k (C.int .i64 0), .k (C.int .i64 0), .k (C.int .i64 0), .k (C.int .i64 0), .k (C.int .i64 0), .k (C.int .i64 0), .k (C.int .i64 0), .k (C.int .i64 0), .k (C.int .i64 0), .k (C.int .i64 0), .k (C.int .i64 0), .k (C.int .i64 0), .k (C.int .i64 0), .k (C.int .i64 0), .k (C.int .i64 0), .k (C.int .i64 0), .k (C.int .i64 0), .k (C.int .i64 0), .k (C.int .i64 0), .sl 2] [])⟩,
    ⟨none, none, .h (.store 25 (.t 4) (.t 17))⟩,
    ⟨some 5, none, .p (.mv (.k (.c (C.bool false))))⟩] [4, 5])
  .ret)
  .skip))
  (.seq (.regionD [⟨some 18, none, .h (.load 25 true (.t 2))⟩,
    ⟨some 19, none, .p (.fld 24 (.t 2))⟩,
    ⟨some 20, none, .h (.load 1 false (.t 19))⟩,
    ⟨some 21, none, .p (.fld 24 (.t 2))⟩,
    ⟨some 22, none, .h (.load 1 false (.t 21))⟩,
    ⟨some 23, none, .p (.len (.t 22))⟩,
    ⟨some 24, none, .p (.mv (.t 1))⟩,
    ⟨some 25, none, .p (.bin .sub (.t 23) (.t 24))⟩,
    ⟨some 26, none, .p (.slS 2 (.t 20) none (some (.t 25)))⟩,
    ⟨some 27, none, .p (.mksl 1 1 [.sl 2] [(0, 1, .t 26)])⟩,
    ⟨some 28, none, .h (.call (.f 169) [.t 18, .t 27])⟩,
    ⟨none, none, .h (.store 25 (.t 4) (.t 28))⟩,
    ⟨some 5, none, .p (.mv (.k (.c (C.bool true))))⟩] [4, 5] [])
  .ret))) }
theorem a86_ok : okFn Try.prog 86 a86 = true := by kernel_rfl
/-- loop.example/g01215/spec.ChanceStuckBy -/
def a87 : AFn := { np := 2, nt := 14, res := [.cell 4 2 true, .t 5], body :=
  (.seq (.region [⟨some 2, none, .p (.box 24 (.t 0))⟩,
    ⟨some 4, none, .p (.alloc [.k (C.int .i64 0), .k (C.int .i64 0)])⟩,
    ⟨some 5, none, .p (.mv (.k (.c (C.bool false))))⟩] [1, 2, 4])
  (.seq (.seq (.region [⟨some 6, none, .h (.load 24 true (.t 2))⟩,
    ⟨some 7, none, .p (.mv (.t 1))⟩,
    ⟨some 8, none, .h (.call (.f 175) [.t 6, .t 7])⟩,
    ⟨some 9, none, .p (.un .not (.t 8))⟩] [1, 2, 4, 9])
  (.cond (.t 9)
  (.seq (.region [⟨some 10, none, .p (.build [.k (C.int .i64 0), .k (C.int .i64 0)] [])⟩,
    ⟨none, none, .h (.store 2 (.t 4) (.t 10))⟩,
    ⟨some 5, none, .p (.mv (.k (.c (C.bool false))))⟩] [4, 5])
  .ret)
  .skip))
  (.seq (.region [⟨some 11, none, .h (.load 24 true (.t 2))⟩,
    ⟨some 12, none, .p (.mv (.t 1))⟩,
    ⟨some 13, none, .h (.call (.f 176) [.t 11, .t 12, .k (.c (C.int .i64 2))])⟩,
    ⟨none, none, .h (.store 2 (.t 4) (.t 13))⟩,
    ⟨some 5, none, .p (.mv (.k (.c (C.bool true))))⟩] [4, 5])
  .ret))) }
theorem a87_ok : okFn Try.prog 87 a87 = true := by kernel_rfl
/-- loop.example/g01215/impl.ChanceStuckBy -/
def a88 : AFn := { np := 2, nt := 14, res := [.cell 4 2 true, .t 5], body :=
  (.seq (.region [⟨some 2, none, .p (.box 24 (.t 0))⟩,
    ⟨some 4, none, .p (.alloc [.k (C.int .i64 0), .k (C.int .i64 0)])⟩,
    ⟨some 5, none, .p (.mv (.k (.c (C.bool false))))⟩] [1, 2, 4])
  (.seq (.seq (.region [⟨some 6, none, .h (.load 24 true (.t 2))⟩,
    ⟨some 7, none, .p (.mv (.t 1))⟩,
    ⟨some 8, none, .h (.call (.f 177) [.t 6, .t 7, .k (.c (C.int .i64 2))])⟩,
    ⟨some 9, none, .p (.un .not (.t 8))⟩] [1, 2, 4, 9])
  (.cond (.t 9)
  (.seq (.region [⟨some 10, none, .p (.build [.k (C.int .i64 0), .k (C.int .i64 0)] [])⟩,
    ⟨none, none, .h (.store 2 (.t 4) (.t 10))⟩,
    ⟨some 5, none, .p (.mv (.k (.c (C.bool false))))⟩] [4, 5])
  .ret)
  .skip))
  (.seq (.region [⟨some 11, none, .h (.load 24 true (.t 2))⟩,
    ⟨some 12, none, .p (.mv (.t 1))⟩,
    ⟨some 13, none, .h (.call (.f 178) [.t 11, .t 12, .f 179])⟩,
    ⟨none, none, .h (.store 2 (.t 4) (.t 13))⟩,
    ⟨some 5, none, .p (.mv (.k (.c (C.bool true))))⟩] [4, 5])
  .ret))) }
theorem a88_ok : okFn Try.prog 88 a88 = true := by kernel_rfl
/-- loop.example/g01215/spec.MeanRunsBehind -/
def a89 : AFn := { np := 2, nt := 14, res := [.cell 4 2 true, .t 5], body :=
  (.seq (.region [⟨some 2, none, .p (.box 24 (.t 0))⟩,
    ⟨some 4, none, .p (.alloc [.k (C.int .i64 0), .k (C.int .i64 0)])⟩,
    ⟨some 5, none, .p (.mv (.k (.c (C.bool false))))⟩] [1, 2, 4])
  (.seq (.seq (.region [⟨some 6, none, .h (.load 24 true (.t 2))⟩,
    ⟨some 7, none, .p (.mv (.t 1))⟩,
    ⟨some 8, none, .h (.call (.f 175) [.t 6, .t 7])⟩,
    ⟨some 9, none, .p (.un .not (.t 8))⟩] [1, 2, 4, 9])
  (.cond (.t 9)
  (.seq (.region [⟨some 10, none, .p (.build [.k (C.int .i64 0), .k (C.int .i64 0)] [])⟩,
    ⟨none, none, .h (.store 2 (.t 4) (.t 10))⟩,
    ⟨some 5, none, .p (.mv (.k (.c (C.bool false))))⟩] [4, 5])
  .ret)
  .skip))
  (.seq (.region [⟨some 11, none, .h (.load 24 true (.t 2))⟩,
    ⟨some 12, none, .p (.mv (.t 1))⟩,
    ⟨some 13, none, .h (.call (.f 176) [.t 11, .t 12, .k (.c (C.int .i64 3))])⟩,
    ⟨none, none, .h (.store 2 (.t 4) (.t 13))⟩,
    ⟨some 5, none, .p (.mv (.k (.c (C.bool true))))⟩] [4, 5])
  .ret))) }
theorem a89_ok : okFn Try.prog 89 a89 = true := by kernel_rfl
/-- loop.example/g01215/impl.MeanRunsBehind -/
def a90 : AFn := { np := 2, nt := 14, res := [.cell 4 2 true, .t 5], body :=
  (.seq (.region [⟨some 2, none, .p (.box 24 (.t 0))⟩,
    ⟨some 4, none, .p (.alloc [.k (C.int .i64 0), .k (C.int .i64 0)])⟩,
    ⟨some 5, none, .p (.mv (.k (.c (C.bool false))))⟩] [1, 2, 4])
  (.seq (.seq (.region [⟨some 6, none, .h (.load 24 true (.t 2))⟩,
    ⟨some 7, none, .p (.mv (.t 1))⟩,
    ⟨some 8, none, .h (.call (.f 177) [.t 6, .t 7, .k (.c (C.int .i64 2))])⟩,
    ⟨some 9, none, .p (.un .not (.t 8))⟩] [1, 2, 4, 9])
  (.cond (.t 9)
  (.seq (.region [⟨some 10, none, .p (.build [.k (C.int .i64 0), .k (C.int .i64 0)] [])⟩,
    ⟨none, none, .h (.store 2 (.t 4) (.t 10))⟩,
    ⟨some 5, none, .p (.mv (.k (.c (C.bool false))))⟩] [4, 5])
  .ret)
  .skip))
  (.seq (.region [⟨some 11, none, .h (.load 24 true (.t 2))⟩,
    ⟨some 12, none, .p (.mv (.t 1))⟩,
    ⟨some 13, none, .h (.call (.f 178) [.t 11, .t 12, .f 181])⟩,
    ⟨none, none, .h (.store 2 (.t 4) (.t 13))⟩,
    ⟨some 5, none, .p (.mv (.k (.c (C.bool true))))⟩] [4, 5])
  .ret))) }
theorem a90_ok : okFn Try.prog 90 a90 = true := by kernel_rfl
/-- loop.example/g01215/spec.ChanceSortedBy -/
def a91 : AFn := { np := 2, nt := 14, res := [.cell 4 2 true, .t 5], body :=
  (.seq (.region [⟨some 2, none, .p (.box 24 (.t 0))⟩,
    ⟨some 4, none, .p (.alloc [.k (C.int .i64 0), .k (C.int .i64 0)])⟩,
    ⟨some 5, none, .p (.mv (.k (.c (C.bool false))))⟩] [1, 2, 4])
  (.seq (.seq (.region [⟨some 6, none, .h (.load 24 true (.t 2))⟩,
    ⟨some 7, none, .p (.mv (.t 1))⟩,
    ⟨some 8, none, .h (.call (.f 175) [.t 6, .t 7])⟩,
    ⟨some 9, none, .p (.un .not (.t 8))⟩] [1, 2, 4, 9])
  (.cond (.t 9)
  (.seq (.region [⟨some 10, none, .p (.build [.k (C.int .i64 0), .k (C.int .i64 0)] [])⟩,
    ⟨none, none, .h (.store 2 (.t 4) (.t 10))⟩,
    ⟨some 5, none, .p (.mv (.k (.c (C.bool false))))⟩] [4, 5])
  .ret)
  .skip))
  (.seq (.region [⟨some 11, none, .h (.load 24 true (.t 2))⟩,
    ⟨some 12, none, .p (.mv (.t 1))⟩,
    ⟨some 13, none, .h (.call (.f 176) [.t 11, .t 12, .k (.c (C.int .i64 1))])⟩,
    ⟨none, none, .h (.store 2 (.t 4) (.t 13))⟩,
    ⟨some 5, none, .p (.mv (.k (.c (C.bool true))))⟩] [4, 5])
  .ret))) }
theorem a91_ok : okFn Try.prog 91 a91 = true := by kernel_rfl
/-- loop.example/g01215/impl.ChanceSortedBy -/
def a92 : AFn := { np := 2, nt := 14, res := [.cell 4 2 true, .t 5], body :=
  (.seq (.region [⟨some 2, none, .p (.box 24 (.t 0))⟩,
    ⟨some 4, none, .p (.alloc [.k (C.int .i64 0), .k (C.int .i64 0)])⟩,
    ⟨some 5, none, .p (.mv (.k (.c (C.bool false))))⟩] [1, 2, 4])
  (.seq (.seq (.region [⟨some 6, none, .h (.load 24 true (.t 2))⟩,
    ⟨some 7, none, .p (.mv (.t 1))⟩,
    ⟨some 8, none, .h (.call (.f 177) [.t 6, .t 7, .k (.c (C.int .i64 2))])⟩,
    ⟨some 9, none, .p (.un .not (.t 8))⟩] [1, 2, 4, 9])
  (.cond (.t 9)
  (.seq (.region [⟨some 10, none, .p (.build [.k (C.int .i64 0), .k (C.int .i64 0)] [])⟩,
    ⟨none, none, .h (.store 2 (.t 4) (.t 10))⟩,
    ⟨some 5, none, .p (.mv (.k (.c (C.bool false))))⟩] [4, 5])
  .ret)
  .skip))
  (.seq (.region [⟨some 11, none, .h (.load 24 true (.t 2))⟩,
    ⟨some 12, none, .p (.mv (.t 1))⟩,
    ⟨some 13, none, .h (.call (.f 182) [.t 11, .t 12])⟩,
    ⟨none, none, .h (.store 2 (.t 4) (.t 13))⟩,
    ⟨some 5, none, .p (.mv (.k (.c (C.bool true))))⟩] [4, 5])
  .ret))) }
theorem a92_ok : okFn Try.prog 92 a92 = true := by kernel_rfl
/-- loop.example/g01215/spec.DropIdle -/
def a93 : AFn := { np := 1, nt := 59, res := [.cell 2 25 true, .t 3], body :=
  (.seq (.region [⟨some 1, none, .p (.box 25 (.t 0))⟩,
    ⟨some 2, none, .p (.alloc [.k (C.int .i64 0), .k (C.int .i64 0), .k (C.int .i64 0), .k (C.int .i64 0), .k (C.int .i64 0), .k (C.int .i64 0), .k (C.int .i64 0), .k (C.int .i64 0), .k (C.int .i64 0), .k (C.int .i64 0), .k (C.int .i64 0), .k (C.int .i64 0), .k (C.int .i64 0), .k (C.int .i64 0), .k (C.int .i64 0), .k (C.int .i64 0), .k (C.int .i64 0), .k (C.int .i64 0), .k (C.int .i64 0), .k (C.int .i64 0), .k (C.int .i64 0), .k (C.int .i64 0), .k (C.int .i64 0), .k (C.int .i64 0), .sl 2])⟩,
    ⟨some 3, none, .p (.mv (.k (.c (C.bool false))))⟩] [1, 2])
  (.seq (.seq (.region [⟨some 10, none, .h (.load 25 true (.t 1))⟩,
    ⟨some 11, none, .h (.call (.f 48) [.t 10])⟩,
    ⟨some 12, none, .p (.un .not (.t 11))⟩] [1, 2, 12])
  (.cond (.t 12)
  (.seq (.region [⟨some 13, none, .p (.build [.k (C.int .i64 0), .k (C.int .i64 0), .k (C.int .i64 0), .k (C.int .i64 0), .k (C.int .i64 0), .k (C.int .i64 0), .k (C.int .i64 0), .k (C.int .i64 0), .k (C.int .i64 0), .k (C.int .i64 0), .k (C.int .i64 0), .k (C.int .i64 0), .k (C.int .i64 0), .k (C.int .i64 0), .k (C.int .i64 0), .k (C.int .i64 0), .k (C.int .i64 0), .k (C.int .i64 0), .k (C.int .i64 0), .k (C.int .i64 0), .k (C.int .i64 0), .k (C.int .i64 0), .k (C.int .i64 0), .k (C.int .i64 0), .sl 2] [])⟩,
    ⟨none, none, .h (.store 25 (.t 2) (.t 13))⟩,
    ⟨some 3, none, .p (.mv (.k (.c (C.bool false))))⟩] [2, 3])
  .ret)
  .skip))
  (.seq (.regionD [⟨some 14, none, .h (.load 25 true (.t 1))⟩,
    ⟨some 15, none, .h (.call (.f 168) [.t 14, .k (.c (C.int .i64 0))])⟩,
    ⟨some 16, none, .p (.fld 0 (.t 1))⟩,
    ⟨some 17, none, .h (.load 24 true (.t 16))⟩,
    ⟨some 4, none, .p (.alloc [.k (C.int .i64 0), .k (C.int .i64 0), .k (C.int .i64 0), .k (C.int .i64 0), .k (C.int .i64 0), .k (C.int .i64 0), .k (C.int .i64 0), .k (C.int .i64 0), .k (C.int .i64 0), .k (C.int .i64 0), .k (C.int .i64 0), .k (C.int .i64 0), .k (C.int .i64 0), .k (C.int .i64 0), .k (C.int .i64 0), .k (C.int .i64 0), .k (C.int .i64 0), .k (C.int .i64 0), .k (C.int .i64 0), .k (C.int .i64 0), .k (C.int .i64 0), .k (C.int .i64 0), .k (C.int .i64 0), .k (C.int .i64 0), .sl 2])⟩,
    ⟨some 5, none, .p (.alloc (List.replicate 24 (.k (C.int .i64 0))))⟩,
    ⟨none, none, .h (.store 25 (.t 4) (.t 15))⟩,
    ⟨none, none, .h (.store 24 (.t 5) (.t 17))⟩] [1, 2, 4, 5] [(.t 16, .t 4)])
  (.seq (.seq (.region [⟨some 6, none, .p (.mv (.k (.c (C.int .i64 0))))⟩] [1, 2, 4, 5, 6])
  (.block 0 (.loop (.seq (.seq (.region [⟨some 18, none, .p (.mv (.t 6))⟩,
    ⟨some 19, none, .p (.fld 24 (.t 1))⟩,
    ⟨some 20, none, .h (.load 1 false (.t 19))⟩,
    ⟨some 21, none, .p (.len (.t 20))⟩,
    ⟨some 22, none, .p (.bin .lss (.t 18) (.t 21))⟩] [1, 2, 4, 5, 6, 22])
  (.cond (.t 22)
  .skip
  (.exit 0)))
  (.seq (.block 1 (.seq (.region [⟨some 25, none, .p (.fld 24 (.t 1))⟩,
    ⟨some 26, none, .h (.load 1 false (.t 25))⟩,
    ⟨some 27, none, .p (.mv (.t 6))⟩,
    ⟨some 28, none, .p (.ixS 2 (.t 26) (.t 27))⟩,
    ⟨some 29, none, .h (.load 2 true (.t 28))⟩,
    ⟨some 7, none, .p (.alloc [.k (C.int .i64 0), .k (C.int .i64 0)])⟩,
    ⟨none, none, .h (.store 2 (.t 7) (.t 29))⟩] [1, 2, 4, 5, 6, 7])
  (.seq (.region [⟨some 30, none, .h (.load 24 true (.t 5))⟩,
    ⟨some 31, none, .h (.load 2 true (.t 7))⟩,
    ⟨some 32, none, .h (.call (.f 154) [.t 30, .t 31])⟩,
    ⟨some 33, none, .p (.mv (.t 32))⟩,
    ⟨some 34, some (33, true), .h (.load 24 true (.t 5))⟩,
    ⟨some 35, some (33, true), .p (.ixA 2 1 (.t 7) (.k (.c (C.int .i64 0))))⟩,
    ⟨some 36, some (33, true), .h (.load 1 false (.t 35))⟩,
    ⟨some 37, some (33, true), .p (.ixA 2 1 (.t 7) (.k (.c (C.int .i64 1))))⟩,
    ⟨some 38, some (33, true), .h (.load 1 false (.t 37))⟩,
    ⟨some 39, some (33, true), .h (.call (.f 155) [.t 34, .t 36, .t 38])⟩,
    ⟨some 40, some (33, true), .p (.un .not (.t 39))⟩,
    ⟨some 41, none, .p (.pick (.t 33) (.t 40) (.k (.c (C.bool false))))⟩] [1, 2, 4, 5, 6, 7, 41])
  (.cond (.t 41)
  (.seq (.region [⟨some 43, none, .h (.load 24 true (.t 5))⟩,
    ⟨some 44, none, .p (.ixA 2 1 (.t 7) (.k (.c (C.int .i64 0))))⟩,
    ⟨some 45, none, .h (.load 1 false (.t 44))⟩,
    ⟨some 46, none, .p (.ixA 2 1 (.t 7) (.k (.c (C.int .i64 1))))⟩,
    ⟨some 47, none, .h (.load 1 false (.t 46))⟩,
    ⟨some 48, none, .h (.call (.f 148) [.t 43, .t 45, .t 47])⟩,
    ⟨some 42, none, .p (.mv (.t 48))⟩,
    ⟨some 49, none, .p (.ext (.t 42) 0)⟩,
    ⟨some 50, none, .p (.ext (.t 42) 1)⟩,
    ⟨some 8, none, .p (.alloc (List.replicate 24 (.k (C.int .i64 0))))⟩,
    ⟨none, none, .h (.store 24 (.t 8) (.t 49))⟩,
    ⟨some 9, none, .p (.mv (.t 50))⟩] [1, 2, 4, 5, 6, 7, 8])
  (.seq (.region [⟨some 51, none, .p (.fld 24 (.t 4))⟩,
    ⟨some 52, none, .h (.load 1 false (.t 51))⟩,
    ⟨some 53, none, .h (.load 2 true (.t 7))⟩,
    ⟨some 54, none, .p (.mksl 2 1 [.k (C.int .i64 0), .k (C.int .i64 0)] [(0, 2, .t 53)])⟩,
    ⟨some 55, none, .h (.app 2 (.t 52) (.t 54))⟩,
    ⟨some 56, none, .p (.fld 24 (.t 4))⟩,
    ⟨none, none, .h (.store 1 (.t 56) (.t 55))⟩] [1, 2, 4, 5, 6, 8])
  (.region [⟨some 57, none, .h (.load 24 true (.t 8))⟩,
    ⟨none, none, .h (.store 24 (.t 5) (.t 57))⟩] [1, 2, 4, 5, 6])))
  .skip))))
  (.region [⟨some 23, none, .p (.mv (.t 6))⟩,
    ⟨some 24, none, .p (.bin .add (.t 23) (.k (.c (C.int .i64 1))))⟩,
    ⟨some 6, none, .p (.mv (.t 24))⟩] [1, 2, 4, 5, 6]))) [1, 2, 4, 5, 6])))
  (.seq (.region [⟨some 58, none, .h (.load 25 true (.t 4))⟩,
    ⟨none, none, .h (.store 25 (.t 2) (.t 58))⟩,
    ⟨some 3, none, .p (.mv (.k (.c (C.bool true))))⟩] [2, 3])
  .ret))))) }
theorem a93_ok : okFn Try.prog 93 a93 = true := by kernel_rfl
def prA : Prog
  | 3 => some a3
  | 4 => some a4
  | 5 => some a5
  | 6 => some a6
  | 7 => some a7
  | 8 => some a8
  | 9 => some a9
  | 10 => some a10
  | 11 => some a11
  | 12 => some a12
  | 13 => some a13
  | 14 => some a14
  | 15 => some a15
  | 16 => some a16
  | 17 => some a17
  | 18 => some a18
  | 19 => some a19
  | 20 => some a20
  | 21 => some a21
  | 22 => some a22
  | 23 => some a23
  | 24 => some a24
  | 25 => some a25
  | 26 => some a26
  | 27 => some a27
  | 28 => some a28
  | 33 => some a33
  | 34 => some a34
  | 35 => some a35
  | 36 => some a36
  | 37 => some a37
  | 38 => some a38
  | 39 => some a39
  | 40 => some a40
  | 41 => some a41
  | 42 => some a42
  | 43 => some a43
  | 44 => some a44
  | 45 => some a45
  | 46 => some a46
  | 47 => some a47
  | 48 => some a48
  | 49 => some a49
  | 50 => some a50
  | 51 => some a51
  | 52 => some a52
  | 53 => some a53
  | 54 => some a54
  | 55 => some a55
  | 56 => some a56
  | 57 => some a57
  | 58 => some a58
  | 59 => some a59
  | 60 => some a60
  | 61 => some a61
  | 62 => some a62
  | 63 => some a63
  | 64 => some a64
  | 65 => some a65
  | 66 => some a66
  | 67 => some a67
  | 68 => some a68
  | 69 => some a69
  | 70 => some a70
  | 71 => some a71
  | 72 => some a72
  | 73 => some a73
  | 74 => some a74
  | 75 => some a75
  | 76 => some a76
  | 77 => some a77
  | 78 => some a78
  | 79 => some a79
  | 80 => some a80
  | 81 => some a81
  | 82 => some a82
  | 83 => some a83
  | 84 => some a84
  | 85 => some a85
  | 86 => some a86
  | 87 => some a87
  | 88 => some a88
  | 89 => some a89
  | 90 => some a90
  | 91 => some a91
  | 92 => some a92
  | 93 => some a93
  | _ => none
theorem prA_ok : ProgOK Try.prog prA := by
  intro f fn h
  unfold prA at h
  split at h
  · injection h with h; subst h; exact a3_ok
  · injection h with h; subst h; exact a4_ok
  · injection h with h; subst h; exact a5_ok
  · injection h with h; subst h; exact a6_ok
  · injection h with h; subst h; exact a7_ok
  · injection h with h; subst h; exact a8_ok
  · injection h with h; subst h; exact a9_ok
  · injection h with h; subst h; exact a10_ok
  · injection h with h; subst h; exact a11_ok
  · injection h with h; subst h; exact a12_ok
  · injection h with h; subst h; exact a13_ok
  · injection h with h; subst h; exact a14_ok
  · injection h with h; subst h; exact a15_ok
  · injection h with h; subst h; exact a16_ok
  · injection h with h; subst h; exact a17_ok
  · injection h with h; subst h; exact a18_ok
  · injection h with h; subst h; exact a19_ok
  · injection h with h; subst h; exact a20_ok
  · injection h with h; subst h; exact a21_ok
  · injection h with h; subst h; exact a22_ok
  · injection h with h; subst h; exact a23_ok
  · injection h with h; subst h; exact a24_ok
  · injection h with h; subst h; exact a25_ok
  · injection h with h; subst h; exact a26_ok
  · injection h with h; subst h; exact a27_ok
  · injection h with h; subst h; exact a28_ok
  · injection h with h; subst h; exact a33_ok
  · injection h with h; subst h; exact a34_ok
  · injection h with h; subst h; exact a35_ok
  · injection h with h; subst h; exact a36_ok
  · injection h with h; subst h; exact a37_ok
  · injection h with h; subst h; exact a38_ok
  · injection h with h; subst h; exact a39_ok
  · injection h with h; subst h; exact a40_ok
  · injection h with h; subst h; exact a41_ok
  · injection h with h; subst h; exact a42_ok
  · injection h with h; subst h; exact a43_ok
  · injection h with h; subst h; exact a44_ok
  · injection h with h; subst h; exact a45_ok
  · injection h with h; subst h; exact a46_ok
  · injection h with h; subst h; exact a47_ok
  · injection h with h; subst h; exact a48_ok
  · injection h with h; subst h; exact a49_ok
  · injection h with h; subst h; exact a50_ok
  · injection h with h; subst h; exact a51_ok
  · injection h with h; subst h; exact a52_ok
  · injection h with h; subst h; exact a53_ok
  · injection h with h; subst h; exact a54_ok
  · injection h with h; subst h; exact a55_ok
  · injection h with h; subst h; exact a56_ok
  · injection h with h; subst h; exact a57_ok
  · injection h with h; subst h; exact a58_ok
  · injection h with h; subst h; exact a59_ok
  · injection h with h; subst h; exact a60_ok
  · injection h with h; subst h; exact a61_ok
  · injection h with h; subst h; exact a62_ok
  · injection h with h; subst h; exact a63_ok
  · injection h with h; subst h; exact a64_ok
  · injection h with h; subst h; exact a65_ok
  · injection h with h; subst h; exact a66_ok
  · injection h with h; subst h; exact a67_ok
  · injection h with h; subst h; exact a68_ok
  · injection h with h; subst h; exact a69_ok
  · injection h with h; subst h; exact a70_ok
  · injection h with h; subst h; exact a71_ok
  · injection h with h; subst h; exact a72_ok
  · injection h with h; subst h; exact a73_ok
  · injection h with h; subst h; exact a74_ok
  · injection h with h; subst h; exact a75_ok
  · injection h with h; subst h; exact a76_ok
  · injection h with h; subst h; exact a77_ok
  · injection h with h; subst h; exact a78_ok
  · injection h with h; subst h; exact a79_ok
  · injection h with h; subst h; exact a80_ok
  · injection h with h; subst h; exact a81_ok
  · injection h with h; subst h; exact a82_ok
  · injection h with h; subst h; exact a83_ok
  · injection h with h; subst h; exact a84_ok
  · injection h with h; subst h; exact a85_ok
  · injection h with h; subst h; exact a86_ok
  · injection h with h; subst h; exact a87_ok
  · injection h with h; subst h; exact a88_ok
  · injection h with h; subst h; exact a89_ok
  · injection h with h; subst h; exact a90_ok
  · injection h with h; subst h; exact a91_ok
  · injection h with h; subst h; exact a92_ok
  · injection h with h; subst h; exact a93_ok
  · cases h
end Go.Proofs.Ytgmamngkkpadhaa.AM
