/- the functions' code in the abstract machine: printed by a program (wip/tools/genparts.py) out of the loaded program -/
import Derived.Test.YtgmamngkkpadhaaAmD
import Derived.Test.YtgmamngkkpadhaaProg
import Derived.KernelRfl
namespace Go.Proofs.Ytgmamngkkpadhaa.AM
open Go
set_option maxRecDepth 100000
/-- gosem.cut.init -/
def a2 : AFn := { np := 0, nt := 1, res := [], body :=
  (.region [⟨some 0, none, .h (.call (.f 1) [])⟩] []) }
theorem a2_ok : okFn Try.prog 2 a2 = true := by kernel_rfl
/-- loop.example/g01215/laws.FnExactDealSame -/
def a3 : AFn := { np := 2, nt := 34, res := [.t 4], body :=
  (.seq (.region [⟨some 2, none, .p (.box 6 (.t 0))⟩,
    ⟨some 3, none, .p (.box 6 (.t 1))⟩,
    ⟨some 4, none, .p (.mv (.k (.c (C.bool false))))⟩] [2, 3])
  (.seq (.regionD [⟨some 10, none, .h (.load 6 true (.t 2))⟩,
    ⟨some 11, none, .h (.call (.f 34) [.t 10])⟩,
    ⟨some 12, none, .h (.load 6 true (.t 3))⟩,
    ⟨some 13, none, .h (.call (.f 34) [.t 12])⟩,
    ⟨some 14, none, .h (.call (.f 33) [.t 11, .t 13])⟩,
    ⟨some 9, none, .p (.mv (.t 14))⟩,
    ⟨some 15, none, .p (.ext (.t 9) 0)⟩,
    ⟨some 16, none, .p (.ext (.t 9) 1)⟩,
    ⟨some 5, none, .p (.alloc [.k (C.int .i64 0), .k (C.int .i64 0)])⟩,
    ⟨none, none, .h (.store 2 (.t 5) (.t 15))⟩,
    ⟨some 6, none, .p (.mv (.t 16))⟩] [2, 3, 5, 6] [])
  (.seq (.regionD [⟨some 18, none, .h (.load 6 true (.t 2))⟩,
    ⟨some 19, none, .h (.call (.f 34) [.t 18])⟩,
    ⟨some 20, none, .h (.load 6 true (.t 3))⟩,
    ⟨some 21, none, .h (.call (.f 34) [.t 20])⟩,
    ⟨some 22, none, .h (.call (.f 35) [.t 19, .t 21])⟩,
    ⟨some 17, none, .p (.mv (.t 22))⟩,
    ⟨some 23, none, .p (.ext (.t 17) 0)⟩,
    ⟨some 24, none, .p (.ext (.t 17) 1)⟩,
    ⟨some 7, none, .p (.alloc [.k (C.int .i64 0), .k (C.int .i64 0)])⟩,
    ⟨none, none, .h (.store 2 (.t 7) (.t 23))⟩,
    ⟨some 8, none, .p (.mv (.t 24))⟩] [5, 6, 7, 8] [])
  (.seq (.seq (.region [⟨some 25, none, .h (.load 2 true (.t 7))⟩,
    ⟨some 26, none, .h (.load 2 true (.t 5))⟩,
    ⟨some 27, none, .h (.call (.f 36) [.t 25, .t 26])⟩,
    ⟨some 28, none, .p (.un .not (.t 27))⟩,
    ⟨some 29, none, .p (.mv (.t 28))⟩,
    ⟨some 30, some (29, false), .p (.mv (.t 8))⟩,
    ⟨some 31, some (29, false), .p (.mv (.t 6))⟩,
    ⟨some 32, some (29, false), .p (.eqb true (.t 30) (.t 31))⟩,
    ⟨some 33, none, .p (.pick (.t 29) (.k (.c (C.bool true))) (.t 32))⟩] [33])
  (.cond (.t 33)
  (.seq (.region [⟨some 4, none, .p (.mv (.k (.c (C.bool false))))⟩] [4])
  .ret)
  .skip))
  (.seq (.region [⟨some 4, none, .p (.mv (.k (.c (C.bool true))))⟩] [4])
  .ret))))) }
theorem a3_ok : okFn Try.prog 3 a3 = true := by kernel_rfl
/-- loop.example/g01215/laws.FnExactIsLost -/
def a4 : AFn := { np := 1, nt := 27, res := [.t 2], body :=
  (.seq (.region [⟨some 1, none, .p (.box 24 (.t 0))⟩,
    ⟨some 2, none, .p (.mv (.k (.c (C.bool false))))⟩] [1])
  (.seq (.region [⟨some 8, none, .h (.load 24 true (.t 1))⟩,
    ⟨some 9, none, .h (.call (.f 38) [.t 8])⟩,
    ⟨some 10, none, .h (.call (.f 37) [.t 9])⟩,
    ⟨some 7, none, .p (.mv (.t 10))⟩,
    ⟨some 11, none, .p (.ext (.t 7) 0)⟩,
    ⟨some 12, none, .p (.ext (.t 7) 1)⟩,
    ⟨some 3, none, .p (.mv (.t 11))⟩,
    ⟨some 4, none, .p (.mv (.t 12))⟩] [1, 3, 4])
  (.seq (.region [⟨some 14, none, .h (.load 24 true (.t 1))⟩,
    ⟨some 15, none, .h (.call (.f 38) [.t 14])⟩,
    ⟨some 16, none, .h (.call (.f 39) [.t 15])⟩,
    ⟨some 13, none, .p (.mv (.t 16))⟩,
    ⟨some 17, none, .p (.ext (.t 13) 0)⟩,
    ⟨some 18, none, .p (.ext (.t 13) 1)⟩,
    ⟨some 5, none, .p (.mv (.t 17))⟩,
    ⟨some 6, none, .p (.mv (.t 18))⟩] [3, 4, 5, 6])
  (.seq (.seq (.region [⟨some 19, none, .p (.mv (.t 5))⟩,
    ⟨some 20, none, .p (.mv (.t 3))⟩,
    ⟨some 21, none, .p (.eqb true (.t 19) (.t 20))⟩,
    ⟨some 22, none, .p (.mv (.t 21))⟩,
    ⟨some 23, some (22, false), .p (.mv (.t 6))⟩,
    ⟨some 24, some (22, false), .p (.mv (.t 4))⟩,
    ⟨some 25, some (22, false), .p (.eqb true (.t 23) (.t 24))⟩,
    ⟨some 26, none, .p (.pick (.t 22) (.k (.c (C.bool true))) (.t 25))⟩] [26])
  (.cond (.t 26)
  (.seq (.region [⟨some 2, none, .p (.mv (.k (.c (C.bool false))))⟩] [2])
  .ret)
  .skip))
  (.seq (.region [⟨some 2, none, .p (.mv (.k (.c (C.bool true))))⟩] [2])
  .ret))))) }
theorem a4_ok : okFn Try.prog 4 a4 = true := by kernel_rfl
/-- loop.example/g01215/laws.FnExactEndValue -/
def a5 : AFn := { np := 2, nt := 31, res := [.t 4], body :=
  (.seq (.region [⟨some 2, none, .p (.box 24 (.t 0))⟩,
    ⟨some 4, none, .p (.mv (.k (.c (C.bool false))))⟩] [1, 2])
  (.seq (.region [⟨some 10, none, .h (.load 24 true (.t 2))⟩,
    ⟨some 11, none, .h (.call (.f 38) [.t 10])⟩,
    ⟨some 12, none, .p (.mv (.t 1))⟩,
    ⟨some 13, none, .h (.call (.f 40) [.t 11, .t 12])⟩,
    ⟨some 9, none, .p (.mv (.t 13))⟩,
    ⟨some 14, none, .p (.ext (.t 9) 0)⟩,
    ⟨some 15, none, .p (.ext (.t 9) 1)⟩,
    ⟨some 5, none, .p (.mv (.t 14))⟩,
    ⟨some 6, none, .p (.mv (.t 15))⟩] [1, 2, 5, 6])
  (.seq (.region [⟨some 17, none, .h (.load 24 true (.t 2))⟩,
    ⟨some 18, none, .h (.call (.f 38) [.t 17])⟩,
    ⟨some 19, none, .p (.mv (.t 1))⟩,
    ⟨some 20, none, .h (.call (.f 41) [.t 18, .t 19])⟩,
    ⟨some 16, none, .p (.mv (.t 20))⟩,
    ⟨some 21, none, .p (.ext (.t 16) 0)⟩,
    ⟨some 22, none, .p (.ext (.t 16) 1)⟩,
    ⟨some 7, none, .p (.mv (.t 21))⟩,
    ⟨some 8, none, .p (.mv (.t 22))⟩] [5, 6, 7, 8])
  (.seq (.seq (.region [⟨some 23, none, .p (.mv (.t 7))⟩,
    ⟨some 24, none, .p (.mv (.t 5))⟩,
    ⟨some 25, none, .p (.bin .neq (.t 23) (.t 24))⟩,
    ⟨some 26, none, .p (.mv (.t 25))⟩,
    ⟨some 27, some (26, false), .p (.mv (.t 8))⟩,
    ⟨some 28, some (26, false), .p (.mv (.t 6))⟩,
    ⟨some 29, some (26, false), .p (.eqb true (.t 27) (.t 28))⟩,
    ⟨some 30, none, .p (.pick (.t 26) (.k (.c (C.bool true))) (.t 29))⟩] [30])
  (.cond (.t 30)
  (.seq (.region [⟨some 4, none, .p (.mv (.k (.c (C.bool false))))⟩] [4])
  .ret)
  .skip))
  (.seq (.region [⟨some 4, none, .p (.mv (.k (.c (C.bool true))))⟩] [4])
  .ret))))) }
theorem a5_ok : okFn Try.prog 5 a5 = true := by kernel_rfl
/-- loop.example/g01215/laws.FnExactCountReplies -/
def a6 : AFn := { np := 1, nt := 66, res := [.t 2], body :=
  (.seq (.region [⟨some 1, none, .p (.box 24 (.t 0))⟩,
    ⟨some 2, none, .p (.mv (.k (.c (C.bool false))))⟩] [1])
  (.seq (.region [⟨some 12, none, .h (.load 24 true (.t 1))⟩,
    ⟨some 13, none, .h (.call (.f 38) [.t 12])⟩,
    ⟨some 14, none, .h (.call (.f 42) [.t 13])⟩,
    ⟨some 11, none, .p (.mv (.t 14))⟩,
    ⟨some 15, none, .p (.ext (.t 11) 0)⟩,
    ⟨some 16, none, .p (.ext (.t 11) 1)⟩,
    ⟨some 3, none, .p (.mv (.t 15))⟩,
    ⟨some 4, none, .p (.mv (.t 16))⟩] [1, 3, 4])
  (.seq (.region [⟨some 18, none, .h (.load 24 true (.t 1))⟩,
    ⟨some 19, none, .h (.call (.f 38) [.t 18])⟩,
    ⟨some 20, none, .h (.call (.f 43) [.t 19])⟩,
    ⟨some 17, none, .p (.mv (.t 20))⟩,
    ⟨some 21, none, .p (.ext (.t 17) 0)⟩,
    ⟨some 22, none, .p (.ext (.t 17) 1)⟩,
    ⟨some 5, none, .p (.mv (.t 21))⟩,
    ⟨some 6, none, .p (.mv (.t 22))⟩] [1, 3, 4, 5, 6])
  (.seq (.seq (.region [⟨some 23, none, .p (.mv (.t 5))⟩,
    ⟨some 24, none, .p (.mv (.t 3))⟩,
    ⟨some 25, none, .h (.call (.f 44) [.t 23, .t 24])⟩,
    ⟨some 26, none, .p (.un .not (.t 25))⟩,
    ⟨some 27, none, .p (.mv (.t 26))⟩,
    ⟨some 28, some (27, false), .p (.mv (.t 6))⟩,
    ⟨some 29, some (27, false), .p (.mv (.t 4))⟩,
    ⟨some 30, some (27, false), .p (.eqb true (.t 28) (.t 29))⟩,
    ⟨some 31, none, .p (.pick (.t 27) (.k (.c (C.bool true))) (.t 30))⟩] [1, 3, 4, 5, 31])
  (.cond (.t 31)
  (.seq (.region [⟨some 2, none, .p (.mv (.k (.c (C.bool false))))⟩] [2])
  .ret)
  .skip))
  (.seq (.region [⟨some 7, none, .p (.mv (.k (.c (C.int .i64 1))))⟩] [1, 3, 4, 5, 7])
  (.seq (.region [⟨some 32, none, .p (.mv (.t 5))⟩,
    ⟨some 33, none, .p (.mv (.t 7))⟩,
    ⟨some 34, none, .h (.call (.f 45) [.t 32, .t 33])⟩,
    ⟨some 7, none, .p (.mv (.t 34))⟩] [1, 3, 4, 5, 7])
  (.seq (.region [⟨some 8, none, .p (.mv (.k (.c (C.int .i64 1))))⟩] [1, 3, 4, 5, 7, 8])
  (.seq (.region [⟨some 35, none, .p (.mv (.t 5))⟩,
    ⟨some 36, none, .p (.mv (.t 8))⟩,
    ⟨some 37, none, .h (.call (.f 46) [.t 35, .t 36])⟩,
    ⟨some 8, none, .p (.mv (.t 37))⟩] [1, 3, 4, 5, 7, 8])
  (.seq (.seq (.region [⟨some 38, none, .p (.mv (.t 8))⟩,
    ⟨some 39, none, .p (.bin .lss (.t 38) (.k (.c (C.int .i64 0))))⟩] [1, 3, 4, 5, 7, 8, 39])
  (.cond (.t 39)
  (.seq (.region [⟨some 2, none, .p (.mv (.k (.c (C.bool false))))⟩] [2])
  .ret)
  .skip))
  (.seq (.seq (.region [⟨some 40, none, .p (.mv (.t 8))⟩,
    ⟨some 41, none, .p (.mv (.t 7))⟩,
    ⟨some 42, none, .p (.bin .neq (.t 40) (.t 41))⟩] [1, 3, 4, 5, 7, 42])
  (.cond (.t 42)
  (.seq (.region [⟨some 2, none, .p (.mv (.k (.c (C.bool false))))⟩] [2])
  .ret)
  .skip))
  (.seq (.region [⟨some 44, none, .h (.load 24 true (.t 1))⟩,
    ⟨some 45, none, .h (.call (.f 38) [.t 44])⟩,
    ⟨some 46, none, .h (.call (.f 43) [.t 45])⟩,
    ⟨some 43, none, .p (.mv (.t 46))⟩,
    ⟨some 47, none, .p (.ext (.t 43) 0)⟩,
    ⟨some 48, none, .p (.ext (.t 43) 1)⟩,
    ⟨some 9, none, .p (.mv (.t 47))⟩,
    ⟨some 10, none, .p (.mv (.t 48))⟩] [3, 4, 5, 7, 9, 10])
  (.seq (.seq (.region [⟨some 49, none, .p (.mv (.t 9))⟩,
    ⟨some 50, none, .p (.mv (.t 3))⟩,
    ⟨some 51, none, .h (.call (.f 44) [.t 49, .t 50])⟩,
    ⟨some 52, none, .p (.un .not (.t 51))⟩,
    ⟨some 53, none, .p (.mv (.t 52))⟩,
    ⟨some 54, some (53, false), .p (.mv (.t 10))⟩,
    ⟨some 55, some (53, false), .p (.mv (.t 4))⟩,
    ⟨some 56, some (53, false), .p (.eqb true (.t 54) (.t 55))⟩,
    ⟨some 57, none, .p (.pick (.t 53) (.k (.c (C.bool true))) (.t 56))⟩] [5, 7, 57])
  (.cond (.t 57)
  (.seq (.region [⟨some 2, none, .p (.mv (.k (.c (C.bool false))))⟩] [2])
  .ret)
  .skip))
  (.seq (.region [⟨some 8, none, .p (.mv (.k (.c (C.int .i64 1))))⟩] [5, 7, 8])
  (.seq (.region [⟨some 58, none, .p (.mv (.t 5))⟩,
    ⟨some 59, none, .p (.mv (.t 8))⟩,
    ⟨some 60, none, .h (.call (.f 46) [.t 58, .t 59])⟩,
    ⟨some 8, none, .p (.mv (.t 60))⟩] [7, 8])
  (.seq (.seq (.region [⟨some 61, none, .p (.mv (.t 8))⟩,
    ⟨some 62, none, .p (.bin .lss (.t 61) (.k (.c (C.int .i64 0))))⟩] [7, 8, 62])
  (.cond (.t 62)
  (.seq (.region [⟨some 2, none, .p (.mv (.k (.c (C.bool false))))⟩] [2])
  .ret)
  .skip))
  (.seq (.seq (.region [⟨some 63, none, .p (.mv (.t 8))⟩,
    ⟨some 64, none, .p (.mv (.t 7))⟩,
    ⟨some 65, none, .p (.bin .neq (.t 63) (.t 64))⟩] [65])
  (.cond (.t 65)
  (.seq (.region [⟨some 2, none, .p (.mv (.k (.c (C.bool false))))⟩] [2])
  .ret)
  .skip))
  (.seq (.region [⟨some 2, none, .p (.mv (.k (.c (C.bool true))))⟩] [2])
  .ret))))))))))))))))) }
theorem a6_ok : okFn Try.prog 6 a6 = true := by kernel_rfl
/-- loop.example/g01215/laws.FnExactIsReplay -/
def a7 : AFn := { np := 1, nt := 27, res := [.t 2], body :=
  (.seq (.region [⟨some 1, none, .p (.box 25 (.t 0))⟩,
    ⟨some 2, none, .p (.mv (.k (.c (C.bool false))))⟩] [1])
  (.seq (.region [⟨some 3, none, .p (.mv (.k (.c (C.int .i64 1048576))))⟩] [1, 3])
  (.seq (.region [⟨some 7, none, .h (.load 25 true (.t 1))⟩,
    ⟨some 8, none, .p (.mv (.t 3))⟩,
    ⟨some 9, none, .h (.call (.f 47) [.t 7, .t 8])⟩,
    ⟨some 3, none, .p (.mv (.t 9))⟩] [1, 3])
  (.seq (.seq (.region [⟨some 10, none, .p (.mv (.t 3))⟩,
    ⟨some 11, none, .p (.bin .lss (.t 10) (.k (.c (C.int .i64 0))))⟩] [1, 11])
  (.cond (.t 11)
  (.seq (.region [⟨some 2, none, .p (.mv (.k (.c (C.bool true))))⟩] [2])
  .ret)
  .skip))
  (.seq (.region [⟨some 12, none, .h (.load 25 true (.t 1))⟩,
    ⟨some 13, none, .h (.call (.f 49) [.t 12])⟩,
    ⟨some 14, none, .h (.call (.f 48) [.t 13])⟩,
    ⟨some 4, none, .p (.mv (.t 14))⟩] [1, 4])
  (.seq (.region [⟨some 15, none, .h (.load 25 true (.t 1))⟩,
    ⟨some 16, none, .h (.call (.f 49) [.t 15])⟩,
    ⟨some 5, none, .p (.alloc [.k (C.int .i64 0), .k (C.int .i64 0), .k (C.int .i64 0), .k (C.int .i64 0), .k (C.int .i64 0), .k (C.int .i64 0), .k (C.int .i64 0), .k (C.int .i64 0), .k (C.int .i64 0), .k (C.int .i64 0), .k (C.int .i64 0), .k (C.int .i64 0), .k (C.int .i64 0), .k (C.int .i64 0), .k (C.int .i64 0), .k (C.int .i64 0), .k (C.int .i64 0), .k (C.int .i64 0), .k (C.int .i64 0), .k (C.int .i64 0), .k (C.int .i64 0), .k (C.int .i64 0), .k (C.int .i64 0), .k (C.int .i64 0), .sl 2])⟩,
    ⟨none, none, .h (.store 25 (.t 5) (.t 16))⟩] [1, 4, 5])
  (.seq (.region [⟨some 17, none, .h (.load 25 true (.t 5))⟩,
    ⟨some 18, none, .h (.call (.f 50) [.t 17])⟩,
    ⟨some 6, none, .p (.mv (.t 18))⟩] [1, 4, 5, 6])
  (.seq (.seq (.region [⟨some 19, none, .p (.mv (.t 6))⟩,
    ⟨some 20, none, .p (.mv (.t 4))⟩,
    ⟨some 21, none, .p (.eqb true (.t 19) (.t 20))⟩] [1, 5, 21])
  (.cond (.t 21)
  (.seq (.region [⟨some 2, none, .p (.mv (.k (.c (C.bool false))))⟩] [2])
  .ret)
  .skip))
  (.seq (.seq (.regionE [⟨some 22, none, .h (.load 25 true (.t 5))⟩,
    ⟨some 23, none, .h (.load 25 true (.t 1))⟩,
    ⟨some 24, none, .h (.call (.f 49) [.t 23])⟩,
    ⟨some 25, none, .h (.call (.f 51) [.t 22, .t 24])⟩,
    ⟨some 26, none, .p (.un .not (.t 25))⟩] [26] [] [[], [], [], [2]])
  (.cond (.t 26)
  (.seq (.region [⟨some 2, none, .p (.mv (.k (.c (C.bool false))))⟩] [2])
  .ret)
  .skip))
  (.seq (.region [⟨some 2, none, .p (.mv (.k (.c (C.bool true))))⟩] [2])
  .ret)))))))))) }
theorem a7_ok : okFn Try.prog 7 a7 = true := by kernel_rfl
/-- loop.example/g01215/laws.FnExactReplayRack -/
def a8 : AFn := { np := 2, nt := 45, res := [.t 4], body :=
  (.seq (.region [⟨some 2, none, .p (.box 25 (.t 0))⟩,
    ⟨some 4, none, .p (.mv (.k (.c (C.bool false))))⟩] [1, 2])
  (.seq (.region [⟨some 5, none, .p (.mv (.k (.c (C.int .i64 1048576))))⟩] [1, 2, 5])
  (.seq (.region [⟨some 11, none, .h (.load 25 true (.t 2))⟩,
    ⟨some 12, none, .p (.mv (.t 5))⟩,
    ⟨some 13, none, .h (.call (.f 47) [.t 11, .t 12])⟩,
    ⟨some 5, none, .p (.mv (.t 13))⟩] [1, 2, 5])
  (.seq (.seq (.region [⟨some 14, none, .p (.mv (.t 5))⟩,
    ⟨some 15, none, .p (.bin .lss (.t 14) (.k (.c (C.int .i64 0))))⟩] [1, 2, 15])
  (.cond (.t 15)
  (.seq (.region [⟨some 4, none, .p (.mv (.k (.c (C.bool true))))⟩] [4])
  .ret)
  .skip))
  (.seq (.region [⟨some 17, none, .h (.load 25 true (.t 2))⟩,
    ⟨some 18, none, .h (.call (.f 49) [.t 17])⟩,
    ⟨some 19, none, .p (.mv (.t 1))⟩,
    ⟨some 20, none, .h (.call (.f 52) [.t 18, .t 19])⟩,
    ⟨some 16, none, .p (.mv (.t 20))⟩,
    ⟨some 21, none, .p (.ext (.t 16) 0)⟩,
    ⟨some 22, none, .p (.ext (.t 16) 1)⟩,
    ⟨some 6, none, .p (.alloc (List.replicate 24 (.k (C.int .i64 0))))⟩,
    ⟨none, none, .h (.store 24 (.t 6) (.t 21))⟩,
    ⟨some 7, none, .p (.mv (.t 22))⟩] [1, 2, 6, 7])
  (.seq (.region [⟨some 23, none, .h (.load 25 true (.t 2))⟩,
    ⟨some 24, none, .h (.call (.f 49) [.t 23])⟩,
    ⟨some 8, none, .p (.alloc [.k (C.int .i64 0), .k (C.int .i64 0), .k (C.int .i64 0), .k (C.int .i64 0), .k (C.int .i64 0), .k (C.int .i64 0), .k (C.int .i64 0), .k (C.int .i64 0), .k (C.int .i64 0), .k (C.int .i64 0), .k (C.int .i64 0), .k (C.int .i64 0), .k (C.int .i64 0), .k (C.int .i64 0), .k (C.int .i64 0), .k (C.int .i64 0), .k (C.int .i64 0), .k (C.int .i64 0), .k (C.int .i64 0), .k (C.int .i64 0), .k (C.int .i64 0), .k (C.int .i64 0), .k (C.int .i64 0), .k (C.int .i64 0), .sl 2])⟩,
    ⟨none, none, .h (.store 25 (.t 8) (.t 24))⟩] [1, 2, 6, 7, 8])
  (.seq (.region [⟨some 26, none, .h (.load 25 true (.t 8))⟩,
    ⟨some 27, none, .p (.mv (.t 1))⟩,
    ⟨some 28, none, .h (.call (.f 53) [.t 26, .t 27])⟩,
    ⟨some 25, none, .p (.mv (.t 28))⟩,
    ⟨some 29, none, .p (.ext (.t 25) 0)⟩,
    ⟨some 30, none, .p (.ext (.t 25) 1)⟩,
    ⟨some 9, none, .p (.alloc (List.replicate 24 (.k (C.int .i64 0))))⟩,
    ⟨none, none, .h (.store 24 (.t 9) (.t 29))⟩,
    ⟨some 10, none, .p (.mv (.t 30))⟩] [2, 6, 7, 8, 9, 10])
  (.seq (.seq (.region [⟨some 31, none, .h (.load 24 true (.t 9))⟩,
    ⟨some 32, none, .h (.load 24 true (.t 6))⟩,
    ⟨some 33, none, .h (.call (.f 54) [.t 31, .t 32])⟩,
    ⟨some 34, none, .p (.un .not (.t 33))⟩,
    ⟨some 35, none, .p (.mv (.t 34))⟩,
    ⟨some 36, some (35, false), .p (.mv (.t 10))⟩,
    ⟨some 37, some (35, false), .p (.mv (.t 7))⟩,
    ⟨some 38, some (35, false), .p (.eqb true (.t 36) (.t 37))⟩,
    ⟨some 39, none, .p (.pick (.t 35) (.k (.c (C.bool true))) (.t 38))⟩] [2, 8, 39])
  (.cond (.t 39)
  (.seq (.region [⟨some 4, none, .p (.mv (.k (.c (C.bool false))))⟩] [4])
  .ret)
  .skip))
  (.seq (.seq (.regionE [⟨some 40, none, .h (.load 25 true (.t 8))⟩,
    ⟨some 41, none, .h (.load 25 true (.t 2))⟩,
    ⟨some 42, none, .h (.call (.f 49) [.t 41])⟩,
    ⟨some 43, none, .h (.call (.f 51) [.t 40, .t 42])⟩,
    ⟨some 44, none, .p (.un .not (.t 43))⟩] [44] [] [[], [], [], [2]])
  (.cond (.t 44)
  (.seq (.region [⟨some 4, none, .p (.mv (.k (.c (C.bool false))))⟩] [4])
  .ret)
  .skip))
  (.seq (.region [⟨some 4, none, .p (.mv (.k (.c (C.bool true))))⟩] [4])
  .ret)))))))))) }
theorem a8_ok : okFn Try.prog 8 a8 = true := by kernel_rfl
/-- loop.example/g01215/laws.FnExactPlayParty -/
def a9 : AFn := { np := 2, nt := 66, res := [.t 4], body :=
  (.seq (.region [⟨some 2, none, .p (.box 24 (.t 0))⟩,
    ⟨some 4, none, .p (.mv (.k (.c (C.bool false))))⟩] [1, 2])
  (.seq (.region [⟨some 5, none, .p (.mv (.k (.c (C.int .i64 1048576))))⟩] [1, 2, 5])
  (.seq (.region [⟨some 15, none, .p (.mv (.t 1))⟩,
    ⟨some 16, none, .p (.mv (.t 5))⟩,
    ⟨some 17, none, .h (.call (.f 55) [.t 15, .t 16])⟩,
    ⟨some 5, none, .p (.mv (.t 17))⟩] [1, 2, 5])
  (.seq (.seq (.region [⟨some 18, none, .p (.mv (.t 5))⟩,
    ⟨some 19, none, .p (.bin .lss (.t 18) (.k (.c (C.int .i64 0))))⟩] [1, 2, 19])
  (.cond (.t 19)
  (.seq (.region [⟨some 4, none, .p (.mv (.k (.c (C.bool true))))⟩] [4])
  .ret)
  .skip))
  (.seq (.region [⟨some 21, none, .h (.load 24 true (.t 2))⟩,
    ⟨some 22, none, .h (.call (.f 38) [.t 21])⟩,
    ⟨some 23, none, .p (.mv (.t 1))⟩,
    ⟨some 24, none, .h (.call (.f 57) [.t 23])⟩,
    ⟨some 25, none, .h (.call (.f 56) [.t 22, .t 24])⟩,
    ⟨some 20, none, .p (.mv (.t 25))⟩,
    ⟨some 26, none, .p (.ext (.t 20) 0)⟩,
    ⟨some 27, none, .p (.ext (.t 20) 1)⟩,
    ⟨some 28, none, .p (.ext (.t 20) 2)⟩,
    ⟨some 29, none, .p (.ext (.t 20) 3)⟩,
    ⟨some 6, none, .p (.alloc (List.replicate 24 (.k (C.int .i64 0))))⟩,
    ⟨some 7, none, .p (.alloc [.k (C.int .i64 0), .k (C.int .i64 0)])⟩,
    ⟨none, none, .h (.store 24 (.t 6) (.t 26))⟩,
    ⟨none, none, .h (.store 2 (.t 7) (.t 27))⟩,
    ⟨some 8, none, .p (.mv (.t 28))⟩,
    ⟨some 9, none, .p (.mv (.t 29))⟩] [1, 2, 6, 7, 8, 9])
  (.seq (.region [⟨some 30, none, .p (.mv (.t 1))⟩,
    ⟨some 31, none, .h (.call (.f 57) [.t 30])⟩,
    ⟨some 10, none, .p (.mv (.t 31))⟩] [1, 2, 6, 7, 8, 9, 10])
  (.seq (.region [⟨some 33, none, .h (.load 24 true (.t 2))⟩,
    ⟨some 34, none, .h (.call (.f 38) [.t 33])⟩,
    ⟨some 35, none, .p (.mv (.t 10))⟩,
    ⟨some 36, none, .h (.call (.f 58) [.t 34, .t 35])⟩,
    ⟨some 32, none, .p (.mv (.t 36))⟩,
    ⟨some 37, none, .p (.ext (.t 32) 0)⟩,
    ⟨some 38, none, .p (.ext (.t 32) 1)⟩,
    ⟨some 39, none, .p (.ext (.t 32) 2)⟩,
    ⟨some 40, none, .p (.ext (.t 32) 3)⟩,
    ⟨some 11, none, .p (.alloc (List.replicate 24 (.k (C.int .i64 0))))⟩,
    ⟨some 12, none, .p (.alloc [.k (C.int .i64 0), .k (C.int .i64 0)])⟩,
    ⟨none, none, .h (.store 24 (.t 11) (.t 37))⟩,
    ⟨none, none, .h (.store 2 (.t 12) (.t 38))⟩,
    ⟨some 13, none, .p (.mv (.t 39))⟩,
    ⟨some 14, none, .p (.mv (.t 40))⟩] [1, 6, 7, 8, 9, 10, 11, 12, 13, 14])
  (.seq (.seq (.region [⟨some 41, none, .h (.load 24 true (.t 11))⟩,
    ⟨some 42, none, .h (.load 24 true (.t 6))⟩,
    ⟨some 43, none, .h (.call (.f 54) [.t 41, .t 42])⟩,
    ⟨some 44, none, .p (.un .not (.t 43))⟩,
    ⟨some 45, none, .p (.mv (.t 44))⟩,
    ⟨some 46, some (45, false), .h (.load 2 true (.t 12))⟩,
    ⟨some 47, some (45, false), .h (.load 2 true (.t 7))⟩,
    ⟨some 48, some (45, false), .h (.call (.f 36) [.t 46, .t 47])⟩,
    ⟨some 49, some (45, false), .p (.un .not (.t 48))⟩,
    ⟨some 50, none, .p (.pick (.t 45) (.k (.c (C.bool true))) (.t 49))⟩,
    ⟨some 51, none, .p (.mv (.t 50))⟩,
    ⟨some 52, some (51, false), .p (.mv (.t 13))⟩,
    ⟨some 53, some (51, false), .p (.mv (.t 8))⟩,
    ⟨some 54, some (51, false), .p (.bin .neq (.t 52) (.t 53))⟩,
    ⟨some 55, none, .p (.pick (.t 51) (.k (.c (C.bool true))) (.t 54))⟩,
    ⟨some 56, none, .p (.mv (.t 55))⟩,
    ⟨some 57, some (56, false), .p (.mv (.t 14))⟩,
    ⟨some 58, some (56, false), .p (.mv (.t 9))⟩,
    ⟨some 59, some (56, false), .p (.eqb true (.t 57) (.t 58))⟩,
    ⟨some 60, none, .p (.pick (.t 56) (.k (.c (C.bool true))) (.t 59))⟩] [1, 10, 60])
  (.cond (.t 60)
  (.seq (.region [⟨some 4, none, .p (.mv (.k (.c (C.bool false))))⟩] [4])
  .ret)
  .skip))
  (.seq (.seq (.region [⟨some 61, none, .p (.mv (.t 10))⟩,
    ⟨some 62, none, .p (.mv (.t 1))⟩,
    ⟨some 63, none, .h (.call (.f 57) [.t 62])⟩,
    ⟨some 64, none, .h (.call (.f 59) [.t 61, .t 63])⟩,
    ⟨some 65, none, .p (.un .not (.t 64))⟩] [65])
  (.cond (.t 65)
  (.seq (.region [⟨some 4, none, .p (.mv (.k (.c (C.bool false))))⟩] [4])
  .ret)
  .skip))
  (.seq (.region [⟨some 4, none, .p (.mv (.k (.c (C.bool true))))⟩] [4])
  .ret)))))))))) }
theorem a9_ok : okFn Try.prog 9 a9 = true := by kernel_rfl
/-- loop.example/g01215/laws.FnExactTubeValue -/
def a10 : AFn := { np := 2, nt := 31, res := [.t 4], body :=
  (.seq (.region [⟨some 2, none, .p (.box 24 (.t 0))⟩,
    ⟨some 4, none, .p (.mv (.k (.c (C.bool false))))⟩] [1, 2])
  (.seq (.region [⟨some 10, none, .h (.load 24 true (.t 2))⟩,
    ⟨some 11, none, .h (.call (.f 38) [.t 10])⟩,
    ⟨some 12, none, .p (.mv (.t 1))⟩,
    ⟨some 13, none, .h (.call (.f 60) [.t 11, .t 12])⟩,
    ⟨some 9, none, .p (.mv (.t 13))⟩,
    ⟨some 14, none, .p (.ext (.t 9) 0)⟩,
    ⟨some 15, none, .p (.ext (.t 9) 1)⟩,
    ⟨some 5, none, .p (.mv (.t 14))⟩,
    ⟨some 6, none, .p (.mv (.t 15))⟩] [1, 2, 5, 6])
  (.seq (.region [⟨some 17, none, .h (.load 24 true (.t 2))⟩,
    ⟨some 18, none, .h (.call (.f 38) [.t 17])⟩,
    ⟨some 19, none, .p (.mv (.t 1))⟩,
    ⟨some 20, none, .h (.call (.f 61) [.t 18, .t 19])⟩,
    ⟨some 16, none, .p (.mv (.t 20))⟩,
    ⟨some 21, none, .p (.ext (.t 16) 0)⟩,
    ⟨some 22, none, .p (.ext (.t 16) 1)⟩,
    ⟨some 7, none, .p (.mv (.t 21))⟩,
    ⟨some 8, none, .p (.mv (.t 22))⟩] [5, 6, 7, 8])
  (.seq (.seq (.region [⟨some 23, none, .p (.mv (.t 7))⟩,
    ⟨some 24, none, .p (.mv (.t 5))⟩,
    ⟨some 25, none, .p (.bin .neq (.t 23) (.t 24))⟩,
    ⟨some 26, none, .p (.mv (.t 25))⟩,
    ⟨some 27, some (26, false), .p (.mv (.t 8))⟩,
    ⟨some 28, some (26, false), .p (.mv (.t 6))⟩,
    ⟨some 29, some (26, false), .p (.eqb true (.t 27) (.t 28))⟩,
    ⟨some 30, none, .p (.pick (.t 26) (.k (.c (C.bool true))) (.t 29))⟩] [30])
  (.cond (.t 30)
  (.seq (.region [⟨some 4, none, .p (.mv (.k (.c (C.bool false))))⟩] [4])
  .ret)
  .skip))
  (.seq (.region [⟨some 4, none, .p (.mv (.k (.c (C.bool true))))⟩] [4])
  .ret))))) }
theorem a10_ok : okFn Try.prog 10 a10 = true := by kernel_rfl
/-- loop.example/g01215/laws.FnExactMovedLayers -/
def a11 : AFn := { np := 1, nt := 40, res := [.t 2], body :=
  (.seq (.region [⟨some 1, none, .p (.box 25 (.t 0))⟩,
    ⟨some 2, none, .p (.mv (.k (.c (C.bool false))))⟩] [1])
  (.seq (.region [⟨some 3, none, .p (.mv (.k (.c (C.int .i64 1048576))))⟩] [1, 3])
  (.seq (.region [⟨some 9, none, .h (.load 25 true (.t 1))⟩,
    ⟨some 10, none, .p (.mv (.t 3))⟩,
    ⟨some 11, none, .h (.call (.f 47) [.t 9, .t 10])⟩,
    ⟨some 3, none, .p (.mv (.t 11))⟩] [1, 3])
  (.seq (.seq (.region [⟨some 12, none, .p (.mv (.t 3))⟩,
    ⟨some 13, none, .p (.bin .lss (.t 12) (.k (.c (C.int .i64 0))))⟩] [1, 13])
  (.cond (.t 13)
  (.seq (.region [⟨some 2, none, .p (.mv (.k (.c (C.bool true))))⟩] [2])
  .ret)
  .skip))
  (.seq (.region [⟨some 15, none, .h (.load 25 true (.t 1))⟩,
    ⟨some 16, none, .h (.call (.f 49) [.t 15])⟩,
    ⟨some 17, none, .h (.call (.f 62) [.t 16])⟩,
    ⟨some 14, none, .p (.mv (.t 17))⟩,
    ⟨some 18, none, .p (.ext (.t 14) 0)⟩,
    ⟨some 19, none, .p (.ext (.t 14) 1)⟩,
    ⟨some 4, none, .p (.mv (.t 18))⟩,
    ⟨some 5, none, .p (.mv (.t 19))⟩] [1, 4, 5])
  (.seq (.region [⟨some 20, none, .h (.load 25 true (.t 1))⟩,
    ⟨some 21, none, .h (.call (.f 49) [.t 20])⟩,
    ⟨some 6, none, .p (.alloc [.k (C.int .i64 0), .k (C.int .i64 0), .k (C.int .i64 0), .k (C.int .i64 0), .k (C.int .i64 0), .k (C.int .i64 0), .k (C.int .i64 0), .k (C.int .i64 0), .k (C.int .i64 0), .k (C.int .i64 0), .k (C.int .i64 0), .k (C.int .i64 0), .k (C.int .i64 0), .k (C.int .i64 0), .k (C.int .i64 0), .k (C.int .i64 0), .k (C.int .i64 0), .k (C.int .i64 0), .k (C.int .i64 0), .k (C.int .i64 0), .k (C.int .i64 0), .k (C.int .i64 0), .k (C.int .i64 0), .k (C.int .i64 0), .sl 2])⟩,
    ⟨none, none, .h (.store 25 (.t 6) (.t 21))⟩] [1, 4, 5, 6])
  (.seq (.region [⟨some 23, none, .h (.load 25 true (.t 6))⟩,
    ⟨some 24, none, .h (.call (.f 63) [.t 23])⟩,
    ⟨some 22, none, .p (.mv (.t 24))⟩,
    ⟨some 25, none, .p (.ext (.t 22) 0)⟩,
    ⟨some 26, none, .p (.ext (.t 22) 1)⟩,
    ⟨some 7, none, .p (.mv (.t 25))⟩,
    ⟨some 8, none, .p (.mv (.t 26))⟩] [1, 4, 5, 6, 7, 8])
  (.seq (.seq (.region [⟨some 27, none, .p (.mv (.t 7))⟩,
    ⟨some 28, none, .p (.mv (.t 4))⟩,
    ⟨some 29, none, .p (.bin .neq (.t 27) (.t 28))⟩,
    ⟨some 30, none, .p (.mv (.t 29))⟩,
    ⟨some 31, some (30, false), .p (.mv (.t 8))⟩,
    ⟨some 32, some (30, false), .p (.mv (.t 5))⟩,
    ⟨some 33, some (30, false), .p (.eqb true (.t 31) (.t 32))⟩,
    ⟨some 34, none, .p (.pick (.t 30) (.k (.c (C.bool true))) (.t 33))⟩] [1, 6, 34])
  (.cond (.t 34)
  (.seq (.region [⟨some 2, none, .p (.mv (.k (.c (C.bool false))))⟩] [2])
  .ret)
  .skip))
  (.seq (.seq (.regionE [⟨some 35, none, .h (.load 25 true (.t 6))⟩,
    ⟨some 36, none, .h (.load 25 true (.t 1))⟩,
    ⟨some 37, none, .h (.call (.f 49) [.t 36])⟩,
    ⟨some 38, none, .h (.call (.f 51) [.t 35, .t 37])⟩,
    ⟨some 39, none, .p (.un .not (.t 38))⟩] [39] [] [[], [], [], [2]])
  (.cond (.t 39)
  (.seq (.region [⟨some 2, none, .p (.mv (.k (.c (C.bool false))))⟩] [2])
  .ret)
  .skip))
  (.seq (.region [⟨some 2, none, .p (.mv (.k (.c (C.bool true))))⟩] [2])
  .ret)))))))))) }
theorem a11_ok : okFn Try.prog 11 a11 = true := by kernel_rfl
/-- loop.example/g01215/laws.FnExactEndPours -/
def a12 : AFn := { np := 2, nt := 71, res := [.t 4], body :=
  (.seq (.region [⟨some 2, none, .p (.box 24 (.t 0))⟩,
    ⟨some 4, none, .p (.mv (.k (.c (C.bool false))))⟩] [1, 2])
  (.seq (.region [⟨some 14, none, .h (.load 24 true (.t 2))⟩,
    ⟨some 15, none, .h (.call (.f 38) [.t 14])⟩,
    ⟨some 16, none, .p (.mv (.t 1))⟩,
    ⟨some 17, none, .h (.call (.f 64) [.t 15, .t 16])⟩,
    ⟨some 13, none, .p (.mv (.t 17))⟩,
    ⟨some 18, none, .p (.ext (.t 13) 0)⟩,
    ⟨some 19, none, .p (.ext (.t 13) 1)⟩,
    ⟨some 5, none, .p (.mv (.t 18))⟩,
    ⟨some 6, none, .p (.mv (.t 19))⟩] [1, 2, 5, 6])
  (.seq (.region [⟨some 21, none, .h (.load 24 true (.t 2))⟩,
    ⟨some 22, none, .h (.call (.f 38) [.t 21])⟩,
    ⟨some 23, none, .p (.mv (.t 1))⟩,
    ⟨some 24, none, .h (.call (.f 65) [.t 22, .t 23])⟩,
    ⟨some 20, none, .p (.mv (.t 24))⟩,
    ⟨some 25, none, .p (.ext (.t 20) 0)⟩,
    ⟨some 26, none, .p (.ext (.t 20) 1)⟩,
    ⟨some 7, none, .p (.mv (.t 25))⟩,
    ⟨some 8, none, .p (.mv (.t 26))⟩] [1, 2, 5, 6, 7, 8])
  (.seq (.seq (.region [⟨some 27, none, .p (.mv (.t 7))⟩,
    ⟨some 28, none, .p (.mv (.t 5))⟩,
    ⟨some 29, none, .h (.call (.f 59) [.t 27, .t 28])⟩,
    ⟨some 30, none, .p (.un .not (.t 29))⟩,
    ⟨some 31, none, .p (.mv (.t 30))⟩,
    ⟨some 32, some (31, false), .p (.mv (.t 8))⟩,
    ⟨some 33, some (31, false), .p (.mv (.t 6))⟩,
    ⟨some 34, some (31, false), .p (.eqb true (.t 32) (.t 33))⟩,
    ⟨some 35, none, .p (.pick (.t 31) (.k (.c (C.bool true))) (.t 34))⟩] [1, 2, 5, 6, 7, 35])
  (.cond (.t 35)
  (.seq (.region [⟨some 4, none, .p (.mv (.k (.c (C.bool false))))⟩] [4])
  .ret)
  .skip))
  (.seq (.region [⟨some 9, none, .p (.mv (.k (.c (C.int .i64 1))))⟩] [1, 2, 5, 6, 7, 9])
  (.seq (.region [⟨some 36, none, .p (.mv (.t 7))⟩,
    ⟨some 37, none, .p (.mv (.t 9))⟩,
    ⟨some 38, none, .h (.call (.f 66) [.t 36, .t 37])⟩,
    ⟨some 9, none, .p (.mv (.t 38))⟩] [1, 2, 5, 6, 7, 9])
  (.seq (.region [⟨some 10, none, .p (.mv (.k (.c (C.int .i64 1))))⟩] [1, 2, 5, 6, 7, 9, 10])
  (.seq (.region [⟨some 39, none, .p (.mv (.t 7))⟩,
    ⟨some 40, none, .p (.mv (.t 10))⟩,
    ⟨some 41, none, .h (.call (.f 67) [.t 39, .t 40])⟩,
    ⟨some 10, none, .p (.mv (.t 41))⟩] [1, 2, 5, 6, 7, 9, 10])
  (.seq (.seq (.region [⟨some 42, none, .p (.mv (.t 10))⟩,
    ⟨some 43, none, .p (.bin .lss (.t 42) (.k (.c (C.int .i64 0))))⟩] [1, 2, 5, 6, 7, 9, 10, 43])
  (.cond (.t 43)
  (.seq (.region [⟨some 4, none, .p (.mv (.k (.c (C.bool false))))⟩] [4])
  .ret)
  .skip))
  (.seq (.seq (.region [⟨some 44, none, .p (.mv (.t 10))⟩,
    ⟨some 45, none, .p (.mv (.t 9))⟩,
    ⟨some 46, none, .p (.bin .neq (.t 44) (.t 45))⟩] [1, 2, 5, 6, 7, 9, 46])
  (.cond (.t 46)
  (.seq (.region [⟨some 4, none, .p (.mv (.k (.c (C.bool false))))⟩] [4])
  .ret)
  .skip))
  (.seq (.region [⟨some 48, none, .h (.load 24 true (.t 2))⟩,
    ⟨some 49, none, .h (.call (.f 38) [.t 48])⟩,
    ⟨some 50, none, .p (.mv (.t 1))⟩,
    ⟨some 51, none, .h (.call (.f 65) [.t 49, .t 50])⟩,
    ⟨some 47, none, .p (.mv (.t 51))⟩,
    ⟨some 52, none, .p (.ext (.t 47) 0)⟩,
    ⟨some 53, none, .p (.ext (.t 47) 1)⟩,
    ⟨some 11, none, .p (.mv (.t 52))⟩,
    ⟨some 12, none, .p (.mv (.t 53))⟩] [5, 6, 7, 9, 11, 12])
  (.seq (.seq (.region [⟨some 54, none, .p (.mv (.t 11))⟩,
    ⟨some 55, none, .p (.mv (.t 5))⟩,
    ⟨some 56, none, .h (.call (.f 59) [.t 54, .t 55])⟩,
    ⟨some 57, none, .p (.un .not (.t 56))⟩,
    ⟨some 58, none, .p (.mv (.t 57))⟩,
    ⟨some 59, some (58, false), .p (.mv (.t 12))⟩,
    ⟨some 60, some (58, false), .p (.mv (.t 6))⟩,
    ⟨some 61, some (58, false), .p (.eqb true (.t 59) (.t 60))⟩,
    ⟨some 62, none, .p (.pick (.t 58) (.k (.c (C.bool true))) (.t 61))⟩] [7, 9, 62])
  (.cond (.t 62)
  (.seq (.region [⟨some 4, none, .p (.mv (.k (.c (C.bool false))))⟩] [4])
  .ret)
  .skip))
  (.seq (.region [⟨some 10, none, .p (.mv (.k (.c (C.int .i64 1))))⟩] [7, 9, 10])
  (.seq (.region [⟨some 63, none, .p (.mv (.t 7))⟩,
    ⟨some 64, none, .p (.mv (.t 10))⟩,
    ⟨some 65, none, .h (.call (.f 67) [.t 63, .t 64])⟩,
    ⟨some 10, none, .p (.mv (.t 65))⟩] [9, 10])
  (.seq (.seq (.region [⟨some 66, none, .p (.mv (.t 10))⟩,
    ⟨some 67, none, .p (.bin .lss (.t 66) (.k (.c (C.int .i64 0))))⟩] [9, 10, 67])
  (.cond (.t 67)
  (.seq (.region [⟨some 4, none, .p (.mv (.k (.c (C.bool false))))⟩] [4])
  .ret)
  .skip))
  (.seq (.seq (.region [⟨some 68, none, .p (.mv (.t 10))⟩,
    ⟨some 69, none, .p (.mv (.t 9))⟩,
    ⟨some 70, none, .p (.bin .neq (.t 68) (.t 69))⟩] [70])
  (.cond (.t 70)
  (.seq (.region [⟨some 4, none, .p (.mv (.k (.c (C.bool false))))⟩] [4])
  .ret)
  .skip))
  (.seq (.region [⟨some 4, none, .p (.mv (.k (.c (C.bool true))))⟩] [4])
  .ret))))))))))))))))) }
theorem a12_ok : okFn Try.prog 12 a12 = true := by kernel_rfl
/-- loop.example/g01215/laws.FnExactCanHurt -/
def a13 : AFn := { np := 1, nt := 66, res := [.t 2], body :=
  (.seq (.region [⟨some 1, none, .p (.box 24 (.t 0))⟩,
    ⟨some 2, none, .p (.mv (.k (.c (C.bool false))))⟩] [1])
  (.seq (.region [⟨some 12, none, .h (.load 24 true (.t 1))⟩,
    ⟨some 13, none, .h (.call (.f 38) [.t 12])⟩,
    ⟨some 14, none, .h (.call (.f 68) [.t 13])⟩,
    ⟨some 11, none, .p (.mv (.t 14))⟩,
    ⟨some 15, none, .p (.ext (.t 11) 0)⟩,
    ⟨some 16, none, .p (.ext (.t 11) 1)⟩,
    ⟨some 3, none, .p (.mv (.t 15))⟩,
    ⟨some 4, none, .p (.mv (.t 16))⟩] [1, 3, 4])
  (.seq (.region [⟨some 18, none, .h (.load 24 true (.t 1))⟩,
    ⟨some 19, none, .h (.call (.f 38) [.t 18])⟩,
    ⟨some 20, none, .h (.call (.f 69) [.t 19])⟩,
    ⟨some 17, none, .p (.mv (.t 20))⟩,
    ⟨some 21, none, .p (.ext (.t 17) 0)⟩,
    ⟨some 22, none, .p (.ext (.t 17) 1)⟩,
    ⟨some 5, none, .p (.mv (.t 21))⟩,
    ⟨some 6, none, .p (.mv (.t 22))⟩] [1, 3, 4, 5, 6])
  (.seq (.seq (.region [⟨some 23, none, .p (.mv (.t 5))⟩,
    ⟨some 24, none, .p (.mv (.t 3))⟩,
    ⟨some 25, none, .h (.call (.f 59) [.t 23, .t 24])⟩,
    ⟨some 26, none, .p (.un .not (.t 25))⟩,
    ⟨some 27, none, .p (.mv (.t 26))⟩,
    ⟨some 28, some (27, false), .p (.mv (.t 6))⟩,
    ⟨some 29, some (27, false), .p (.mv (.t 4))⟩,
    ⟨some 30, some (27, false), .p (.eqb true (.t 28) (.t 29))⟩,
    ⟨some 31, none, .p (.pick (.t 27) (.k (.c (C.bool true))) (.t 30))⟩] [1, 3, 4, 5, 31])
  (.cond (.t 31)
  (.seq (.region [⟨some 2, none, .p (.mv (.k (.c (C.bool false))))⟩] [2])
  .ret)
  .skip))
  (.seq (.region [⟨some 7, none, .p (.mv (.k (.c (C.int .i64 1))))⟩] [1, 3, 4, 5, 7])
  (.seq (.region [⟨some 32, none, .p (.mv (.t 5))⟩,
    ⟨some 33, none, .p (.mv (.t 7))⟩,
    ⟨some 34, none, .h (.call (.f 66) [.t 32, .t 33])⟩,
    ⟨some 7, none, .p (.mv (.t 34))⟩] [1, 3, 4, 5, 7])
  (.seq (.region [⟨some 8, none, .p (.mv (.k (.c (C.int .i64 1))))⟩] [1, 3, 4, 5, 7, 8])
  (.seq (.region [⟨some 35, none, .p (.mv (.t 5))⟩,
    ⟨some 36, none, .p (.mv (.t 8))⟩,
    ⟨some 37, none, .h (.call (.f 67) [.t 35, .t 36])⟩,
    ⟨some 8, none, .p (.mv (.t 37))⟩] [1, 3, 4, 5, 7, 8])
  (.seq (.seq (.region [⟨some 38, none, .p (.mv (.t 8))⟩,
    ⟨some 39, none, .p (.bin .lss (.t 38) (.k (.c (C.int .i64 0))))⟩] [1, 3, 4, 5, 7, 8, 39])
  (.cond (.t 39)
  (.seq (.region [⟨some 2, none, .p (.mv (.k (.c (C.bool false))))⟩] [2])
  .ret)
  .skip))
  (.seq (.seq (.region [⟨some 40, none, .p (.mv (.t 8))⟩,
    ⟨some 41, none, .p (.mv (.t 7))⟩,
    ⟨some 42, none, .p (.bin .neq (.t 40) (.t 41))⟩] [1, 3, 4, 5, 7, 42])
  (.cond (.t 42)
  (.seq (.region [⟨some 2, none, .p (.mv (.k (.c (C.bool false))))⟩] [2])
  .ret)
  .skip))
  (.seq (.region [⟨some 44, none, .h (.load 24 true (.t 1))⟩,
    ⟨some 45, none, .h (.call (.f 38) [.t 44])⟩,
    ⟨some 46, none, .h (.call (.f 69) [.t 45])⟩,
    ⟨some 43, none, .p (.mv (.t 46))⟩,
    ⟨some 47, none, .p (.ext (.t 43) 0)⟩,
    ⟨some 48, none, .p (.ext (.t 43) 1)⟩,
    ⟨some 9, none, .p (.mv (.t 47))⟩,
    ⟨some 10, none, .p (.mv (.t 48))⟩] [3, 4, 5, 7, 9, 10])
  (.seq (.seq (.region [⟨some 49, none, .p (.mv (.t 9))⟩,
    ⟨some 50, none, .p (.mv (.t 3))⟩,
    ⟨some 51, none, .h (.call (.f 59) [.t 49, .t 50])⟩,
    ⟨some 52, none, .p (.un .not (.t 51))⟩,
    ⟨some 53, none, .p (.mv (.t 52))⟩,
    ⟨some 54, some (53, false), .p (.mv (.t 10))⟩,
    ⟨some 55, some (53, false), .p (.mv (.t 4))⟩,
    ⟨some 56, some (53, false), .p (.eqb true (.t 54) (.t 55))⟩,
    ⟨some 57, none, .p (.pick (.t 53) (.k (.c (C.bool true))) (.t 56))⟩] [5, 7, 57])
  (.cond (.t 57)
  (.seq (.region [⟨some 2, none, .p (.mv (.k (.c (C.bool false))))⟩] [2])
  .ret)
  .skip))
  (.seq (.region [⟨some 8, none, .p (.mv (.k (.c (C.int .i64 1))))⟩] [5, 7, 8])
  (.seq (.region [⟨some 58, none, .p (.mv (.t 5))⟩,
    ⟨some 59, none, .p (.mv (.t 8))⟩,
    ⟨some 60, none, .h (.call (.f 67) [.t 58, .t 59])⟩,
    ⟨some 8, none, .p (.mv (.t 60))⟩] [7, 8])
  (.seq (.seq (.region [⟨some 61, none, .p (.mv (.t 8))⟩,
    ⟨some 62, none, .p (.bin .lss (.t 61) (.k (.c (C.int .i64 0))))⟩] [7, 8, 62])
  (.cond (.t 62)
  (.seq (.region [⟨some 2, none, .p (.mv (.k (.c (C.bool false))))⟩] [2])
  .ret)
  .skip))
  (.seq (.seq (.region [⟨some 63, none, .p (.mv (.t 8))⟩,
    ⟨some 64, none, .p (.mv (.t 7))⟩,
    ⟨some 65, none, .p (.bin .neq (.t 63) (.t 64))⟩] [65])
  (.cond (.t 65)
  (.seq (.region [⟨some 2, none, .p (.mv (.k (.c (C.bool false))))⟩] [2])
  .ret)
  .skip))
  (.seq (.region [⟨some 2, none, .p (.mv (.k (.c (C.bool true))))⟩] [2])
  .ret))))))))))))))))) }
theorem a13_ok : okFn Try.prog 13 a13 = true := by kernel_rfl
/-- loop.example/g01215/laws.FnExactCanSwap -/
def a14 : AFn := { np := 2, nt := 44, res := [.t 4], body :=
  (.seq (.region [⟨some 2, none, .p (.box 25 (.t 0))⟩,
    ⟨some 4, none, .p (.mv (.k (.c (C.bool false))))⟩] [1, 2])
  (.seq (.region [⟨some 5, none, .p (.mv (.k (.c (C.int .i64 1048576))))⟩] [1, 2, 5])
  (.seq (.region [⟨some 11, none, .h (.load 25 true (.t 2))⟩,
    ⟨some 12, none, .p (.mv (.t 5))⟩,
    ⟨some 13, none, .h (.call (.f 47) [.t 11, .t 12])⟩,
    ⟨some 5, none, .p (.mv (.t 13))⟩] [1, 2, 5])
  (.seq (.seq (.region [⟨some 14, none, .p (.mv (.t 5))⟩,
    ⟨some 15, none, .p (.bin .lss (.t 14) (.k (.c (C.int .i64 0))))⟩] [1, 2, 15])
  (.cond (.t 15)
  (.seq (.region [⟨some 4, none, .p (.mv (.k (.c (C.bool true))))⟩] [4])
  .ret)
  .skip))
  (.seq (.region [⟨some 17, none, .h (.load 25 true (.t 2))⟩,
    ⟨some 18, none, .h (.call (.f 49) [.t 17])⟩,
    ⟨some 19, none, .p (.mv (.t 1))⟩,
    ⟨some 20, none, .h (.call (.f 70) [.t 18, .t 19])⟩,
    ⟨some 16, none, .p (.mv (.t 20))⟩,
    ⟨some 21, none, .p (.ext (.t 16) 0)⟩,
    ⟨some 22, none, .p (.ext (.t 16) 1)⟩,
    ⟨some 6, none, .p (.mv (.t 21))⟩,
    ⟨some 7, none, .p (.mv (.t 22))⟩] [1, 2, 6, 7])
  (.seq (.region [⟨some 23, none, .h (.load 25 true (.t 2))⟩,
    ⟨some 24, none, .h (.call (.f 49) [.t 23])⟩,
    ⟨some 8, none, .p (.alloc [.k (C.int .i64 0), .k (C.int .i64 0), .k (C.int .i64 0), .k (C.int .i64 0), .k (C.int .i64 0), .k (C.int .i64 0), .k (C.int .i64 0), .k (C.int .i64 0), .k (C.int .i64 0), .k (C.int .i64 0), .k (C.int .i64 0), .k (C.int .i64 0), .k (C.int .i64 0), .k (C.int .i64 0), .k (C.int .i64 0), .k (C.int .i64 0), .k (C.int .i64 0), .k (C.int .i64 0), .k (C.int .i64 0), .k (C.int .i64 0), .k (C.int .i64 0), .k (C.int .i64 0), .k (C.int .i64 0), .k (C.int .i64 0), .sl 2])⟩,
    ⟨none, none, .h (.store 25 (.t 8) (.t 24))⟩] [1, 2, 6, 7, 8])
  (.seq (.region [⟨some 26, none, .h (.load 25 true (.t 8))⟩,
    ⟨some 27, none, .p (.mv (.t 1))⟩,
    ⟨some 28, none, .h (.call (.f 71) [.t 26, .t 27])⟩,
    ⟨some 25, none, .p (.mv (.t 28))⟩,
    ⟨some 29, none, .p (.ext (.t 25) 0)⟩,
    ⟨some 30, none, .p (.ext (.t 25) 1)⟩,
    ⟨some 9, none, .p (.mv (.t 29))⟩,
    ⟨some 10, none, .p (.mv (.t 30))⟩] [2, 6, 7, 8, 9, 10])
  (.seq (.seq (.region [⟨some 31, none, .p (.mv (.t 9))⟩,
    ⟨some 32, none, .p (.mv (.t 6))⟩,
    ⟨some 33, none, .p (.eqb true (.t 31) (.t 32))⟩,
    ⟨some 34, none, .p (.mv (.t 33))⟩,
    ⟨some 35, some (34, false), .p (.mv (.t 10))⟩,
    ⟨some 36, some (34, false), .p (.mv (.t 7))⟩,
    ⟨some 37, some (34, false), .p (.eqb true (.t 35) (.t 36))⟩,
    ⟨some 38, none, .p (.pick (.t 34) (.k (.c (C.bool true))) (.t 37))⟩] [2, 8, 38])
  (.cond (.t 38)
  (.seq (.region [⟨some 4, none, .p (.mv (.k (.c (C.bool false))))⟩] [4])
  .ret)
  .skip))
  (.seq (.seq (.regionE [⟨some 39, none, .h (.load 25 true (.t 8))⟩,
    ⟨some 40, none, .h (.load 25 true (.t 2))⟩,
    ⟨some 41, none, .h (.call (.f 49) [.t 40])⟩,
    ⟨some 42, none, .h (.call (.f 51) [.t 39, .t 41])⟩,
    ⟨some 43, none, .p (.un .not (.t 42))⟩] [43] [] [[], [], [], [2]])
  (.cond (.t 43)
  (.seq (.region [⟨some 4, none, .p (.mv (.k (.c (C.bool false))))⟩] [4])
  .ret)
  .skip))
  (.seq (.region [⟨some 4, none, .p (.mv (.k (.c (C.bool true))))⟩] [4])
  .ret)))))))))) }
theorem a14_ok : okFn Try.prog 14 a14 = true := by kernel_rfl
/-- loop.example/g01215/laws.FnExactFirstBest -/
def a15 : AFn := { np := 2, nt := 32, res := [.t 4], body :=
  (.seq (.region [⟨some 2, none, .p (.box 24 (.t 0))⟩,
    ⟨some 4, none, .p (.mv (.k (.c (C.bool false))))⟩] [1, 2])
  (.seq (.region [⟨some 10, none, .h (.load 24 true (.t 2))⟩,
    ⟨some 11, none, .h (.call (.f 38) [.t 10])⟩,
    ⟨some 12, none, .p (.mv (.t 1))⟩,
    ⟨some 13, none, .h (.call (.f 72) [.t 11, .t 12])⟩,
    ⟨some 9, none, .p (.mv (.t 13))⟩,
    ⟨some 14, none, .p (.ext (.t 9) 0)⟩,
    ⟨some 15, none, .p (.ext (.t 9) 1)⟩,
    ⟨some 5, none, .p (.alloc [.k (C.int .i64 0), .k (C.int .i64 0)])⟩,
    ⟨none, none, .h (.store 2 (.t 5) (.t 14))⟩,
    ⟨some 6, none, .p (.mv (.t 15))⟩] [1, 2, 5, 6])
  (.seq (.region [⟨some 17, none, .h (.load 24 true (.t 2))⟩,
    ⟨some 18, none, .h (.call (.f 38) [.t 17])⟩,
    ⟨some 19, none, .p (.mv (.t 1))⟩,
    ⟨some 20, none, .h (.call (.f 73) [.t 18, .t 19])⟩,
    ⟨some 16, none, .p (.mv (.t 20))⟩,
    ⟨some 21, none, .p (.ext (.t 16) 0)⟩,
    ⟨some 22, none, .p (.ext (.t 16) 1)⟩,
    ⟨some 7, none, .p (.alloc [.k (C.int .i64 0), .k (C.int .i64 0)])⟩,
    ⟨none, none, .h (.store 2 (.t 7) (.t 21))⟩,
    ⟨some 8, none, .p (.mv (.t 22))⟩] [5, 6, 7, 8])
  (.seq (.seq (.region [⟨some 23, none, .h (.load 2 true (.t 7))⟩,
    ⟨some 24, none, .h (.load 2 true (.t 5))⟩,
    ⟨some 25, none, .h (.call (.f 36) [.t 23, .t 24])⟩,
    ⟨some 26, none, .p (.un .not (.t 25))⟩,
    ⟨some 27, none, .p (.mv (.t 26))⟩,
    ⟨some 28, some (27, false), .p (.mv (.t 8))⟩,
    ⟨some 29, some (27, false), .p (.mv (.t 6))⟩,
    ⟨some 30, some (27, false), .p (.eqb true (.t 28) (.t 29))⟩,
    ⟨some 31, none, .p (.pick (.t 27) (.k (.c (C.bool true))) (.t 30))⟩] [31])
  (.cond (.t 31)
  (.seq (.region [⟨some 4, none, .p (.mv (.k (.c (C.bool false))))⟩] [4])
  .ret)
  .skip))
  (.seq (.region [⟨some 4, none, .p (.mv (.k (.c (C.bool true))))⟩] [4])
  .ret))))) }
theorem a15_ok : okFn Try.prog 15 a15 = true := by kernel_rfl
/-- loop.example/g01215/laws.FnExactLoopsOf -/
def a16 : AFn := { np := 1, nt := 96, res := [.t 2], body :=
  (.seq (.region [⟨some 1, none, .p (.box 25 (.t 0))⟩,
    ⟨some 2, none, .p (.mv (.k (.c (C.bool false))))⟩] [1])
  (.seq (.region [⟨some 3, none, .p (.mv (.k (.c (C.int .i64 1048576))))⟩] [1, 3])
  (.seq (.region [⟨some 14, none, .h (.load 25 true (.t 1))⟩,
    ⟨some 15, none, .p (.mv (.t 3))⟩,
    ⟨some 16, none, .h (.call (.f 47) [.t 14, .t 15])⟩,
    ⟨some 3, none, .p (.mv (.t 16))⟩] [1, 3])
  (.seq (.seq (.region [⟨some 17, none, .p (.mv (.t 3))⟩,
    ⟨some 18, none, .p (.bin .lss (.t 17) (.k (.c (C.int .i64 0))))⟩] [1, 18])
  (.cond (.t 18)
  (.seq (.region [⟨some 2, none, .p (.mv (.k (.c (C.bool true))))⟩] [2])
  .ret)
  .skip))
  (.seq (.region [⟨some 20, none, .h (.load 25 true (.t 1))⟩,
    ⟨some 21, none, .h (.call (.f 49) [.t 20])⟩,
    ⟨some 22, none, .h (.call (.f 74) [.t 21])⟩,
    ⟨some 19, none, .p (.mv (.t 22))⟩,
    ⟨some 23, none, .p (.ext (.t 19) 0)⟩,
    ⟨some 24, none, .p (.ext (.t 19) 1)⟩,
    ⟨some 4, none, .p (.mv (.t 23))⟩,
    ⟨some 5, none, .p (.mv (.t 24))⟩] [1, 4, 5])
  (.seq (.region [⟨some 25, none, .h (.load 25 true (.t 1))⟩,
    ⟨some 26, none, .h (.call (.f 49) [.t 25])⟩,
    ⟨some 6, none, .p (.alloc [.k (C.int .i64 0), .k (C.int .i64 0), .k (C.int .i64 0), .k (C.int .i64 0), .k (C.int .i64 0), .k (C.int .i64 0), .k (C.int .i64 0), .k (C.int .i64 0), .k (C.int .i64 0), .k (C.int .i64 0), .k (C.int .i64 0), .k (C.int .i64 0), .k (C.int .i64 0), .k (C.int .i64 0), .k (C.int .i64 0), .k (C.int .i64 0), .k (C.int .i64 0), .k (C.int .i64 0), .k (C.int .i64 0), .k (C.int .i64 0), .k (C.int .i64 0), .k (C.int .i64 0), .k (C.int .i64 0), .k (C.int .i64 0), .sl 2])⟩,
    ⟨none, none, .h (.store 25 (.t 6) (.t 26))⟩] [1, 4, 5, 6])
  (.seq (.region [⟨some 28, none, .h (.load 25 true (.t 6))⟩,
    ⟨some 29, none, .h (.call (.f 75) [.t 28])⟩,
    ⟨some 27, none, .p (.mv (.t 29))⟩,
    ⟨some 30, none, .p (.ext (.t 27) 0)⟩,
    ⟨some 31, none, .p (.ext (.t 27) 1)⟩,
    ⟨some 7, none, .p (.mv (.t 30))⟩,
    ⟨some 8, none, .p (.mv (.t 31))⟩] [1, 4, 5, 6, 7, 8])
  (.seq (.seq (.region [⟨some 32, none, .p (.mv (.t 7))⟩,
    ⟨some 33, none, .p (.mv (.t 4))⟩,
    ⟨some 34, none, .h (.call (.f 59) [.t 32, .t 33])⟩,
    ⟨some 35, none, .p (.un .not (.t 34))⟩,
    ⟨some 36, none, .p (.mv (.t 35))⟩,
    ⟨some 37, some (36, false), .p (.mv (.t 8))⟩,
    ⟨some 38, some (36, false), .p (.mv (.t 5))⟩,
    ⟨some 39, some (36, false), .p (.eqb true (.t 37) (.t 38))⟩,
    ⟨some 40, none, .p (.pick (.t 36) (.k (.c (C.bool true))) (.t 39))⟩] [1, 4, 5, 6, 7, 8, 40])
  (.cond (.t 40)
  (.seq (.region [⟨some 2, none, .p (.mv (.k (.c (C.bool false))))⟩] [2])
  .ret)
  .skip))
  (.seq (.seq (.regionE [⟨some 41, none, .h (.load 25 true (.t 6))⟩,
    ⟨some 42, none, .h (.load 25 true (.t 1))⟩,
    ⟨some 43, none, .h (.call (.f 49) [.t 42])⟩,
    ⟨some 44, none, .h (.call (.f 51) [.t 41, .t 43])⟩,
    ⟨some 45, none, .p (.un .not (.t 44))⟩] [1, 4, 5, 6, 7, 8, 45] [] [[], [], [], [2]])
  (.cond (.t 45)
  (.seq (.region [⟨some 2, none, .p (.mv (.k (.c (C.bool false))))⟩] [2])
  .ret)
  .skip))
  (.seq (.region [⟨some 9, none, .p (.mv (.k (.c (C.int .i64 1))))⟩] [1, 4, 5, 6, 7, 8, 9])
  (.seq (.region [⟨some 46, none, .h (.load 25 true (.t 6))⟩,
    ⟨some 47, none, .p (.mv (.t 9))⟩,
    ⟨some 48, none, .h (.call (.f 76) [.t 46, .t 47])⟩,
    ⟨some 9, none, .p (.mv (.t 48))⟩] [1, 4, 5, 7, 8, 9])
  (.seq (.seq (.region [⟨some 49, none, .p (.mv (.t 9))⟩,
    ⟨some 50, none, .p (.bin .lss (.t 49) (.k (.c (C.int .i64 0))))⟩,
    ⟨some 51, none, .p (.mv (.t 50))⟩,
    ⟨some 52, some (51, false), .p (.mv (.t 7))⟩,
    ⟨some 53, some (51, false), .p (.mv (.t 4))⟩,
    ⟨some 54, some (51, false), .h (.call (.f 59) [.t 52, .t 53])⟩,
    ⟨some 55, some (51, false), .p (.un .not (.t 54))⟩,
    ⟨some 56, none, .p (.pick (.t 51) (.k (.c (C.bool true))) (.t 55))⟩,
    ⟨some 57, none, .p (.mv (.t 56))⟩,
    ⟨some 58, some (57, false), .p (.mv (.t 8))⟩,
    ⟨some 59, some (57, false), .p (.mv (.t 5))⟩,
    ⟨some 60, some (57, false), .p (.eqb true (.t 58) (.t 59))⟩,
    ⟨some 61, none, .p (.pick (.t 57) (.k (.c (C.bool true))) (.t 60))⟩] [1, 4, 5, 7, 61])
  (.cond (.t 61)
  (.seq (.region [⟨some 2, none, .p (.mv (.k (.c (C.bool false))))⟩] [2])
  .ret)
  .skip))
  (.seq (.region [⟨some 10, none, .p (.mv (.k (.c (C.int .i64 1))))⟩] [1, 4, 5, 7, 10])
  (.seq (.region [⟨some 62, none, .p (.mv (.t 7))⟩,
    ⟨some 63, none, .p (.mv (.t 10))⟩,
    ⟨some 64, none, .h (.call (.f 66) [.t 62, .t 63])⟩,
    ⟨some 10, none, .p (.mv (.t 64))⟩] [1, 4, 5, 7, 10])
  (.seq (.region [⟨some 11, none, .p (.mv (.k (.c (C.int .i64 1))))⟩] [1, 4, 5, 7, 10, 11])
  (.seq (.region [⟨some 65, none, .p (.mv (.t 7))⟩,
    ⟨some 66, none, .p (.mv (.t 11))⟩,
    ⟨some 67, none, .h (.call (.f 67) [.t 65, .t 66])⟩,
    ⟨some 11, none, .p (.mv (.t 67))⟩] [1, 4, 5, 7, 10, 11])
  (.seq (.seq (.region [⟨some 68, none, .p (.mv (.t 11))⟩,
    ⟨some 69, none, .p (.bin .lss (.t 68) (.k (.c (C.int .i64 0))))⟩] [1, 4, 5, 7, 10, 11, 69])
  (.cond (.t 69)
  (.seq (.region [⟨some 2, none, .p (.mv (.k (.c (C.bool false))))⟩] [2])
  .ret)
  .skip))
  (.seq (.seq (.region [⟨some 70, none, .p (.mv (.t 11))⟩,
    ⟨some 71, none, .p (.mv (.t 10))⟩,
    ⟨some 72, none, .p (.bin .neq (.t 70) (.t 71))⟩] [1, 4, 5, 7, 10, 72])
  (.cond (.t 72)
  (.seq (.region [⟨some 2, none, .p (.mv (.k (.c (C.bool false))))⟩] [2])
  .ret)
  .skip))
  (.seq (.region [⟨some 74, none, .h (.load 25 true (.t 1))⟩,
    ⟨some 75, none, .h (.call (.f 49) [.t 74])⟩,
    ⟨some 76, none, .h (.call (.f 75) [.t 75])⟩,
    ⟨some 73, none, .p (.mv (.t 76))⟩,
    ⟨some 77, none, .p (.ext (.t 73) 0)⟩,
    ⟨some 78, none, .p (.ext (.t 73) 1)⟩,
    ⟨some 12, none, .p (.mv (.t 77))⟩,
    ⟨some 13, none, .p (.mv (.t 78))⟩] [4, 5, 7, 10, 12, 13])
  (.seq (.seq (.region [⟨some 79, none, .p (.mv (.t 12))⟩,
    ⟨some 80, none, .p (.mv (.t 4))⟩,
    ⟨some 81, none, .h (.call (.f 59) [.t 79, .t 80])⟩,
    ⟨some 82, none, .p (.un .not (.t 81))⟩,
    ⟨some 83, none, .p (.mv (.t 82))⟩,
    ⟨some 84, some (83, false), .p (.mv (.t 13))⟩,
    ⟨some 85, some (83, false), .p (.mv (.t 5))⟩,
    ⟨some 86, some (83, false), .p (.eqb true (.t 84) (.t 85))⟩,
    ⟨some 87, none, .p (.pick (.t 83) (.k (.c (C.bool true))) (.t 86))⟩] [7, 10, 87])
  (.cond (.t 87)
  (.seq (.region [⟨some 2, none, .p (.mv (.k (.c (C.bool false))))⟩] [2])
  .ret)
  .skip))
  (.seq (.region [⟨some 11, none, .p (.mv (.k (.c (C.int .i64 1))))⟩] [7, 10, 11])
  (.seq (.region [⟨some 88, none, .p (.mv (.t 7))⟩,
    ⟨some 89, none, .p (.mv (.t 11))⟩,
    ⟨some 90, none, .h (.call (.f 67) [.t 88, .t 89])⟩,
    ⟨some 11, none, .p (.mv (.t 90))⟩] [10, 11])
  (.seq (.seq (.region [⟨some 91, none, .p (.mv (.t 11))⟩,
    ⟨some 92, none, .p (.bin .lss (.t 91) (.k (.c (C.int .i64 0))))⟩] [10, 11, 92])
  (.cond (.t 92)
  (.seq (.region [⟨some 2, none, .p (.mv (.k (.c (C.bool false))))⟩] [2])
  .ret)
  .skip))
  (.seq (.seq (.region [⟨some 93, none, .p (.mv (.t 11))⟩,
    ⟨some 94, none, .p (.mv (.t 10))⟩,
    ⟨some 95, none, .p (.bin .neq (.t 93) (.t 94))⟩] [95])
  (.cond (.t 95)
  (.seq (.region [⟨some 2, none, .p (.mv (.k (.c (C.bool false))))⟩] [2])
  .ret)
  .skip))
  (.seq (.region [⟨some 2, none, .p (.mv (.k (.c (C.bool true))))⟩] [2])
  .ret))))))))))))))))))))))))) }
theorem a16_ok : okFn Try.prog 16 a16 = true := by kernel_rfl
/-- loop.example/g01215/laws.FnExactDoesSolve -/
def a17 : AFn := { np := 1, nt := 40, res := [.t 2], body :=
  (.seq (.region [⟨some 1, none, .p (.box 25 (.t 0))⟩,
    ⟨some 2, none, .p (.mv (.k (.c (C.bool false))))⟩] [1])
  (.seq (.region [⟨some 3, none, .p (.mv (.k (.c (C.int .i64 1048576))))⟩] [1, 3])
  (.seq (.region [⟨some 9, none, .h (.load 25 true (.t 1))⟩,
    ⟨some 10, none, .p (.mv (.t 3))⟩,
    ⟨some 11, none, .h (.call (.f 47) [.t 9, .t 10])⟩,
    ⟨some 3, none, .p (.mv (.t 11))⟩] [1, 3])
  (.seq (.seq (.region [⟨some 12, none, .p (.mv (.t 3))⟩,
    ⟨some 13, none, .p (.bin .lss (.t 12) (.k (.c (C.int .i64 0))))⟩] [1, 13])
  (.cond (.t 13)
  (.seq (.region [⟨some 2, none, .p (.mv (.k (.c (C.bool true))))⟩] [2])
  .ret)
  .skip))
  (.seq (.region [⟨some 15, none, .h (.load 25 true (.t 1))⟩,
    ⟨some 16, none, .h (.call (.f 49) [.t 15])⟩,
    ⟨some 17, none, .h (.call (.f 77) [.t 16])⟩,
    ⟨some 14, none, .p (.mv (.t 17))⟩,
    ⟨some 18, none, .p (.ext (.t 14) 0)⟩,
    ⟨some 19, none, .p (.ext (.t 14) 1)⟩,
    ⟨some 4, none, .p (.mv (.t 18))⟩,
    ⟨some 5, none, .p (.mv (.t 19))⟩] [1, 4, 5])
  (.seq (.region [⟨some 20, none, .h (.load 25 true (.t 1))⟩,
    ⟨some 21, none, .h (.call (.f 49) [.t 20])⟩,
    ⟨some 6, none, .p (.alloc [.k (C.int .i64 0), .k (C.int .i64 0), .k (C.int .i64 0), .k (C.int .i64 0), .k (C.int .i64 0), .k (C.int .i64 0), .k (C.int .i64 0), .k (C.int .i64 0), .k (C.int .i64 0), .k (C.int .i64 0), .k (C.int .i64 0), .k (C.int .i64 0), .k (C.int .i64 0), .k (C.int .i64 0), .k (C.int .i64 0), .k (C.int .i64 0), .k (C.int .i64 0), .k (C.int .i64 0), .k (C.int .i64 0), .k (C.int .i64 0), .k (C.int .i64 0), .k (C.int .i64 0), .k (C.int .i64 0), .k (C.int .i64 0), .sl 2])⟩,
    ⟨none, none, .h (.store 25 (.t 6) (.t 21))⟩] [1, 4, 5, 6])
  (.seq (.region [⟨some 23, none, .h (.load 25 true (.t 6))⟩,
    ⟨some 24, none, .h (.call (.f 78) [.t 23])⟩,
    ⟨some 22, none, .p (.mv (.t 24))⟩,
    ⟨some 25, none, .p (.ext (.t 22) 0)⟩,
    ⟨some 26, none, .p (.ext (.t 22) 1)⟩,
    ⟨some 7, none, .p (.mv (.t 25))⟩,
    ⟨some 8, none, .p (.mv (.t 26))⟩] [1, 4, 5, 6, 7, 8])
  (.seq (.seq (.region [⟨some 27, none, .p (.mv (.t 7))⟩,
    ⟨some 28, none, .p (.mv (.t 4))⟩,
    ⟨some 29, none, .p (.eqb true (.t 27) (.t 28))⟩,
    ⟨some 30, none, .p (.mv (.t 29))⟩,
    ⟨some 31, some (30, false), .p (.mv (.t 8))⟩,
    ⟨some 32, some (30, false), .p (.mv (.t 5))⟩,
    ⟨some 33, some (30, false), .p (.eqb true (.t 31) (.t 32))⟩,
    ⟨some 34, none, .p (.pick (.t 30) (.k (.c (C.bool true))) (.t 33))⟩] [1, 6, 34])
  (.cond (.t 34)
  (.seq (.region [⟨some 2, none, .p (.mv (.k (.c (C.bool false))))⟩] [2])
  .ret)
  .skip))
  (.seq (.seq (.regionE [⟨some 35, none, .h (.load 25 true (.t 6))⟩,
    ⟨some 36, none, .h (.load 25 true (.t 1))⟩,
    ⟨some 37, none, .h (.call (.f 49) [.t 36])⟩,
    ⟨some 38, none, .h (.call (.f 51) [.t 35, .t 37])⟩,
    ⟨some 39, none, .p (.un .not (.t 38))⟩] [39] [] [[], [], [], [2]])
  (.cond (.t 39)
  (.seq (.region [⟨some 2, none, .p (.mv (.k (.c (C.bool false))))⟩] [2])
  .ret)
  .skip))
  (.seq (.region [⟨some 2, none, .p (.mv (.k (.c (C.bool true))))⟩] [2])
  .ret)))))))))) }
theorem a17_ok : okFn Try.prog 17 a17 = true := by kernel_rfl
/-- loop.example/g01215/laws.FnExactTubePours -/
def a18 : AFn := { np := 2, nt := 71, res := [.t 4], body :=
  (.seq (.region [⟨some 2, none, .p (.box 24 (.t 0))⟩,
    ⟨some 4, none, .p (.mv (.k (.c (C.bool false))))⟩] [1, 2])
  (.seq (.region [⟨some 14, none, .h (.load 24 true (.t 2))⟩,
    ⟨some 15, none, .h (.call (.f 38) [.t 14])⟩,
    ⟨some 16, none, .p (.mv (.t 1))⟩,
    ⟨some 17, none, .h (.call (.f 79) [.t 15, .t 16])⟩,
    ⟨some 13, none, .p (.mv (.t 17))⟩,
    ⟨some 18, none, .p (.ext (.t 13) 0)⟩,
    ⟨some 19, none, .p (.ext (.t 13) 1)⟩,
    ⟨some 5, none, .p (.mv (.t 18))⟩,
    ⟨some 6, none, .p (.mv (.t 19))⟩] [1, 2, 5, 6])
  (.seq (.region [⟨some 21, none, .h (.load 24 true (.t 2))⟩,
    ⟨some 22, none, .h (.call (.f 38) [.t 21])⟩,
    ⟨some 23, none, .p (.mv (.t 1))⟩,
    ⟨some 24, none, .h (.call (.f 80) [.t 22, .t 23])⟩,
    ⟨some 20, none, .p (.mv (.t 24))⟩,
    ⟨some 25, none, .p (.ext (.t 20) 0)⟩,
    ⟨some 26, none, .p (.ext (.t 20) 1)⟩,
    ⟨some 7, none, .p (.mv (.t 25))⟩,
    ⟨some 8, none, .p (.mv (.t 26))⟩] [1, 2, 5, 6, 7, 8])
  (.seq (.seq (.region [⟨some 27, none, .p (.mv (.t 7))⟩,
    ⟨some 28, none, .p (.mv (.t 5))⟩,
    ⟨some 29, none, .h (.call (.f 59) [.t 27, .t 28])⟩,
    ⟨some 30, none, .p (.un .not (.t 29))⟩,
    ⟨some 31, none, .p (.mv (.t 30))⟩,
    ⟨some 32, some (31, false), .p (.mv (.t 8))⟩,
    ⟨some 33, some (31, false), .p (.mv (.t 6))⟩,
    ⟨some 34, some (31, false), .p (.eqb true (.t 32) (.t 33))⟩,
    ⟨some 35, none, .p (.pick (.t 31) (.k (.c (C.bool true))) (.t 34))⟩] [1, 2, 5, 6, 7, 35])
  (.cond (.t 35)
  (.seq (.region [⟨some 4, none, .p (.mv (.k (.c (C.bool false))))⟩] [4])
  .ret)
  .skip))
  (.seq (.region [⟨some 9, none, .p (.mv (.k (.c (C.int .i64 1))))⟩] [1, 2, 5, 6, 7, 9])
  (.seq (.region [⟨some 36, none, .p (.mv (.t 7))⟩,
    ⟨some 37, none, .p (.mv (.t 9))⟩,
    ⟨some 38, none, .h (.call (.f 66) [.t 36, .t 37])⟩,
    ⟨some 9, none, .p (.mv (.t 38))⟩] [1, 2, 5, 6, 7, 9])
  (.seq (.region [⟨some 10, none, .p (.mv (.k (.c (C.int .i64 1))))⟩] [1, 2, 5, 6, 7, 9, 10])
  (.seq (.region [⟨some 39, none, .p (.mv (.t 7))⟩,
    ⟨some 40, none, .p (.mv (.t 10))⟩,
    ⟨some 41, none, .h (.call (.f 67) [.t 39, .t 40])⟩,
    ⟨some 10, none, .p (.mv (.t 41))⟩] [1, 2, 5, 6, 7, 9, 10])
  (.seq (.seq (.region [⟨some 42, none, .p (.mv (.t 10))⟩,
    ⟨some 43, none, .p (.bin .lss (.t 42) (.k (.c (C.int .i64 0))))⟩] [1, 2, 5, 6, 7, 9, 10, 43])
  (.cond (.t 43)
  (.seq (.region [⟨some 4, none, .p (.mv (.k (.c (C.bool false))))⟩] [4])
  .ret)
  .skip))
  (.seq (.seq (.region [⟨some 44, none, .p (.mv (.t 10))⟩,
    ⟨some 45, none, .p (.mv (.t 9))⟩,
    ⟨some 46, none, .p (.bin .neq (.t 44) (.t 45))⟩] [1, 2, 5, 6, 7, 9, 46])
  (.cond (.t 46)
  (.seq (.region [⟨some 4, none, .p (.mv (.k (.c (C.bool false))))⟩] [4])
  .ret)
  .skip))
  (.seq (.region [⟨some 48, none, .h (.load 24 true (.t 2))⟩,
    ⟨some 49, none, .h (.call (.f 38) [.t 48])⟩,
    ⟨some 50, none, .p (.mv (.t 1))⟩,
    ⟨some 51, none, .h (.call (.f 80) [.t 49, .t 50])⟩,
    ⟨some 47, none, .p (.mv (.t 51))⟩,
    ⟨some 52, none, .p (.ext (.t 47) 0)⟩,
    ⟨some 53, none, .p (.ext (.t 47) 1)⟩,
    ⟨some 11, none, .p (.mv (.t 52))⟩,
    ⟨some 12, none, .p (.mv (.t 53))⟩] [5, 6, 7, 9, 11, 12])
  (.seq (.seq (.region [⟨some 54, none, .p (.mv (.t 11))⟩,
    ⟨some 55, none, .p (.mv (.t 5))⟩,
    ⟨some 56, none, .h (.call (.f 59) [.t 54, .t 55])⟩,
    ⟨some 57, none, .p (.un .not (.t 56))⟩,
    ⟨some 58, none, .p (.mv (.t 57))⟩,
    ⟨some 59, some (58, false), .p (.mv (.t 12))⟩,
    ⟨some 60, some (58, false), .p (.mv (.t 6))⟩,
    ⟨some 61, some (58, false), .p (.eqb true (.t 59) (.t 60))⟩,
    ⟨some 62, none, .p (.pick (.t 58) (.k (.c (C.bool true))) (.t 61))⟩] [7, 9, 62])
  (.cond (.t 62)
  (.seq (.region [⟨some 4, none, .p (.mv (.k (.c (C.bool false))))⟩] [4])
  .ret)
  .skip))
  (.seq (.region [⟨some 10, none, .p (.mv (.k (.c (C.int .i64 1))))⟩] [7, 9, 10])
  (.seq (.region [⟨some 63, none, .p (.mv (.t 7))⟩,
    ⟨some 64, none, .p (.mv (.t 10))⟩,
    ⟨some 65, none, .h (.call (.f 67) [.t 63, .t 64])⟩,
    ⟨some 10, none, .p (.mv (.t 65))⟩] [9, 10])
  (.seq (.seq (.region [⟨some 66, none, .p (.mv (.t 10))⟩,
    ⟨some 67, none, .p (.bin .lss (.t 66) (.k (.c (C.int .i64 0))))⟩] [9, 10, 67])
  (.cond (.t 67)
  (.seq (.region [⟨some 4, none, .p (.mv (.k (.c (C.bool false))))⟩] [4])
  .ret)
  .skip))
  (.seq (.seq (.region [⟨some 68, none, .p (.mv (.t 10))⟩,
    ⟨some 69, none, .p (.mv (.t 9))⟩,
    ⟨some 70, none, .p (.bin .neq (.t 68) (.t 69))⟩] [70])
  (.cond (.t 70)
  (.seq (.region [⟨some 4, none, .p (.mv (.k (.c (C.bool false))))⟩] [4])
  .ret)
  .skip))
  (.seq (.region [⟨some 4, none, .p (.mv (.k (.c (C.bool true))))⟩] [4])
  .ret))))))))))))))))) }
theorem a18_ok : okFn Try.prog 18 a18 = true := by kernel_rfl
/-- loop.example/g01215/laws.FnExactAddPour -/
def a19 : AFn := { np := 2, nt := 104, res := [.t 4], body :=
  (.seq (.region [⟨some 2, none, .p (.box 25 (.t 0))⟩,
    ⟨some 3, none, .p (.box 2 (.t 1))⟩,
    ⟨some 4, none, .p (.mv (.k (.c (C.bool false))))⟩] [2, 3])
  (.seq (.region [⟨some 5, none, .p (.mv (.k (.c (C.int .i64 1048576))))⟩] [2, 3, 5])
  (.seq (.region [⟨some 16, none, .h (.load 25 true (.t 2))⟩,
    ⟨some 17, none, .p (.mv (.t 5))⟩,
    ⟨some 18, none, .h (.call (.f 47) [.t 16, .t 17])⟩,
    ⟨some 5, none, .p (.mv (.t 18))⟩] [2, 3, 5])
  (.seq (.seq (.region [⟨some 19, none, .p (.mv (.t 5))⟩,
    ⟨some 20, none, .p (.bin .lss (.t 19) (.k (.c (C.int .i64 0))))⟩] [2, 3, 20])
  (.cond (.t 20)
  (.seq (.region [⟨some 4, none, .p (.mv (.k (.c (C.bool true))))⟩] [4])
  .ret)
  .skip))
  (.seq (.regionE [⟨some 22, none, .h (.load 25 true (.t 2))⟩,
    ⟨some 23, none, .h (.call (.f 49) [.t 22])⟩,
    ⟨some 24, none, .h (.load 2 true (.t 3))⟩,
    ⟨some 25, none, .h (.call (.f 82) [.t 24])⟩,
    ⟨some 26, none, .h (.call (.f 81) [.t 23, .t 25])⟩,
    ⟨some 21, none, .p (.mv (.t 26))⟩,
    ⟨some 27, none, .p (.ext (.t 21) 0)⟩,
    ⟨some 28, none, .p (.ext (.t 21) 1)⟩,
    ⟨some 6, none, .p (.alloc [.k (C.int .i64 0), .k (C.int .i64 0), .k (C.int .i64 0), .k (C.int .i64 0), .k (C.int .i64 0), .k (C.int .i64 0), .k (C.int .i64 0), .k (C.int .i64 0), .k (C.int .i64 0), .k (C.int .i64 0), .k (C.int .i64 0), .k (C.int .i64 0), .k (C.int .i64 0), .k (C.int .i64 0), .k (C.int .i64 0), .k (C.int .i64 0), .k (C.int .i64 0), .k (C.int .i64 0), .k (C.int .i64 0), .k (C.int .i64 0), .k (C.int .i64 0), .k (C.int .i64 0), .k (C.int .i64 0), .k (C.int .i64 0), .sl 2])⟩,
    ⟨none, none, .h (.store 25 (.t 6) (.t 27))⟩,
    ⟨some 7, none, .p (.mv (.t 28))⟩] [2, 3, 6, 7] [] [[], [], [], [1], [1, 3]])
  (.seq (.region [⟨some 29, none, .h (.load 25 true (.t 2))⟩,
    ⟨some 30, none, .h (.call (.f 49) [.t 29])⟩,
    ⟨some 8, none, .p (.alloc [.k (C.int .i64 0), .k (C.int .i64 0), .k (C.int .i64 0), .k (C.int .i64 0), .k (C.int .i64 0), .k (C.int .i64 0), .k (C.int .i64 0), .k (C.int .i64 0), .k (C.int .i64 0), .k (C.int .i64 0), .k (C.int .i64 0), .k (C.int .i64 0), .k (C.int .i64 0), .k (C.int .i64 0), .k (C.int .i64 0), .k (C.int .i64 0), .k (C.int .i64 0), .k (C.int .i64 0), .k (C.int .i64 0), .k (C.int .i64 0), .k (C.int .i64 0), .k (C.int .i64 0), .k (C.int .i64 0), .k (C.int .i64 0), .sl 2])⟩,
    ⟨none, none, .h (.store 25 (.t 8) (.t 30))⟩] [2, 3, 6, 7, 8])
  (.seq (.regionD [⟨some 32, none, .h (.load 25 true (.t 8))⟩,
    ⟨some 33, none, .h (.load 2 true (.t 3))⟩,
    ⟨some 34, none, .h (.call (.f 82) [.t 33])⟩,
    ⟨some 35, none, .h (.call (.f 83) [.t 32, .t 34])⟩,
    ⟨some 31, none, .p (.mv (.t 35))⟩,
    ⟨some 36, none, .p (.ext (.t 31) 0)⟩,
    ⟨some 37, none, .p (.ext (.t 31) 1)⟩,
    ⟨some 9, none, .p (.alloc [.k (C.int .i64 0), .k (C.int .i64 0), .k (C.int .i64 0), .k (C.int .i64 0), .k (C.int .i64 0), .k (C.int .i64 0), .k (C.int .i64 0), .k (C.int .i64 0), .k (C.int .i64 0), .k (C.int .i64 0), .k (C.int .i64 0), .k (C.int .i64 0), .k (C.int .i64 0), .k (C.int .i64 0), .k (C.int .i64 0), .k (C.int .i64 0), .k (C.int .i64 0), .k (C.int .i64 0), .k (C.int .i64 0), .k (C.int .i64 0), .k (C.int .i64 0), .k (C.int .i64 0), .k (C.int .i64 0), .k (C.int .i64 0), .sl 2])⟩,
    ⟨none, none, .h (.store 25 (.t 9) (.t 36))⟩,
    ⟨some 10, none, .p (.mv (.t 37))⟩] [2, 3, 6, 7, 8, 9, 10] [])
  (.seq (.seq (.region [⟨some 38, none, .h (.load 25 true (.t 9))⟩,
    ⟨some 39, none, .h (.load 25 true (.t 6))⟩,
    ⟨some 40, none, .h (.call (.f 51) [.t 38, .t 39])⟩,
    ⟨some 41, none, .p (.un .not (.t 40))⟩,
    ⟨some 42, none, .p (.mv (.t 41))⟩,
    ⟨some 43, some (42, false), .p (.mv (.t 10))⟩,
    ⟨some 44, some (42, false), .p (.mv (.t 7))⟩,
    ⟨some 45, some (42, false), .p (.eqb true (.t 43) (.t 44))⟩,
    ⟨some 46, none, .p (.pick (.t 42) (.k (.c (C.bool true))) (.t 45))⟩] [2, 3, 6, 7, 8, 9, 10, 46])
  (.cond (.t 46)
  (.seq (.region [⟨some 4, none, .p (.mv (.k (.c (C.bool false))))⟩] [4])
  .ret)
  .skip))
  (.seq (.seq (.regionE [⟨some 47, none, .h (.load 25 true (.t 8))⟩,
    ⟨some 48, none, .h (.load 25 true (.t 2))⟩,
    ⟨some 49, none, .h (.call (.f 49) [.t 48])⟩,
    ⟨some 50, none, .h (.call (.f 51) [.t 47, .t 49])⟩,
    ⟨some 51, none, .p (.un .not (.t 50))⟩] [2, 3, 6, 7, 8, 9, 10, 51] [] [[], [], [], [2]])
  (.cond (.t 51)
  (.seq (.region [⟨some 4, none, .p (.mv (.k (.c (C.bool false))))⟩] [4])
  .ret)
  .skip))
  (.seq (.region [⟨some 11, none, .p (.mv (.k (.c (C.int .i64 1))))⟩] [2, 3, 6, 7, 8, 9, 10, 11])
  (.seq (.region [⟨some 52, none, .h (.load 25 true (.t 8))⟩,
    ⟨some 53, none, .p (.mv (.t 11))⟩,
    ⟨some 54, none, .h (.call (.f 76) [.t 52, .t 53])⟩,
    ⟨some 11, none, .p (.mv (.t 54))⟩] [2, 3, 6, 7, 9, 10, 11])
  (.seq (.seq (.region [⟨some 55, none, .p (.mv (.t 11))⟩,
    ⟨some 56, none, .p (.bin .lss (.t 55) (.k (.c (C.int .i64 0))))⟩,
    ⟨some 57, none, .p (.mv (.t 56))⟩,
    ⟨some 58, some (57, false), .h (.load 25 true (.t 9))⟩,
    ⟨some 59, some (57, false), .h (.load 25 true (.t 6))⟩,
    ⟨some 60, some (57, false), .h (.call (.f 51) [.t 58, .t 59])⟩,
    ⟨some 61, some (57, false), .p (.un .not (.t 60))⟩,
    ⟨some 62, none, .p (.pick (.t 57) (.k (.c (C.bool true))) (.t 61))⟩,
    ⟨some 63, none, .p (.mv (.t 62))⟩,
    ⟨some 64, some (63, false), .p (.mv (.t 10))⟩,
    ⟨some 65, some (63, false), .p (.mv (.t 7))⟩,
    ⟨some 66, some (63, false), .p (.eqb true (.t 64) (.t 65))⟩,
    ⟨some 67, none, .p (.pick (.t 63) (.k (.c (C.bool true))) (.t 66))⟩] [2, 3, 6, 7, 9, 67])
  (.cond (.t 67)
  (.seq (.region [⟨some 4, none, .p (.mv (.k (.c (C.bool false))))⟩] [4])
  .ret)
  .skip))
  (.seq (.region [⟨some 12, none, .p (.mv (.k (.c (C.int .i64 1))))⟩] [2, 3, 6, 7, 9, 12])
  (.seq (.region [⟨some 68, none, .h (.load 25 true (.t 9))⟩,
    ⟨some 69, none, .p (.mv (.t 12))⟩,
    ⟨some 70, none, .h (.call (.f 76) [.t 68, .t 69])⟩,
    ⟨some 12, none, .p (.mv (.t 70))⟩] [2, 3, 6, 7, 9, 12])
  (.seq (.region [⟨some 13, none, .p (.mv (.k (.c (C.int .i64 1))))⟩] [2, 3, 6, 7, 9, 12, 13])
  (.seq (.region [⟨some 71, none, .h (.load 25 true (.t 9))⟩,
    ⟨some 72, none, .p (.mv (.t 13))⟩,
    ⟨some 73, none, .h (.call (.f 84) [.t 71, .t 72])⟩,
    ⟨some 13, none, .p (.mv (.t 73))⟩] [2, 3, 6, 7, 9, 12, 13])
  (.seq (.seq (.region [⟨some 74, none, .p (.mv (.t 13))⟩,
    ⟨some 75, none, .p (.bin .lss (.t 74) (.k (.c (C.int .i64 0))))⟩] [2, 3, 6, 7, 9, 12, 13, 75])
  (.cond (.t 75)
  (.seq (.region [⟨some 4, none, .p (.mv (.k (.c (C.bool false))))⟩] [4])
  .ret)
  .skip))
  (.seq (.seq (.region [⟨some 76, none, .p (.mv (.t 13))⟩,
    ⟨some 77, none, .p (.mv (.t 12))⟩,
    ⟨some 78, none, .p (.bin .neq (.t 76) (.t 77))⟩] [2, 3, 6, 7, 9, 12, 78])
  (.cond (.t 78)
  (.seq (.region [⟨some 4, none, .p (.mv (.k (.c (C.bool false))))⟩] [4])
  .ret)
  .skip))
  (.seq (.regionE [⟨some 80, none, .h (.load 25 true (.t 2))⟩,
    ⟨some 81, none, .h (.call (.f 49) [.t 80])⟩,
    ⟨some 82, none, .h (.load 2 true (.t 3))⟩,
    ⟨some 83, none, .h (.call (.f 82) [.t 82])⟩,
    ⟨some 84, none, .h (.call (.f 83) [.t 81, .t 83])⟩,
    ⟨some 79, none, .p (.mv (.t 84))⟩,
    ⟨some 85, none, .p (.ext (.t 79) 0)⟩,
    ⟨some 86, none, .p (.ext (.t 79) 1)⟩,
    ⟨some 14, none, .p (.alloc [.k (C.int .i64 0), .k (C.int .i64 0), .k (C.int .i64 0), .k (C.int .i64 0), .k (C.int .i64 0), .k (C.int .i64 0), .k (C.int .i64 0), .k (C.int .i64 0), .k (C.int .i64 0), .k (C.int .i64 0), .k (C.int .i64 0), .k (C.int .i64 0), .k (C.int .i64 0), .k (C.int .i64 0), .k (C.int .i64 0), .k (C.int .i64 0), .k (C.int .i64 0), .k (C.int .i64 0), .k (C.int .i64 0), .k (C.int .i64 0), .k (C.int .i64 0), .k (C.int .i64 0), .k (C.int .i64 0), .k (C.int .i64 0), .sl 2])⟩,
    ⟨none, none, .h (.store 25 (.t 14) (.t 85))⟩,
    ⟨some 15, none, .p (.mv (.t 86))⟩] [6, 7, 9, 12, 14, 15] [] [[], [], [], [1], [1, 3]])
  (.seq (.seq (.region [⟨some 87, none, .h (.load 25 true (.t 14))⟩,
    ⟨some 88, none, .h (.load 25 true (.t 6))⟩,
    ⟨some 89, none, .h (.call (.f 51) [.t 87, .t 88])⟩,
    ⟨some 90, none, .p (.un .not (.t 89))⟩,
    ⟨some 91, none, .p (.mv (.t 90))⟩,
    ⟨some 92, some (91, false), .p (.mv (.t 15))⟩,
    ⟨some 93, some (91, false), .p (.mv (.t 7))⟩,
    ⟨some 94, some (91, false), .p (.eqb true (.t 92) (.t 93))⟩,
    ⟨some 95, none, .p (.pick (.t 91) (.k (.c (C.bool true))) (.t 94))⟩] [9, 12, 95])
  (.cond (.t 95)
  (.seq (.region [⟨some 4, none, .p (.mv (.k (.c (C.bool false))))⟩] [4])
  .ret)
  .skip))
  (.seq (.region [⟨some 13, none, .p (.mv (.k (.c (C.int .i64 1))))⟩] [9, 12, 13])
  (.seq (.region [⟨some 96, none, .h (.load 25 true (.t 9))⟩,
    ⟨some 97, none, .p (.mv (.t 13))⟩,
    ⟨some 98, none, .h (.call (.f 84) [.t 96, .t 97])⟩,
    ⟨some 13, none, .p (.mv (.t 98))⟩] [12, 13])
  (.seq (.seq (.region [⟨some 99, none, .p (.mv (.t 13))⟩,
    ⟨some 100, none, .p (.bin .lss (.t 99) (.k (.c (C.int .i64 0))))⟩] [12, 13, 100])
  (.cond (.t 100)
  (.seq (.region [⟨some 4, none, .p (.mv (.k (.c (C.bool false))))⟩] [4])
  .ret)
  .skip))
  (.seq (.seq (.region [⟨some 101, none, .p (.mv (.t 13))⟩,
    ⟨some 102, none, .p (.mv (.t 12))⟩,
    ⟨some 103, none, .p (.bin .neq (.t 101) (.t 102))⟩] [103])
  (.cond (.t 103)
  (.seq (.region [⟨some 4, none, .p (.mv (.k (.c (C.bool false))))⟩] [4])
  .ret)
  .skip))
  (.seq (.region [⟨some 4, none, .p (.mv (.k (.c (C.bool true))))⟩] [4])
  .ret))))))))))))))))))))))))) }
theorem a19_ok : okFn Try.prog 19 a19 = true := by kernel_rfl
/-- loop.example/g01215/laws.FnExactUndoPours -/
def a20 : AFn := { np := 2, nt := 101, res := [.t 4], body :=
  (.seq (.region [⟨some 2, none, .p (.box 25 (.t 0))⟩,
    ⟨some 4, none, .p (.mv (.k (.c (C.bool false))))⟩] [1, 2])
  (.seq (.region [⟨some 5, none, .p (.mv (.k (.c (C.int .i64 1048576))))⟩] [1, 2, 5])
  (.seq (.region [⟨some 16, none, .h (.load 25 true (.t 2))⟩,
    ⟨some 17, none, .p (.mv (.t 5))⟩,
    ⟨some 18, none, .h (.call (.f 47) [.t 16, .t 17])⟩,
    ⟨some 5, none, .p (.mv (.t 18))⟩] [1, 2, 5])
  (.seq (.seq (.region [⟨some 19, none, .p (.mv (.t 5))⟩,
    ⟨some 20, none, .p (.bin .lss (.t 19) (.k (.c (C.int .i64 0))))⟩] [1, 2, 20])
  (.cond (.t 20)
  (.seq (.region [⟨some 4, none, .p (.mv (.k (.c (C.bool true))))⟩] [4])
  .ret)
  .skip))
  (.seq (.region [⟨some 22, none, .h (.load 25 true (.t 2))⟩,
    ⟨some 23, none, .h (.call (.f 49) [.t 22])⟩,
    ⟨some 24, none, .p (.mv (.t 1))⟩,
    ⟨some 25, none, .h (.call (.f 85) [.t 23, .t 24])⟩,
    ⟨some 21, none, .p (.mv (.t 25))⟩,
    ⟨some 26, none, .p (.ext (.t 21) 0)⟩,
    ⟨some 27, none, .p (.ext (.t 21) 1)⟩,
    ⟨some 6, none, .p (.alloc [.k (C.int .i64 0), .k (C.int .i64 0), .k (C.int .i64 0), .k (C.int .i64 0), .k (C.int .i64 0), .k (C.int .i64 0), .k (C.int .i64 0), .k (C.int .i64 0), .k (C.int .i64 0), .k (C.int .i64 0), .k (C.int .i64 0), .k (C.int .i64 0), .k (C.int .i64 0), .k (C.int .i64 0), .k (C.int .i64 0), .k (C.int .i64 0), .k (C.int .i64 0), .k (C.int .i64 0), .k (C.int .i64 0), .k (C.int .i64 0), .k (C.int .i64 0), .k (C.int .i64 0), .k (C.int .i64 0), .k (C.int .i64 0), .sl 2])⟩,
    ⟨none, none, .h (.store 25 (.t 6) (.t 26))⟩,
    ⟨some 7, none, .p (.mv (.t 27))⟩] [1, 2, 6, 7])
  (.seq (.region [⟨some 28, none, .h (.load 25 true (.t 2))⟩,
    ⟨some 29, none, .h (.call (.f 49) [.t 28])⟩,
    ⟨some 8, none, .p (.alloc [.k (C.int .i64 0), .k (C.int .i64 0), .k (C.int .i64 0), .k (C.int .i64 0), .k (C.int .i64 0), .k (C.int .i64 0), .k (C.int .i64 0), .k (C.int .i64 0), .k (C.int .i64 0), .k (C.int .i64 0), .k (C.int .i64 0), .k (C.int .i64 0), .k (C.int .i64 0), .k (C.int .i64 0), .k (C.int .i64 0), .k (C.int .i64 0), .k (C.int .i64 0), .k (C.int .i64 0), .k (C.int .i64 0), .k (C.int .i64 0), .k (C.int .i64 0), .k (C.int .i64 0), .k (C.int .i64 0), .k (C.int .i64 0), .sl 2])⟩,
    ⟨none, none, .h (.store 25 (.t 8) (.t 29))⟩] [1, 2, 6, 7, 8])
  (.seq (.region [⟨some 31, none, .h (.load 25 true (.t 8))⟩,
    ⟨some 32, none, .p (.mv (.t 1))⟩,
    ⟨some 33, none, .h (.call (.f 86) [.t 31, .t 32])⟩,
    ⟨some 30, none, .p (.mv (.t 33))⟩,
    ⟨some 34, none, .p (.ext (.t 30) 0)⟩,
    ⟨some 35, none, .p (.ext (.t 30) 1)⟩,
    ⟨some 9, none, .p (.alloc [.k (C.int .i64 0), .k (C.int .i64 0), .k (C.int .i64 0), .k (C.int .i64 0), .k (C.int .i64 0), .k (C.int .i64 0), .k (C.int .i64 0), .k (C.int .i64 0), .k (C.int .i64 0), .k (C.int .i64 0), .k (C.int .i64 0), .k (C.int .i64 0), .k (C.int .i64 0), .k (C.int .i64 0), .k (C.int .i64 0), .k (C.int .i64 0), .k (C.int .i64 0), .k (C.int .i64 0), .k (C.int .i64 0), .k (C.int .i64 0), .k (C.int .i64 0), .k (C.int .i64 0), .k (C.int .i64 0), .k (C.int .i64 0), .sl 2])⟩,
    ⟨none, none, .h (.store 25 (.t 9) (.t 34))⟩,
    ⟨some 10, none, .p (.mv (.t 35))⟩] [1, 2, 6, 7, 8, 9, 10])
  (.seq (.seq (.region [⟨some 36, none, .h (.load 25 true (.t 9))⟩,
    ⟨some 37, none, .h (.load 25 true (.t 6))⟩,
    ⟨some 38, none, .h (.call (.f 51) [.t 36, .t 37])⟩,
    ⟨some 39, none, .p (.un .not (.t 38))⟩,
    ⟨some 40, none, .p (.mv (.t 39))⟩,
    ⟨some 41, some (40, false), .p (.mv (.t 10))⟩,
    ⟨some 42, some (40, false), .p (.mv (.t 7))⟩,
    ⟨some 43, some (40, false), .p (.eqb true (.t 41) (.t 42))⟩,
    ⟨some 44, none, .p (.pick (.t 40) (.k (.c (C.bool true))) (.t 43))⟩] [1, 2, 6, 7, 8, 9, 10, 44])
  (.cond (.t 44)
  (.seq (.region [⟨some 4, none, .p (.mv (.k (.c (C.bool false))))⟩] [4])
  .ret)
  .skip))
  (.seq (.seq (.regionE [⟨some 45, none, .h (.load 25 true (.t 8))⟩,
    ⟨some 46, none, .h (.load 25 true (.t 2))⟩,
    ⟨some 47, none, .h (.call (.f 49) [.t 46])⟩,
    ⟨some 48, none, .h (.call (.f 51) [.t 45, .t 47])⟩,
    ⟨some 49, none, .p (.un .not (.t 48))⟩] [1, 2, 6, 7, 8, 9, 10, 49] [] [[], [], [], [2]])
  (.cond (.t 49)
  (.seq (.region [⟨some 4, none, .p (.mv (.k (.c (C.bool false))))⟩] [4])
  .ret)
  .skip))
  (.seq (.region [⟨some 11, none, .p (.mv (.k (.c (C.int .i64 1))))⟩] [1, 2, 6, 7, 8, 9, 10, 11])
  (.seq (.region [⟨some 50, none, .h (.load 25 true (.t 8))⟩,
    ⟨some 51, none, .p (.mv (.t 11))⟩,
    ⟨some 52, none, .h (.call (.f 76) [.t 50, .t 51])⟩,
    ⟨some 11, none, .p (.mv (.t 52))⟩] [1, 2, 6, 7, 9, 10, 11])
  (.seq (.seq (.region [⟨some 53, none, .p (.mv (.t 11))⟩,
    ⟨some 54, none, .p (.bin .lss (.t 53) (.k (.c (C.int .i64 0))))⟩,
    ⟨some 55, none, .p (.mv (.t 54))⟩,
    ⟨some 56, some (55, false), .h (.load 25 true (.t 9))⟩,
    ⟨some 57, some (55, false), .h (.load 25 true (.t 6))⟩,
    ⟨some 58, some (55, false), .h (.call (.f 51) [.t 56, .t 57])⟩,
    ⟨some 59, some (55, false), .p (.un .not (.t 58))⟩,
    ⟨some 60, none, .p (.pick (.t 55) (.k (.c (C.bool true))) (.t 59))⟩,
    ⟨some 61, none, .p (.mv (.t 60))⟩,
    ⟨some 62, some (61, false), .p (.mv (.t 10))⟩,
    ⟨some 63, some (61, false), .p (.mv (.t 7))⟩,
    ⟨some 64, some (61, false), .p (.eqb true (.t 62) (.t 63))⟩,
    ⟨some 65, none, .p (.pick (.t 61) (.k (.c (C.bool true))) (.t 64))⟩] [1, 2, 6, 7, 9, 65])
  (.cond (.t 65)
  (.seq (.region [⟨some 4, none, .p (.mv (.k (.c (C.bool false))))⟩] [4])
  .ret)
  .skip))
  (.seq (.region [⟨some 12, none, .p (.mv (.k (.c (C.int .i64 1))))⟩] [1, 2, 6, 7, 9, 12])
  (.seq (.region [⟨some 66, none, .h (.load 25 true (.t 9))⟩,
    ⟨some 67, none, .p (.mv (.t 12))⟩,
    ⟨some 68, none, .h (.call (.f 76) [.t 66, .t 67])⟩,
    ⟨some 12, none, .p (.mv (.t 68))⟩] [1, 2, 6, 7, 9, 12])
  (.seq (.region [⟨some 13, none, .p (.mv (.k (.c (C.int .i64 1))))⟩] [1, 2, 6, 7, 9, 12, 13])
  (.seq (.region [⟨some 69, none, .h (.load 25 true (.t 9))⟩,
    ⟨some 70, none, .p (.mv (.t 13))⟩,
    ⟨some 71, none, .h (.call (.f 84) [.t 69, .t 70])⟩,
    ⟨some 13, none, .p (.mv (.t 71))⟩] [1, 2, 6, 7, 9, 12, 13])
  (.seq (.seq (.region [⟨some 72, none, .p (.mv (.t 13))⟩,
    ⟨some 73, none, .p (.bin .lss (.t 72) (.k (.c (C.int .i64 0))))⟩] [1, 2, 6, 7, 9, 12, 13, 73])
  (.cond (.t 73)
  (.seq (.region [⟨some 4, none, .p (.mv (.k (.c (C.bool false))))⟩] [4])
  .ret)
  .skip))
  (.seq (.seq (.region [⟨some 74, none, .p (.mv (.t 13))⟩,
    ⟨some 75, none, .p (.mv (.t 12))⟩,
    ⟨some 76, none, .p (.bin .neq (.t 74) (.t 75))⟩] [1, 2, 6, 7, 9, 12, 76])
  (.cond (.t 76)
  (.seq (.region [⟨some 4, none, .p (.mv (.k (.c (C.bool false))))⟩] [4])
  .ret)
  .skip))
  (.seq (.region [⟨some 78, none, .h (.load 25 true (.t 2))⟩,
    ⟨some 79, none, .h (.call (.f 49) [.t 78])⟩,
    ⟨some 80, none, .p (.mv (.t 1))⟩,
    ⟨some 81, none, .h (.call (.f 86) [.t 79, .t 80])⟩,
    ⟨some 77, none, .p (.mv (.t 81))⟩,
    ⟨some 82, none, .p (.ext (.t 77) 0)⟩,
    ⟨some 83, none, .p (.ext (.t 77) 1)⟩,
    ⟨some 14, none, .p (.alloc [.k (C.int .i64 0), .k (C.int .i64 0), .k (C.int .i64 0), .k (C.int .i64 0), .k (C.int .i64 0), .k (C.int .i64 0), .k (C.int .i64 0), .k (C.int .i64 0), .k (C.int .i64 0), .k (C.int .i64 0), .k (C.int .i64 0), .k (C.int .i64 0), .k (C.int .i64 0), .k (C.int .i64 0), .k (C.int .i64 0), .k (C.int .i64 0), .k (C.int .i64 0), .k (C.int .i64 0), .k (C.int .i64 0), .k (C.int .i64 0), .k (C.int .i64 0), .k (C.int .i64 0), .k (C.int .i64 0), .k (C.int .i64 0), .sl 2])⟩,
    ⟨none, none, .h (.store 25 (.t 14) (.t 82))⟩,
    ⟨some 15, none, .p (.mv (.t 83))⟩] [6, 7, 9, 12, 14, 15])
  (.seq (.seq (.region [⟨some 84, none, .h (.load 25 true (.t 14))⟩,
    ⟨some 85, none, .h (.load 25 true (.t 6))⟩,
    ⟨some 86, none, .h (.call (.f 51) [.t 84, .t 85])⟩,
    ⟨some 87, none, .p (.un .not (.t 86))⟩,
    ⟨some 88, none, .p (.mv (.t 87))⟩,
    ⟨some 89, some (88, false), .p (.mv (.t 15))⟩,
    ⟨some 90, some (88, false), .p (.mv (.t 7))⟩,
    ⟨some 91, some (88, false), .p (.eqb true (.t 89) (.t 90))⟩,
    ⟨some 92, none, .p (.pick (.t 88) (.k (.c (C.bool true))) (.t 91))⟩] [9, 12, 92])
  (.cond (.t 92)
  (.seq (.region [⟨some 4, none, .p (.mv (.k (.c (C.bool false))))⟩] [4])
  .ret)
  .skip))
  (.seq (.region [⟨some 13, none, .p (.mv (.k (.c (C.int .i64 1))))⟩] [9, 12, 13])
  (.seq (.region [⟨some 93, none, .h (.load 25 true (.t 9))⟩,
    ⟨some 94, none, .p (.mv (.t 13))⟩,
    ⟨some 95, none, .h (.call (.f 84) [.t 93, .t 94])⟩,
    ⟨some 13, none, .p (.mv (.t 95))⟩] [12, 13])
  (.seq (.seq (.region [⟨some 96, none, .p (.mv (.t 13))⟩,
    ⟨some 97, none, .p (.bin .lss (.t 96) (.k (.c (C.int .i64 0))))⟩] [12, 13, 97])
  (.cond (.t 97)
  (.seq (.region [⟨some 4, none, .p (.mv (.k (.c (C.bool false))))⟩] [4])
  .ret)
  .skip))
  (.seq (.seq (.region [⟨some 98, none, .p (.mv (.t 13))⟩,
    ⟨some 99, none, .p (.mv (.t 12))⟩,
    ⟨some 100, none, .p (.bin .neq (.t 98) (.t 99))⟩] [100])
  (.cond (.t 100)
  (.seq (.region [⟨some 4, none, .p (.mv (.k (.c (C.bool false))))⟩] [4])
  .ret)
  .skip))
  (.seq (.region [⟨some 4, none, .p (.mv (.k (.c (C.bool true))))⟩] [4])
  .ret))))))))))))))))))))))))) }
theorem a20_ok : okFn Try.prog 20 a20 = true := by kernel_rfl
/-- loop.example/g01215/laws.FnExactChanceStuckBy -/
def a21 : AFn := { np := 2, nt := 32, res := [.t 4], body :=
  (.seq (.region [⟨some 2, none, .p (.box 24 (.t 0))⟩,
    ⟨some 4, none, .p (.mv (.k (.c (C.bool false))))⟩] [1, 2])
  (.seq (.region [⟨some 10, none, .h (.load 24 true (.t 2))⟩,
    ⟨some 11, none, .h (.call (.f 38) [.t 10])⟩,
    ⟨some 12, none, .p (.mv (.t 1))⟩,
    ⟨some 13, none, .h (.call (.f 87) [.t 11, .t 12])⟩,
    ⟨some 9, none, .p (.mv (.t 13))⟩,
    ⟨some 14, none, .p (.ext (.t 9) 0)⟩,
    ⟨some 15, none, .p (.ext (.t 9) 1)⟩,
    ⟨some 5, none, .p (.alloc [.k (C.int .i64 0), .k (C.int .i64 0)])⟩,
    ⟨none, none, .h (.store 2 (.t 5) (.t 14))⟩,
    ⟨some 6, none, .p (.mv (.t 15))⟩] [1, 2, 5, 6])
  (.seq (.region [⟨some 17, none, .h (.load 24 true (.t 2))⟩,
    ⟨some 18, none, .h (.call (.f 38) [.t 17])⟩,
    ⟨some 19, none, .p (.mv (.t 1))⟩,
    ⟨some 20, none, .h (.call (.f 88) [.t 18, .t 19])⟩,
    ⟨some 16, none, .p (.mv (.t 20))⟩,
    ⟨some 21, none, .p (.ext (.t 16) 0)⟩,
    ⟨some 22, none, .p (.ext (.t 16) 1)⟩,
    ⟨some 7, none, .p (.alloc [.k (C.int .i64 0), .k (C.int .i64 0)])⟩,
    ⟨none, none, .h (.store 2 (.t 7) (.t 21))⟩,
    ⟨some 8, none, .p (.mv (.t 22))⟩] [5, 6, 7, 8])
  (.seq (.seq (.region [⟨some 23, none, .h (.load 2 true (.t 7))⟩,
    ⟨some 24, none, .h (.load 2 true (.t 5))⟩,
    ⟨some 25, none, .h (.call (.f 36) [.t 23, .t 24])⟩,
    ⟨some 26, none, .p (.un .not (.t 25))⟩,
    ⟨some 27, none, .p (.mv (.t 26))⟩,
    ⟨some 28, some (27, false), .p (.mv (.t 8))⟩,
    ⟨some 29, some (27, false), .p (.mv (.t 6))⟩,
    ⟨some 30, some (27, false), .p (.eqb true (.t 28) (.t 29))⟩,
    ⟨some 31, none, .p (.pick (.t 27) (.k (.c (C.bool true))) (.t 30))⟩] [31])
  (.cond (.t 31)
  (.seq (.region [⟨some 4, none, .p (.mv (.k (.c (C.bool false))))⟩] [4])
  .ret)
  .skip))
  (.seq (.region [⟨some 4, none, .p (.mv (.k (.c (C.bool true))))⟩] [4])
  .ret))))) }
theorem a21_ok : okFn Try.prog 21 a21 = true := by kernel_rfl
/-- loop.example/g01215/laws.FnExactMeanRunsBehind -/
def a22 : AFn := { np := 2, nt := 32, res := [.t 4], body :=
  (.seq (.region [⟨some 2, none, .p (.box 24 (.t 0))⟩,
    ⟨some 4, none, .p (.mv (.k (.c (C.bool false))))⟩] [1, 2])
  (.seq (.region [⟨some 10, none, .h (.load 24 true (.t 2))⟩,
    ⟨some 11, none, .h (.call (.f 38) [.t 10])⟩,
    ⟨some 12, none, .p (.mv (.t 1))⟩,
    ⟨some 13, none, .h (.call (.f 89) [.t 11, .t 12])⟩,
    ⟨some 9, none, .p (.mv (.t 13))⟩,
    ⟨some 14, none, .p (.ext (.t 9) 0)⟩,
    ⟨some 15, none, .p (.ext (.t 9) 1)⟩,
    ⟨some 5, none, .p (.alloc [.k (C.int .i64 0), .k (C.int .i64 0)])⟩,
    ⟨none, none, .h (.store 2 (.t 5) (.t 14))⟩,
    ⟨some 6, none, .p (.mv (.t 15))⟩] [1, 2, 5, 6])
  (.seq (.region [⟨some 17, none, .h (.load 24 true (.t 2))⟩,
    ⟨some 18, none, .h (.call (.f 38) [.t 17])⟩,
    ⟨some 19, none, .p (.mv (.t 1))⟩,
    ⟨some 20, none, .h (.call (.f 90) [.t 18, .t 19])⟩,
    ⟨some 16, none, .p (.mv (.t 20))⟩,
    ⟨some 21, none, .p (.ext (.t 16) 0)⟩,
    ⟨some 22, none, .p (.ext (.t 16) 1)⟩,
    ⟨some 7, none, .p (.alloc [.k (C.int .i64 0), .k (C.int .i64 0)])⟩,
    ⟨none, none, .h (.store 2 (.t 7) (.t 21))⟩,
    ⟨some 8, none, .p (.mv (.t 22))⟩] [5, 6, 7, 8])
  (.seq (.seq (.region [⟨some 23, none, .h (.load 2 true (.t 7))⟩,
    ⟨some 24, none, .h (.load 2 true (.t 5))⟩,
    ⟨some 25, none, .h (.call (.f 36) [.t 23, .t 24])⟩,
    ⟨some 26, none, .p (.un .not (.t 25))⟩,
    ⟨some 27, none, .p (.mv (.t 26))⟩,
    ⟨some 28, some (27, false), .p (.mv (.t 8))⟩,
    ⟨some 29, some (27, false), .p (.mv (.t 6))⟩,
    ⟨some 30, some (27, false), .p (.eqb true (.t 28) (.t 29))⟩,
    ⟨some 31, none, .p (.pick (.t 27) (.k (.c (C.bool true))) (.t 30))⟩] [31])
  (.cond (.t 31)
  (.seq (.region [⟨some 4, none, .p (.mv (.k (.c (C.bool false))))⟩] [4])
  .ret)
  .skip))
  (.seq (.region [⟨some 4, none, .p (.mv (.k (.c (C.bool true))))⟩] [4])
  .ret))))) }
theorem a22_ok : okFn Try.prog 22 a22 = true := by kernel_rfl
/-- loop.example/g01215/laws.FnExactChanceSortedBy -/
def a23 : AFn := { np := 2, nt := 32, res := [.t 4], body :=
  (.seq (.region [⟨some 2, none, .p (.box 24 (.t 0))⟩,
    ⟨some 4, none, .p (.mv (.k (.c (C.bool false))))⟩] [1, 2])
  (.seq (.region [⟨some 10, none, .h (.load 24 true (.t 2))⟩,
    ⟨some 11, none, .h (.call (.f 38) [.t 10])⟩,
    ⟨some 12, none, .p (.mv (.t 1))⟩,
    ⟨some 13, none, .h (.call (.f 91) [.t 11, .t 12])⟩,
    ⟨some 9, none, .p (.mv (.t 13))⟩,
    ⟨some 14, none, .p (.ext (.t 9) 0)⟩,
    ⟨some 15, none, .p (.ext (.t 9) 1)⟩,
    ⟨some 5, none, .p (.alloc [.k (C.int .i64 0), .k (C.int .i64 0)])⟩,
    ⟨none, none, .h (.store 2 (.t 5) (.t 14))⟩,
    ⟨some 6, none, .p (.mv (.t 15))⟩] [1, 2, 5, 6])
  (.seq (.region [⟨some 17, none, .h (.load 24 true (.t 2))⟩,
    ⟨some 18, none, .h (.call (.f 38) [.t 17])⟩,
    ⟨some 19, none, .p (.mv (.t 1))⟩,
    ⟨some 20, none, .h (.call (.f 92) [.t 18, .t 19])⟩,
    ⟨some 16, none, .p (.mv (.t 20))⟩,
    ⟨some 21, none, .p (.ext (.t 16) 0)⟩,
    ⟨some 22, none, .p (.ext (.t 16) 1)⟩,
    ⟨some 7, none, .p (.alloc [.k (C.int .i64 0), .k (C.int .i64 0)])⟩,
    ⟨none, none, .h (.store 2 (.t 7) (.t 21))⟩,
    ⟨some 8, none, .p (.mv (.t 22))⟩] [5, 6, 7, 8])
  (.seq (.seq (.region [⟨some 23, none, .h (.load 2 true (.t 7))⟩,
    ⟨some 24, none, .h (.load 2 true (.t 5))⟩,
    ⟨some 25, none, .h (.call (.f 36) [.t 23, .t 24])⟩,
    ⟨some 26, none, .p (.un .not (.t 25))⟩,
    ⟨some 27, none, .p (.mv (.t 26))⟩,
    ⟨some 28, some (27, false), .p (.mv (.t 8))⟩,
    ⟨some 29, some (27, false), .p (.mv (.t 6))⟩,
    ⟨some 30, some (27, false), .p (.eqb true (.t 28) (.t 29))⟩,
    ⟨some 31, none, .p (.pick (.t 27) (.k (.c (C.bool true))) (.t 30))⟩] [31])
  (.cond (.t 31)
  (.seq (.region [⟨some 4, none, .p (.mv (.k (.c (C.bool false))))⟩] [4])
  .ret)
  .skip))
  (.seq (.region [⟨some 4, none, .p (.mv (.k (.c (C.bool true))))⟩] [4])
  .ret))))) }
theorem a23_ok : okFn Try.prog 23 a23 = true := by kernel_rfl
/-- loop.example/g01215/laws.FnExactDropIdle -/
def a24 : AFn := { np := 1, nt := 96, res := [.t 2], body :=
  (.seq (.region [⟨some 1, none, .p (.box 25 (.t 0))⟩,
    ⟨some 2, none, .p (.mv (.k (.c (C.bool false))))⟩] [1])
  (.seq (.region [⟨some 3, none, .p (.mv (.k (.c (C.int .i64 1048576))))⟩] [1, 3])
  (.seq (.region [⟨some 14, none, .h (.load 25 true (.t 1))⟩,
    ⟨some 15, none, .p (.mv (.t 3))⟩,
    ⟨some 16, none, .h (.call (.f 47) [.t 14, .t 15])⟩,
    ⟨some 3, none, .p (.mv (.t 16))⟩] [1, 3])
  (.seq (.seq (.region [⟨some 17, none, .p (.mv (.t 3))⟩,
    ⟨some 18, none, .p (.bin .lss (.t 17) (.k (.c (C.int .i64 0))))⟩] [1, 18])
  (.cond (.t 18)
  (.seq (.region [⟨some 2, none, .p (.mv (.k (.c (C.bool true))))⟩] [2])
  .ret)
  .skip))
  (.seq (.region [⟨some 20, none, .h (.load 25 true (.t 1))⟩,
    ⟨some 21, none, .h (.call (.f 49) [.t 20])⟩,
    ⟨some 22, none, .h (.call (.f 93) [.t 21])⟩,
    ⟨some 19, none, .p (.mv (.t 22))⟩,
    ⟨some 23, none, .p (.ext (.t 19) 0)⟩,
    ⟨some 24, none, .p (.ext (.t 19) 1)⟩,
    ⟨some 4, none, .p (.alloc [.k (C.int .i64 0), .k (C.int .i64 0), .k (C.int .i64 0), .k (C.int .i64 0), .k (C.int .i64 0), .k (C.int .i64 0), .k (C.int .i64 0), .k (C.int .i64 0), .k (C.int .i64 0), .k (C.int .i64 0), .k (C.int .i64 0), .k (C.int .i64 0), .k (C.int .i64 0), .k (C.int .i64 0), .k (C.int .i64 0), .k (C.int .i64 0), .k (C.int .i64 0), .k (C.int .i64 0), .k (C.int .i64 0), .k (C.int .i64 0), .k (C.int .i64 0), .k (C.int .i64 0), .k (C.int .i64 0), .k (C.int .i64 0), .sl 2])⟩,
    ⟨none, none, .h (.store 25 (.t 4) (.t 23))⟩,
    ⟨some 5, none, .p (.mv (.t 24))⟩] [1, 4, 5])
  (.seq (.region [⟨some 25, none, .h (.load 25 true (.t 1))⟩,
    ⟨some 26, none, .h (.call (.f 49) [.t 25])⟩,
    ⟨some 6, none, .p (.alloc [.k (C.int .i64 0), .k (C.int .i64 0), .k (C.int .i64 0), .k (C.int .i64 0), .k (C.int .i64 0), .k (C.int .i64 0), .k (C.int .i64 0), .k (C.int .i64 0), .k (C.int .i64 0), .k (C.int .i64 0), .k (C.int .i64 0), .k (C.int .i64 0), .k (C.int .i64 0), .k (C.int .i64 0), .k (C.int .i64 0), .k (C.int .i64 0), .k (C.int .i64 0), .k (C.int .i64 0), .k (C.int .i64 0), .k (C.int .i64 0), .k (C.int .i64 0), .k (C.int .i64 0), .k (C.int .i64 0), .k (C.int .i64 0), .sl 2])⟩,
    ⟨none, none, .h (.store 25 (.t 6) (.t 26))⟩] [1, 4, 5, 6])
  (.seq (.region [⟨some 28, none, .h (.load 25 true (.t 6))⟩,
    ⟨some 29, none, .h (.call (.f 94) [.t 28])⟩,
    ⟨some 27, none, .p (.mv (.t 29))⟩,
    ⟨some 30, none, .p (.ext (.t 27) 0)⟩,
    ⟨some 31, none, .p (.ext (.t 27) 1)⟩,
    ⟨some 7, none, .p (.alloc [.k (C.int .i64 0), .k (C.int .i64 0), .k (C.int .i64 0), .k (C.int .i64 0), .k (C.int .i64 0), .k (C.int .i64 0), .k (C.int .i64 0), .k (C.int .i64 0), .k (C.int .i64 0), .k (C.int .i64 0), .k (C.int .i64 0), .k (C.int .i64 0), .k (C.int .i64 0), .k (C.int .i64 0), .k (C.int .i64 0), .k (C.int .i64 0), .k (C.int .i64 0), .k (C.int .i64 0), .k (C.int .i64 0), .k (C.int .i64 0), .k (C.int .i64 0), .k (C.int .i64 0), .k (C.int .i64 0), .k (C.int .i64 0), .sl 2])⟩,
    ⟨none, none, .h (.store 25 (.t 7) (.t 30))⟩,
    ⟨some 8, none, .p (.mv (.t 31))⟩] [1, 4, 5, 6, 7, 8])
  (.seq (.seq (.region [⟨some 32, none, .h (.load 25 true (.t 7))⟩,
    ⟨some 33, none, .h (.load 25 true (.t 4))⟩,
    ⟨some 34, none, .h (.call (.f 51) [.t 32, .t 33])⟩,
    ⟨some 35, none, .p (.un .not (.t 34))⟩,
    ⟨some 36, none, .p (.mv (.t 35))⟩,
    ⟨some 37, some (36, false), .p (.mv (.t 8))⟩,
    ⟨some 38, some (36, false), .p (.mv (.t 5))⟩,
    ⟨some 39, some (36, false), .p (.eqb true (.t 37) (.t 38))⟩,
    ⟨some 40, none, .p (.pick (.t 36) (.k (.c (C.bool true))) (.t 39))⟩] [1, 4, 5, 6, 7, 8, 40])
  (.cond (.t 40)
  (.seq (.region [⟨some 2, none, .p (.mv (.k (.c (C.bool false))))⟩] [2])
  .ret)
  .skip))
  (.seq (.seq (.regionE [⟨some 41, none, .h (.load 25 true (.t 6))⟩,
    ⟨some 42, none, .h (.load 25 true (.t 1))⟩,
    ⟨some 43, none, .h (.call (.f 49) [.t 42])⟩,
    ⟨some 44, none, .h (.call (.f 51) [.t 41, .t 43])⟩,
    ⟨some 45, none, .p (.un .not (.t 44))⟩] [1, 4, 5, 6, 7, 8, 45] [] [[], [], [], [2]])
  (.cond (.t 45)
  (.seq (.region [⟨some 2, none, .p (.mv (.k (.c (C.bool false))))⟩] [2])
  .ret)
  .skip))
  (.seq (.region [⟨some 9, none, .p (.mv (.k (.c (C.int .i64 1))))⟩] [1, 4, 5, 6, 7, 8, 9])
  (.seq (.region [⟨some 46, none, .h (.load 25 true (.t 6))⟩,
    ⟨some 47, none, .p (.mv (.t 9))⟩,
    ⟨some 48, none, .h (.call (.f 76) [.t 46, .t 47])⟩,
    ⟨some 9, none, .p (.mv (.t 48))⟩] [1, 4, 5, 7, 8, 9])
  (.seq (.seq (.region [⟨some 49, none, .p (.mv (.t 9))⟩,
    ⟨some 50, none, .p (.bin .lss (.t 49) (.k (.c (C.int .i64 0))))⟩,
    ⟨some 51, none, .p (.mv (.t 50))⟩,
    ⟨some 52, some (51, false), .h (.load 25 true (.t 7))⟩,
    ⟨some 53, some (51, false), .h (.load 25 true (.t 4))⟩,
    ⟨some 54, some (51, false), .h (.call (.f 51) [.t 52, .t 53])⟩,
    ⟨some 55, some (51, false), .p (.un .not (.t 54))⟩,
    ⟨some 56, none, .p (.pick (.t 51) (.k (.c (C.bool true))) (.t 55))⟩,
    ⟨some 57, none, .p (.mv (.t 56))⟩,
    ⟨some 58, some (57, false), .p (.mv (.t 8))⟩,
    ⟨some 59, some (57, false), .p (.mv (.t 5))⟩,
    ⟨some 60, some (57, false), .p (.eqb true (.t 58) (.t 59))⟩,
    ⟨some 61, none, .p (.pick (.t 57) (.k (.c (C.bool true))) (.t 60))⟩] [1, 4, 5, 7, 61])
  (.cond (.t 61)
  (.seq (.region [⟨some 2, none, .p (.mv (.k (.c (C.bool false))))⟩] [2])
  .ret)
  .skip))
  (.seq (.region [⟨some 10, none, .p (.mv (.k (.c (C.int .i64 1))))⟩] [1, 4, 5, 7, 10])
  (.seq (.region [⟨some 62, none, .h (.load 25 true (.t 7))⟩,
    ⟨some 63, none, .p (.mv (.t 10))⟩,
    ⟨some 64, none, .h (.call (.f 76) [.t 62, .t 63])⟩,
    ⟨some 10, none, .p (.mv (.t 64))⟩] [1, 4, 5, 7, 10])
  (.seq (.region [⟨some 11, none, .p (.mv (.k (.c (C.int .i64 1))))⟩] [1, 4, 5, 7, 10, 11])
  (.seq (.region [⟨some 65, none, .h (.load 25 true (.t 7))⟩,
    ⟨some 66, none, .p (.mv (.t 11))⟩,
    ⟨some 67, none, .h (.call (.f 84) [.t 65, .t 66])⟩,
    ⟨some 11, none, .p (.mv (.t 67))⟩] [1, 4, 5, 7, 10, 11])
  (.seq (.seq (.region [⟨some 68, none, .p (.mv (.t 11))⟩,
    ⟨some 69, none, .p (.bin .lss (.t 68) (.k (.c (C.int .i64 0))))⟩] [1, 4, 5, 7, 10, 11, 69])
  (.cond (.t 69)
  (.seq (.region [⟨some 2, none, .p (.mv (.k (.c (C.bool false))))⟩] [2])
  .ret)
  .skip))
  (.seq (.seq (.region [⟨some 70, none, .p (.mv (.t 11))⟩,
    ⟨some 71, none, .p (.mv (.t 10))⟩,
    ⟨some 72, none, .p (.bin .neq (.t 70) (.t 71))⟩] [1, 4, 5, 7, 10, 72])
  (.cond (.t 72)
  (.seq (.region [⟨some 2, none, .p (.mv (.k (.c (C.bool false))))⟩] [2])
  .ret)
  .skip))
  (.seq (.region [⟨some 74, none, .h (.load 25 true (.t 1))⟩,
    ⟨some 75, none, .h (.call (.f 49) [.t 74])⟩,
    ⟨some 76, none, .h (.call (.f 94) [.t 75])⟩,
    ⟨some 73, none, .p (.mv (.t 76))⟩,
    ⟨some 77, none, .p (.ext (.t 73) 0)⟩,
    ⟨some 78, none, .p (.ext (.t 73) 1)⟩,
    ⟨some 12, none, .p (.alloc [.k (C.int .i64 0), .k (C.int .i64 0), .k (C.int .i64 0), .k (C.int .i64 0), .k (C.int .i64 0), .k (C.int .i64 0), .k (C.int .i64 0), .k (C.int .i64 0), .k (C.int .i64 0), .k (C.int .i64 0), .k (C.int .i64 0), .k (C.int .i64 0), .k (C.int .i64 0), .k (C.int .i64 0), .k (C.int .i64 0), .k (C.int .i64 0), .k (C.int .i64 0), .k (C.int .i64 0), .k (C.int .i64 0), .k (C.int .i64 0), .k (C.int .i64 0), .k (C.int .i64 0), .k (C.int .i64 0), .k (C.int .i64 0), .sl 2])⟩,
    ⟨none, none, .h (.store 25 (.t 12) (.t 77))⟩,
    ⟨some 13, none, .p (.mv (.t 78))⟩] [4, 5, 7, 10, 12, 13])
  (.seq (.seq (.region [⟨some 79, none, .h (.load 25 true (.t 12))⟩,
    ⟨some 80, none, .h (.load 25 true (.t 4))⟩,
    ⟨some 81, none, .h (.call (.f 51) [.t 79, .t 80])⟩,
    ⟨some 82, none, .p (.un .not (.t 81))⟩,
    ⟨some 83, none, .p (.mv (.t 82))⟩,
    ⟨some 84, some (83, false), .p (.mv (.t 13))⟩,
    ⟨some 85, some (83, false), .p (.mv (.t 5))⟩,
    ⟨some 86, some (83, false), .p (.eqb true (.t 84) (.t 85))⟩,
    ⟨some 87, none, .p (.pick (.t 83) (.k (.c (C.bool true))) (.t 86))⟩] [7, 10, 87])
  (.cond (.t 87)
  (.seq (.region [⟨some 2, none, .p (.mv (.k (.c (C.bool false))))⟩] [2])
  .ret)
  .skip))
  (.seq (.region [⟨some 11, none, .p (.mv (.k (.c (C.int .i64 1))))⟩] [7, 10, 11])
  (.seq (.region [⟨some 88, none, .h (.load 25 true (.t 7))⟩,
    ⟨some 89, none, .p (.mv (.t 11))⟩,
    ⟨some 90, none, .h (.call (.f 84) [.t 88, .t 89])⟩,
    ⟨some 11, none, .p (.mv (.t 90))⟩] [10, 11])
  (.seq (.seq (.region [⟨some 91, none, .p (.mv (.t 11))⟩,
    ⟨some 92, none, .p (.bin .lss (.t 91) (.k (.c (C.int .i64 0))))⟩] [10, 11, 92])
  (.cond (.t 92)
  (.seq (.region [⟨some 2, none, .p (.mv (.k (.c (C.bool false))))⟩] [2])
  .ret)
  .skip))
  (.seq (.seq (.region [⟨some 93, none, .p (.mv (.t 11))⟩,
    ⟨some 94, none, .p (.mv (.t 10))⟩,
    ⟨some 95, none, .p (.bin .neq (.t 93) (.t 94))⟩] [95])
  (.cond (.t 95)
  (.seq (.region [⟨some 2, none, .p (.mv (.k (.c (C.bool false))))⟩] [2])
  .ret)
  .skip))
  (.seq (.region [⟨some 2, none, .p (.mv (.k (.c (C.bool true))))⟩] [2])
  .ret))))))))))))))))))))))))) }
theorem a24_ok : okFn Try.prog 24 a24 = true := by kernel_rfl
/-- loop.example/g01215/laws.FnExactBestParty -/
def a25 : AFn := { np := 2, nt := 71, res := [.t 4], body :=
  (.seq (.region [⟨some 2, none, .p (.box 24 (.t 0))⟩,
    ⟨some 4, none, .p (.mv (.k (.c (C.bool false))))⟩] [1, 2])
  (.seq (.region [⟨some 14, none, .h (.load 24 true (.t 2))⟩,
    ⟨some 15, none, .h (.call (.f 38) [.t 14])⟩,
    ⟨some 16, none, .p (.mv (.t 1))⟩,
    ⟨some 17, none, .h (.call (.f 95) [.t 15, .t 16])⟩,
    ⟨some 13, none, .p (.mv (.t 17))⟩,
    ⟨some 18, none, .p (.ext (.t 13) 0)⟩,
    ⟨some 19, none, .p (.ext (.t 13) 1)⟩,
    ⟨some 5, none, .p (.mv (.t 18))⟩,
    ⟨some 6, none, .p (.mv (.t 19))⟩] [1, 2, 5, 6])
  (.seq (.region [⟨some 21, none, .h (.load 24 true (.t 2))⟩,
    ⟨some 22, none, .h (.call (.f 38) [.t 21])⟩,
    ⟨some 23, none, .p (.mv (.t 1))⟩,
    ⟨some 24, none, .h (.call (.f 96) [.t 22, .t 23])⟩,
    ⟨some 20, none, .p (.mv (.t 24))⟩,
    ⟨some 25, none, .p (.ext (.t 20) 0)⟩,
    ⟨some 26, none, .p (.ext (.t 20) 1)⟩,
    ⟨some 7, none, .p (.mv (.t 25))⟩,
    ⟨some 8, none, .p (.mv (.t 26))⟩] [1, 2, 5, 6, 7, 8])
  (.seq (.seq (.region [⟨some 27, none, .p (.mv (.t 7))⟩,
    ⟨some 28, none, .p (.mv (.t 5))⟩,
    ⟨some 29, none, .h (.call (.f 59) [.t 27, .t 28])⟩,
    ⟨some 30, none, .p (.un .not (.t 29))⟩,
    ⟨some 31, none, .p (.mv (.t 30))⟩,
    ⟨some 32, some (31, false), .p (.mv (.t 8))⟩,
    ⟨some 33, some (31, false), .p (.mv (.t 6))⟩,
    ⟨some 34, some (31, false), .p (.eqb true (.t 32) (.t 33))⟩,
    ⟨some 35, none, .p (.pick (.t 31) (.k (.c (C.bool true))) (.t 34))⟩] [1, 2, 5, 6, 7, 35])
  (.cond (.t 35)
  (.seq (.region [⟨some 4, none, .p (.mv (.k (.c (C.bool false))))⟩] [4])
  .ret)
  .skip))
  (.seq (.region [⟨some 9, none, .p (.mv (.k (.c (C.int .i64 1))))⟩] [1, 2, 5, 6, 7, 9])
  (.seq (.region [⟨some 36, none, .p (.mv (.t 7))⟩,
    ⟨some 37, none, .p (.mv (.t 9))⟩,
    ⟨some 38, none, .h (.call (.f 66) [.t 36, .t 37])⟩,
    ⟨some 9, none, .p (.mv (.t 38))⟩] [1, 2, 5, 6, 7, 9])
  (.seq (.region [⟨some 10, none, .p (.mv (.k (.c (C.int .i64 1))))⟩] [1, 2, 5, 6, 7, 9, 10])
  (.seq (.region [⟨some 39, none, .p (.mv (.t 7))⟩,
    ⟨some 40, none, .p (.mv (.t 10))⟩,
    ⟨some 41, none, .h (.call (.f 67) [.t 39, .t 40])⟩,
    ⟨some 10, none, .p (.mv (.t 41))⟩] [1, 2, 5, 6, 7, 9, 10])
  (.seq (.seq (.region [⟨some 42, none, .p (.mv (.t 10))⟩,
    ⟨some 43, none, .p (.bin .lss (.t 42) (.k (.c (C.int .i64 0))))⟩] [1, 2, 5, 6, 7, 9, 10, 43])
  (.cond (.t 43)
  (.seq (.region [⟨some 4, none, .p (.mv (.k (.c (C.bool false))))⟩] [4])
  .ret)
  .skip))
  (.seq (.seq (.region [⟨some 44, none, .p (.mv (.t 10))⟩,
    ⟨some 45, none, .p (.mv (.t 9))⟩,
    ⟨some 46, none, .p (.bin .neq (.t 44) (.t 45))⟩] [1, 2, 5, 6, 7, 9, 46])
  (.cond (.t 46)
  (.seq (.region [⟨some 4, none, .p (.mv (.k (.c (C.bool false))))⟩] [4])
  .ret)
  .skip))
  (.seq (.region [⟨some 48, none, .h (.load 24 true (.t 2))⟩,
    ⟨some 49, none, .h (.call (.f 38) [.t 48])⟩,
    ⟨some 50, none, .p (.mv (.t 1))⟩,
    ⟨some 51, none, .h (.call (.f 96) [.t 49, .t 50])⟩,
    ⟨some 47, none, .p (.mv (.t 51))⟩,
    ⟨some 52, none, .p (.ext (.t 47) 0)⟩,
    ⟨some 53, none, .p (.ext (.t 47) 1)⟩,
    ⟨some 11, none, .p (.mv (.t 52))⟩,
    ⟨some 12, none, .p (.mv (.t 53))⟩] [5, 6, 7, 9, 11, 12])
  (.seq (.seq (.region [⟨some 54, none, .p (.mv (.t 11))⟩,
    ⟨some 55, none, .p (.mv (.t 5))⟩,
    ⟨some 56, none, .h (.call (.f 59) [.t 54, .t 55])⟩,
    ⟨some 57, none, .p (.un .not (.t 56))⟩,
    ⟨some 58, none, .p (.mv (.t 57))⟩,
    ⟨some 59, some (58, false), .p (.mv (.t 12))⟩,
    ⟨some 60, some (58, false), .p (.mv (.t 6))⟩,
    ⟨some 61, some (58, false), .p (.eqb true (.t 59) (.t 60))⟩,
    ⟨some 62, none, .p (.pick (.t 58) (.k (.c (C.bool true))) (.t 61))⟩] [7, 9, 62])
  (.cond (.t 62)
  (.seq (.region [⟨some 4, none, .p (.mv (.k (.c (C.bool false))))⟩] [4])
  .ret)
  .skip))
  (.seq (.region [⟨some 10, none, .p (.mv (.k (.c (C.int .i64 1))))⟩] [7, 9, 10])
  (.seq (.region [⟨some 63, none, .p (.mv (.t 7))⟩,
    ⟨some 64, none, .p (.mv (.t 10))⟩,
    ⟨some 65, none, .h (.call (.f 67) [.t 63, .t 64])⟩,
    ⟨some 10, none, .p (.mv (.t 65))⟩] [9, 10])
  (.seq (.seq (.region [⟨some 66, none, .p (.mv (.t 10))⟩,
    ⟨some 67, none, .p (.bin .lss (.t 66) (.k (.c (C.int .i64 0))))⟩] [9, 10, 67])
  (.cond (.t 67)
  (.seq (.region [⟨some 4, none, .p (.mv (.k (.c (C.bool false))))⟩] [4])
  .ret)
  .skip))
  (.seq (.seq (.region [⟨some 68, none, .p (.mv (.t 10))⟩,
    ⟨some 69, none, .p (.mv (.t 9))⟩,
    ⟨some 70, none, .p (.bin .neq (.t 68) (.t 69))⟩] [70])
  (.cond (.t 70)
  (.seq (.region [⟨some 4, none, .p (.mv (.k (.c (C.bool false))))⟩] [4])
  .ret)
  .skip))
  (.seq (.region [⟨some 4, none, .p (.mv (.k (.c (C.bool true))))⟩] [4])
  .ret))))))))))))))))) }
theorem a25_ok : okFn Try.prog 25 a25 = true := by kernel_rfl
/-- loop.example/g01215/laws.FnExactBestChance -/
def a26 : AFn := { np := 2, nt := 42, res := [.t 4], body :=
  (.seq (.region [⟨some 2, none, .p (.box 24 (.t 0))⟩,
    ⟨some 4, none, .p (.mv (.k (.c (C.bool false))))⟩] [1, 2])
  (.seq (.region [⟨some 12, none, .h (.load 24 true (.t 2))⟩,
    ⟨some 13, none, .h (.call (.f 38) [.t 12])⟩,
    ⟨some 14, none, .p (.mv (.t 1))⟩,
    ⟨some 15, none, .h (.call (.f 97) [.t 13, .t 14])⟩,
    ⟨some 11, none, .p (.mv (.t 15))⟩,
    ⟨some 16, none, .p (.ext (.t 11) 0)⟩,
    ⟨some 17, none, .p (.ext (.t 11) 1)⟩,
    ⟨some 18, none, .p (.ext (.t 11) 2)⟩,
    ⟨some 5, none, .p (.alloc [.k (C.int .i64 0), .k (C.int .i64 0)])⟩,
    ⟨some 6, none, .p (.alloc [.k (C.int .i64 0), .k (C.int .i64 0)])⟩,
    ⟨none, none, .h (.store 2 (.t 5) (.t 16))⟩,
    ⟨none, none, .h (.store 2 (.t 6) (.t 17))⟩,
    ⟨some 7, none, .p (.mv (.t 18))⟩] [1, 2, 5, 6, 7])
  (.seq (.region [⟨some 20, none, .h (.load 24 true (.t 2))⟩,
    ⟨some 21, none, .h (.call (.f 38) [.t 20])⟩,
    ⟨some 22, none, .p (.mv (.t 1))⟩,
    ⟨some 23, none, .h (.call (.f 98) [.t 21, .t 22])⟩,
    ⟨some 19, none, .p (.mv (.t 23))⟩,
    ⟨some 24, none, .p (.ext (.t 19) 0)⟩,
    ⟨some 25, none, .p (.ext (.t 19) 1)⟩,
    ⟨some 26, none, .p (.ext (.t 19) 2)⟩,
    ⟨some 8, none, .p (.alloc [.k (C.int .i64 0), .k (C.int .i64 0)])⟩,
    ⟨some 9, none, .p (.alloc [.k (C.int .i64 0), .k (C.int .i64 0)])⟩,
    ⟨none, none, .h (.store 2 (.t 8) (.t 24))⟩,
    ⟨none, none, .h (.store 2 (.t 9) (.t 25))⟩,
    ⟨some 10, none, .p (.mv (.t 26))⟩] [5, 6, 7, 8, 9, 10])
  (.seq (.seq (.region [⟨some 27, none, .h (.load 2 true (.t 8))⟩,
    ⟨some 28, none, .h (.load 2 true (.t 5))⟩,
    ⟨some 29, none, .h (.call (.f 36) [.t 27, .t 28])⟩,
    ⟨some 30, none, .p (.un .not (.t 29))⟩,
    ⟨some 31, none, .p (.mv (.t 30))⟩,
    ⟨some 32, some (31, false), .h (.load 2 true (.t 9))⟩,
    ⟨some 33, some (31, false), .h (.load 2 true (.t 6))⟩,
    ⟨some 34, some (31, false), .h (.call (.f 36) [.t 32, .t 33])⟩,
    ⟨some 35, some (31, false), .p (.un .not (.t 34))⟩,
    ⟨some 36, none, .p (.pick (.t 31) (.k (.c (C.bool true))) (.t 35))⟩,
    ⟨some 37, none, .p (.mv (.t 36))⟩,
    ⟨some 38, some (37, false), .p (.mv (.t 10))⟩,
    ⟨some 39, some (37, false), .p (.mv (.t 7))⟩,
    ⟨some 40, some (37, false), .p (.eqb true (.t 38) (.t 39))⟩,
    ⟨some 41, none, .p (.pick (.t 37) (.k (.c (C.bool true))) (.t 40))⟩] [41])
  (.cond (.t 41)
  (.seq (.region [⟨some 4, none, .p (.mv (.k (.c (C.bool false))))⟩] [4])
  .ret)
  .skip))
  (.seq (.region [⟨some 4, none, .p (.mv (.k (.c (C.bool true))))⟩] [4])
  .ret))))) }
theorem a26_ok : okFn Try.prog 26 a26 = true := by kernel_rfl
/-- loop.example/g01215/laws.FnExactCertifyReplay -/
def a27 : AFn := { np := 1, nt := 40, res := [.t 2], body :=
  (.seq (.region [⟨some 1, none, .p (.box 25 (.t 0))⟩,
    ⟨some 2, none, .p (.mv (.k (.c (C.bool false))))⟩] [1])
  (.seq (.region [⟨some 3, none, .p (.mv (.k (.c (C.int .i64 1048576))))⟩] [1, 3])
  (.seq (.region [⟨some 9, none, .h (.load 25 true (.t 1))⟩,
    ⟨some 10, none, .p (.mv (.t 3))⟩,
    ⟨some 11, none, .h (.call (.f 47) [.t 9, .t 10])⟩,
    ⟨some 3, none, .p (.mv (.t 11))⟩] [1, 3])
  (.seq (.seq (.region [⟨some 12, none, .p (.mv (.t 3))⟩,
    ⟨some 13, none, .p (.bin .lss (.t 12) (.k (.c (C.int .i64 0))))⟩] [1, 13])
  (.cond (.t 13)
  (.seq (.region [⟨some 2, none, .p (.mv (.k (.c (C.bool true))))⟩] [2])
  .ret)
  .skip))
  (.seq (.region [⟨some 15, none, .h (.load 25 true (.t 1))⟩,
    ⟨some 16, none, .h (.call (.f 49) [.t 15])⟩,
    ⟨some 17, none, .h (.call (.f 99) [.t 16])⟩,
    ⟨some 14, none, .p (.mv (.t 17))⟩,
    ⟨some 18, none, .p (.ext (.t 14) 0)⟩,
    ⟨some 19, none, .p (.ext (.t 14) 1)⟩,
    ⟨some 4, none, .p (.mv (.t 18))⟩,
    ⟨some 5, none, .p (.mv (.t 19))⟩] [1, 4, 5])
  (.seq (.region [⟨some 20, none, .h (.load 25 true (.t 1))⟩,
    ⟨some 21, none, .h (.call (.f 49) [.t 20])⟩,
    ⟨some 6, none, .p (.alloc [.k (C.int .i64 0), .k (C.int .i64 0), .k (C.int .i64 0), .k (C.int .i64 0), .k (C.int .i64 0), .k (C.int .i64 0), .k (C.int .i64 0), .k (C.int .i64 0), .k (C.int .i64 0), .k (C.int .i64 0), .k (C.int .i64 0), .k (C.int .i64 0), .k (C.int .i64 0), .k (C.int .i64 0), .k (C.int .i64 0), .k (C.int .i64 0), .k (C.int .i64 0), .k (C.int .i64 0), .k (C.int .i64 0), .k (C.int .i64 0), .k (C.int .i64 0), .k (C.int .i64 0), .k (C.int .i64 0), .k (C.int .i64 0), .sl 2])⟩,
    ⟨none, none, .h (.store 25 (.t 6) (.t 21))⟩] [1, 4, 5, 6])
  (.seq (.region [⟨some 23, none, .h (.load 25 true (.t 6))⟩,
    ⟨some 24, none, .h (.call (.f 100) [.t 23])⟩,
    ⟨some 22, none, .p (.mv (.t 24))⟩,
    ⟨some 25, none, .p (.ext (.t 22) 0)⟩,
    ⟨some 26, none, .p (.ext (.t 22) 1)⟩,
    ⟨some 7, none, .p (.mv (.t 25))⟩,
    ⟨some 8, none, .p (.mv (.t 26))⟩] [1, 4, 5, 6, 7, 8])
  (.seq (.seq (.region [⟨some 27, none, .p (.mv (.t 7))⟩,
    ⟨some 28, none, .p (.mv (.t 4))⟩,
    ⟨some 29, none, .p (.bin .neq (.t 27) (.t 28))⟩,
    ⟨some 30, none, .p (.mv (.t 29))⟩,
    ⟨some 31, some (30, false), .p (.mv (.t 8))⟩,
    ⟨some 32, some (30, false), .p (.mv (.t 5))⟩,
    ⟨some 33, some (30, false), .p (.eqb true (.t 31) (.t 32))⟩,
    ⟨some 34, none, .p (.pick (.t 30) (.k (.c (C.bool true))) (.t 33))⟩] [1, 6, 34])
  (.cond (.t 34)
  (.seq (.region [⟨some 2, none, .p (.mv (.k (.c (C.bool false))))⟩] [2])
  .ret)
  .skip))
  (.seq (.seq (.regionE [⟨some 35, none, .h (.load 25 true (.t 6))⟩,
    ⟨some 36, none, .h (.load 25 true (.t 1))⟩,
    ⟨some 37, none, .h (.call (.f 49) [.t 36])⟩,
    ⟨some 38, none, .h (.call (.f 51) [.t 35, .t 37])⟩,
    ⟨some 39, none, .p (.un .not (.t 38))⟩] [39] [] [[], [], [], [2]])
  (.cond (.t 39)
  (.seq (.region [⟨some 2, none, .p (.mv (.k (.c (C.bool false))))⟩] [2])
  .ret)
  .skip))
  (.seq (.region [⟨some 2, none, .p (.mv (.k (.c (C.bool true))))⟩] [2])
  .ret)))))))))) }
theorem a27_ok : okFn Try.prog 27 a27 = true := by kernel_rfl
/-- loop.example/g01215/laws.FnExactCutLoops -/
def a28 : AFn := { np := 1, nt := 96, res := [.t 2], body :=
  (.seq (.region [⟨some 1, none, .p (.box 25 (.t 0))⟩,
    ⟨some 2, none, .p (.mv (.k (.c (C.bool false))))⟩] [1])
  (.seq (.region [⟨some 3, none, .p (.mv (.k (.c (C.int .i64 1048576))))⟩] [1, 3])
  (.seq (.region [⟨some 14, none, .h (.load 25 true (.t 1))⟩,
    ⟨some 15, none, .p (.mv (.t 3))⟩,
    ⟨some 16, none, .h (.call (.f 47) [.t 14, .t 15])⟩,
    ⟨some 3, none, .p (.mv (.t 16))⟩] [1, 3])
  (.seq (.seq (.region [⟨some 17, none, .p (.mv (.t 3))⟩,
    ⟨some 18, none, .p (.bin .lss (.t 17) (.k (.c (C.int .i64 0))))⟩] [1, 18])
  (.cond (.t 18)
  (.seq (.region [⟨some 2, none, .p (.mv (.k (.c (C.bool true))))⟩] [2])
  .ret)
  .skip))
  (.seq (.region [⟨some 20, none, .h (.load 25 true (.t 1))⟩,
    ⟨some 21, none, .h (.call (.f 49) [.t 20])⟩,
    ⟨some 22, none, .h (.call (.f 101) [.t 21])⟩,
    ⟨some 19, none, .p (.mv (.t 22))⟩,
    ⟨some 23, none, .p (.ext (.t 19) 0)⟩,
    ⟨some 24, none, .p (.ext (.t 19) 1)⟩,
    ⟨some 4, none, .p (.alloc [.k (C.int .i64 0), .k (C.int .i64 0), .k (C.int .i64 0), .k (C.int .i64 0), .k (C.int .i64 0), .k (C.int .i64 0), .k (C.int .i64 0), .k (C.int .i64 0), .k (C.int .i64 0), .k (C.int .i64 0), .k (C.int .i64 0), .k (C.int .i64 0), .k (C.int .i64 0), .k (C.int .i64 0), .k (C.int .i64 0), .k (C.int .i64 0), .k (C.int .i64 0), .k (C.int .i64 0), .k (C.int .i64 0), .k (C.int .i64 0), .k (C.int .i64 0), .k (C.int .i64 0), .k (C.int .i64 0), .k (C.int .i64 0), .sl 2])⟩,
    ⟨none, none, .h (.store 25 (.t 4) (.t 23))⟩,
    ⟨some 5, none, .p (.mv (.t 24))⟩] [1, 4, 5])
  (.seq (.region [⟨some 25, none, .h (.load 25 true (.t 1))⟩,
    ⟨some 26, none, .h (.call (.f 49) [.t 25])⟩,
    ⟨some 6, none, .p (.alloc [.k (C.int .i64 0), .k (C.int .i64 0), .k (C.int .i64 0), .k (C.int .i64 0), .k (C.int .i64 0), .k (C.int .i64 0), .k (C.int .i64 0), .k (C.int .i64 0), .k (C.int .i64 0), .k (C.int .i64 0), .k (C.int .i64 0), .k (C.int .i64 0), .k (C.int .i64 0), .k (C.int .i64 0), .k (C.int .i64 0), .k (C.int .i64 0), .k (C.int .i64 0), .k (C.int .i64 0), .k (C.int .i64 0), .k (C.int .i64 0), .k (C.int .i64 0), .k (C.int .i64 0), .k (C.int .i64 0), .k (C.int .i64 0), .sl 2])⟩,
    ⟨none, none, .h (.store 25 (.t 6) (.t 26))⟩] [1, 4, 5, 6])
  (.seq (.region [⟨some 28, none, .h (.load 25 true (.t 6))⟩,
    ⟨some 29, none, .h (.call (.f 102) [.t 28])⟩,
    ⟨some 27, none, .p (.mv (.t 29))⟩,
    ⟨some 30, none, .p (.ext (.t 27) 0)⟩,
    ⟨some 31, none, .p (.ext (.t 27) 1)⟩,
    ⟨some 7, none, .p (.alloc [.k (C.int .i64 0), .k (C.int .i64 0), .k (C.int .i64 0), .k (C.int .i64 0), .k (C.int .i64 0), .k (C.int .i64 0), .k (C.int .i64 0), .k (C.int .i64 0), .k (C.int .i64 0), .k (C.int .i64 0), .k (C.int .i64 0), .k (C.int .i64 0), .k (C.int .i64 0), .k (C.int .i64 0), .k (C.int .i64 0), .k (C.int .i64 0), .k (C.int .i64 0), .k (C.int .i64 0), .k (C.int .i64 0), .k (C.int .i64 0), .k (C.int .i64 0), .k (C.int .i64 0), .k (C.int .i64 0), .k (C.int .i64 0), .sl 2])⟩,
    ⟨none, none, .h (.store 25 (.t 7) (.t 30))⟩,
    ⟨some 8, none, .p (.mv (.t 31))⟩] [1, 4, 5, 6, 7, 8])
  (.seq (.seq (.region [⟨some 32, none, .h (.load 25 true (.t 7))⟩,
    ⟨some 33, none, .h (.load 25 true (.t 4))⟩,
    ⟨some 34, none, .h (.call (.f 51) [.t 32, .t 33])⟩,
    ⟨some 35, none, .p (.un .not (.t 34))⟩,
    ⟨some 36, none, .p (.mv (.t 35))⟩,
    ⟨some 37, some (36, false), .p (.mv (.t 8))⟩,
    ⟨some 38, some (36, false), .p (.mv (.t 5))⟩,
    ⟨some 39, some (36, false), .p (.eqb true (.t 37) (.t 38))⟩,
    ⟨some 40, none, .p (.pick (.t 36) (.k (.c (C.bool true))) (.t 39))⟩] [1, 4, 5, 6, 7, 8, 40])
  (.cond (.t 40)
  (.seq (.region [⟨some 2, none, .p (.mv (.k (.c (C.bool false))))⟩] [2])
  .ret)
  .skip))
  (.seq (.seq (.regionE [⟨some 41, none, .h (.load 25 true (.t 6))⟩,
    ⟨some 42, none, .h (.load 25 true (.t 1))⟩,
    ⟨some 43, none, .h (.call (.f 49) [.t 42])⟩,
    ⟨some 44, none, .h (.call (.f 51) [.t 41, .t 43])⟩,
    ⟨some 45, none, .p (.un .not (.t 44))⟩] [1, 4, 5, 6, 7, 8, 45] [] [[], [], [], [2]])
  (.cond (.t 45)
  (.seq (.region [⟨some 2, none, .p (.mv (.k (.c (C.bool false))))⟩] [2])
  .ret)
  .skip))
  (.seq (.region [⟨some 9, none, .p (.mv (.k (.c (C.int .i64 1))))⟩] [1, 4, 5, 6, 7, 8, 9])
  (.seq (.region [⟨some 46, none, .h (.load 25 true (.t 6))⟩,
    ⟨some 47, none, .p (.mv (.t 9))⟩,
    ⟨some 48, none, .h (.call (.f 76) [.t 46, .t 47])⟩,
    ⟨some 9, none, .p (.mv (.t 48))⟩] [1, 4, 5, 7, 8, 9])
  (.seq (.seq (.region [⟨some 49, none, .p (.mv (.t 9))⟩,
    ⟨some 50, none, .p (.bin .lss (.t 49) (.k (.c (C.int .i64 0))))⟩,
    ⟨some 51, none, .p (.mv (.t 50))⟩,
    ⟨some 52, some (51, false), .h (.load 25 true (.t 7))⟩,
    ⟨some 53, some (51, false), .h (.load 25 true (.t 4))⟩,
    ⟨some 54, some (51, false), .h (.call (.f 51) [.t 52, .t 53])⟩,
    ⟨some 55, some (51, false), .p (.un .not (.t 54))⟩,
    ⟨some 56, none, .p (.pick (.t 51) (.k (.c (C.bool true))) (.t 55))⟩,
    ⟨some 57, none, .p (.mv (.t 56))⟩,
    ⟨some 58, some (57, false), .p (.mv (.t 8))⟩,
    ⟨some 59, some (57, false), .p (.mv (.t 5))⟩,
    ⟨some 60, some (57, false), .p (.eqb true (.t 58) (.t 59))⟩,
    ⟨some 61, none, .p (.pick (.t 57) (.k (.c (C.bool true))) (.t 60))⟩] [1, 4, 5, 7, 61])
  (.cond (.t 61)
  (.seq (.region [⟨some 2, none, .p (.mv (.k (.c (C.bool false))))⟩] [2])
  .ret)
  .skip))
  (.seq (.region [⟨some 10, none, .p (.mv (.k (.c (C.int .i64 1))))⟩] [1, 4, 5, 7, 10])
  (.seq (.region [⟨some 62, none, .h (.load 25 true (.t 7))⟩,
    ⟨some 63, none, .p (.mv (.t 10))⟩,
    ⟨some 64, none, .h (.call (.f 76) [.t 62, .t 63])⟩,
    ⟨some 10, none, .p (.mv (.t 64))⟩] [1, 4, 5, 7, 10])
  (.seq (.region [⟨some 11, none, .p (.mv (.k (.c (C.int .i64 1))))⟩] [1, 4, 5, 7, 10, 11])
  (.seq (.region [⟨some 65, none, .h (.load 25 true (.t 7))⟩,
    ⟨some 66, none, .p (.mv (.t 11))⟩,
    ⟨some 67, none, .h (.call (.f 84) [.t 65, .t 66])⟩,
    ⟨some 11, none, .p (.mv (.t 67))⟩] [1, 4, 5, 7, 10, 11])
  (.seq (.seq (.region [⟨some 68, none, .p (.mv (.t 11))⟩,
    ⟨some 69, none, .p (.bin .lss (.t 68) (.k (.c (C.int .i64 0))))⟩] [1, 4, 5, 7, 10, 11, 69])
  (.cond (.t 69)
  (.seq (.region [⟨some 2, none, .p (.mv (.k (.c (C.bool false))))⟩] [2])
  .ret)
  .skip))
  (.seq (.seq (.region [⟨some 70, none, .p (.mv (.t 11))⟩,
    ⟨some 71, none, .p (.mv (.t 10))⟩,
    ⟨some 72, none, .p (.bin .neq (.t 70) (.t 71))⟩] [1, 4, 5, 7, 10, 72])
  (.cond (.t 72)
  (.seq (.region [⟨some 2, none, .p (.mv (.k (.c (C.bool false))))⟩] [2])
  .ret)
  .skip))
  (.seq (.region [⟨some 74, none, .h (.load 25 true (.t 1))⟩,
    ⟨some 75, none, .h (.call (.f 49) [.t 74])⟩,
    ⟨some 76, none, .h (.call (.f 102) [.t 75])⟩,
    ⟨some 73, none, .p (.mv (.t 76))⟩,
    ⟨some 77, none, .p (.ext (.t 73) 0)⟩,
    ⟨some 78, none, .p (.ext (.t 73) 1)⟩,
    ⟨some 12, none, .p (.alloc [.k (C.int .i64 0), .k (C.int .i64 0), .k (C.int .i64 0), .k (C.int .i64 0), .k (C.int .i64 0), .k (C.int .i64 0), .k (C.int .i64 0), .k (C.int .i64 0), .k (C.int .i64 0), .k (C.int .i64 0), .k (C.int .i64 0), .k (C.int .i64 0), .k (C.int .i64 0), .k (C.int .i64 0), .k (C.int .i64 0), .k (C.int .i64 0), .k (C.int .i64 0), .k (C.int .i64 0), .k (C.int .i64 0), .k (C.int .i64 0), .k (C.int .i64 0), .k (C.int .i64 0), .k (C.int .i64 0), .k (C.int .i64 0), .sl 2])⟩,
    ⟨none, none, .h (.store 25 (.t 12) (.t 77))⟩,
    ⟨some 13, none, .p (.mv (.t 78))⟩] [4, 5, 7, 10, 12, 13])
  (.seq (.seq (.region [⟨some 79, none, .h (.load 25 true (.t 12))⟩,
    ⟨some 80, none, .h (.load 25 true (.t 4))⟩,
    ⟨some 81, none, .h (.call (.f 51) [.t 79, .t 80])⟩,
    ⟨some 82, none, .p (.un .not (.t 81))⟩,
    ⟨some 83, none, .p (.mv (.t 82))⟩,
    ⟨some 84, some (83, false), .p (.mv (.t 13))⟩,
    ⟨some 85, some (83, false), .p (.mv (.t 5))⟩,
    ⟨some 86, some (83, false), .p (.eqb true (.t 84) (.t 85))⟩,
    ⟨some 87, none, .p (.pick (.t 83) (.k (.c (C.bool true))) (.t 86))⟩] [7, 10, 87])
  (.cond (.t 87)
  (.seq (.region [⟨some 2, none, .p (.mv (.k (.c (C.bool false))))⟩] [2])
  .ret)
  .skip))
  (.seq (.region [⟨some 11, none, .p (.mv (.k (.c (C.int .i64 1))))⟩] [7, 10, 11])
  (.seq (.region [⟨some 88, none, .h (.load 25 true (.t 7))⟩,
    ⟨some 89, none, .p (.mv (.t 11))⟩,
    ⟨some 90, none, .h (.call (.f 84) [.t 88, .t 89])⟩,
    ⟨some 11, none, .p (.mv (.t 90))⟩] [10, 11])
  (.seq (.seq (.region [⟨some 91, none, .p (.mv (.t 11))⟩,
    ⟨some 92, none, .p (.bin .lss (.t 91) (.k (.c (C.int .i64 0))))⟩] [10, 11, 92])
  (.cond (.t 92)
  (.seq (.region [⟨some 2, none, .p (.mv (.k (.c (C.bool false))))⟩] [2])
  .ret)
  .skip))
  (.seq (.seq (.region [⟨some 93, none, .p (.mv (.t 11))⟩,
    ⟨some 94, none, .p (.mv (.t 10))⟩,
    ⟨some 95, none, .p (.bin .neq (.t 93) (.t 94))⟩] [95])
  (.cond (.t 95)
  (.seq (.region [⟨some 2, none, .p (.mv (.k (.c (C.bool false))))⟩] [2])
  .ret)
  .skip))
  (.seq (.region [⟨some 2, none, .p (.mv (.k (.c (C.bool true))))⟩] [2])
  .ret))))))))))))))))))))))))) }
theorem a28_ok : okFn Try.prog 28 a28 = true := by kernel_rfl
/-- loop.example/g01215/laws.FnDeals -/
def a29 : AFn := { np := 1, nt := 290, res := [.t 2], body :=
  (.seq (.region [⟨some 2, none, .p (.mv (.k (.c (C.bool false))))⟩] [0])
  (.seq (.seq (.region [⟨some 42, none, .p (.mv (.t 0))⟩,
    ⟨some 43, none, .h (.call (.f 103) [.t 42])⟩] [0, 43])
  (.cond (.t 43)
  (.seq (.region [⟨some 2, none, .p (.mv (.k (.c (C.bool true))))⟩] [2])
  .ret)
  .skip))
  (.seq (.region [⟨some 45, none, .p (.mv (.t 0))⟩,
    ⟨some 46, none, .h (.call (.f 104) [.t 45])⟩,
    ⟨some 44, none, .p (.mv (.t 46))⟩,
    ⟨some 47, none, .p (.ext (.t 44) 0)⟩,
    ⟨some 48, none, .p (.ext (.t 44) 1)⟩,
    ⟨some 3, none, .p (.alloc [.k (C.int .i64 0), .k (C.int .i64 0), .k (C.int .i64 0), .k (C.int .i64 0), .k (C.int .i64 0), .k (C.int .i64 0)])⟩,
    ⟨some 4, none, .p (.alloc [.k (C.int .i64 0), .k (C.int .i64 0), .k (C.int .i64 0), .k (C.int .i64 0), .k (C.int .i64 0), .k (C.int .i64 0)])⟩,
    ⟨none, none, .h (.store 6 (.t 3) (.t 47))⟩,
    ⟨none, none, .h (.store 6 (.t 4) (.t 48))⟩] [0, 3, 4])
  (.seq (.region [⟨some 50, none, .h (.load 6 true (.t 3))⟩,
    ⟨some 51, none, .h (.load 6 true (.t 4))⟩,
    ⟨some 52, none, .h (.call (.f 105) [.t 50, .t 51])⟩,
    ⟨some 49, none, .p (.mv (.t 52))⟩,
    ⟨some 53, none, .p (.ext (.t 49) 0)⟩,
    ⟨some 54, none, .p (.ext (.t 49) 1)⟩,
    ⟨some 5, none, .p (.alloc [.k (C.int .i64 0), .k (C.int .i64 0)])⟩,
    ⟨none, none, .h (.store 2 (.t 5) (.t 53))⟩,
    ⟨some 6, none, .p (.mv (.t 54))⟩] [0, 3, 4, 5, 6])
  (.seq (.region [⟨some 56, none, .h (.load 6 true (.t 3))⟩,
    ⟨some 57, none, .h (.load 6 true (.t 4))⟩,
    ⟨some 58, none, .h (.call (.f 106) [.t 56, .t 57])⟩,
    ⟨some 55, none, .p (.mv (.t 58))⟩,
    ⟨some 59, none, .p (.ext (.t 55) 0)⟩,
    ⟨some 60, none, .p (.ext (.t 55) 1)⟩,
    ⟨some 7, none, .p (.alloc [.k (C.int .i64 0), .k (C.int .i64 0)])⟩,
    ⟨none, none, .h (.store 2 (.t 7) (.t 59))⟩,
    ⟨some 8, none, .p (.mv (.t 60))⟩] [0, 3, 4, 5, 6, 7, 8])
  (.seq (.region [⟨some 62, none, .h (.load 6 true (.t 3))⟩,
    ⟨some 63, none, .h (.load 6 true (.t 4))⟩,
    ⟨some 64, none, .h (.call (.f 35) [.t 62, .t 63])⟩,
    ⟨some 61, none, .p (.mv (.t 64))⟩,
    ⟨some 65, none, .p (.ext (.t 61) 0)⟩,
    ⟨some 66, none, .p (.ext (.t 61) 1)⟩,
    ⟨some 9, none, .p (.alloc [.k (C.int .i64 0), .k (C.int .i64 0)])⟩,
    ⟨none, none, .h (.store 2 (.t 9) (.t 65))⟩,
    ⟨some 10, none, .p (.mv (.t 66))⟩] [0, 3, 4, 5, 6, 7, 8, 9, 10])
  (.seq (.region [⟨some 68, none, .h (.load 6 true (.t 3))⟩,
    ⟨some 69, none, .h (.load 6 true (.t 4))⟩,
    ⟨some 70, none, .h (.call (.f 33) [.t 68, .t 69])⟩,
    ⟨some 67, none, .p (.mv (.t 70))⟩,
    ⟨some 71, none, .p (.ext (.t 67) 0)⟩,
    ⟨some 72, none, .p (.ext (.t 67) 1)⟩,
    ⟨some 11, none, .p (.alloc [.k (C.int .i64 0), .k (C.int .i64 0)])⟩,
    ⟨none, none, .h (.store 2 (.t 11) (.t 71))⟩,
    ⟨some 12, none, .p (.mv (.t 72))⟩] [0, 3, 4, 5, 6, 7, 8, 9, 10, 11, 12])
  (.seq (.region [⟨some 74, none, .h (.load 6 true (.t 3))⟩,
    ⟨some 75, none, .h (.load 6 true (.t 4))⟩,
    ⟨some 76, none, .h (.call (.f 107) [.t 74, .t 75])⟩,
    ⟨some 73, none, .p (.mv (.t 76))⟩,
    ⟨some 77, none, .p (.ext (.t 73) 0)⟩,
    ⟨some 78, none, .p (.ext (.t 73) 1)⟩,
    ⟨some 13, none, .p (.mv (.t 77))⟩,
    ⟨some 14, none, .p (.mv (.t 78))⟩] [0, 3, 4, 5, 6, 7, 8, 9, 10, 11, 12, 13, 14])
  (.seq (.region [⟨some 80, none, .h (.load 6 true (.t 3))⟩,
    ⟨some 81, none, .h (.load 6 true (.t 4))⟩,
    ⟨some 82, none, .h (.call (.f 108) [.t 80, .t 81])⟩,
    ⟨some 79, none, .p (.mv (.t 82))⟩,
    ⟨some 83, none, .p (.ext (.t 79) 0)⟩,
    ⟨some 84, none, .p (.ext (.t 79) 1)⟩,
    ⟨some 15, none, .p (.mv (.t 83))⟩,
    ⟨some 16, none, .p (.mv (.t 84))⟩] [0, 3, 5, 6, 7, 8, 9, 10, 11, 12, 13, 14, 15, 16])
  (.seq (.region [⟨some 86, none, .p (.mv (.t 0))⟩,
    ⟨some 87, none, .h (.call (.f 110) [.t 86, .k (.c (C.int .i64 1))])⟩,
    ⟨some 88, none, .h (.call (.f 109) [.t 87])⟩,
    ⟨some 85, none, .p (.mv (.t 88))⟩,
    ⟨some 89, none, .p (.ext (.t 85) 0)⟩,
    ⟨some 90, none, .p (.ext (.t 85) 1)⟩,
    ⟨some 91, none, .p (.ext (.t 85) 2)⟩,
    ⟨some 92, none, .p (.ext (.t 85) 3)⟩,
    ⟨some 17, none, .p (.alloc [.k (C.int .i64 0), .k (C.int .i64 0), .k (C.int .i64 0), .k (C.int .i64 0), .k (C.int .i64 0), .k (C.int .i64 0)])⟩,
    ⟨some 18, none, .p (.alloc [.k (C.int .i64 0), .k (C.int .i64 0), .k (C.int .i64 0), .k (C.int .i64 0), .k (C.int .i64 0), .k (C.int .i64 0)])⟩,
    ⟨none, none, .h (.store 6 (.t 17) (.t 89))⟩,
    ⟨none, none, .h (.store 6 (.t 18) (.t 90))⟩,
    ⟨some 19, none, .p (.mv (.t 91))⟩,
    ⟨some 20, none, .p (.mv (.t 92))⟩] [0, 3, 5, 6, 7, 8, 9, 10, 11, 12, 13, 14, 15, 16, 17, 18, 19, 20])
  (.seq (.region [⟨some 94, none, .h (.load 6 true (.t 17))⟩,
    ⟨some 95, none, .h (.load 6 true (.t 18))⟩,
    ⟨some 96, none, .p (.mv (.t 19))⟩,
    ⟨some 97, none, .p (.mv (.t 20))⟩,
    ⟨some 98, none, .h (.call (.f 111) [.t 94, .t 95, .t 96, .t 97])⟩,
    ⟨some 93, none, .p (.mv (.t 98))⟩,
    ⟨some 99, none, .p (.ext (.t 93) 0)⟩,
    ⟨some 100, none, .p (.ext (.t 93) 1)⟩,
    ⟨some 21, none, .p (.alloc [.k (C.int .i64 0), .k (C.int .i64 0)])⟩,
    ⟨none, none, .h (.store 2 (.t 21) (.t 99))⟩,
    ⟨some 22, none, .p (.mv (.t 100))⟩] [0, 3, 5, 6, 7, 8, 9, 10, 11, 12, 13, 14, 15, 16, 17, 18, 19, 20, 21, 22])
  (.seq (.region [⟨some 102, none, .h (.load 6 true (.t 17))⟩,
    ⟨some 103, none, .h (.load 6 true (.t 18))⟩,
    ⟨some 104, none, .p (.mv (.t 19))⟩,
    ⟨some 105, none, .p (.mv (.t 20))⟩,
    ⟨some 106, none, .h (.call (.f 112) [.t 102, .t 103, .t 104, .t 105])⟩,
    ⟨some 101, none, .p (.mv (.t 106))⟩,
    ⟨some 107, none, .p (.ext (.t 101) 0)⟩,
    ⟨some 108, none, .p (.ext (.t 101) 1)⟩,
    ⟨some 23, none, .p (.alloc [.k (C.int .i64 0), .k (C.int .i64 0)])⟩,
    ⟨none, none, .h (.store 2 (.t 23) (.t 107))⟩,
    ⟨some 24, none, .p (.mv (.t 108))⟩] [0, 3, 5, 6, 7, 8, 9, 10, 11, 12, 13, 14, 15, 16, 17, 18, 19, 21, 22, 23, 24])
  (.seq (.region [⟨some 110, none, .p (.mv (.t 0))⟩,
    ⟨some 111, none, .h (.call (.f 110) [.t 110, .k (.c (C.int .i64 2))])⟩,
    ⟨some 112, none, .h (.call (.f 113) [.t 111])⟩,
    ⟨some 109, none, .p (.mv (.t 112))⟩,
    ⟨some 113, none, .p (.ext (.t 109) 0)⟩,
    ⟨some 114, none, .p (.ext (.t 109) 1)⟩,
    ⟨some 115, none, .p (.ext (.t 109) 2)⟩,
    ⟨some 116, none, .p (.ext (.t 109) 3)⟩,
    ⟨some 25, none, .p (.alloc [.k (C.int .i64 0), .k (C.int .i64 0), .k (C.int .i64 0), .k (C.int .i64 0), .k (C.int .i64 0), .k (C.int .i64 0)])⟩,
    ⟨some 26, none, .p (.alloc [.k (C.int .i64 0), .k (C.int .i64 0), .k (C.int .i64 0), .k (C.int .i64 0), .k (C.int .i64 0), .k (C.int .i64 0)])⟩,
    ⟨none, none, .h (.store 6 (.t 25) (.t 113))⟩,
    ⟨none, none, .h (.store 6 (.t 26) (.t 114))⟩,
    ⟨some 27, none, .p (.mv (.t 115))⟩,
    ⟨some 28, none, .p (.mv (.t 116))⟩] [3, 5, 6, 7, 8, 9, 10, 11, 12, 13, 14, 15, 16, 17, 18, 19, 21, 22, 23, 24, 25, 26, 27, 28])
  (.seq (.region [⟨some 118, none, .h (.load 6 true (.t 25))⟩,
    ⟨some 119, none, .h (.load 6 true (.t 26))⟩,
    ⟨some 120, none, .p (.mv (.t 27))⟩,
    ⟨some 121, none, .p (.mv (.t 28))⟩,
    ⟨some 122, none, .h (.call (.f 114) [.t 118, .t 119, .t 120, .t 121])⟩,
    ⟨some 117, none, .p (.mv (.t 122))⟩,
    ⟨some 123, none, .p (.ext (.t 117) 0)⟩,
    ⟨some 124, none, .p (.ext (.t 117) 1)⟩,
    ⟨some 29, none, .p (.alloc [.k (C.int .i64 0), .k (C.int .i64 0)])⟩,
    ⟨none, none, .h (.store 2 (.t 29) (.t 123))⟩,
    ⟨some 30, none, .p (.mv (.t 124))⟩] [3, 5, 6, 7, 8, 9, 10, 11, 12, 13, 14, 15, 16, 17, 18, 19, 21, 22, 23, 24, 25, 26, 27, 28, 29, 30])
  (.seq (.region [⟨some 126, none, .h (.load 6 true (.t 25))⟩,
    ⟨some 127, none, .h (.load 6 true (.t 26))⟩,
    ⟨some 128, none, .p (.mv (.t 27))⟩,
    ⟨some 129, none, .p (.mv (.t 28))⟩,
    ⟨some 130, none, .h (.call (.f 115) [.t 126, .t 127, .t 128, .t 129])⟩,
    ⟨some 125, none, .p (.mv (.t 130))⟩,
    ⟨some 131, none, .p (.ext (.t 125) 0)⟩,
    ⟨some 132, none, .p (.ext (.t 125) 1)⟩,
    ⟨some 31, none, .p (.alloc [.k (C.int .i64 0), .k (C.int .i64 0)])⟩,
    ⟨none, none, .h (.store 2 (.t 31) (.t 131))⟩,
    ⟨some 32, none, .p (.mv (.t 132))⟩] [3, 5, 6, 7, 8, 9, 10, 11, 12, 13, 14, 15, 16, 17, 18, 19, 21, 22, 23, 24, 25, 26, 27, 28, 29, 30, 31, 32])
  (.seq (.seq (.region [⟨some 133, none, .h (.load 2 true (.t 5))⟩,
    ⟨some 134, none, .h (.load 2 true (.t 7))⟩,
    ⟨some 135, none, .p (.eqv true [.int .i64, .int .i64] (.t 133) (.t 134))⟩,
    ⟨some 136, none, .p (.mv (.t 135))⟩,
    ⟨some 137, some (136, false), .p (.mv (.t 6))⟩,
    ⟨some 138, some (136, false), .p (.mv (.t 8))⟩,
    ⟨some 139, some (136, false), .p (.eqb true (.t 137) (.t 138))⟩,
    ⟨some 140, none, .p (.pick (.t 136) (.k (.c (C.bool true))) (.t 139))⟩,
    ⟨some 141, none, .p (.mv (.t 140))⟩,
    ⟨some 142, some (141, false), .h (.load 2 true (.t 9))⟩,
    ⟨some 143, some (141, false), .h (.load 2 true (.t 11))⟩,
    ⟨some 144, some (141, false), .p (.eqv true [.int .i64, .int .i64] (.t 142) (.t 143))⟩,
    ⟨some 145, none, .p (.pick (.t 141) (.k (.c (C.bool true))) (.t 144))⟩,
    ⟨some 146, none, .p (.mv (.t 145))⟩,
    ⟨some 147, some (146, false), .p (.mv (.t 10))⟩,
    ⟨some 148, some (146, false), .p (.mv (.t 12))⟩,
    ⟨some 149, some (146, false), .p (.eqb true (.t 147) (.t 148))⟩,
    ⟨some 150, none, .p (.pick (.t 146) (.k (.c (C.bool true))) (.t 149))⟩,
    ⟨some 151, none, .p (.mv (.t 150))⟩,
    ⟨some 152, some (151, false), .p (.mv (.t 13))⟩,
    ⟨some 153, some (151, false), .p (.mv (.t 15))⟩,
    ⟨some 154, some (151, false), .p (.bin .neq (.t 152) (.t 153))⟩,
    ⟨some 155, none, .p (.pick (.t 151) (.k (.c (C.bool true))) (.t 154))⟩,
    ⟨some 156, none, .p (.mv (.t 155))⟩,
    ⟨some 157, some (156, false), .p (.mv (.t 14))⟩,
    ⟨some 158, some (156, false), .p (.mv (.t 16))⟩,
    ⟨some 159, some (156, false), .p (.eqb true (.t 157) (.t 158))⟩,
    ⟨some 160, none, .p (.pick (.t 156) (.k (.c (C.bool true))) (.t 159))⟩,
    ⟨some 161, none, .p (.mv (.t 160))⟩,
    ⟨some 162, some (161, false), .h (.load 2 true (.t 21))⟩,
    ⟨some 163, some (161, false), .h (.load 2 true (.t 23))⟩,
    ⟨some 164, some (161, false), .p (.eqv true [.int .i64, .int .i64] (.t 162) (.t 163))⟩,
    ⟨some 165, none, .p (.pick (.t 161) (.k (.c (C.bool true))) (.t 164))⟩,
    ⟨some 166, none, .p (.mv (.t 165))⟩,
    ⟨some 167, some (166, false), .p (.mv (.t 22))⟩,
    ⟨some 168, some (166, false), .p (.mv (.t 24))⟩,
    ⟨some 169, some (166, false), .p (.eqb true (.t 167) (.t 168))⟩,
    ⟨some 170, none, .p (.pick (.t 166) (.k (.c (C.bool true))) (.t 169))⟩,
    ⟨some 171, none, .p (.mv (.t 170))⟩,
    ⟨some 172, some (171, false), .h (.load 2 true (.t 29))⟩,
    ⟨some 173, some (171, false), .h (.load 2 true (.t 31))⟩,
    ⟨some 174, some (171, false), .p (.eqv true [.int .i64, .int .i64] (.t 172) (.t 173))⟩,
    ⟨some 175, none, .p (.pick (.t 171) (.k (.c (C.bool true))) (.t 174))⟩,
    ⟨some 176, none, .p (.mv (.t 175))⟩,
    ⟨some 177, some (176, false), .p (.mv (.t 30))⟩,
    ⟨some 178, some (176, false), .p (.mv (.t 32))⟩,
    ⟨some 179, some (176, false), .p (.eqb true (.t 177) (.t 178))⟩,
    ⟨some 180, none, .p (.pick (.t 176) (.k (.c (C.bool true))) (.t 179))⟩,
    ⟨some 181, none, .p (.mv (.t 180))⟩,
    ⟨some 182, some (181, false), .p (.mv (.t 6))⟩,
    ⟨some 183, some (181, false), .p (.mv (.t 10))⟩,
    ⟨some 184, some (181, false), .p (.eqb true (.t 182) (.t 183))⟩,
    ⟨some 185, none, .p (.pick (.t 181) (.k (.c (C.bool true))) (.t 184))⟩,
    ⟨some 186, none, .p (.mv (.t 185))⟩,
    ⟨some 187, some (186, false), .p (.mv (.t 6))⟩,
    ⟨some 188, some (186, false), .p (.mv (.t 14))⟩,
    ⟨some 189, some (186, false), .p (.eqb true (.t 187) (.t 188))⟩,
    ⟨some 190, none, .p (.pick (.t 186) (.k (.c (C.bool true))) (.t 189))⟩] [3, 5, 6, 9, 13, 17, 18, 19, 22, 25, 26, 27, 28, 29, 30, 190])
  (.cond (.t 190)
  (.seq (.region [⟨some 2, none, .p (.mv (.k (.c (C.bool false))))⟩] [2])
  .ret)
  .skip))
  (.seq (.seq (.region [⟨some 191, none, .p (.mv (.t 22))⟩,
    ⟨some 192, none, .p (.mv (.t 191))⟩,
    ⟨some 193, some (192, true), .p (.mv (.t 19))⟩,
    ⟨some 194, some (192, true), .p (.ixA 6 1 (.t 17) (.t 193))⟩,
    ⟨some 195, some (192, true), .h (.load 1 false (.t 194))⟩,
    ⟨some 196, some (192, true), .p (.bin .gtr (.t 195) (.k (.c (C.int .i64 0))))⟩,
    ⟨some 197, none, .p (.pick (.t 192) (.t 196) (.k (.c (C.bool false))))⟩] [3, 5, 6, 9, 13, 17, 18, 19, 25, 26, 27, 28, 29, 30, 197])
  (.cond (.t 197)
  (.seq (.region [⟨some 198, none, .p (.build [.k (C.int .i64 0), .k (C.int .i64 0)] [(0, 1, .k (.c (C.int .i64 0))), (1, 1, .k (.c (C.int .i64 1)))])⟩,
    ⟨some 33, none, .p (.alloc [.k (C.int .i64 0), .k (C.int .i64 0)])⟩,
    ⟨none, none, .h (.store 2 (.t 33) (.t 198))⟩] [3, 5, 6, 9, 13, 17, 18, 19, 25, 26, 27, 28, 29, 30, 33])
  (.seq (.seq (.region [⟨some 34, none, .p (.mv (.k (.c (C.int .i64 1))))⟩] [3, 5, 6, 9, 13, 17, 18, 19, 25, 26, 27, 28, 29, 30, 33, 34])
  (.block 0 (.loop (.seq (.seq (.region [⟨some 199, none, .p (.mv (.t 34))⟩,
    ⟨some 200, none, .p (.bin .leq (.t 199) (.k (.c (C.int .i64 5))))⟩] [3, 5, 6, 9, 13, 17, 18, 19, 25, 26, 27, 28, 29, 30, 33, 34, 200])
  (.cond (.t 200)
  .skip
  (.exit 0)))
  (.seq (.block 1 (.seq (.region [⟨some 204, none, .h (.load 6 true (.t 17))⟩,
    ⟨some 205, none, .h (.load 6 true (.t 18))⟩,
    ⟨some 206, none, .p (.mv (.t 19))⟩,
    ⟨some 207, none, .p (.mv (.t 34))⟩,
    ⟨some 208, none, .h (.call (.f 111) [.t 204, .t 205, .t 206, .t 207])⟩,
    ⟨some 203, none, .p (.mv (.t 208))⟩,
    ⟨some 209, none, .p (.ext (.t 203) 0)⟩,
    ⟨some 210, none, .p (.ext (.t 203) 1)⟩,
    ⟨some 35, none, .p (.alloc [.k (C.int .i64 0), .k (C.int .i64 0)])⟩,
    ⟨none, none, .h (.store 2 (.t 35) (.t 209))⟩,
    ⟨some 36, none, .p (.mv (.t 210))⟩] [3, 5, 6, 9, 13, 17, 18, 19, 25, 26, 27, 28, 29, 30, 33, 34, 35, 36])
  (.seq (.seq (.region [⟨some 211, none, .p (.mv (.t 36))⟩,
    ⟨some 212, none, .p (.un .not (.t 211))⟩] [3, 5, 6, 9, 13, 17, 18, 19, 25, 26, 27, 28, 29, 30, 33, 34, 35, 212])
  (.cond (.t 212)
  (.seq (.region [⟨some 2, none, .p (.mv (.k (.c (C.bool false))))⟩] [2])
  .ret)
  .skip))
  (.region [⟨some 213, none, .h (.load 2 true (.t 33))⟩,
    ⟨some 214, none, .h (.load 2 true (.t 35))⟩,
    ⟨some 215, none, .h (.call (.f 116) [.t 213, .t 214])⟩,
    ⟨none, none, .h (.store 2 (.t 33) (.t 215))⟩] [3, 5, 6, 9, 13, 17, 18, 19, 25, 26, 27, 28, 29, 30, 33, 34]))))
  (.region [⟨some 201, none, .p (.mv (.t 34))⟩,
    ⟨some 202, none, .p (.bin .add (.t 201) (.k (.c (C.int .i64 1))))⟩,
    ⟨some 34, none, .p (.mv (.t 202))⟩] [3, 5, 6, 9, 13, 17, 18, 19, 25, 26, 27, 28, 29, 30, 33, 34]))) [3, 5, 6, 9, 13, 17, 18, 19, 25, 26, 27, 28, 29, 30, 33, 34])))
  (.seq (.region [⟨some 216, none, .h (.load 2 true (.t 33))⟩,
    ⟨some 217, none, .p (.build [.k (C.int .i64 0), .k (C.int .i64 0)] [(0, 1, .k (.c (C.int .i64 1))), (1, 1, .k (.c (C.int .i64 1)))])⟩,
    ⟨some 218, none, .p (.eqv true [.int .i64, .int .i64] (.t 216) (.t 217))⟩] [3, 5, 6, 9, 13, 25, 26, 27, 28, 29, 30, 218])
  (.cond (.t 218)
  (.seq (.region [⟨some 2, none, .p (.mv (.k (.c (C.bool false))))⟩] [2])
  .ret)
  .skip))))
  .skip))
  (.seq (.seq (.region [⟨some 219, none, .p (.mv (.t 30))⟩] [3, 5, 6, 9, 13, 25, 26, 27, 28, 29, 219])
  (.cond (.t 219)
  (.seq (.region [⟨some 221, none, .h (.load 6 true (.t 25))⟩,
    ⟨some 222, none, .h (.load 6 true (.t 26))⟩,
    ⟨some 223, none, .p (.mv (.t 28))⟩,
    ⟨some 224, none, .p (.mv (.t 27))⟩,
    ⟨some 225, none, .h (.call (.f 114) [.t 221, .t 222, .t 223, .t 224])⟩,
    ⟨some 220, none, .p (.mv (.t 225))⟩,
    ⟨some 226, none, .p (.ext (.t 220) 0)⟩,
    ⟨some 227, none, .p (.ext (.t 220) 1)⟩,
    ⟨some 37, none, .p (.alloc [.k (C.int .i64 0), .k (C.int .i64 0)])⟩,
    ⟨none, none, .h (.store 2 (.t 37) (.t 226))⟩,
    ⟨some 38, none, .p (.mv (.t 227))⟩] [3, 5, 6, 9, 13, 29, 37, 38])
  (.seq (.region [⟨some 228, none, .p (.mv (.t 38))⟩,
    ⟨some 229, none, .p (.un .not (.t 228))⟩,
    ⟨some 230, none, .p (.mv (.t 229))⟩,
    ⟨some 231, some (230, false), .h (.load 2 true (.t 37))⟩,
    ⟨some 232, some (230, false), .h (.load 2 true (.t 29))⟩,
    ⟨some 233, some (230, false), .p (.eqv true [.int .i64, .int .i64] (.t 231) (.t 232))⟩,
    ⟨some 234, none, .p (.pick (.t 230) (.k (.c (C.bool true))) (.t 233))⟩,
    ⟨some 235, none, .p (.mv (.t 234))⟩,
    ⟨some 236, some (235, false), .p (.build [.k (C.int .i64 0), .k (C.int .i64 0)] [(0, 1, .k (.c (C.int .i64 1))), (1, 1, .k (.c (C.int .i64 1)))])⟩,
    ⟨some 237, some (235, false), .h (.load 2 true (.t 29))⟩,
    ⟨some 238, some (235, false), .h (.call (.f 117) [.t 236, .t 237])⟩,
    ⟨some 239, none, .p (.pick (.t 235) (.k (.c (C.bool true))) (.t 238))⟩] [3, 5, 6, 9, 13, 239])
  (.cond (.t 239)
  (.seq (.region [⟨some 2, none, .p (.mv (.k (.c (C.bool false))))⟩] [2])
  .ret)
  .skip)))
  .skip))
  (.seq (.seq (.region [⟨some 240, none, .p (.mv (.t 6))⟩,
    ⟨some 241, none, .p (.un .not (.t 240))⟩] [3, 5, 9, 13, 241])
  (.cond (.t 241)
  (.seq (.region [⟨some 2, none, .p (.mv (.k (.c (C.bool true))))⟩] [2])
  .ret)
  .skip))
  (.seq (.region [⟨some 39, none, .p (.mv (.k (.c (C.int .i64 0))))⟩,
    ⟨some 40, none, .p (.mv (.k (.c (C.int .i64 0))))⟩] [3, 5, 9, 13, 39, 40])
  (.seq (.seq (.region [⟨some 41, none, .p (.mv (.k (.c (C.int .i64 0))))⟩] [3, 5, 9, 13, 39, 40, 41])
  (.block 2 (.loop (.seq (.seq (.region [⟨some 242, none, .p (.mv (.t 41))⟩,
    ⟨some 243, none, .p (.bin .lss (.t 242) (.k (.c (C.int .i64 6))))⟩] [3, 5, 9, 13, 39, 40, 41, 243])
  (.cond (.t 243)
  .skip
  (.exit 2)))
  (.seq (.block 3 (.seq (.seq (.region [⟨some 246, none, .p (.mv (.t 41))⟩,
    ⟨some 247, none, .p (.ixA 6 1 (.t 3) (.t 246))⟩,
    ⟨some 248, none, .h (.load 1 false (.t 247))⟩,
    ⟨some 249, none, .p (.bin .gtr (.t 248) (.k (.c (C.int .i64 0))))⟩] [3, 5, 9, 13, 39, 40, 41, 249])
  (.cond (.t 249)
  (.region [⟨some 250, none, .p (.mv (.t 39))⟩,
    ⟨some 251, none, .p (.bin .add (.t 250) (.k (.c (C.int .i64 1))))⟩,
    ⟨some 39, none, .p (.mv (.t 251))⟩] [3, 5, 9, 13, 39, 40, 41])
  .skip))
  (.region [⟨some 252, none, .p (.mv (.t 40))⟩,
    ⟨some 253, none, .p (.mv (.t 41))⟩,
    ⟨some 254, none, .p (.ixA 6 1 (.t 3) (.t 253))⟩,
    ⟨some 255, none, .h (.load 1 false (.t 254))⟩,
    ⟨some 256, none, .p (.bin .add (.t 252) (.t 255))⟩,
    ⟨some 40, none, .p (.mv (.t 256))⟩] [3, 5, 9, 13, 39, 40, 41])))
  (.region [⟨some 244, none, .p (.mv (.t 41))⟩,
    ⟨some 245, none, .p (.bin .add (.t 244) (.k (.c (C.int .i64 1))))⟩,
    ⟨some 41, none, .p (.mv (.t 245))⟩] [3, 5, 9, 13, 39, 40, 41]))) [3, 5, 9, 13, 39, 40, 41])))
  (.seq (.region [⟨some 257, none, .p (.mv (.t 13))⟩,
    ⟨some 258, none, .p (.bin .geq (.t 257) (.k (.c (C.int .i64 1))))⟩,
    ⟨some 259, none, .p (.mv (.t 258))⟩,
    ⟨some 260, some (259, true), .h (.load 2 true (.t 5))⟩,
    ⟨some 261, some (259, true), .p (.mv (.t 39))⟩,
    ⟨some 262, some (259, true), .p (.build [.k (C.int .i64 0), .k (C.int .i64 0)] [(0, 1, .t 261), (1, 1, .k (.c (C.int .i64 1)))])⟩,
    ⟨some 263, some (259, true), .h (.call (.f 117) [.t 260, .t 262])⟩,
    ⟨some 264, some (259, true), .p (.un .not (.t 263))⟩,
    ⟨some 265, none, .p (.pick (.t 259) (.t 264) (.k (.c (C.bool false))))⟩,
    ⟨some 266, none, .p (.mv (.t 265))⟩,
    ⟨some 267, some (266, true), .p (.mv (.t 40))⟩,
    ⟨some 268, some (266, true), .p (.build [.k (C.int .i64 0), .k (C.int .i64 0)] [(0, 1, .t 267), (1, 1, .k (.c (C.int .i64 1)))])⟩,
    ⟨some 269, some (266, true), .h (.load 2 true (.t 5))⟩,
    ⟨some 270, some (266, true), .h (.call (.f 117) [.t 268, .t 269])⟩,
    ⟨some 271, some (266, true), .p (.un .not (.t 270))⟩,
    ⟨some 272, none, .p (.pick (.t 266) (.t 271) (.k (.c (C.bool false))))⟩,
    ⟨some 273, none, .p (.mv (.t 272))⟩,
    ⟨some 274, some (273, true), .p (.build [.k (C.int .i64 0), .k (C.int .i64 0)] [(0, 1, .k (.c (C.int .i64 1))), (1, 1, .k (.c (C.int .i64 1)))])⟩,
    ⟨some 275, some (273, true), .h (.load 2 true (.t 9))⟩,
    ⟨some 276, some (273, true), .h (.call (.f 117) [.t 274, .t 275])⟩,
    ⟨some 277, some (273, true), .p (.un .not (.t 276))⟩,
    ⟨some 278, none, .p (.pick (.t 273) (.t 277) (.k (.c (C.bool false))))⟩,
    ⟨some 279, none, .p (.mv (.t 278))⟩,
    ⟨some 280, some (279, true), .h (.load 2 true (.t 9))⟩,
    ⟨some 281, some (279, true), .p (.build [.k (C.int .i64 0), .k (C.int .i64 0)] [(0, 1, .k (.c (C.int .i64 1))), (1, 1, .k (.c (C.int .i64 1)))])⟩,
    ⟨some 282, some (279, true), .p (.eqv true [.int .i64, .int .i64] (.t 280) (.t 281))⟩,
    ⟨some 283, some (279, true), .p (.mv (.t 282))⟩,
    ⟨some 284, some (283, false), .h (.load 2 true (.t 5))⟩,
    ⟨some 285, some (283, false), .p (.mv (.t 39))⟩,
    ⟨some 286, some (283, false), .p (.build [.k (C.int .i64 0), .k (C.int .i64 0)] [(0, 1, .t 285), (1, 1, .k (.c (C.int .i64 1)))])⟩,
    ⟨some 287, some (283, false), .p (.eqv false [.int .i64, .int .i64] (.t 284) (.t 286))⟩,
    ⟨some 288, some (279, true), .p (.pick (.t 283) (.k (.c (C.bool true))) (.t 287))⟩,
    ⟨some 289, none, .p (.pick (.t 279) (.t 288) (.k (.c (C.bool false))))⟩,
    ⟨some 2, none, .p (.mv (.t 289))⟩] [2])
  .ret)))))))))))))))))))))) }
theorem a29_ok : okFn Try.prog 29 a29 = true := by kernel_rfl
/-- loop.example/g01215/laws.FnEndGames -/
def a30 : AFn := { np := 1, nt := 274, res := [.t 2], body :=
  (.seq (.region [⟨some 2, none, .p (.mv (.k (.c (C.bool false))))⟩] [0])
  (.seq (.seq (.region [⟨some 35, none, .p (.mv (.t 0))⟩,
    ⟨some 36, none, .h (.call (.f 118) [.t 35])⟩] [0, 36])
  (.cond (.t 36)
  (.seq (.region [⟨some 2, none, .p (.mv (.k (.c (C.bool true))))⟩] [2])
  .ret)
  .skip))
  (.seq (.region [⟨some 38, none, .p (.mv (.t 0))⟩,
    ⟨some 39, none, .h (.call (.f 119) [.t 38])⟩,
    ⟨some 37, none, .p (.mv (.t 39))⟩,
    ⟨some 40, none, .p (.ext (.t 37) 0)⟩,
    ⟨some 41, none, .p (.ext (.t 37) 1)⟩,
    ⟨some 3, none, .p (.alloc (List.replicate 24 (.k (C.int .i64 0))))⟩,
    ⟨none, none, .h (.store 24 (.t 3) (.t 40))⟩,
    ⟨some 4, none, .p (.mv (.t 41))⟩] [3, 4])
  (.seq (.region [⟨some 43, none, .h (.load 24 true (.t 3))⟩,
    ⟨some 44, none, .p (.mv (.t 4))⟩,
    ⟨some 45, none, .h (.call (.f 41) [.t 43, .t 44])⟩,
    ⟨some 42, none, .p (.mv (.t 45))⟩,
    ⟨some 46, none, .p (.ext (.t 42) 0)⟩,
    ⟨some 47, none, .p (.ext (.t 42) 1)⟩,
    ⟨some 5, none, .p (.mv (.t 46))⟩,
    ⟨some 6, none, .p (.mv (.t 47))⟩] [3, 4, 5, 6])
  (.seq (.seq (.region [⟨some 49, none, .h (.load 24 true (.t 3))⟩,
    ⟨some 50, none, .p (.mv (.t 4))⟩,
    ⟨some 51, none, .h (.call (.f 40) [.t 49, .t 50])⟩,
    ⟨some 48, none, .p (.mv (.t 51))⟩,
    ⟨some 52, none, .p (.ext (.t 48) 0)⟩,
    ⟨some 53, none, .p (.ext (.t 48) 1)⟩,
    ⟨some 7, none, .p (.mv (.t 52))⟩,
    ⟨some 8, none, .p (.mv (.t 53))⟩] [3, 4, 5, 6, 7, 8])
  (.seq (.region [⟨some 54, none, .p (.mv (.t 5))⟩,
    ⟨some 55, none, .p (.mv (.t 7))⟩,
    ⟨some 56, none, .p (.bin .neq (.t 54) (.t 55))⟩,
    ⟨some 57, none, .p (.mv (.t 56))⟩,
    ⟨some 58, some (57, false), .p (.mv (.t 6))⟩,
    ⟨some 59, some (57, false), .p (.mv (.t 8))⟩,
    ⟨some 60, some (57, false), .p (.eqb true (.t 58) (.t 59))⟩,
    ⟨some 61, none, .p (.pick (.t 57) (.k (.c (C.bool true))) (.t 60))⟩,
    ⟨some 62, none, .p (.mv (.t 61))⟩,
    ⟨some 63, some (62, false), .p (.mv (.t 6))⟩,
    ⟨some 64, some (62, false), .p (.mv (.t 63))⟩,
    ⟨some 65, some (64, true), .p (.mv (.t 5))⟩,
    ⟨some 66, some (64, true), .p (.bin .lss (.t 65) (.k (.c (C.int .i64 (-1)))))⟩,
    ⟨some 67, some (64, true), .p (.mv (.t 66))⟩,
    ⟨some 68, some (67, false), .p (.mv (.t 5))⟩,
    ⟨some 69, some (67, false), .p (.bin .gtr (.t 68) (.k (.c (C.int .i64 1))))⟩,
    ⟨some 70, some (64, true), .p (.pick (.t 67) (.k (.c (C.bool true))) (.t 69))⟩,
    ⟨some 71, some (62, false), .p (.pick (.t 64) (.t 70) (.k (.c (C.bool false))))⟩,
    ⟨some 72, none, .p (.pick (.t 62) (.k (.c (C.bool true))) (.t 71))⟩] [3, 4, 5, 6, 72])
  (.cond (.t 72)
  (.seq (.region [⟨some 2, none, .p (.mv (.k (.c (C.bool false))))⟩] [2])
  .ret)
  .skip)))
  (.seq (.region [⟨some 74, none, .h (.load 24 true (.t 3))⟩,
    ⟨some 75, none, .p (.mv (.t 4))⟩,
    ⟨some 76, none, .h (.call (.f 65) [.t 74, .t 75])⟩,
    ⟨some 73, none, .p (.mv (.t 76))⟩,
    ⟨some 77, none, .p (.ext (.t 73) 0)⟩,
    ⟨some 78, none, .p (.ext (.t 73) 1)⟩,
    ⟨some 9, none, .p (.mv (.t 77))⟩,
    ⟨some 10, none, .p (.mv (.t 78))⟩] [3, 4, 5, 6, 9, 10])
  (.seq (.seq (.region [⟨some 80, none, .h (.load 24 true (.t 3))⟩,
    ⟨some 81, none, .p (.mv (.t 4))⟩,
    ⟨some 82, none, .h (.call (.f 64) [.t 80, .t 81])⟩,
    ⟨some 79, none, .p (.mv (.t 82))⟩,
    ⟨some 83, none, .p (.ext (.t 79) 0)⟩,
    ⟨some 84, none, .p (.ext (.t 79) 1)⟩,
    ⟨some 11, none, .p (.mv (.t 83))⟩,
    ⟨some 12, none, .p (.mv (.t 84))⟩] [3, 4, 5, 6, 9, 10, 11, 12])
  (.seq (.region [⟨some 85, none, .p (.mv (.t 10))⟩,
    ⟨some 86, none, .p (.mv (.t 12))⟩,
    ⟨some 87, none, .p (.eqb true (.t 85) (.t 86))⟩,
    ⟨some 88, none, .p (.mv (.t 87))⟩,
    ⟨some 89, some (88, false), .p (.mv (.t 9))⟩,
    ⟨some 90, some (88, false), .p (.mv (.t 11))⟩,
    ⟨some 91, some (88, false), .h (.call (.f 120) [.t 89, .t 90])⟩,
    ⟨some 92, some (88, false), .p (.un .not (.t 91))⟩,
    ⟨some 93, none, .p (.pick (.t 88) (.k (.c (C.bool true))) (.t 92))⟩] [3, 4, 5, 6, 9, 10, 93])
  (.cond (.t 93)
  (.seq (.region [⟨some 2, none, .p (.mv (.k (.c (C.bool false))))⟩] [2])
  .ret)
  .skip)))
  (.seq (.region [⟨some 95, none, .h (.load 24 true (.t 3))⟩,
    ⟨some 96, none, .h (.call (.f 39) [.t 95])⟩,
    ⟨some 94, none, .p (.mv (.t 96))⟩,
    ⟨some 97, none, .p (.ext (.t 94) 0)⟩,
    ⟨some 98, none, .p (.ext (.t 94) 1)⟩,
    ⟨some 13, none, .p (.mv (.t 97))⟩,
    ⟨some 14, none, .p (.mv (.t 98))⟩] [3, 4, 5, 6, 9, 10, 13, 14])
  (.seq (.seq (.region [⟨some 100, none, .h (.load 24 true (.t 3))⟩,
    ⟨some 101, none, .h (.call (.f 37) [.t 100])⟩,
    ⟨some 99, none, .p (.mv (.t 101))⟩,
    ⟨some 102, none, .p (.ext (.t 99) 0)⟩,
    ⟨some 103, none, .p (.ext (.t 99) 1)⟩,
    ⟨some 15, none, .p (.mv (.t 102))⟩,
    ⟨some 16, none, .p (.mv (.t 103))⟩] [3, 4, 5, 6, 9, 10, 13, 14, 15, 16])
  (.seq (.region [⟨some 104, none, .p (.mv (.t 13))⟩,
    ⟨some 105, none, .p (.mv (.t 15))⟩,
    ⟨some 106, none, .p (.eqb true (.t 104) (.t 105))⟩,
    ⟨some 107, none, .p (.mv (.t 106))⟩,
    ⟨some 108, some (107, false), .p (.mv (.t 14))⟩,
    ⟨some 109, some (107, false), .p (.mv (.t 16))⟩,
    ⟨some 110, some (107, false), .p (.eqb true (.t 108) (.t 109))⟩,
    ⟨some 111, none, .p (.pick (.t 107) (.k (.c (C.bool true))) (.t 110))⟩,
    ⟨some 112, none, .p (.mv (.t 111))⟩,
    ⟨some 113, some (112, false), .p (.mv (.t 14))⟩,
    ⟨some 114, some (112, false), .h (.load 24 true (.t 3))⟩,
    ⟨some 115, some (112, false), .h (.call (.f 121) [.t 114])⟩,
    ⟨some 116, some (112, false), .p (.eqb true (.t 113) (.t 115))⟩,
    ⟨some 117, none, .p (.pick (.t 112) (.k (.c (C.bool true))) (.t 116))⟩] [3, 4, 5, 6, 9, 10, 13, 14, 117])
  (.cond (.t 117)
  (.seq (.region [⟨some 2, none, .p (.mv (.k (.c (C.bool false))))⟩] [2])
  .ret)
  .skip)))
  (.seq (.region [⟨some 119, none, .h (.load 24 true (.t 3))⟩,
    ⟨some 120, none, .h (.call (.f 43) [.t 119])⟩,
    ⟨some 118, none, .p (.mv (.t 120))⟩,
    ⟨some 121, none, .p (.ext (.t 118) 0)⟩,
    ⟨some 122, none, .p (.ext (.t 118) 1)⟩,
    ⟨some 17, none, .p (.mv (.t 121))⟩,
    ⟨some 18, none, .p (.mv (.t 122))⟩] [3, 4, 5, 6, 9, 10, 13, 14, 17, 18])
  (.seq (.seq (.region [⟨some 124, none, .h (.load 24 true (.t 3))⟩,
    ⟨some 125, none, .h (.call (.f 42) [.t 124])⟩,
    ⟨some 123, none, .p (.mv (.t 125))⟩,
    ⟨some 126, none, .p (.ext (.t 123) 0)⟩,
    ⟨some 127, none, .p (.ext (.t 123) 1)⟩,
    ⟨some 19, none, .p (.mv (.t 126))⟩,
    ⟨some 20, none, .p (.mv (.t 127))⟩] [3, 4, 5, 6, 9, 10, 13, 14, 17, 18, 19, 20])
  (.seq (.region [⟨some 128, none, .p (.mv (.t 18))⟩,
    ⟨some 129, none, .p (.mv (.t 20))⟩,
    ⟨some 130, none, .p (.eqb true (.t 128) (.t 129))⟩,
    ⟨some 131, none, .p (.mv (.t 130))⟩,
    ⟨some 132, some (131, false), .p (.mv (.t 18))⟩,
    ⟨some 133, some (131, false), .p (.mv (.t 14))⟩,
    ⟨some 134, some (131, false), .p (.eqb true (.t 132) (.t 133))⟩,
    ⟨some 135, none, .p (.pick (.t 131) (.k (.c (C.bool true))) (.t 134))⟩,
    ⟨some 136, none, .p (.mv (.t 135))⟩,
    ⟨some 137, some (136, false), .p (.mv (.t 17))⟩,
    ⟨some 138, some (136, false), .p (.mv (.t 19))⟩,
    ⟨some 139, some (136, false), .h (.call (.f 122) [.t 137, .t 138])⟩,
    ⟨some 140, some (136, false), .p (.un .not (.t 139))⟩,
    ⟨some 141, none, .p (.pick (.t 136) (.k (.c (C.bool true))) (.t 140))⟩] [3, 4, 5, 6, 9, 10, 13, 14, 17, 141])
  (.cond (.t 141)
  (.seq (.region [⟨some 2, none, .p (.mv (.k (.c (C.bool false))))⟩] [2])
  .ret)
  .skip)))
  (.seq (.seq (.region [⟨some 142, none, .p (.mv (.t 6))⟩,
    ⟨some 143, none, .p (.mv (.t 142))⟩,
    ⟨some 144, some (143, true), .p (.mv (.t 4))⟩,
    ⟨some 145, some (143, true), .p (.bin .eql (.t 144) (.k (.c (C.int .i64 0))))⟩,
    ⟨some 146, some (143, true), .p (.mv (.t 145))⟩,
    ⟨some 147, some (146, true), .p (.mv (.t 5))⟩,
    ⟨some 148, some (146, true), .p (.bin .neq (.t 147) (.k (.c (C.int .i64 0))))⟩,
    ⟨some 149, some (143, true), .p (.pick (.t 146) (.t 148) (.k (.c (C.bool false))))⟩,
    ⟨some 150, some (143, true), .p (.mv (.t 149))⟩,
    ⟨some 151, some (150, false), .p (.mv (.t 4))⟩,
    ⟨some 152, some (150, false), .p (.bin .gtr (.t 151) (.k (.c (C.int .i64 0))))⟩,
    ⟨some 153, some (150, false), .p (.mv (.t 152))⟩,
    ⟨some 154, some (153, true), .p (.mv (.t 13))⟩,
    ⟨some 155, some (150, false), .p (.pick (.t 153) (.t 154) (.k (.c (C.bool false))))⟩,
    ⟨some 156, some (150, false), .p (.mv (.t 155))⟩,
    ⟨some 157, some (156, true), .p (.mv (.t 5))⟩,
    ⟨some 158, some (156, true), .p (.bin .neq (.t 157) (.k (.c (C.int .i64 (-1)))))⟩,
    ⟨some 159, some (150, false), .p (.pick (.t 156) (.t 158) (.k (.c (C.bool false))))⟩,
    ⟨some 160, some (143, true), .p (.pick (.t 150) (.k (.c (C.bool true))) (.t 159))⟩,
    ⟨some 161, none, .p (.pick (.t 143) (.t 160) (.k (.c (C.bool false))))⟩] [3, 4, 5, 9, 10, 13, 14, 17, 161])
  (.cond (.t 161)
  (.seq (.region [⟨some 2, none, .p (.mv (.k (.c (C.bool false))))⟩] [2])
  .ret)
  .skip))
  (.seq (.seq (.region [⟨some 162, none, .p (.mv (.t 10))⟩] [3, 4, 5, 9, 13, 14, 17, 162])
  (.cond (.t 162)
  (.seq (.seq (.region [⟨some 163, none, .p (.mv (.t 13))⟩,
    ⟨some 164, none, .p (.mv (.t 9))⟩,
    ⟨some 165, none, .p (.len (.t 164))⟩,
    ⟨some 166, none, .p (.bin .eql (.t 165) (.k (.c (C.int .i64 0))))⟩,
    ⟨some 167, none, .p (.eqb true (.t 163) (.t 166))⟩] [3, 4, 5, 9, 13, 14, 17, 167])
  (.cond (.t 167)
  (.seq (.region [⟨some 2, none, .p (.mv (.k (.c (C.bool false))))⟩] [2])
  .ret)
  .skip))
  (.seq (.region [⟨some 21, none, .p (.mv (.k (.c (C.int .i64 0))))⟩] [3, 4, 5, 9, 13, 14, 17, 21])
  (.block 0 (.loop (.seq (.seq (.region [⟨some 168, none, .p (.mv (.t 21))⟩,
    ⟨some 169, none, .p (.mv (.t 9))⟩,
    ⟨some 170, none, .p (.len (.t 169))⟩,
    ⟨some 171, none, .p (.bin .lss (.t 168) (.t 170))⟩] [3, 4, 5, 9, 13, 14, 17, 21, 171])
  (.cond (.t 171)
  .skip
  (.exit 0)))
  (.seq (.block 1 (.seq (.regionD [⟨some 175, none, .h (.load 24 true (.t 3))⟩,
    ⟨some 176, none, .p (.mv (.t 9))⟩,
    ⟨some 177, none, .p (.mv (.t 21))⟩,
    ⟨some 178, none, .p (.ixS 2 (.t 176) (.t 177))⟩,
    ⟨some 179, none, .p (.ixA 2 1 (.t 178) (.k (.c (C.int .i64 0))))⟩,
    ⟨some 180, none, .h (.load 1 false (.t 179))⟩,
    ⟨some 181, none, .p (.mv (.t 9))⟩,
    ⟨some 182, none, .p (.mv (.t 21))⟩,
    ⟨some 183, none, .p (.ixS 2 (.t 181) (.t 182))⟩,
    ⟨some 184, none, .p (.ixA 2 1 (.t 183) (.k (.c (C.int .i64 1))))⟩,
    ⟨some 185, none, .h (.load 1 false (.t 184))⟩,
    ⟨some 186, none, .h (.call (.f 123) [.t 175, .t 180, .t 185])⟩,
    ⟨some 174, none, .p (.mv (.t 186))⟩,
    ⟨some 187, none, .p (.ext (.t 174) 0)⟩,
    ⟨some 188, none, .p (.ext (.t 174) 1)⟩,
    ⟨some 189, none, .p (.ext (.t 174) 2)⟩,
    ⟨some 22, none, .p (.alloc (List.replicate 24 (.k (C.int .i64 0))))⟩,
    ⟨none, none, .h (.store 24 (.t 22) (.t 187))⟩,
    ⟨some 23, none, .p (.mv (.t 188))⟩,
    ⟨some 24, none, .p (.mv (.t 189))⟩] [3, 4, 5, 9, 13, 14, 17, 21, 22, 24] [])
  (.seq (.region [⟨some 191, none, .h (.load 24 true (.t 22))⟩,
    ⟨some 192, none, .p (.mv (.t 4))⟩,
    ⟨some 193, none, .p (.bin .sub (.t 192) (.k (.c (C.int .i64 1))))⟩,
    ⟨some 194, none, .h (.call (.f 41) [.t 191, .t 193])⟩,
    ⟨some 190, none, .p (.mv (.t 194))⟩,
    ⟨some 195, none, .p (.ext (.t 190) 0)⟩,
    ⟨some 196, none, .p (.ext (.t 190) 1)⟩,
    ⟨some 25, none, .p (.mv (.t 195))⟩,
    ⟨some 26, none, .p (.mv (.t 196))⟩] [3, 4, 5, 9, 13, 14, 17, 21, 24, 25, 26])
  (.seq (.region [⟨some 197, none, .p (.mv (.t 24))⟩,
    ⟨some 198, none, .p (.un .not (.t 197))⟩,
    ⟨some 199, none, .p (.mv (.t 198))⟩,
    ⟨some 200, some (199, false), .p (.mv (.t 26))⟩,
    ⟨some 201, some (199, false), .p (.un .not (.t 200))⟩,
    ⟨some 202, none, .p (.pick (.t 199) (.k (.c (C.bool true))) (.t 201))⟩,
    ⟨some 203, none, .p (.mv (.t 202))⟩,
    ⟨some 204, some (203, false), .p (.mv (.t 25))⟩,
    ⟨some 205, some (203, false), .p (.un .neg (.t 204))⟩,
    ⟨some 206, some (203, false), .p (.mv (.t 5))⟩,
    ⟨some 207, some (203, false), .p (.bin .neq (.t 205) (.t 206))⟩,
    ⟨some 208, none, .p (.pick (.t 203) (.k (.c (C.bool true))) (.t 207))⟩] [3, 4, 5, 9, 13, 14, 17, 21, 208])
  (.cond (.t 208)
  (.seq (.region [⟨some 2, none, .p (.mv (.k (.c (C.bool false))))⟩] [2])
  .ret)
  .skip)))))
  (.region [⟨some 172, none, .p (.mv (.t 21))⟩,
    ⟨some 173, none, .p (.bin .add (.t 172) (.k (.c (C.int .i64 1))))⟩,
    ⟨some 21, none, .p (.mv (.t 173))⟩] [3, 4, 5, 9, 13, 14, 17, 21]))) [3, 4, 5, 9, 13, 14, 17, 21]))))
  .skip))
  (.seq (.seq (.region [⟨some 209, none, .p (.mv (.t 14))⟩,
    ⟨some 210, none, .p (.un .not (.t 209))⟩] [3, 13, 17, 210])
  (.cond (.t 210)
  (.seq (.region [⟨some 2, none, .p (.mv (.k (.c (C.bool true))))⟩] [2])
  .ret)
  .skip))
  (.seq (.region [⟨some 212, none, .h (.load 24 true (.t 3))⟩,
    ⟨some 213, none, .h (.call (.f 124) [.t 212])⟩,
    ⟨some 211, none, .p (.mv (.t 213))⟩,
    ⟨some 214, none, .p (.ext (.t 211) 0)⟩,
    ⟨some 215, none, .p (.ext (.t 211) 1)⟩,
    ⟨some 27, none, .p (.mv (.t 214))⟩,
    ⟨some 28, none, .p (.mv (.t 215))⟩] [3, 13, 17, 27, 28])
  (.seq (.seq (.region [⟨some 216, none, .p (.mv (.t 28))⟩,
    ⟨some 217, none, .p (.un .not (.t 216))⟩,
    ⟨some 218, none, .p (.mv (.t 217))⟩,
    ⟨some 219, some (218, false), .p (.mv (.t 13))⟩,
    ⟨some 220, some (218, false), .p (.mv (.t 27))⟩,
    ⟨some 221, some (218, false), .p (.len (.t 220))⟩,
    ⟨some 222, some (218, false), .p (.bin .eql (.t 221) (.k (.c (C.int .i64 0))))⟩,
    ⟨some 223, some (218, false), .p (.eqb true (.t 219) (.t 222))⟩,
    ⟨some 224, none, .p (.pick (.t 218) (.k (.c (C.bool true))) (.t 223))⟩,
    ⟨some 225, none, .p (.mv (.t 224))⟩,
    ⟨some 226, some (225, false), .p (.mv (.t 17))⟩,
    ⟨some 227, some (225, false), .p (.len (.t 226))⟩,
    ⟨some 228, some (225, false), .p (.mv (.t 27))⟩,
    ⟨some 229, some (225, false), .p (.len (.t 228))⟩,
    ⟨some 230, some (225, false), .p (.bin .neq (.t 227) (.t 229))⟩,
    ⟨some 231, none, .p (.pick (.t 225) (.k (.c (C.bool true))) (.t 230))⟩] [3, 17, 27, 231])
  (.cond (.t 231)
  (.seq (.region [⟨some 2, none, .p (.mv (.k (.c (C.bool false))))⟩] [2])
  .ret)
  .skip))
  (.seq (.seq (.region [⟨some 29, none, .p (.mv (.k (.c (C.int .i64 0))))⟩] [3, 17, 27, 29])
  (.block 2 (.loop (.seq (.seq (.region [⟨some 232, none, .p (.mv (.t 29))⟩,
    ⟨some 233, none, .p (.mv (.t 27))⟩,
    ⟨some 234, none, .p (.len (.t 233))⟩,
    ⟨some 235, none, .p (.bin .lss (.t 232) (.t 234))⟩] [3, 17, 27, 29, 235])
  (.cond (.t 235)
  .skip
  (.exit 2)))
  (.seq (.block 3 (.seq (.regionD [⟨some 239, none, .h (.load 24 true (.t 3))⟩,
    ⟨some 240, none, .p (.mv (.t 27))⟩,
    ⟨some 241, none, .p (.mv (.t 29))⟩,
    ⟨some 242, none, .p (.ixS 2 (.t 240) (.t 241))⟩,
    ⟨some 243, none, .p (.ixA 2 1 (.t 242) (.k (.c (C.int .i64 0))))⟩,
    ⟨some 244, none, .h (.load 1 false (.t 243))⟩,
    ⟨some 245, none, .p (.mv (.t 27))⟩,
    ⟨some 246, none, .p (.mv (.t 29))⟩,
    ⟨some 247, none, .p (.ixS 2 (.t 245) (.t 246))⟩,
    ⟨some 248, none, .p (.ixA 2 1 (.t 247) (.k (.c (C.int .i64 1))))⟩,
    ⟨some 249, none, .h (.load 1 false (.t 248))⟩,
    ⟨some 250, none, .h (.call (.f 123) [.t 239, .t 244, .t 249])⟩,
    ⟨some 238, none, .p (.mv (.t 250))⟩,
    ⟨some 251, none, .p (.ext (.t 238) 0)⟩,
    ⟨some 252, none, .p (.ext (.t 238) 1)⟩,
    ⟨some 253, none, .p (.ext (.t 238) 2)⟩,
    ⟨some 30, none, .p (.alloc (List.replicate 24 (.k (C.int .i64 0))))⟩,
    ⟨none, none, .h (.store 24 (.t 30) (.t 251))⟩,
    ⟨some 31, none, .p (.mv (.t 252))⟩,
    ⟨some 32, none, .p (.mv (.t 253))⟩] [3, 17, 27, 29, 30, 32] [])
  (.seq (.region [⟨some 255, none, .h (.load 24 true (.t 30))⟩,
    ⟨some 256, none, .h (.call (.f 124) [.t 255])⟩,
    ⟨some 254, none, .p (.mv (.t 256))⟩,
    ⟨some 257, none, .p (.ext (.t 254) 0)⟩,
    ⟨some 258, none, .p (.ext (.t 254) 1)⟩,
    ⟨some 33, none, .p (.mv (.t 257))⟩,
    ⟨some 34, none, .p (.mv (.t 258))⟩] [3, 17, 27, 29, 32, 33, 34])
  (.seq (.region [⟨some 259, none, .p (.mv (.t 32))⟩,
    ⟨some 260, none, .p (.un .not (.t 259))⟩,
    ⟨some 261, none, .p (.mv (.t 260))⟩,
    ⟨some 262, some (261, false), .p (.mv (.t 34))⟩,
    ⟨some 263, some (261, false), .p (.un .not (.t 262))⟩,
    ⟨some 264, none, .p (.pick (.t 261) (.k (.c (C.bool true))) (.t 263))⟩,
    ⟨some 265, none, .p (.mv (.t 264))⟩,
    ⟨some 266, some (265, false), .p (.mv (.t 17))⟩,
    ⟨some 267, some (265, false), .p (.mv (.t 29))⟩,
    ⟨some 268, some (265, false), .p (.ixS 1 (.t 266) (.t 267))⟩,
    ⟨some 269, some (265, false), .h (.load 1 false (.t 268))⟩,
    ⟨some 270, some (265, false), .p (.mv (.t 33))⟩,
    ⟨some 271, some (265, false), .p (.len (.t 270))⟩,
    ⟨some 272, some (265, false), .p (.bin .neq (.t 269) (.t 271))⟩,
    ⟨some 273, none, .p (.pick (.t 265) (.k (.c (C.bool true))) (.t 272))⟩] [3, 17, 27, 29, 273])
  (.cond (.t 273)
  (.seq (.region [⟨some 2, none, .p (.mv (.k (.c (C.bool false))))⟩] [2])
  .ret)
  .skip)))))
  (.region [⟨some 236, none, .p (.mv (.t 29))⟩,
    ⟨some 237, none, .p (.bin .add (.t 236) (.k (.c (C.int .i64 1))))⟩,
    ⟨some 29, none, .p (.mv (.t 237))⟩] [3, 17, 27, 29]))) [3, 17, 27, 29])))
  (.seq (.region [⟨some 2, none, .p (.mv (.k (.c (C.bool true))))⟩] [2])
  .ret)))))))))))))))))) }
theorem a30_ok : okFn Try.prog 30 a30 = true := by kernel_rfl
/-- loop.example/g01215/laws.FnReplayCuts -/
def a31 : AFn := { np := 1, nt := 310, res := [.t 2], body :=
  (.seq (.region [⟨some 2, none, .p (.mv (.k (.c (C.bool false))))⟩] [0])
  (.seq (.seq (.region [⟨some 37, none, .p (.mv (.t 0))⟩,
    ⟨some 38, none, .h (.call (.f 118) [.t 37])⟩] [0, 38])
  (.cond (.t 38)
  (.seq (.region [⟨some 2, none, .p (.mv (.k (.c (C.bool true))))⟩] [2])
  .ret)
  .skip))
  (.seq (.region [⟨some 39, none, .p (.mv (.t 0))⟩,
    ⟨some 40, none, .h (.call (.f 125) [.t 39])⟩,
    ⟨some 3, none, .p (.alloc [.k (C.int .i64 0), .k (C.int .i64 0), .k (C.int .i64 0), .k (C.int .i64 0), .k (C.int .i64 0), .k (C.int .i64 0), .k (C.int .i64 0), .k (C.int .i64 0), .k (C.int .i64 0), .k (C.int .i64 0), .k (C.int .i64 0), .k (C.int .i64 0), .k (C.int .i64 0), .k (C.int .i64 0), .k (C.int .i64 0), .k (C.int .i64 0), .k (C.int .i64 0), .k (C.int .i64 0), .k (C.int .i64 0), .k (C.int .i64 0), .k (C.int .i64 0), .k (C.int .i64 0), .k (C.int .i64 0), .k (C.int .i64 0), .sl 2])⟩,
    ⟨none, none, .h (.store 25 (.t 3) (.t 40))⟩] [3])
  (.seq (.region [⟨some 42, none, .h (.load 25 true (.t 3))⟩,
    ⟨some 43, none, .h (.call (.f 102) [.t 42])⟩,
    ⟨some 41, none, .p (.mv (.t 43))⟩,
    ⟨some 44, none, .p (.ext (.t 41) 0)⟩,
    ⟨some 45, none, .p (.ext (.t 41) 1)⟩,
    ⟨some 4, none, .p (.alloc [.k (C.int .i64 0), .k (C.int .i64 0), .k (C.int .i64 0), .k (C.int .i64 0), .k (C.int .i64 0), .k (C.int .i64 0), .k (C.int .i64 0), .k (C.int .i64 0), .k (C.int .i64 0), .k (C.int .i64 0), .k (C.int .i64 0), .k (C.int .i64 0), .k (C.int .i64 0), .k (C.int .i64 0), .k (C.int .i64 0), .k (C.int .i64 0), .k (C.int .i64 0), .k (C.int .i64 0), .k (C.int .i64 0), .k (C.int .i64 0), .k (C.int .i64 0), .k (C.int .i64 0), .k (C.int .i64 0), .k (C.int .i64 0), .sl 2])⟩,
    ⟨none, none, .h (.store 25 (.t 4) (.t 44))⟩,
    ⟨some 5, none, .p (.mv (.t 45))⟩] [3, 4, 5])
  (.seq (.seq (.region [⟨some 47, none, .h (.load 25 true (.t 3))⟩,
    ⟨some 48, none, .h (.call (.f 101) [.t 47])⟩,
    ⟨some 46, none, .p (.mv (.t 48))⟩,
    ⟨some 49, none, .p (.ext (.t 46) 0)⟩,
    ⟨some 50, none, .p (.ext (.t 46) 1)⟩,
    ⟨some 6, none, .p (.alloc [.k (C.int .i64 0), .k (C.int .i64 0), .k (C.int .i64 0), .k (C.int .i64 0), .k (C.int .i64 0), .k (C.int .i64 0), .k (C.int .i64 0), .k (C.int .i64 0), .k (C.int .i64 0), .k (C.int .i64 0), .k (C.int .i64 0), .k (C.int .i64 0), .k (C.int .i64 0), .k (C.int .i64 0), .k (C.int .i64 0), .k (C.int .i64 0), .k (C.int .i64 0), .k (C.int .i64 0), .k (C.int .i64 0), .k (C.int .i64 0), .k (C.int .i64 0), .k (C.int .i64 0), .k (C.int .i64 0), .k (C.int .i64 0), .sl 2])⟩,
    ⟨none, none, .h (.store 25 (.t 6) (.t 49))⟩,
    ⟨some 7, none, .p (.mv (.t 50))⟩] [3, 4, 5, 6, 7])
  (.seq (.region [⟨some 51, none, .p (.mv (.t 5))⟩,
    ⟨some 52, none, .p (.mv (.t 7))⟩,
    ⟨some 53, none, .p (.eqb true (.t 51) (.t 52))⟩,
    ⟨some 54, none, .p (.mv (.t 53))⟩,
    ⟨some 55, some (54, false), .p (.mv (.t 5))⟩,
    ⟨some 56, some (54, false), .h (.load 25 true (.t 3))⟩,
    ⟨some 57, some (54, false), .h (.call (.f 50) [.t 56])⟩,
    ⟨some 58, some (54, false), .p (.eqb true (.t 55) (.t 57))⟩,
    ⟨some 59, none, .p (.pick (.t 54) (.k (.c (C.bool true))) (.t 58))⟩,
    ⟨some 60, none, .p (.mv (.t 59))⟩,
    ⟨some 61, some (60, false), .h (.load 25 true (.t 4))⟩,
    ⟨some 62, some (60, false), .h (.load 25 true (.t 6))⟩,
    ⟨some 63, some (60, false), .h (.call (.f 126) [.t 61, .t 62])⟩,
    ⟨some 64, some (60, false), .p (.un .not (.t 63))⟩,
    ⟨some 65, none, .p (.pick (.t 60) (.k (.c (C.bool true))) (.t 64))⟩] [3, 4, 5, 65])
  (.cond (.t 65)
  (.seq (.region [⟨some 2, none, .p (.mv (.k (.c (C.bool false))))⟩] [2])
  .ret)
  .skip)))
  (.seq (.region [⟨some 67, none, .h (.load 25 true (.t 3))⟩,
    ⟨some 68, none, .h (.call (.f 75) [.t 67])⟩,
    ⟨some 66, none, .p (.mv (.t 68))⟩,
    ⟨some 69, none, .p (.ext (.t 66) 0)⟩,
    ⟨some 70, none, .p (.ext (.t 66) 1)⟩,
    ⟨some 8, none, .p (.mv (.t 69))⟩,
    ⟨some 9, none, .p (.mv (.t 70))⟩] [3, 4, 5, 8, 9])
  (.seq (.seq (.region [⟨some 72, none, .h (.load 25 true (.t 3))⟩,
    ⟨some 73, none, .h (.call (.f 74) [.t 72])⟩,
    ⟨some 71, none, .p (.mv (.t 73))⟩,
    ⟨some 74, none, .p (.ext (.t 71) 0)⟩,
    ⟨some 75, none, .p (.ext (.t 71) 1)⟩,
    ⟨some 10, none, .p (.mv (.t 74))⟩,
    ⟨some 11, none, .p (.mv (.t 75))⟩] [3, 4, 5, 8, 9, 10, 11])
  (.seq (.region [⟨some 76, none, .p (.mv (.t 9))⟩,
    ⟨some 77, none, .p (.mv (.t 11))⟩,
    ⟨some 78, none, .p (.eqb true (.t 76) (.t 77))⟩,
    ⟨some 79, none, .p (.mv (.t 78))⟩,
    ⟨some 80, some (79, false), .p (.mv (.t 9))⟩,
    ⟨some 81, some (79, false), .p (.mv (.t 5))⟩,
    ⟨some 82, some (79, false), .p (.eqb true (.t 80) (.t 81))⟩,
    ⟨some 83, none, .p (.pick (.t 79) (.k (.c (C.bool true))) (.t 82))⟩,
    ⟨some 84, none, .p (.mv (.t 83))⟩,
    ⟨some 85, some (84, false), .p (.mv (.t 8))⟩,
    ⟨some 86, some (84, false), .p (.mv (.t 10))⟩,
    ⟨some 87, some (84, false), .h (.call (.f 120) [.t 85, .t 86])⟩,
    ⟨some 88, some (84, false), .p (.un .not (.t 87))⟩,
    ⟨some 89, none, .p (.pick (.t 84) (.k (.c (C.bool true))) (.t 88))⟩] [3, 4, 5, 8, 89])
  (.cond (.t 89)
  (.seq (.region [⟨some 2, none, .p (.mv (.k (.c (C.bool false))))⟩] [2])
  .ret)
  .skip)))
  (.seq (.region [⟨some 91, none, .h (.load 25 true (.t 3))⟩,
    ⟨some 92, none, .h (.call (.f 94) [.t 91])⟩,
    ⟨some 90, none, .p (.mv (.t 92))⟩,
    ⟨some 93, none, .p (.ext (.t 90) 0)⟩,
    ⟨some 94, none, .p (.ext (.t 90) 1)⟩,
    ⟨some 12, none, .p (.alloc [.k (C.int .i64 0), .k (C.int .i64 0), .k (C.int .i64 0), .k (C.int .i64 0), .k (C.int .i64 0), .k (C.int .i64 0), .k (C.int .i64 0), .k (C.int .i64 0), .k (C.int .i64 0), .k (C.int .i64 0), .k (C.int .i64 0), .k (C.int .i64 0), .k (C.int .i64 0), .k (C.int .i64 0), .k (C.int .i64 0), .k (C.int .i64 0), .k (C.int .i64 0), .k (C.int .i64 0), .k (C.int .i64 0), .k (C.int .i64 0), .k (C.int .i64 0), .k (C.int .i64 0), .k (C.int .i64 0), .k (C.int .i64 0), .sl 2])⟩,
    ⟨none, none, .h (.store 25 (.t 12) (.t 93))⟩,
    ⟨some 13, none, .p (.mv (.t 94))⟩] [3, 4, 5, 8, 12, 13])
  (.seq (.seq (.region [⟨some 96, none, .h (.load 25 true (.t 3))⟩,
    ⟨some 97, none, .h (.call (.f 93) [.t 96])⟩,
    ⟨some 95, none, .p (.mv (.t 97))⟩,
    ⟨some 98, none, .p (.ext (.t 95) 0)⟩,
    ⟨some 99, none, .p (.ext (.t 95) 1)⟩,
    ⟨some 14, none, .p (.alloc [.k (C.int .i64 0), .k (C.int .i64 0), .k (C.int .i64 0), .k (C.int .i64 0), .k (C.int .i64 0), .k (C.int .i64 0), .k (C.int .i64 0), .k (C.int .i64 0), .k (C.int .i64 0), .k (C.int .i64 0), .k (C.int .i64 0), .k (C.int .i64 0), .k (C.int .i64 0), .k (C.int .i64 0), .k (C.int .i64 0), .k (C.int .i64 0), .k (C.int .i64 0), .k (C.int .i64 0), .k (C.int .i64 0), .k (C.int .i64 0), .k (C.int .i64 0), .k (C.int .i64 0), .k (C.int .i64 0), .k (C.int .i64 0), .sl 2])⟩,
    ⟨none, none, .h (.store 25 (.t 14) (.t 98))⟩,
    ⟨some 15, none, .p (.mv (.t 99))⟩] [3, 4, 5, 8, 12, 13, 14, 15])
  (.seq (.region [⟨some 100, none, .p (.mv (.t 13))⟩,
    ⟨some 101, none, .p (.mv (.t 15))⟩,
    ⟨some 102, none, .p (.eqb true (.t 100) (.t 101))⟩,
    ⟨some 103, none, .p (.mv (.t 102))⟩,
    ⟨some 104, some (103, false), .p (.mv (.t 13))⟩,
    ⟨some 105, some (103, false), .p (.mv (.t 5))⟩,
    ⟨some 106, some (103, false), .p (.eqb true (.t 104) (.t 105))⟩,
    ⟨some 107, none, .p (.pick (.t 103) (.k (.c (C.bool true))) (.t 106))⟩,
    ⟨some 108, none, .p (.mv (.t 107))⟩,
    ⟨some 109, some (108, false), .h (.load 25 true (.t 12))⟩,
    ⟨some 110, some (108, false), .h (.load 25 true (.t 14))⟩,
    ⟨some 111, some (108, false), .h (.call (.f 126) [.t 109, .t 110])⟩,
    ⟨some 112, some (108, false), .p (.un .not (.t 111))⟩,
    ⟨some 113, none, .p (.pick (.t 108) (.k (.c (C.bool true))) (.t 112))⟩] [3, 4, 5, 8, 12, 113])
  (.cond (.t 113)
  (.seq (.region [⟨some 2, none, .p (.mv (.k (.c (C.bool false))))⟩] [2])
  .ret)
  .skip)))
  (.seq (.region [⟨some 115, none, .h (.load 25 true (.t 3))⟩,
    ⟨some 116, none, .h (.call (.f 78) [.t 115])⟩,
    ⟨some 114, none, .p (.mv (.t 116))⟩,
    ⟨some 117, none, .p (.ext (.t 114) 0)⟩,
    ⟨some 118, none, .p (.ext (.t 114) 1)⟩,
    ⟨some 16, none, .p (.mv (.t 117))⟩,
    ⟨some 17, none, .p (.mv (.t 118))⟩] [3, 4, 5, 8, 12, 16, 17])
  (.seq (.seq (.region [⟨some 120, none, .h (.load 25 true (.t 3))⟩,
    ⟨some 121, none, .h (.call (.f 77) [.t 120])⟩,
    ⟨some 119, none, .p (.mv (.t 121))⟩,
    ⟨some 122, none, .p (.ext (.t 119) 0)⟩,
    ⟨some 123, none, .p (.ext (.t 119) 1)⟩,
    ⟨some 18, none, .p (.mv (.t 122))⟩,
    ⟨some 19, none, .p (.mv (.t 123))⟩] [3, 4, 5, 8, 12, 16, 17, 18, 19])
  (.seq (.region [⟨some 124, none, .p (.mv (.t 16))⟩,
    ⟨some 125, none, .p (.mv (.t 18))⟩,
    ⟨some 126, none, .p (.eqb true (.t 124) (.t 125))⟩,
    ⟨some 127, none, .p (.mv (.t 126))⟩,
    ⟨some 128, some (127, false), .p (.mv (.t 17))⟩,
    ⟨some 129, some (127, false), .p (.mv (.t 19))⟩,
    ⟨some 130, some (127, false), .p (.eqb true (.t 128) (.t 129))⟩,
    ⟨some 131, none, .p (.pick (.t 127) (.k (.c (C.bool true))) (.t 130))⟩,
    ⟨some 132, none, .p (.mv (.t 131))⟩,
    ⟨some 133, some (132, false), .p (.mv (.t 17))⟩,
    ⟨some 134, some (132, false), .p (.mv (.t 5))⟩,
    ⟨some 135, some (132, false), .p (.eqb true (.t 133) (.t 134))⟩,
    ⟨some 136, none, .p (.pick (.t 132) (.k (.c (C.bool true))) (.t 135))⟩] [3, 4, 5, 8, 12, 16, 136])
  (.cond (.t 136)
  (.seq (.region [⟨some 2, none, .p (.mv (.k (.c (C.bool false))))⟩] [2])
  .ret)
  .skip)))
  (.seq (.region [⟨some 138, none, .h (.load 25 true (.t 3))⟩,
    ⟨some 139, none, .h (.call (.f 100) [.t 138])⟩,
    ⟨some 137, none, .p (.mv (.t 139))⟩,
    ⟨some 140, none, .p (.ext (.t 137) 0)⟩,
    ⟨some 141, none, .p (.ext (.t 137) 1)⟩,
    ⟨some 20, none, .p (.mv (.t 140))⟩,
    ⟨some 21, none, .p (.mv (.t 141))⟩] [3, 4, 5, 8, 12, 16, 20, 21])
  (.seq (.seq (.region [⟨some 143, none, .h (.load 25 true (.t 3))⟩,
    ⟨some 144, none, .h (.call (.f 99) [.t 143])⟩,
    ⟨some 142, none, .p (.mv (.t 144))⟩,
    ⟨some 145, none, .p (.ext (.t 142) 0)⟩,
    ⟨some 146, none, .p (.ext (.t 142) 1)⟩,
    ⟨some 22, none, .p (.mv (.t 145))⟩,
    ⟨some 23, none, .p (.mv (.t 146))⟩] [3, 4, 5, 8, 12, 16, 20, 21, 22, 23])
  (.seq (.region [⟨some 147, none, .p (.mv (.t 20))⟩,
    ⟨some 148, none, .p (.mv (.t 22))⟩,
    ⟨some 149, none, .p (.bin .neq (.t 147) (.t 148))⟩,
    ⟨some 150, none, .p (.mv (.t 149))⟩,
    ⟨some 151, some (150, false), .p (.mv (.t 21))⟩,
    ⟨some 152, some (150, false), .p (.mv (.t 23))⟩,
    ⟨some 153, some (150, false), .p (.eqb true (.t 151) (.t 152))⟩,
    ⟨some 154, none, .p (.pick (.t 150) (.k (.c (C.bool true))) (.t 153))⟩,
    ⟨some 155, none, .p (.mv (.t 154))⟩,
    ⟨some 156, some (155, false), .p (.mv (.t 21))⟩,
    ⟨some 157, some (155, false), .p (.mv (.t 5))⟩,
    ⟨some 158, some (155, false), .p (.mv (.t 157))⟩,
    ⟨some 159, some (158, true), .p (.mv (.t 16))⟩,
    ⟨some 160, some (155, false), .p (.pick (.t 158) (.t 159) (.k (.c (C.bool false))))⟩,
    ⟨some 161, some (155, false), .p (.eqb true (.t 156) (.t 160))⟩,
    ⟨some 162, none, .p (.pick (.t 155) (.k (.c (C.bool true))) (.t 161))⟩,
    ⟨some 163, none, .p (.mv (.t 162))⟩,
    ⟨some 164, some (163, false), .p (.mv (.t 21))⟩,
    ⟨some 165, some (163, false), .p (.mv (.t 164))⟩,
    ⟨some 166, some (165, true), .p (.mv (.t 20))⟩,
    ⟨some 167, some (165, true), .p (.bin .lss (.t 166) (.k (.c (C.int .i64 0))))⟩,
    ⟨some 168, some (163, false), .p (.pick (.t 165) (.t 167) (.k (.c (C.bool false))))⟩,
    ⟨some 169, none, .p (.pick (.t 163) (.k (.c (C.bool true))) (.t 168))⟩] [3, 4, 5, 8, 12, 16, 169])
  (.cond (.t 169)
  (.seq (.region [⟨some 2, none, .p (.mv (.k (.c (C.bool false))))⟩] [2])
  .ret)
  .skip)))
  (.seq (.seq (.region [⟨some 170, none, .p (.mv (.t 5))⟩,
    ⟨some 171, none, .p (.un .not (.t 170))⟩] [3, 4, 8, 12, 16, 171])
  (.cond (.t 171)
  (.seq (.region [⟨some 2, none, .p (.mv (.k (.c (C.bool true))))⟩] [2])
  .ret)
  .skip))
  (.seq (.region [⟨some 173, none, .h (.load 25 true (.t 4))⟩,
    ⟨some 174, none, .h (.call (.f 75) [.t 173])⟩,
    ⟨some 172, none, .p (.mv (.t 174))⟩,
    ⟨some 175, none, .p (.ext (.t 172) 0)⟩,
    ⟨some 176, none, .p (.ext (.t 172) 1)⟩,
    ⟨some 24, none, .p (.mv (.t 175))⟩,
    ⟨some 25, none, .p (.mv (.t 176))⟩] [3, 4, 8, 12, 16, 24, 25])
  (.seq (.region [⟨some 178, none, .h (.load 25 true (.t 3))⟩,
    ⟨some 179, none, .p (.fld 24 (.t 3))⟩,
    ⟨some 180, none, .h (.load 1 false (.t 179))⟩,
    ⟨some 181, none, .p (.len (.t 180))⟩,
    ⟨some 182, none, .h (.call (.f 53) [.t 178, .t 181])⟩,
    ⟨some 177, none, .p (.mv (.t 182))⟩,
    ⟨some 183, none, .p (.ext (.t 177) 0)⟩,
    ⟨some 184, none, .p (.ext (.t 177) 1)⟩,
    ⟨some 26, none, .p (.alloc (List.replicate 24 (.k (C.int .i64 0))))⟩,
    ⟨none, none, .h (.store 24 (.t 26) (.t 183))⟩,
    ⟨some 27, none, .p (.mv (.t 184))⟩] [3, 4, 8, 12, 16, 24, 25, 26, 27])
  (.seq (.region [⟨some 186, none, .h (.load 25 true (.t 4))⟩,
    ⟨some 187, none, .p (.fld 24 (.t 4))⟩,
    ⟨some 188, none, .h (.load 1 false (.t 187))⟩,
    ⟨some 189, none, .p (.len (.t 188))⟩,
    ⟨some 190, none, .h (.call (.f 53) [.t 186, .t 189])⟩,
    ⟨some 185, none, .p (.mv (.t 190))⟩,
    ⟨some 191, none, .p (.ext (.t 185) 0)⟩,
    ⟨some 192, none, .p (.ext (.t 185) 1)⟩,
    ⟨some 28, none, .p (.alloc (List.replicate 24 (.k (C.int .i64 0))))⟩,
    ⟨none, none, .h (.store 24 (.t 28) (.t 191))⟩,
    ⟨some 29, none, .p (.mv (.t 192))⟩] [3, 4, 8, 12, 16, 24, 25, 26, 27, 28, 29])
  (.seq (.region [⟨some 194, none, .h (.load 25 true (.t 4))⟩,
    ⟨some 195, none, .h (.call (.f 78) [.t 194])⟩,
    ⟨some 193, none, .p (.mv (.t 195))⟩,
    ⟨some 196, none, .p (.ext (.t 193) 0)⟩,
    ⟨some 197, none, .p (.ext (.t 193) 1)⟩,
    ⟨some 30, none, .p (.mv (.t 196))⟩,
    ⟨some 31, none, .p (.mv (.t 197))⟩] [3, 4, 8, 12, 16, 24, 25, 26, 27, 28, 29, 30, 31])
  (.seq (.seq (.region [⟨some 198, none, .p (.mv (.t 25))⟩,
    ⟨some 199, none, .p (.un .not (.t 198))⟩,
    ⟨some 200, none, .p (.mv (.t 199))⟩,
    ⟨some 201, some (200, false), .p (.mv (.t 27))⟩,
    ⟨some 202, some (200, false), .p (.un .not (.t 201))⟩,
    ⟨some 203, none, .p (.pick (.t 200) (.k (.c (C.bool true))) (.t 202))⟩,
    ⟨some 204, none, .p (.mv (.t 203))⟩,
    ⟨some 205, some (204, false), .p (.mv (.t 29))⟩,
    ⟨some 206, some (204, false), .p (.un .not (.t 205))⟩,
    ⟨some 207, none, .p (.pick (.t 204) (.k (.c (C.bool true))) (.t 206))⟩,
    ⟨some 208, none, .p (.mv (.t 207))⟩,
    ⟨some 209, some (208, false), .p (.mv (.t 31))⟩,
    ⟨some 210, some (208, false), .p (.un .not (.t 209))⟩,
    ⟨some 211, none, .p (.pick (.t 208) (.k (.c (C.bool true))) (.t 210))⟩,
    ⟨some 212, none, .p (.mv (.t 211))⟩,
    ⟨some 213, some (212, false), .p (.mv (.t 24))⟩,
    ⟨some 214, some (212, false), .p (.len (.t 213))⟩,
    ⟨some 215, some (212, false), .p (.bin .neq (.t 214) (.k (.c (C.int .i64 0))))⟩,
    ⟨some 216, none, .p (.pick (.t 212) (.k (.c (C.bool true))) (.t 215))⟩,
    ⟨some 217, none, .p (.mv (.t 216))⟩,
    ⟨some 218, some (217, false), .h (.load 24 true (.t 26))⟩,
    ⟨some 219, some (217, false), .h (.load 24 true (.t 28))⟩,
    ⟨some 220, some (217, false), .p (.eqv true (List.replicate 24 (.int .i64)) (.t 218) (.t 219))⟩,
    ⟨some 221, none, .p (.pick (.t 217) (.k (.c (C.bool true))) (.t 220))⟩,
    ⟨some 222, none, .p (.mv (.t 221))⟩,
    ⟨some 223, some (222, false), .p (.mv (.t 30))⟩,
    ⟨some 224, some (222, false), .p (.mv (.t 16))⟩,
    ⟨some 225, some (222, false), .p (.eqb true (.t 223) (.t 224))⟩,
    ⟨some 226, none, .p (.pick (.t 222) (.k (.c (C.bool true))) (.t 225))⟩,
    ⟨some 227, none, .p (.mv (.t 226))⟩,
    ⟨some 228, some (227, false), .p (.fld 24 (.t 4))⟩,
    ⟨some 229, some (227, false), .h (.load 1 false (.t 228))⟩,
    ⟨some 230, some (227, false), .p (.len (.t 229))⟩,
    ⟨some 231, some (227, false), .p (.fld 24 (.t 3))⟩,
    ⟨some 232, some (227, false), .h (.load 1 false (.t 231))⟩,
    ⟨some 233, some (227, false), .p (.len (.t 232))⟩,
    ⟨some 234, some (227, false), .p (.bin .gtr (.t 230) (.t 233))⟩,
    ⟨some 235, none, .p (.pick (.t 227) (.k (.c (C.bool true))) (.t 234))⟩,
    ⟨some 236, none, .p (.mv (.t 235))⟩,
    ⟨some 237, some (236, false), .p (.mv (.t 8))⟩,
    ⟨some 238, some (236, false), .p (.len (.t 237))⟩,
    ⟨some 239, some (236, false), .p (.bin .eql (.t 238) (.k (.c (C.int .i64 0))))⟩,
    ⟨some 240, some (236, false), .p (.fld 24 (.t 4))⟩,
    ⟨some 241, some (236, false), .h (.load 1 false (.t 240))⟩,
    ⟨some 242, some (236, false), .p (.len (.t 241))⟩,
    ⟨some 243, some (236, false), .p (.fld 24 (.t 3))⟩,
    ⟨some 244, some (236, false), .h (.load 1 false (.t 243))⟩,
    ⟨some 245, some (236, false), .p (.len (.t 244))⟩,
    ⟨some 246, some (236, false), .p (.bin .eql (.t 242) (.t 245))⟩,
    ⟨some 247, some (236, false), .p (.eqb true (.t 239) (.t 246))⟩,
    ⟨some 248, none, .p (.pick (.t 236) (.k (.c (C.bool true))) (.t 247))⟩] [3, 8, 12, 248])
  (.cond (.t 248)
  (.seq (.region [⟨some 2, none, .p (.mv (.k (.c (C.bool false))))⟩] [2])
  .ret)
  .skip))
  (.seq (.seq (.region [⟨some 32, none, .p (.mv (.k (.c (C.int .i64 0))))⟩] [3, 8, 12, 32])
  (.block 0 (.loop (.seq (.seq (.region [⟨some 249, none, .p (.mv (.t 32))⟩,
    ⟨some 250, none, .p (.mv (.t 8))⟩,
    ⟨some 251, none, .p (.len (.t 250))⟩,
    ⟨some 252, none, .p (.bin .lss (.t 249) (.t 251))⟩] [3, 8, 12, 32, 252])
  (.cond (.t 252)
  .skip
  (.exit 0)))
  (.seq (.block 1 (.seq (.regionD [⟨some 256, none, .h (.load 25 true (.t 3))⟩,
    ⟨some 257, none, .p (.mv (.t 8))⟩,
    ⟨some 258, none, .p (.mv (.t 32))⟩,
    ⟨some 259, none, .p (.ixS 2 (.t 257) (.t 258))⟩,
    ⟨some 260, none, .p (.ixA 2 1 (.t 259) (.k (.c (C.int .i64 0))))⟩,
    ⟨some 261, none, .h (.load 1 false (.t 260))⟩,
    ⟨some 262, none, .h (.call (.f 53) [.t 256, .t 261])⟩,
    ⟨some 255, none, .p (.mv (.t 262))⟩,
    ⟨some 263, none, .p (.ext (.t 255) 0)⟩,
    ⟨some 264, none, .p (.ext (.t 255) 1)⟩,
    ⟨some 33, none, .p (.alloc (List.replicate 24 (.k (C.int .i64 0))))⟩,
    ⟨none, none, .h (.store 24 (.t 33) (.t 263))⟩,
    ⟨some 34, none, .p (.mv (.t 264))⟩] [3, 8, 12, 32, 33, 34] [])
  (.seq (.regionD [⟨some 266, none, .h (.load 25 true (.t 3))⟩,
    ⟨some 267, none, .p (.mv (.t 8))⟩,
    ⟨some 268, none, .p (.mv (.t 32))⟩,
    ⟨some 269, none, .p (.ixS 2 (.t 267) (.t 268))⟩,
    ⟨some 270, none, .p (.ixA 2 1 (.t 269) (.k (.c (C.int .i64 1))))⟩,
    ⟨some 271, none, .h (.load 1 false (.t 270))⟩,
    ⟨some 272, none, .h (.call (.f 53) [.t 266, .t 271])⟩,
    ⟨some 265, none, .p (.mv (.t 272))⟩,
    ⟨some 273, none, .p (.ext (.t 265) 0)⟩,
    ⟨some 274, none, .p (.ext (.t 265) 1)⟩,
    ⟨some 35, none, .p (.alloc (List.replicate 24 (.k (C.int .i64 0))))⟩,
    ⟨none, none, .h (.store 24 (.t 35) (.t 273))⟩,
    ⟨some 36, none, .p (.mv (.t 274))⟩] [3, 8, 12, 32, 33, 34, 35, 36] [])
  (.seq (.regionD [⟨some 275, none, .p (.mv (.t 34))⟩,
    ⟨some 276, none, .p (.un .not (.t 275))⟩,
    ⟨some 277, none, .p (.mv (.t 276))⟩,
    ⟨some 278, some (277, false), .p (.mv (.t 36))⟩,
    ⟨some 279, some (277, false), .p (.un .not (.t 278))⟩,
    ⟨some 280, none, .p (.pick (.t 277) (.k (.c (C.bool true))) (.t 279))⟩,
    ⟨some 281, none, .p (.mv (.t 280))⟩,
    ⟨some 282, some (281, false), .h (.load 24 true (.t 33))⟩,
    ⟨some 283, some (281, false), .h (.load 24 true (.t 35))⟩,
    ⟨some 284, some (281, false), .p (.eqv true (List.replicate 24 (.int .i64)) (.t 282) (.t 283))⟩,
    ⟨some 285, none, .p (.pick (.t 281) (.k (.c (C.bool true))) (.t 284))⟩,
    ⟨some 286, none, .p (.mv (.t 285))⟩,
    ⟨some 287, some (286, false), .p (.mv (.t 8))⟩,
    ⟨some 288, some (286, false), .p (.mv (.t 32))⟩,
    ⟨some 289, some (286, false), .p (.ixS 2 (.t 287) (.t 288))⟩,
    ⟨some 290, some (286, false), .p (.ixA 2 1 (.t 289) (.k (.c (C.int .i64 0))))⟩,
    ⟨some 291, some (286, false), .h (.load 1 false (.t 290))⟩,
    ⟨some 292, some (286, false), .p (.mv (.t 8))⟩,
    ⟨some 293, some (286, false), .p (.mv (.t 32))⟩,
    ⟨some 294, some (286, false), .p (.ixS 2 (.t 292) (.t 293))⟩,
    ⟨some 295, some (286, false), .p (.ixA 2 1 (.t 294) (.k (.c (C.int .i64 1))))⟩,
    ⟨some 296, some (286, false), .h (.load 1 false (.t 295))⟩,
    ⟨some 297, some (286, false), .p (.bin .geq (.t 291) (.t 296))⟩,
    ⟨some 298, none, .p (.pick (.t 286) (.k (.c (C.bool true))) (.t 297))⟩] [3, 8, 12, 32, 298] [])
  (.cond (.t 298)
  (.seq (.region [⟨some 2, none, .p (.mv (.k (.c (C.bool false))))⟩] [2])
  .ret)
  .skip)))))
  (.region [⟨some 253, none, .p (.mv (.t 32))⟩,
    ⟨some 254, none, .p (.bin .add (.t 253) (.k (.c (C.int .i64 1))))⟩,
    ⟨some 32, none, .p (.mv (.t 254))⟩] [3, 8, 12, 32]))) [3, 8, 12, 32])))
  (.seq (.region [⟨some 299, none, .h (.load 25 true (.t 12))⟩,
    ⟨some 300, none, .h (.call (.f 50) [.t 299])⟩,
    ⟨some 301, none, .p (.mv (.t 300))⟩,
    ⟨some 302, some (301, true), .p (.fld 24 (.t 12))⟩,
    ⟨some 303, some (301, true), .h (.load 1 false (.t 302))⟩,
    ⟨some 304, some (301, true), .p (.len (.t 303))⟩,
    ⟨some 305, some (301, true), .p (.fld 24 (.t 3))⟩,
    ⟨some 306, some (301, true), .h (.load 1 false (.t 305))⟩,
    ⟨some 307, some (301, true), .p (.len (.t 306))⟩,
    ⟨some 308, some (301, true), .p (.bin .leq (.t 304) (.t 307))⟩,
    ⟨some 309, none, .p (.pick (.t 301) (.t 308) (.k (.c (C.bool false))))⟩,
    ⟨some 2, none, .p (.mv (.t 309))⟩] [2])
  .ret))))))))))))))))))))) }
theorem a31_ok : okFn Try.prog 31 a31 = true := by kernel_rfl
/-- loop.example/g01215/laws.FnTubeGames -/
def a32 : AFn := { np := 1, nt := 430, res := [.t 2], body :=
  (.seq (.region [⟨some 2, none, .p (.mv (.k (.c (C.bool false))))⟩] [0])
  (.seq (.seq (.region [⟨some 62, none, .p (.mv (.t 0))⟩,
    ⟨some 63, none, .h (.call (.f 118) [.t 62])⟩] [0, 63])
  (.cond (.t 63)
  (.seq (.region [⟨some 2, none, .p (.mv (.k (.c (C.bool true))))⟩] [2])
  .ret)
  .skip))
  (.seq (.region [⟨some 65, none, .p (.mv (.t 0))⟩,
    ⟨some 66, none, .h (.call (.f 127) [.t 65])⟩,
    ⟨some 64, none, .p (.mv (.t 66))⟩,
    ⟨some 67, none, .p (.ext (.t 64) 0)⟩,
    ⟨some 68, none, .p (.ext (.t 64) 1)⟩,
    ⟨some 3, none, .p (.alloc (List.replicate 24 (.k (C.int .i64 0))))⟩,
    ⟨none, none, .h (.store 24 (.t 3) (.t 67))⟩,
    ⟨some 4, none, .p (.mv (.t 68))⟩] [0, 3, 4])
  (.seq (.region [⟨some 70, none, .h (.load 24 true (.t 3))⟩,
    ⟨some 71, none, .p (.mv (.t 4))⟩,
    ⟨some 72, none, .h (.call (.f 61) [.t 70, .t 71])⟩,
    ⟨some 69, none, .p (.mv (.t 72))⟩,
    ⟨some 73, none, .p (.ext (.t 69) 0)⟩,
    ⟨some 74, none, .p (.ext (.t 69) 1)⟩,
    ⟨some 5, none, .p (.mv (.t 73))⟩,
    ⟨some 6, none, .p (.mv (.t 74))⟩] [0, 3, 4, 5, 6])
  (.seq (.seq (.region [⟨some 76, none, .h (.load 24 true (.t 3))⟩,
    ⟨some 77, none, .p (.mv (.t 4))⟩,
    ⟨some 78, none, .h (.call (.f 60) [.t 76, .t 77])⟩,
    ⟨some 75, none, .p (.mv (.t 78))⟩,
    ⟨some 79, none, .p (.ext (.t 75) 0)⟩,
    ⟨some 80, none, .p (.ext (.t 75) 1)⟩,
    ⟨some 7, none, .p (.mv (.t 79))⟩,
    ⟨some 8, none, .p (.mv (.t 80))⟩] [0, 3, 4, 5, 6, 7, 8])
  (.seq (.region [⟨some 81, none, .p (.mv (.t 5))⟩,
    ⟨some 82, none, .p (.mv (.t 7))⟩,
    ⟨some 83, none, .p (.bin .neq (.t 81) (.t 82))⟩,
    ⟨some 84, none, .p (.mv (.t 83))⟩,
    ⟨some 85, some (84, false), .p (.mv (.t 6))⟩,
    ⟨some 86, some (84, false), .p (.mv (.t 8))⟩,
    ⟨some 87, some (84, false), .p (.eqb true (.t 85) (.t 86))⟩,
    ⟨some 88, none, .p (.pick (.t 84) (.k (.c (C.bool true))) (.t 87))⟩,
    ⟨some 89, none, .p (.mv (.t 88))⟩,
    ⟨some 90, some (89, false), .p (.mv (.t 6))⟩,
    ⟨some 91, some (89, false), .p (.mv (.t 90))⟩,
    ⟨some 92, some (91, true), .p (.mv (.t 5))⟩,
    ⟨some 93, some (91, true), .p (.mv (.t 4))⟩,
    ⟨some 94, some (91, true), .p (.bin .gtr (.t 92) (.t 93))⟩,
    ⟨some 95, some (89, false), .p (.pick (.t 91) (.t 94) (.k (.c (C.bool false))))⟩,
    ⟨some 96, none, .p (.pick (.t 89) (.k (.c (C.bool true))) (.t 95))⟩] [0, 3, 4, 5, 6, 96])
  (.cond (.t 96)
  (.seq (.region [⟨some 2, none, .p (.mv (.k (.c (C.bool false))))⟩] [2])
  .ret)
  .skip)))
  (.seq (.region [⟨some 98, none, .h (.load 24 true (.t 3))⟩,
    ⟨some 99, none, .p (.mv (.t 4))⟩,
    ⟨some 100, none, .h (.call (.f 96) [.t 98, .t 99])⟩,
    ⟨some 97, none, .p (.mv (.t 100))⟩,
    ⟨some 101, none, .p (.ext (.t 97) 0)⟩,
    ⟨some 102, none, .p (.ext (.t 97) 1)⟩,
    ⟨some 9, none, .p (.mv (.t 101))⟩,
    ⟨some 10, none, .p (.mv (.t 102))⟩] [0, 3, 4, 5, 6, 9, 10])
  (.seq (.seq (.region [⟨some 104, none, .h (.load 24 true (.t 3))⟩,
    ⟨some 105, none, .p (.mv (.t 4))⟩,
    ⟨some 106, none, .h (.call (.f 95) [.t 104, .t 105])⟩,
    ⟨some 103, none, .p (.mv (.t 106))⟩,
    ⟨some 107, none, .p (.ext (.t 103) 0)⟩,
    ⟨some 108, none, .p (.ext (.t 103) 1)⟩,
    ⟨some 11, none, .p (.mv (.t 107))⟩,
    ⟨some 12, none, .p (.mv (.t 108))⟩] [0, 3, 4, 5, 6, 9, 10, 11, 12])
  (.seq (.region [⟨some 109, none, .p (.mv (.t 10))⟩,
    ⟨some 110, none, .p (.mv (.t 12))⟩,
    ⟨some 111, none, .p (.eqb true (.t 109) (.t 110))⟩,
    ⟨some 112, none, .p (.mv (.t 111))⟩,
    ⟨some 113, some (112, false), .p (.mv (.t 10))⟩,
    ⟨some 114, some (112, false), .p (.mv (.t 6))⟩,
    ⟨some 115, some (112, false), .p (.eqb true (.t 113) (.t 114))⟩,
    ⟨some 116, none, .p (.pick (.t 112) (.k (.c (C.bool true))) (.t 115))⟩,
    ⟨some 117, none, .p (.mv (.t 116))⟩,
    ⟨some 118, some (117, false), .p (.mv (.t 9))⟩,
    ⟨some 119, some (117, false), .p (.mv (.t 11))⟩,
    ⟨some 120, some (117, false), .h (.call (.f 120) [.t 118, .t 119])⟩,
    ⟨some 121, some (117, false), .p (.un .not (.t 120))⟩,
    ⟨some 122, none, .p (.pick (.t 117) (.k (.c (C.bool true))) (.t 121))⟩,
    ⟨some 123, none, .p (.mv (.t 122))⟩,
    ⟨some 124, some (123, false), .p (.mv (.t 9))⟩,
    ⟨some 125, some (123, false), .p (.len (.t 124))⟩,
    ⟨some 126, some (123, false), .p (.bin .gtr (.t 125) (.k (.c (C.int .i64 3))))⟩,
    ⟨some 127, none, .p (.pick (.t 123) (.k (.c (C.bool true))) (.t 126))⟩] [0, 3, 4, 5, 6, 9, 127])
  (.cond (.t 127)
  (.seq (.region [⟨some 2, none, .p (.mv (.k (.c (C.bool false))))⟩] [2])
  .ret)
  .skip)))
  (.seq (.region [⟨some 129, none, .h (.load 24 true (.t 3))⟩,
    ⟨some 130, none, .p (.mv (.t 4))⟩,
    ⟨some 131, none, .h (.call (.f 80) [.t 129, .t 130])⟩,
    ⟨some 128, none, .p (.mv (.t 131))⟩,
    ⟨some 132, none, .p (.ext (.t 128) 0)⟩,
    ⟨some 133, none, .p (.ext (.t 128) 1)⟩,
    ⟨some 13, none, .p (.mv (.t 132))⟩,
    ⟨some 14, none, .p (.mv (.t 133))⟩] [0, 3, 4, 5, 6, 9, 13, 14])
  (.seq (.seq (.region [⟨some 135, none, .h (.load 24 true (.t 3))⟩,
    ⟨some 136, none, .p (.mv (.t 4))⟩,
    ⟨some 137, none, .h (.call (.f 79) [.t 135, .t 136])⟩,
    ⟨some 134, none, .p (.mv (.t 137))⟩,
    ⟨some 138, none, .p (.ext (.t 134) 0)⟩,
    ⟨some 139, none, .p (.ext (.t 134) 1)⟩,
    ⟨some 15, none, .p (.mv (.t 138))⟩,
    ⟨some 16, none, .p (.mv (.t 139))⟩] [0, 3, 4, 5, 6, 9, 13, 14, 15, 16])
  (.seq (.region [⟨some 140, none, .p (.mv (.t 14))⟩,
    ⟨some 141, none, .p (.mv (.t 16))⟩,
    ⟨some 142, none, .p (.eqb true (.t 140) (.t 141))⟩,
    ⟨some 143, none, .p (.mv (.t 142))⟩,
    ⟨some 144, some (143, false), .p (.mv (.t 13))⟩,
    ⟨some 145, some (143, false), .p (.mv (.t 15))⟩,
    ⟨some 146, some (143, false), .h (.call (.f 120) [.t 144, .t 145])⟩,
    ⟨some 147, some (143, false), .p (.un .not (.t 146))⟩,
    ⟨some 148, none, .p (.pick (.t 143) (.k (.c (C.bool true))) (.t 147))⟩] [0, 3, 4, 5, 6, 9, 13, 14, 148])
  (.cond (.t 148)
  (.seq (.region [⟨some 2, none, .p (.mv (.k (.c (C.bool false))))⟩] [2])
  .ret)
  .skip)))
  (.seq (.region [⟨some 150, none, .h (.load 24 true (.t 3))⟩,
    ⟨some 151, none, .p (.mv (.t 4))⟩,
    ⟨some 152, none, .h (.call (.f 73) [.t 150, .t 151])⟩,
    ⟨some 149, none, .p (.mv (.t 152))⟩,
    ⟨some 153, none, .p (.ext (.t 149) 0)⟩,
    ⟨some 154, none, .p (.ext (.t 149) 1)⟩,
    ⟨some 17, none, .p (.alloc [.k (C.int .i64 0), .k (C.int .i64 0)])⟩,
    ⟨none, none, .h (.store 2 (.t 17) (.t 153))⟩,
    ⟨some 18, none, .p (.mv (.t 154))⟩] [0, 3, 4, 5, 6, 9, 13, 14, 17, 18])
  (.seq (.seq (.region [⟨some 156, none, .h (.load 24 true (.t 3))⟩,
    ⟨some 157, none, .p (.mv (.t 4))⟩,
    ⟨some 158, none, .h (.call (.f 72) [.t 156, .t 157])⟩,
    ⟨some 155, none, .p (.mv (.t 158))⟩,
    ⟨some 159, none, .p (.ext (.t 155) 0)⟩,
    ⟨some 160, none, .p (.ext (.t 155) 1)⟩,
    ⟨some 19, none, .p (.alloc [.k (C.int .i64 0), .k (C.int .i64 0)])⟩,
    ⟨none, none, .h (.store 2 (.t 19) (.t 159))⟩,
    ⟨some 20, none, .p (.mv (.t 160))⟩] [0, 3, 5, 6, 9, 13, 14, 17, 18, 19, 20])
  (.seq (.region [⟨some 161, none, .h (.load 2 true (.t 17))⟩,
    ⟨some 162, none, .h (.load 2 true (.t 19))⟩,
    ⟨some 163, none, .p (.eqv true [.int .i64, .int .i64] (.t 161) (.t 162))⟩,
    ⟨some 164, none, .p (.mv (.t 163))⟩,
    ⟨some 165, some (164, false), .p (.mv (.t 18))⟩,
    ⟨some 166, some (164, false), .p (.mv (.t 20))⟩,
    ⟨some 167, some (164, false), .p (.eqb true (.t 165) (.t 166))⟩,
    ⟨some 168, none, .p (.pick (.t 164) (.k (.c (C.bool true))) (.t 167))⟩,
    ⟨some 169, none, .p (.mv (.t 168))⟩,
    ⟨some 170, some (169, false), .p (.mv (.t 18))⟩,
    ⟨some 171, some (169, false), .p (.mv (.t 14))⟩,
    ⟨some 172, some (169, false), .p (.mv (.t 171))⟩,
    ⟨some 173, some (172, true), .p (.mv (.t 13))⟩,
    ⟨some 174, some (172, true), .p (.len (.t 173))⟩,
    ⟨some 175, some (172, true), .p (.bin .gtr (.t 174) (.k (.c (C.int .i64 0))))⟩,
    ⟨some 176, some (169, false), .p (.pick (.t 172) (.t 175) (.k (.c (C.bool false))))⟩,
    ⟨some 177, some (169, false), .p (.eqb true (.t 170) (.t 176))⟩,
    ⟨some 178, none, .p (.pick (.t 169) (.k (.c (C.bool true))) (.t 177))⟩] [0, 3, 5, 6, 9, 13, 17, 18, 178])
  (.cond (.t 178)
  (.seq (.region [⟨some 2, none, .p (.mv (.k (.c (C.bool false))))⟩] [2])
  .ret)
  .skip)))
  (.seq (.region [⟨some 180, none, .p (.mv (.t 0))⟩,
    ⟨some 181, none, .h (.call (.f 128) [.t 180])⟩,
    ⟨some 179, none, .p (.mv (.t 181))⟩,
    ⟨some 182, none, .p (.ext (.t 179) 0)⟩,
    ⟨some 183, none, .p (.ext (.t 179) 1)⟩,
    ⟨some 21, none, .p (.alloc (List.replicate 24 (.k (C.int .i64 0))))⟩,
    ⟨none, none, .h (.store 24 (.t 21) (.t 182))⟩,
    ⟨some 22, none, .p (.mv (.t 183))⟩] [3, 5, 6, 9, 13, 17, 18, 21, 22])
  (.seq (.region [⟨some 185, none, .h (.load 24 true (.t 21))⟩,
    ⟨some 186, none, .p (.mv (.t 22))⟩,
    ⟨some 187, none, .h (.call (.f 58) [.t 185, .t 186])⟩,
    ⟨some 184, none, .p (.mv (.t 187))⟩,
    ⟨some 188, none, .p (.ext (.t 184) 0)⟩,
    ⟨some 189, none, .p (.ext (.t 184) 1)⟩,
    ⟨some 190, none, .p (.ext (.t 184) 2)⟩,
    ⟨some 191, none, .p (.ext (.t 184) 3)⟩,
    ⟨some 23, none, .p (.alloc (List.replicate 24 (.k (C.int .i64 0))))⟩,
    ⟨some 24, none, .p (.alloc [.k (C.int .i64 0), .k (C.int .i64 0)])⟩,
    ⟨none, none, .h (.store 24 (.t 23) (.t 188))⟩,
    ⟨none, none, .h (.store 2 (.t 24) (.t 189))⟩,
    ⟨some 25, none, .p (.mv (.t 190))⟩,
    ⟨some 26, none, .p (.mv (.t 191))⟩] [3, 5, 6, 9, 13, 17, 18, 21, 22, 23, 24, 25, 26])
  (.seq (.seq (.region [⟨some 193, none, .h (.load 24 true (.t 21))⟩,
    ⟨some 194, none, .p (.mv (.t 22))⟩,
    ⟨some 195, none, .h (.call (.f 56) [.t 193, .t 194])⟩,
    ⟨some 192, none, .p (.mv (.t 195))⟩,
    ⟨some 196, none, .p (.ext (.t 192) 0)⟩,
    ⟨some 197, none, .p (.ext (.t 192) 1)⟩,
    ⟨some 198, none, .p (.ext (.t 192) 2)⟩,
    ⟨some 199, none, .p (.ext (.t 192) 3)⟩,
    ⟨some 27, none, .p (.alloc (List.replicate 24 (.k (C.int .i64 0))))⟩,
    ⟨some 28, none, .p (.alloc [.k (C.int .i64 0), .k (C.int .i64 0)])⟩,
    ⟨none, none, .h (.store 24 (.t 27) (.t 196))⟩,
    ⟨none, none, .h (.store 2 (.t 28) (.t 197))⟩,
    ⟨some 29, none, .p (.mv (.t 198))⟩,
    ⟨some 30, none, .p (.mv (.t 199))⟩] [3, 5, 6, 9, 13, 17, 18, 21, 23, 24, 25, 26, 27, 28, 29, 30])
  (.seq (.region [⟨some 200, none, .h (.load 24 true (.t 23))⟩,
    ⟨some 201, none, .h (.load 24 true (.t 27))⟩,
    ⟨some 202, none, .p (.eqv true (List.replicate 24 (.int .i64)) (.t 200) (.t 201))⟩,
    ⟨some 203, none, .p (.mv (.t 202))⟩,
    ⟨some 204, some (203, false), .h (.load 2 true (.t 24))⟩,
    ⟨some 205, some (203, false), .h (.load 2 true (.t 28))⟩,
    ⟨some 206, some (203, false), .p (.eqv true [.int .i64, .int .i64] (.t 204) (.t 205))⟩,
    ⟨some 207, none, .p (.pick (.t 203) (.k (.c (C.bool true))) (.t 206))⟩,
    ⟨some 208, none, .p (.mv (.t 207))⟩,
    ⟨some 209, some (208, false), .p (.mv (.t 25))⟩,
    ⟨some 210, some (208, false), .p (.mv (.t 29))⟩,
    ⟨some 211, some (208, false), .p (.bin .neq (.t 209) (.t 210))⟩,
    ⟨some 212, none, .p (.pick (.t 208) (.k (.c (C.bool true))) (.t 211))⟩,
    ⟨some 213, none, .p (.mv (.t 212))⟩,
    ⟨some 214, some (213, false), .p (.mv (.t 26))⟩,
    ⟨some 215, some (213, false), .p (.mv (.t 30))⟩,
    ⟨some 216, some (213, false), .p (.eqb true (.t 214) (.t 215))⟩,
    ⟨some 217, none, .p (.pick (.t 213) (.k (.c (C.bool true))) (.t 216))⟩] [3, 5, 6, 9, 13, 17, 18, 21, 23, 24, 26, 217])
  (.cond (.t 217)
  (.seq (.region [⟨some 2, none, .p (.mv (.k (.c (C.bool false))))⟩] [2])
  .ret)
  .skip)))
  (.seq (.region [⟨some 219, none, .h (.load 24 true (.t 3))⟩,
    ⟨some 220, none, .h (.call (.f 129) [.t 219])⟩,
    ⟨some 218, none, .p (.mv (.t 220))⟩,
    ⟨some 221, none, .p (.ext (.t 218) 0)⟩,
    ⟨some 222, none, .p (.ext (.t 218) 1)⟩,
    ⟨some 31, none, .p (.mv (.t 221))⟩,
    ⟨some 32, none, .p (.mv (.t 222))⟩] [3, 5, 6, 9, 13, 17, 18, 21, 23, 24, 26, 31, 32])
  (.seq (.seq (.region [⟨some 224, none, .h (.load 24 true (.t 3))⟩,
    ⟨some 225, none, .h (.call (.f 130) [.t 224])⟩,
    ⟨some 223, none, .p (.mv (.t 225))⟩,
    ⟨some 226, none, .p (.ext (.t 223) 0)⟩,
    ⟨some 227, none, .p (.ext (.t 223) 1)⟩,
    ⟨some 33, none, .p (.mv (.t 226))⟩,
    ⟨some 34, none, .p (.mv (.t 227))⟩] [3, 5, 6, 9, 13, 17, 18, 21, 23, 24, 26, 31, 32, 33, 34])
  (.seq (.region [⟨some 228, none, .p (.mv (.t 32))⟩,
    ⟨some 229, none, .p (.mv (.t 34))⟩,
    ⟨some 230, none, .p (.eqb true (.t 228) (.t 229))⟩,
    ⟨some 231, none, .p (.mv (.t 230))⟩,
    ⟨some 232, some (231, false), .p (.mv (.t 32))⟩,
    ⟨some 233, some (231, false), .h (.load 24 true (.t 3))⟩,
    ⟨some 234, some (231, false), .h (.call (.f 121) [.t 233])⟩,
    ⟨some 235, some (231, false), .p (.eqb true (.t 232) (.t 234))⟩,
    ⟨some 236, none, .p (.pick (.t 231) (.k (.c (C.bool true))) (.t 235))⟩,
    ⟨some 237, none, .p (.mv (.t 236))⟩,
    ⟨some 238, some (237, false), .p (.mv (.t 31))⟩,
    ⟨some 239, some (237, false), .p (.mv (.t 33))⟩,
    ⟨some 240, some (237, false), .h (.call (.f 122) [.t 238, .t 239])⟩,
    ⟨some 241, some (237, false), .p (.un .not (.t 240))⟩,
    ⟨some 242, none, .p (.pick (.t 237) (.k (.c (C.bool true))) (.t 241))⟩] [3, 5, 6, 9, 13, 17, 18, 21, 23, 24, 26, 32, 242])
  (.cond (.t 242)
  (.seq (.region [⟨some 2, none, .p (.mv (.k (.c (C.bool false))))⟩] [2])
  .ret)
  .skip)))
  (.seq (.region [⟨some 244, none, .h (.load 24 true (.t 3))⟩,
    ⟨some 245, none, .h (.call (.f 69) [.t 244])⟩,
    ⟨some 243, none, .p (.mv (.t 245))⟩,
    ⟨some 246, none, .p (.ext (.t 243) 0)⟩,
    ⟨some 247, none, .p (.ext (.t 243) 1)⟩,
    ⟨some 35, none, .p (.mv (.t 246))⟩,
    ⟨some 36, none, .p (.mv (.t 247))⟩] [3, 5, 6, 9, 13, 17, 18, 21, 23, 24, 26, 32, 35, 36])
  (.seq (.seq (.region [⟨some 249, none, .h (.load 24 true (.t 3))⟩,
    ⟨some 250, none, .h (.call (.f 68) [.t 249])⟩,
    ⟨some 248, none, .p (.mv (.t 250))⟩,
    ⟨some 251, none, .p (.ext (.t 248) 0)⟩,
    ⟨some 252, none, .p (.ext (.t 248) 1)⟩,
    ⟨some 37, none, .p (.mv (.t 251))⟩,
    ⟨some 38, none, .p (.mv (.t 252))⟩] [3, 5, 6, 9, 13, 17, 18, 21, 23, 24, 26, 32, 35, 36, 37, 38])
  (.seq (.region [⟨some 253, none, .p (.mv (.t 36))⟩,
    ⟨some 254, none, .p (.mv (.t 38))⟩,
    ⟨some 255, none, .p (.eqb true (.t 253) (.t 254))⟩,
    ⟨some 256, none, .p (.mv (.t 255))⟩,
    ⟨some 257, some (256, false), .p (.mv (.t 36))⟩,
    ⟨some 258, some (256, false), .p (.mv (.t 32))⟩,
    ⟨some 259, some (256, false), .p (.eqb true (.t 257) (.t 258))⟩,
    ⟨some 260, none, .p (.pick (.t 256) (.k (.c (C.bool true))) (.t 259))⟩,
    ⟨some 261, none, .p (.mv (.t 260))⟩,
    ⟨some 262, some (261, false), .p (.mv (.t 35))⟩,
    ⟨some 263, some (261, false), .p (.mv (.t 37))⟩,
    ⟨some 264, some (261, false), .h (.call (.f 120) [.t 262, .t 263])⟩,
    ⟨some 265, some (261, false), .p (.un .not (.t 264))⟩,
    ⟨some 266, none, .p (.pick (.t 261) (.k (.c (C.bool true))) (.t 265))⟩] [3, 5, 6, 9, 13, 17, 18, 21, 23, 24, 26, 35, 266])
  (.cond (.t 266)
  (.seq (.region [⟨some 2, none, .p (.mv (.k (.c (C.bool false))))⟩] [2])
  .ret)
  .skip)))
  (.seq (.seq (.region [⟨some 267, none, .p (.mv (.t 26))⟩] [3, 5, 6, 9, 13, 17, 18, 21, 23, 24, 35, 267])
  (.cond (.t 267)
  (.seq (.region [⟨some 269, none, .h (.load 24 true (.t 21))⟩,
    ⟨some 270, none, .h (.call (.f 129) [.t 269])⟩,
    ⟨some 268, none, .p (.mv (.t 270))⟩,
    ⟨some 271, none, .p (.ext (.t 268) 0)⟩,
    ⟨some 272, none, .p (.ext (.t 268) 1)⟩,
    ⟨some 39, none, .p (.mv (.t 271))⟩,
    ⟨some 40, none, .p (.mv (.t 272))⟩] [3, 5, 6, 9, 13, 17, 18, 23, 24, 35, 39, 40])
  (.seq (.region [⟨some 274, none, .h (.load 24 true (.t 23))⟩,
    ⟨some 275, none, .h (.call (.f 129) [.t 274])⟩,
    ⟨some 273, none, .p (.mv (.t 275))⟩,
    ⟨some 276, none, .p (.ext (.t 273) 0)⟩,
    ⟨some 277, none, .p (.ext (.t 273) 1)⟩,
    ⟨some 41, none, .p (.mv (.t 276))⟩,
    ⟨some 42, none, .p (.mv (.t 277))⟩] [3, 5, 6, 9, 13, 17, 18, 24, 35, 39, 40, 41, 42])
  (.seq (.region [⟨some 278, none, .p (.mv (.t 40))⟩,
    ⟨some 279, none, .p (.un .not (.t 278))⟩,
    ⟨some 280, none, .p (.mv (.t 279))⟩,
    ⟨some 281, some (280, false), .p (.mv (.t 42))⟩,
    ⟨some 282, some (280, false), .p (.un .not (.t 281))⟩,
    ⟨some 283, none, .p (.pick (.t 280) (.k (.c (C.bool true))) (.t 282))⟩,
    ⟨some 284, none, .p (.mv (.t 283))⟩,
    ⟨some 285, some (284, false), .p (.mv (.t 41))⟩,
    ⟨some 286, some (284, false), .p (.len (.t 285))⟩,
    ⟨some 287, some (284, false), .p (.mv (.t 39))⟩,
    ⟨some 288, some (284, false), .p (.len (.t 287))⟩,
    ⟨some 289, some (284, false), .p (.bin .sub (.t 286) (.t 288))⟩,
    ⟨some 290, some (284, false), .p (.ixA 2 1 (.t 24) (.k (.c (C.int .i64 0))))⟩,
    ⟨some 291, some (284, false), .h (.load 1 false (.t 290))⟩,
    ⟨some 292, some (284, false), .p (.ixA 2 1 (.t 24) (.k (.c (C.int .i64 1))))⟩,
    ⟨some 293, some (284, false), .h (.load 1 false (.t 292))⟩,
    ⟨some 294, some (284, false), .p (.bin .add (.t 291) (.t 293))⟩,
    ⟨some 295, some (284, false), .p (.bin .neq (.t 289) (.t 294))⟩,
    ⟨some 296, none, .p (.pick (.t 284) (.k (.c (C.bool true))) (.t 295))⟩] [3, 5, 6, 9, 13, 17, 18, 35, 296])
  (.cond (.t 296)
  (.seq (.region [⟨some 2, none, .p (.mv (.k (.c (C.bool false))))⟩] [2])
  .ret)
  .skip))))
  .skip))
  (.seq (.seq (.regionD [⟨some 297, none, .p (.mv (.t 18))⟩,
    ⟨some 298, none, .p (.mv (.t 297))⟩,
    ⟨some 299, some (298, true), .h (.load 2 true (.t 17))⟩,
    ⟨some 300, some (298, true), .p (.mv (.t 13))⟩,
    ⟨some 301, some (298, true), .p (.ixS 2 (.t 300) (.k (.c (C.int .i64 0))))⟩,
    ⟨some 302, some (298, true), .h (.load 2 true (.t 301))⟩,
    ⟨some 303, some (298, true), .p (.eqv true [.int .i64, .int .i64] (.t 299) (.t 302))⟩,
    ⟨some 304, none, .p (.pick (.t 298) (.t 303) (.k (.c (C.bool false))))⟩] [3, 5, 6, 9, 35, 304] [])
  (.cond (.t 304)
  (.seq (.region [⟨some 2, none, .p (.mv (.k (.c (C.bool false))))⟩] [2])
  .ret)
  .skip))
  (.seq (.seq (.region [⟨some 43, none, .p (.mv (.k (.c (C.int .i64 0))))⟩] [3, 5, 6, 9, 35, 43])
  (.block 0 (.loop (.seq (.seq (.region [⟨some 305, none, .p (.mv (.t 43))⟩,
    ⟨some 306, none, .p (.mv (.t 35))⟩,
    ⟨some 307, none, .p (.len (.t 306))⟩,
    ⟨some 308, none, .p (.bin .lss (.t 305) (.t 307))⟩] [3, 5, 6, 9, 35, 43, 308])
  (.cond (.t 308)
  .skip
  (.exit 0)))
  (.seq (.block 1 (.seq (.regionD [⟨some 312, none, .h (.load 24 true (.t 3))⟩,
    ⟨some 313, none, .p (.mv (.t 35))⟩,
    ⟨some 314, none, .p (.mv (.t 43))⟩,
    ⟨some 315, none, .p (.ixS 2 (.t 313) (.t 314))⟩,
    ⟨some 316, none, .p (.ixA 2 1 (.t 315) (.k (.c (C.int .i64 0))))⟩,
    ⟨some 317, none, .h (.load 1 false (.t 316))⟩,
    ⟨some 318, none, .p (.mv (.t 35))⟩,
    ⟨some 319, none, .p (.mv (.t 43))⟩,
    ⟨some 320, none, .p (.ixS 2 (.t 318) (.t 319))⟩,
    ⟨some 321, none, .p (.ixA 2 1 (.t 320) (.k (.c (C.int .i64 1))))⟩,
    ⟨some 322, none, .h (.load 1 false (.t 321))⟩,
    ⟨some 323, none, .h (.call (.f 123) [.t 312, .t 317, .t 322])⟩,
    ⟨some 311, none, .p (.mv (.t 323))⟩,
    ⟨some 324, none, .p (.ext (.t 311) 0)⟩,
    ⟨some 325, none, .p (.ext (.t 311) 1)⟩,
    ⟨some 326, none, .p (.ext (.t 311) 2)⟩,
    ⟨some 44, none, .p (.alloc (List.replicate 24 (.k (C.int .i64 0))))⟩,
    ⟨none, none, .h (.store 24 (.t 44) (.t 324))⟩,
    ⟨some 45, none, .p (.mv (.t 325))⟩,
    ⟨some 46, none, .p (.mv (.t 326))⟩] [3, 5, 6, 9, 35, 43, 44, 46] [])
  (.seq (.region [⟨some 328, none, .h (.load 24 true (.t 44))⟩,
    ⟨some 329, none, .h (.call (.f 129) [.t 328])⟩,
    ⟨some 327, none, .p (.mv (.t 329))⟩,
    ⟨some 330, none, .p (.ext (.t 327) 0)⟩,
    ⟨some 331, none, .p (.ext (.t 327) 1)⟩,
    ⟨some 47, none, .p (.mv (.t 330))⟩,
    ⟨some 48, none, .p (.mv (.t 331))⟩] [3, 5, 6, 9, 35, 43, 44, 46, 47, 48])
  (.seq (.region [⟨some 333, none, .h (.load 24 true (.t 44))⟩,
    ⟨some 334, none, .h (.call (.f 124) [.t 333])⟩,
    ⟨some 332, none, .p (.mv (.t 334))⟩,
    ⟨some 335, none, .p (.ext (.t 332) 0)⟩,
    ⟨some 336, none, .p (.ext (.t 332) 1)⟩,
    ⟨some 49, none, .p (.mv (.t 335))⟩,
    ⟨some 50, none, .p (.mv (.t 336))⟩] [3, 5, 6, 9, 35, 43, 44, 46, 47, 48, 49, 50])
  (.seq (.region [⟨some 51, none, .p (.mv (.k (.c (C.bool false))))⟩] [3, 5, 6, 9, 35, 43, 44, 46, 47, 48, 49, 50, 51])
  (.seq (.seq (.region [⟨some 52, none, .p (.mv (.k (.c (C.int .i64 0))))⟩] [3, 5, 6, 9, 35, 43, 44, 46, 47, 48, 49, 50, 51, 52])
  (.block 2 (.loop (.seq (.seq (.region [⟨some 337, none, .p (.mv (.t 52))⟩,
    ⟨some 338, none, .p (.mv (.t 49))⟩,
    ⟨some 339, none, .p (.len (.t 338))⟩,
    ⟨some 340, none, .p (.bin .lss (.t 337) (.t 339))⟩] [3, 5, 6, 9, 35, 43, 44, 46, 47, 48, 49, 50, 51, 52, 340])
  (.cond (.t 340)
  .skip
  (.exit 2)))
  (.seq (.block 3 (.seq (.regionD [⟨some 344, none, .h (.load 24 true (.t 44))⟩,
    ⟨some 345, none, .p (.mv (.t 49))⟩,
    ⟨some 346, none, .p (.mv (.t 52))⟩,
    ⟨some 347, none, .p (.ixS 2 (.t 345) (.t 346))⟩,
    ⟨some 348, none, .p (.ixA 2 1 (.t 347) (.k (.c (C.int .i64 0))))⟩,
    ⟨some 349, none, .h (.load 1 false (.t 348))⟩,
    ⟨some 350, none, .p (.mv (.t 49))⟩,
    ⟨some 351, none, .p (.mv (.t 52))⟩,
    ⟨some 352, none, .p (.ixS 2 (.t 350) (.t 351))⟩,
    ⟨some 353, none, .p (.ixA 2 1 (.t 352) (.k (.c (C.int .i64 1))))⟩,
    ⟨some 354, none, .h (.load 1 false (.t 353))⟩,
    ⟨some 355, none, .h (.call (.f 123) [.t 344, .t 349, .t 354])⟩,
    ⟨some 343, none, .p (.mv (.t 355))⟩,
    ⟨some 356, none, .p (.ext (.t 343) 0)⟩,
    ⟨some 357, none, .p (.ext (.t 343) 1)⟩,
    ⟨some 358, none, .p (.ext (.t 343) 2)⟩,
    ⟨some 53, none, .p (.alloc (List.replicate 24 (.k (C.int .i64 0))))⟩,
    ⟨none, none, .h (.store 24 (.t 53) (.t 356))⟩,
    ⟨some 54, none, .p (.mv (.t 357))⟩,
    ⟨some 55, none, .p (.mv (.t 358))⟩] [3, 5, 6, 9, 35, 43, 44, 46, 47, 48, 49, 50, 51, 52, 53, 55] [])
  (.seq (.region [⟨some 360, none, .h (.load 24 true (.t 53))⟩,
    ⟨some 361, none, .h (.call (.f 129) [.t 360])⟩,
    ⟨some 359, none, .p (.mv (.t 361))⟩,
    ⟨some 362, none, .p (.ext (.t 359) 0)⟩,
    ⟨some 363, none, .p (.ext (.t 359) 1)⟩,
    ⟨some 56, none, .p (.mv (.t 362))⟩,
    ⟨some 57, none, .p (.mv (.t 363))⟩] [3, 5, 6, 9, 35, 43, 44, 46, 47, 48, 49, 50, 51, 52, 55, 56, 57])
  (.seq (.seq (.region [⟨some 364, none, .p (.mv (.t 55))⟩,
    ⟨some 365, none, .p (.un .not (.t 364))⟩,
    ⟨some 366, none, .p (.mv (.t 365))⟩,
    ⟨some 367, some (366, false), .p (.mv (.t 57))⟩,
    ⟨some 368, some (366, false), .p (.un .not (.t 367))⟩,
    ⟨some 369, none, .p (.pick (.t 366) (.k (.c (C.bool true))) (.t 368))⟩] [3, 5, 6, 9, 35, 43, 44, 46, 47, 48, 49, 50, 51, 52, 56, 369])
  (.cond (.t 369)
  (.seq (.region [⟨some 2, none, .p (.mv (.k (.c (C.bool false))))⟩] [2])
  .ret)
  .skip))
  (.region [⟨some 370, none, .p (.mv (.t 51))⟩,
    ⟨some 371, none, .p (.mv (.t 370))⟩,
    ⟨some 372, some (371, false), .p (.mv (.t 47))⟩,
    ⟨some 373, some (371, false), .p (.mv (.t 49))⟩,
    ⟨some 374, some (371, false), .p (.mv (.t 52))⟩,
    ⟨some 375, some (371, false), .p (.ixS 2 (.t 373) (.t 374))⟩,
    ⟨some 376, some (371, false), .p (.ixA 2 1 (.t 375) (.k (.c (C.int .i64 1))))⟩,
    ⟨some 377, some (371, false), .h (.load 1 false (.t 376))⟩,
    ⟨some 378, some (371, false), .h (.call (.f 131) [.t 372, .t 377])⟩,
    ⟨some 379, some (371, false), .p (.un .not (.t 378))⟩,
    ⟨some 380, some (371, false), .p (.mv (.t 379))⟩,
    ⟨some 381, some (380, true), .p (.mv (.t 56))⟩,
    ⟨some 382, some (380, true), .p (.mv (.t 49))⟩,
    ⟨some 383, some (380, true), .p (.mv (.t 52))⟩,
    ⟨some 384, some (380, true), .p (.ixS 2 (.t 382) (.t 383))⟩,
    ⟨some 385, some (380, true), .p (.ixA 2 1 (.t 384) (.k (.c (C.int .i64 1))))⟩,
    ⟨some 386, some (380, true), .h (.load 1 false (.t 385))⟩,
    ⟨some 387, some (380, true), .h (.call (.f 131) [.t 381, .t 386])⟩,
    ⟨some 388, some (371, false), .p (.pick (.t 380) (.t 387) (.k (.c (C.bool false))))⟩,
    ⟨some 389, none, .p (.pick (.t 371) (.k (.c (C.bool true))) (.t 388))⟩,
    ⟨some 51, none, .p (.mv (.t 389))⟩] [3, 5, 6, 9, 35, 43, 44, 46, 47, 48, 49, 50, 51, 52])))))
  (.region [⟨some 341, none, .p (.mv (.t 52))⟩,
    ⟨some 342, none, .p (.bin .add (.t 341) (.k (.c (C.int .i64 1))))⟩,
    ⟨some 52, none, .p (.mv (.t 342))⟩] [3, 5, 6, 9, 35, 43, 44, 46, 47, 48, 49, 50, 51, 52]))) [3, 5, 6, 9, 35, 43, 44, 46, 47, 48, 49, 50, 51, 52])))
  (.seq (.region [⟨some 390, none, .p (.mv (.t 46))⟩,
    ⟨some 391, none, .p (.un .not (.t 390))⟩,
    ⟨some 392, none, .p (.mv (.t 391))⟩,
    ⟨some 393, some (392, false), .p (.mv (.t 48))⟩,
    ⟨some 394, some (392, false), .p (.un .not (.t 393))⟩,
    ⟨some 395, none, .p (.pick (.t 392) (.k (.c (C.bool true))) (.t 394))⟩,
    ⟨some 396, none, .p (.mv (.t 395))⟩,
    ⟨some 397, some (396, false), .p (.mv (.t 50))⟩,
    ⟨some 398, some (396, false), .p (.un .not (.t 397))⟩,
    ⟨some 399, none, .p (.pick (.t 396) (.k (.c (C.bool true))) (.t 398))⟩,
    ⟨some 400, none, .p (.mv (.t 399))⟩,
    ⟨some 401, some (400, false), .p (.mv (.t 51))⟩,
    ⟨some 402, some (400, false), .p (.un .not (.t 401))⟩,
    ⟨some 403, none, .p (.pick (.t 400) (.k (.c (C.bool true))) (.t 402))⟩] [3, 5, 6, 9, 35, 43, 403])
  (.cond (.t 403)
  (.seq (.region [⟨some 2, none, .p (.mv (.k (.c (C.bool false))))⟩] [2])
  .ret)
  .skip))))))))
  (.region [⟨some 309, none, .p (.mv (.t 43))⟩,
    ⟨some 310, none, .p (.bin .add (.t 309) (.k (.c (C.int .i64 1))))⟩,
    ⟨some 43, none, .p (.mv (.t 310))⟩] [3, 5, 6, 9, 35, 43]))) [3, 5, 6, 9, 35, 43])))
  (.seq (.seq (.region [⟨some 404, none, .p (.mv (.t 6))⟩,
    ⟨some 405, none, .p (.un .not (.t 404))⟩] [3, 5, 9, 405])
  (.cond (.t 405)
  (.seq (.region [⟨some 2, none, .p (.mv (.k (.c (C.bool true))))⟩] [2])
  .ret)
  .skip))
  (.seq (.region [⟨some 407, none, .h (.load 24 true (.t 3))⟩,
    ⟨some 408, none, .p (.mv (.t 9))⟩,
    ⟨some 409, none, .h (.call (.f 58) [.t 407, .t 408])⟩,
    ⟨some 406, none, .p (.mv (.t 409))⟩,
    ⟨some 410, none, .p (.ext (.t 406) 0)⟩,
    ⟨some 411, none, .p (.ext (.t 406) 1)⟩,
    ⟨some 412, none, .p (.ext (.t 406) 2)⟩,
    ⟨some 413, none, .p (.ext (.t 406) 3)⟩,
    ⟨some 58, none, .p (.alloc (List.replicate 24 (.k (C.int .i64 0))))⟩,
    ⟨some 59, none, .p (.alloc [.k (C.int .i64 0), .k (C.int .i64 0)])⟩,
    ⟨none, none, .h (.store 24 (.t 58) (.t 410))⟩,
    ⟨none, none, .h (.store 2 (.t 59) (.t 411))⟩,
    ⟨some 60, none, .p (.mv (.t 412))⟩,
    ⟨some 61, none, .p (.mv (.t 413))⟩] [5, 9, 59, 60, 61])
  (.seq (.region [⟨some 414, none, .p (.mv (.t 61))⟩,
    ⟨some 415, none, .p (.mv (.t 414))⟩,
    ⟨some 416, some (415, true), .p (.mv (.t 60))⟩,
    ⟨some 417, some (415, true), .p (.mv (.t 9))⟩,
    ⟨some 418, some (415, true), .p (.len (.t 417))⟩,
    ⟨some 419, some (415, true), .p (.bin .eql (.t 416) (.t 418))⟩,
    ⟨some 420, none, .p (.pick (.t 415) (.t 419) (.k (.c (C.bool false))))⟩,
    ⟨some 421, none, .p (.mv (.t 420))⟩,
    ⟨some 422, some (421, true), .p (.ixA 2 1 (.t 59) (.k (.c (C.int .i64 0))))⟩,
    ⟨some 423, some (421, true), .h (.load 1 false (.t 422))⟩,
    ⟨some 424, some (421, true), .p (.ixA 2 1 (.t 59) (.k (.c (C.int .i64 1))))⟩,
    ⟨some 425, some (421, true), .h (.load 1 false (.t 424))⟩,
    ⟨some 426, some (421, true), .p (.bin .sub (.t 423) (.t 425))⟩,
    ⟨some 427, some (421, true), .p (.mv (.t 5))⟩,
    ⟨some 428, some (421, true), .p (.bin .eql (.t 426) (.t 427))⟩,
    ⟨some 429, none, .p (.pick (.t 421) (.t 428) (.k (.c (C.bool false))))⟩,
    ⟨some 2, none, .p (.mv (.t 429))⟩] [2])
  .ret)))))))))))))))))))))))) }
theorem a32_ok : okFn Try.prog 32 a32 = true := by kernel_rfl
/-- loop.example/g01215/spec.DealSame -/
def a33 : AFn := { np := 2, nt := 23, res := [.cell 4 2 true, .t 5], body :=
  (.seq (.region [⟨some 2, none, .p (.box 6 (.t 0))⟩,
    ⟨some 3, none, .p (.box 6 (.t 1))⟩,
    ⟨some 4, none, .p (.alloc [.k (C.int .i64 0), .k (C.int .i64 0)])⟩,
    ⟨some 5, none, .p (.mv (.k (.c (C.bool false))))⟩] [2, 3, 4])
  (.seq (.seq (.region [⟨some 9, none, .h (.load 6 true (.t 2))⟩,
    ⟨some 10, none, .h (.load 6 true (.t 3))⟩,
    ⟨some 11, none, .h (.call (.f 132) [.t 9, .t 10])⟩,
    ⟨some 8, none, .p (.mv (.t 11))⟩,
    ⟨some 12, none, .p (.ext (.t 8) 0)⟩,
    ⟨some 13, none, .p (.ext (.t 8) 1)⟩,
    ⟨some 6, none, .p (.mv (.t 12))⟩,
    ⟨some 7, none, .p (.mv (.t 13))⟩] [2, 3, 4, 7])
  (.seq (.region [⟨some 14, none, .p (.mv (.t 7))⟩,
    ⟨some 15, none, .p (.un .not (.t 14))⟩] [2, 3, 4, 15])
  (.cond (.t 15)
  (.seq (.region [⟨some 16, none, .p (.build [.k (C.int .i64 0), .k (C.int .i64 0)] [])⟩,
    ⟨none, none, .h (.store 2 (.t 4) (.t 16))⟩,
    ⟨some 5, none, .p (.mv (.k (.c (C.bool false))))⟩] [4, 5])
  .ret)
  .skip)))
  (.seq (.regionD [⟨some 17, none, .h (.load 6 true (.t 2))⟩,
    ⟨some 18, none, .h (.load 6 true (.t 3))⟩,
    ⟨some 19, none, .h (.call (.f 134) [.t 17, .t 18, .k (.c (C.int .i64 0))])⟩,
    ⟨some 20, none, .h (.load 6 true (.t 3))⟩,
    ⟨some 21, none, .h (.call (.f 135) [.t 20])⟩,
    ⟨some 22, none, .h (.call (.f 133) [.t 19, .t 21])⟩,
    ⟨none, none, .h (.store 2 (.t 4) (.t 22))⟩,
    ⟨some 5, none, .p (.mv (.k (.c (C.bool true))))⟩] [4, 5] [])
  .ret))) }
theorem a33_ok : okFn Try.prog 33 a33 = true := by kernel_rfl
/-- loop.example/g01215/laws.toIntA6 -/
def a34 : AFn := { np := 1, nt := 15, res := [.cell 2 6 true], body :=
  (.seq (.region [⟨some 1, none, .p (.box 6 (.t 0))⟩,
    ⟨some 2, none, .p (.alloc [.k (C.int .i64 0), .k (C.int .i64 0), .k (C.int .i64 0), .k (C.int .i64 0), .k (C.int .i64 0), .k (C.int .i64 0)])⟩] [1, 2])
  (.seq (.region [⟨some 3, none, .p (.alloc [.k (C.int .i64 0), .k (C.int .i64 0), .k (C.int .i64 0), .k (C.int .i64 0), .k (C.int .i64 0), .k (C.int .i64 0)])⟩] [1, 2, 3])
  (.seq (.seq (.region [⟨some 4, none, .p (.mv (.k (.c (C.int .i64 0))))⟩] [1, 2, 3, 4])
  (.block 0 (.loop (.seq (.seq (.region [⟨some 5, none, .p (.mv (.t 4))⟩,
    ⟨some 6, none, .p (.bin .lss (.t 5) (.k (.c (C.int .i64 6))))⟩] [1, 2, 3, 4, 6])
  (.cond (.t 6)
  .skip
  (.exit 0)))
  (.seq (.block 1 (.region [⟨some 9, none, .p (.mv (.t 4))⟩,
    ⟨some 10, none, .p (.mv (.t 4))⟩,
    ⟨some 11, none, .p (.ixA 6 1 (.t 1) (.t 10))⟩,
    ⟨some 12, none, .h (.load 1 false (.t 11))⟩,
    ⟨some 13, none, .p (.ixA 6 1 (.t 3) (.t 9))⟩,
    ⟨none, none, .h (.store 1 (.t 13) (.t 12))⟩] [1, 2, 3, 4]))
  (.region [⟨some 7, none, .p (.mv (.t 4))⟩,
    ⟨some 8, none, .p (.bin .add (.t 7) (.k (.c (C.int .i64 1))))⟩,
    ⟨some 4, none, .p (.mv (.t 8))⟩] [1, 2, 3, 4]))) [1, 2, 3, 4])))
  (.seq (.region [⟨some 14, none, .h (.load 6 true (.t 3))⟩,
    ⟨none, none, .h (.store 6 (.t 2) (.t 14))⟩] [2])
  .ret)))) }
theorem a34_ok : okFn Try.prog 34 a34 = true := by kernel_rfl
/-- loop.example/g01215/impl.DealSame -/
def a35 : AFn := { np := 2, nt := 17, res := [.cell 4 2 true, .t 5], body :=
  (.seq (.region [⟨some 2, none, .p (.box 6 (.t 0))⟩,
    ⟨some 3, none, .p (.box 6 (.t 1))⟩,
    ⟨some 4, none, .p (.alloc [.k (C.int .i64 0), .k (C.int .i64 0)])⟩,
    ⟨some 5, none, .p (.mv (.k (.c (C.bool false))))⟩] [2, 3, 4])
  (.seq (.seq (.region [⟨some 6, none, .h (.load 6 true (.t 2))⟩,
    ⟨some 7, none, .h (.load 6 true (.t 3))⟩,
    ⟨some 8, none, .h (.call (.f 136) [.t 6, .t 7])⟩,
    ⟨some 9, none, .p (.un .not (.t 8))⟩] [2, 3, 4, 9])
  (.cond (.t 9)
  (.seq (.region [⟨some 10, none, .p (.build [.k (C.int .i64 0), .k (C.int .i64 0)] [])⟩,
    ⟨none, none, .h (.store 2 (.t 4) (.t 10))⟩,
    ⟨some 5, none, .p (.mv (.k (.c (C.bool false))))⟩] [4, 5])
  .ret)
  .skip))
  (.seq (.regionD [⟨some 11, none, .h (.slA 6 1 (.t 2) none none)⟩,
    ⟨some 12, none, .h (.load 6 true (.t 3))⟩,
    ⟨some 13, none, .h (.call (.f 138) [.t 11, .t 12])⟩,
    ⟨some 14, none, .h (.load 6 true (.t 3))⟩,
    ⟨some 15, none, .h (.call (.f 139) [.t 14])⟩,
    ⟨some 16, none, .h (.call (.f 137) [.t 13, .t 15])⟩,
    ⟨none, none, .h (.store 2 (.t 4) (.t 16))⟩,
    ⟨some 5, none, .p (.mv (.k (.c (C.bool true))))⟩] [4, 5] [])
  .ret))) }
theorem a35_ok : okFn Try.prog 35 a35 = true := by kernel_rfl
/-- loop.example/g01215/laws.eqIntA2 -/
def a36 : AFn := { np := 2, nt := 17, res := [.t 4], body :=
  (.seq (.region [⟨some 2, none, .p (.box 2 (.t 0))⟩,
    ⟨some 3, none, .p (.box 2 (.t 1))⟩,
    ⟨some 4, none, .p (.mv (.k (.c (C.bool false))))⟩] [2, 3])
  (.seq (.seq (.region [⟨some 5, none, .p (.mv (.k (.c (C.int .i64 0))))⟩] [2, 3, 5])
  (.block 0 (.loop (.seq (.seq (.region [⟨some 6, none, .p (.mv (.t 5))⟩,
    ⟨some 7, none, .p (.bin .lss (.t 6) (.k (.c (C.int .i64 2))))⟩] [2, 3, 5, 7])
  (.cond (.t 7)
  .skip
  (.exit 0)))
  (.seq (.block 1 (.seq (.regionD [⟨some 10, none, .p (.mv (.t 5))⟩,
    ⟨some 11, none, .p (.ixA 2 1 (.t 2) (.t 10))⟩,
    ⟨some 12, none, .h (.load 1 false (.t 11))⟩,
    ⟨some 13, none, .p (.mv (.t 5))⟩,
    ⟨some 14, none, .p (.ixA 2 1 (.t 3) (.t 13))⟩,
    ⟨some 15, none, .h (.load 1 false (.t 14))⟩,
    ⟨some 16, none, .p (.bin .neq (.t 12) (.t 15))⟩] [2, 3, 5, 16] [])
  (.cond (.t 16)
  (.seq (.region [⟨some 4, none, .p (.mv (.k (.c (C.bool false))))⟩] [4])
  .ret)
  .skip)))
  (.region [⟨some 8, none, .p (.mv (.t 5))⟩,
    ⟨some 9, none, .p (.bin .add (.t 8) (.k (.c (C.int .i64 1))))⟩,
    ⟨some 5, none, .p (.mv (.t 9))⟩] [2, 3, 5]))) [2, 3, 5])))
  (.seq (.region [⟨some 4, none, .p (.mv (.k (.c (C.bool true))))⟩] [4])
  .ret))) }
theorem a36_ok : okFn Try.prog 36 a36 = true := by kernel_rfl
/-- loop.example/g01215/spec.IsLost -/
def a37 : AFn := { np := 1, nt := 11, res := [.t 2, .t 3], body :=
  (.seq (.region [⟨some 1, none, .p (.box 24 (.t 0))⟩,
    ⟨some 2, none, .p (.mv (.k (.c (C.bool false))))⟩,
    ⟨some 3, none, .p (.mv (.k (.c (C.bool false))))⟩] [1])
  (.seq (.seq (.region [⟨some 4, none, .h (.load 24 true (.t 1))⟩,
    ⟨some 5, none, .h (.call (.f 140) [.t 4])⟩,
    ⟨some 6, none, .p (.un .not (.t 5))⟩] [1, 6])
  (.cond (.t 6)
  (.seq (.region [⟨some 2, none, .p (.mv (.k (.c (C.bool false))))⟩,
    ⟨some 3, none, .p (.mv (.k (.c (C.bool false))))⟩] [2, 3])
  .ret)
  .skip))
  (.seq (.region [⟨some 7, none, .h (.load 24 true (.t 1))⟩,
    ⟨some 8, none, .h (.call (.f 141) [.t 7])⟩,
    ⟨some 9, none, .p (.len (.t 8))⟩,
    ⟨some 10, none, .p (.bin .eql (.t 9) (.k (.c (C.int .i64 0))))⟩,
    ⟨some 2, none, .p (.mv (.t 10))⟩,
    ⟨some 3, none, .p (.mv (.k (.c (C.bool true))))⟩] [2, 3])
  .ret))) }
theorem a37_ok : okFn Try.prog 37 a37 = true := by kernel_rfl
/-- loop.example/g01215/laws.toRack -/
def a38 : AFn := { np := 1, nt := 9, res := [.cell 2 24 true], body :=
  (.seq (.region [⟨some 1, none, .p (.box 24 (.t 0))⟩,
    ⟨some 2, none, .p (.alloc (List.replicate 24 (.k (C.int .i64 0))))⟩] [1, 2])
  (.seq (.region [⟨some 3, none, .p (.alloc (List.replicate 24 (.k (C.int .i64 0))))⟩] [1, 2, 3])
  (.seq (.region [⟨some 4, none, .p (.fld 0 (.t 1))⟩,
    ⟨some 5, none, .h (.load 24 true (.t 4))⟩,
    ⟨some 6, none, .h (.call (.f 142) [.t 5])⟩,
    ⟨some 7, none, .p (.fld 0 (.t 3))⟩,
    ⟨none, none, .h (.store 24 (.t 7) (.t 6))⟩] [2, 3])
  (.seq (.region [⟨some 8, none, .h (.load 24 true (.t 3))⟩,
    ⟨none, none, .h (.store 24 (.t 2) (.t 8))⟩] [2])
  .ret)))) }
theorem a38_ok : okFn Try.prog 38 a38 = true := by kernel_rfl
/-- loop.example/g01215/impl.IsLost -/
def a39 : AFn := { np := 1, nt := 11, res := [.t 2, .t 3], body :=
  (.seq (.region [⟨some 1, none, .p (.box 24 (.t 0))⟩,
    ⟨some 2, none, .p (.mv (.k (.c (C.bool false))))⟩,
    ⟨some 3, none, .p (.mv (.k (.c (C.bool false))))⟩] [1])
  (.seq (.seq (.region [⟨some 4, none, .h (.load 24 true (.t 1))⟩,
    ⟨some 5, none, .h (.call (.f 121) [.t 4])⟩,
    ⟨some 6, none, .p (.un .not (.t 5))⟩] [1, 6])
  (.cond (.t 6)
  (.seq (.region [⟨some 2, none, .p (.mv (.k (.c (C.bool false))))⟩,
    ⟨some 3, none, .p (.mv (.k (.c (C.bool false))))⟩] [2, 3])
  .ret)
  .skip))
  (.seq (.region [⟨some 7, none, .h (.load 24 true (.t 1))⟩,
    ⟨some 8, none, .h (.call (.f 143) [.t 7])⟩,
    ⟨some 9, none, .p (.len (.t 8))⟩,
    ⟨some 10, none, .p (.bin .eql (.t 9) (.k (.c (C.int .i64 0))))⟩,
    ⟨some 2, none, .p (.mv (.t 10))⟩,
    ⟨some 3, none, .p (.mv (.k (.c (C.bool true))))⟩] [2, 3])
  .ret))) }
theorem a39_ok : okFn Try.prog 39 a39 = true := by kernel_rfl
/-- loop.example/g01215/spec.EndValue -/
def a40 : AFn := { np := 2, nt := 17, res := [.t 4, .t 5], body :=
  (.seq (.region [⟨some 2, none, .p (.box 24 (.t 0))⟩,
    ⟨some 4, none, .p (.mv (.k (.c (C.int .i64 0))))⟩,
    ⟨some 5, none, .p (.mv (.k (.c (C.bool false))))⟩] [1, 2])
  (.seq (.seq (.region [⟨some 6, none, .h (.load 24 true (.t 2))⟩,
    ⟨some 7, none, .h (.call (.f 140) [.t 6])⟩,
    ⟨some 8, none, .p (.un .not (.t 7))⟩,
    ⟨some 9, none, .p (.mv (.t 8))⟩,
    ⟨some 10, some (9, false), .p (.mv (.t 1))⟩,
    ⟨some 11, some (9, false), .h (.call (.f 144) [.t 10, .k (.c (C.int .i64 0)), .k (.c (C.int .i64 3))])⟩,
    ⟨some 12, some (9, false), .p (.un .not (.t 11))⟩,
    ⟨some 13, none, .p (.pick (.t 9) (.k (.c (C.bool true))) (.t 12))⟩] [1, 2, 13])
  (.cond (.t 13)
  (.seq (.region [⟨some 4, none, .p (.mv (.k (.c (C.int .i64 0))))⟩,
    ⟨some 5, none, .p (.mv (.k (.c (C.bool false))))⟩] [4, 5])
  .ret)
  .skip))
  (.seq (.region [⟨some 14, none, .h (.load 24 true (.t 2))⟩,
    ⟨some 15, none, .p (.mv (.t 1))⟩,
    ⟨some 16, none, .h (.call (.f 145) [.t 14, .t 15])⟩,
    ⟨some 4, none, .p (.mv (.t 16))⟩,
    ⟨some 5, none, .p (.mv (.k (.c (C.bool true))))⟩] [4, 5])
  .ret))) }
theorem a40_ok : okFn Try.prog 40 a40 = true := by kernel_rfl
/-- loop.example/g01215/impl.EndValue -/
def a41 : AFn := { np := 2, nt := 13, res := [.t 4, .t 5], body :=
  (.seq (.region [⟨some 2, none, .p (.box 24 (.t 0))⟩,
    ⟨some 4, none, .p (.mv (.k (.c (C.int .i64 0))))⟩,
    ⟨some 5, none, .p (.mv (.k (.c (C.bool false))))⟩] [1, 2])
  (.seq (.seq (.region [⟨some 6, none, .h (.load 24 true (.t 2))⟩,
    ⟨some 7, none, .p (.mv (.t 1))⟩,
    ⟨some 8, none, .h (.call (.f 146) [.t 6, .t 7, .k (.c (C.int .i64 0))])⟩,
    ⟨some 9, none, .p (.un .not (.t 8))⟩] [1, 2, 9])
  (.cond (.t 9)
  (.seq (.region [⟨some 4, none, .p (.mv (.k (.c (C.int .i64 0))))⟩,
    ⟨some 5, none, .p (.mv (.k (.c (C.bool false))))⟩] [4, 5])
  .ret)
  .skip))
  (.seq (.region [⟨some 10, none, .h (.load 24 true (.t 2))⟩,
    ⟨some 11, none, .p (.mv (.t 1))⟩,
    ⟨some 12, none, .h (.call (.f 147) [.t 10, .t 11])⟩,
    ⟨some 4, none, .p (.mv (.t 12))⟩,
    ⟨some 5, none, .p (.mv (.k (.c (C.bool true))))⟩] [4, 5])
  .ret))) }
theorem a41_ok : okFn Try.prog 41 a41 = true := by kernel_rfl
/-- loop.example/g01215/spec.CountReplies -/
def a42 : AFn := { np := 1, nt := 44, res := [.t 2, .t 3], body :=
  (.seq (.region [⟨some 1, none, .p (.box 24 (.t 0))⟩,
    ⟨some 2, none, .p (.nilsl 1)⟩,
    ⟨some 3, none, .p (.mv (.k (.c (C.bool false))))⟩] [1])
  (.seq (.region [⟨some 9, none, .p (.mksl 1 0 [.k (C.int .i64 0)] [])⟩,
    ⟨some 4, none, .p (.mv (.t 9))⟩] [1, 4])
  (.seq (.seq (.region [⟨some 10, none, .h (.load 24 true (.t 1))⟩,
    ⟨some 11, none, .h (.call (.f 140) [.t 10])⟩,
    ⟨some 12, none, .p (.un .not (.t 11))⟩] [1, 4, 12])
  (.cond (.t 12)
  (.seq (.region [⟨some 13, none, .p (.mv (.t 4))⟩,
    ⟨some 2, none, .p (.mv (.t 13))⟩,
    ⟨some 3, none, .p (.mv (.k (.c (C.bool false))))⟩] [2, 3])
  .ret)
  .skip))
  (.seq (.region [⟨some 14, none, .h (.load 24 true (.t 1))⟩,
    ⟨some 15, none, .h (.call (.f 141) [.t 14])⟩,
    ⟨some 5, none, .p (.mv (.t 15))⟩] [1, 4, 5])
  (.seq (.seq (.region [⟨some 6, none, .p (.mv (.k (.c (C.int .i64 0))))⟩] [1, 4, 5, 6])
  (.block 0 (.loop (.seq (.seq (.region [⟨some 16, none, .p (.mv (.t 6))⟩,
    ⟨some 17, none, .p (.mv (.t 5))⟩,
    ⟨some 18, none, .p (.len (.t 17))⟩,
    ⟨some 19, none, .p (.bin .lss (.t 16) (.t 18))⟩] [1, 4, 5, 6, 19])
  (.cond (.t 19)
  .skip
  (.exit 0)))
  (.seq (.block 1 (.seq (.regionD [⟨some 23, none, .h (.load 24 true (.t 1))⟩,
    ⟨some 24, none, .p (.mv (.t 5))⟩,
    ⟨some 25, none, .p (.mv (.t 6))⟩,
    ⟨some 26, none, .p (.ixS 2 (.t 24) (.t 25))⟩,
    ⟨some 27, none, .p (.ixA 2 1 (.t 26) (.k (.c (C.int .i64 0))))⟩,
    ⟨some 28, none, .h (.load 1 false (.t 27))⟩,
    ⟨some 29, none, .p (.mv (.t 5))⟩,
    ⟨some 30, none, .p (.mv (.t 6))⟩,
    ⟨some 31, none, .p (.ixS 2 (.t 29) (.t 30))⟩,
    ⟨some 32, none, .p (.ixA 2 1 (.t 31) (.k (.c (C.int .i64 1))))⟩,
    ⟨some 33, none, .h (.load 1 false (.t 32))⟩,
    ⟨some 34, none, .h (.call (.f 148) [.t 23, .t 28, .t 33])⟩,
    ⟨some 22, none, .p (.mv (.t 34))⟩,
    ⟨some 35, none, .p (.ext (.t 22) 0)⟩,
    ⟨some 36, none, .p (.ext (.t 22) 1)⟩,
    ⟨some 7, none, .p (.alloc (List.replicate 24 (.k (C.int .i64 0))))⟩,
    ⟨none, none, .h (.store 24 (.t 7) (.t 35))⟩,
    ⟨some 8, none, .p (.mv (.t 36))⟩] [1, 4, 5, 6, 7] [])
  (.region [⟨some 37, none, .p (.mv (.t 4))⟩,
    ⟨some 38, none, .h (.load 24 true (.t 7))⟩,
    ⟨some 39, none, .h (.call (.f 141) [.t 38])⟩,
    ⟨some 40, none, .p (.len (.t 39))⟩,
    ⟨some 41, none, .p (.mksl 1 1 [.k (C.int .i64 0)] [(0, 1, .t 40)])⟩,
    ⟨some 42, none, .h (.app 1 (.t 37) (.t 41))⟩,
    ⟨some 4, none, .p (.mv (.t 42))⟩] [1, 4, 5, 6])))
  (.region [⟨some 20, none, .p (.mv (.t 6))⟩,
    ⟨some 21, none, .p (.bin .add (.t 20) (.k (.c (C.int .i64 1))))⟩,
    ⟨some 6, none, .p (.mv (.t 21))⟩] [1, 4, 5, 6]))) [1, 4, 5, 6])))
  (.seq (.region [⟨some 43, none, .p (.mv (.t 4))⟩,
    ⟨some 2, none, .p (.mv (.t 43))⟩,
    ⟨some 3, none, .p (.mv (.k (.c (C.bool true))))⟩] [2, 3])
  .ret)))))) }
theorem a42_ok : okFn Try.prog 42 a42 = true := by kernel_rfl
/-- loop.example/g01215/impl.CountReplies -/
def a43 : AFn := { np := 1, nt := 36, res := [.t 2, .t 3], body :=
  (.seq (.region [⟨some 1, none, .p (.box 24 (.t 0))⟩,
    ⟨some 2, none, .p (.nilsl 1)⟩,
    ⟨some 3, none, .p (.mv (.k (.c (C.bool false))))⟩] [1])
  (.seq (.seq (.region [⟨some 9, none, .h (.load 24 true (.t 1))⟩,
    ⟨some 10, none, .h (.call (.f 121) [.t 9])⟩,
    ⟨some 11, none, .p (.un .not (.t 10))⟩] [1, 11])
  (.cond (.t 11)
  (.seq (.region [⟨some 2, none, .p (.nilsl 1)⟩,
    ⟨some 3, none, .p (.mv (.k (.c (C.bool false))))⟩] [2, 3])
  .ret)
  .skip))
  (.seq (.region [⟨some 4, none, .p (.nilsl 1)⟩] [1, 4])
  (.seq (.seq (.region [⟨some 12, none, .h (.load 24 true (.t 1))⟩,
    ⟨some 13, none, .h (.call (.f 143) [.t 12])⟩,
    ⟨some 14, none, .p (.len (.t 13))⟩,
    ⟨some 15, none, .p (.mv (.k (.c (C.int .i64 0))))⟩] [1, 4, 13, 14, 15])
  (.block 0 (.loop (.seq (.region [⟨some 16, none, .p (.bin .lss (.t 15) (.t 14))⟩] [1, 4, 13, 14, 15, 16])
  (.seq (.cond (.t 16)
  .skip
  (.exit 0))
  (.seq (.block 1 (.seq (.region [⟨some 17, none, .p (.ixS 2 (.t 13) (.t 15))⟩,
    ⟨some 18, none, .h (.load 2 true (.t 17))⟩,
    ⟨some 6, none, .p (.alloc [.k (C.int .i64 0), .k (C.int .i64 0)])⟩,
    ⟨none, none, .h (.store 2 (.t 6) (.t 18))⟩] [1, 4, 6, 13, 14, 15])
  (.seq (.region [⟨some 20, none, .h (.load 24 true (.t 1))⟩,
    ⟨some 21, none, .p (.ixA 2 1 (.t 6) (.k (.c (C.int .i64 0))))⟩,
    ⟨some 22, none, .h (.load 1 false (.t 21))⟩,
    ⟨some 23, none, .p (.ixA 2 1 (.t 6) (.k (.c (C.int .i64 1))))⟩,
    ⟨some 24, none, .h (.load 1 false (.t 23))⟩,
    ⟨some 25, none, .h (.call (.f 149) [.t 20, .t 22, .t 24])⟩,
    ⟨some 19, none, .p (.mv (.t 25))⟩,
    ⟨some 26, none, .p (.ext (.t 19) 0)⟩,
    ⟨some 27, none, .p (.ext (.t 19) 1)⟩,
    ⟨some 7, none, .p (.alloc (List.replicate 24 (.k (C.int .i64 0))))⟩,
    ⟨none, none, .h (.store 24 (.t 7) (.t 26))⟩,
    ⟨some 8, none, .p (.mv (.t 27))⟩] [1, 4, 7, 13, 14, 15])
  (.region [⟨some 28, none, .p (.mv (.t 4))⟩,
    ⟨some 29, none, .h (.load 24 true (.t 7))⟩,
    ⟨some 30, none, .h (.call (.f 143) [.t 29])⟩,
    ⟨some 31, none, .p (.len (.t 30))⟩,
    ⟨some 32, none, .p (.mksl 1 1 [.k (C.int .i64 0)] [(0, 1, .t 31)])⟩,
    ⟨some 33, none, .h (.app 1 (.t 28) (.t 32))⟩,
    ⟨some 4, none, .p (.mv (.t 33))⟩] [1, 4, 13, 14, 15]))))
  (.region [⟨some 34, none, .p (.bin .add (.t 15) (.k (.c (C.int .i64 1))))⟩,
    ⟨some 15, none, .p (.mv (.t 34))⟩] [1, 4, 13, 14, 15])))) [1, 4, 13, 14, 15])))
  (.seq (.region [⟨some 35, none, .p (.mv (.t 4))⟩,
    ⟨some 2, none, .p (.mv (.t 35))⟩,
    ⟨some 3, none, .p (.mv (.k (.c (C.bool true))))⟩] [2, 3])
  .ret))))) }
theorem a43_ok : okFn Try.prog 43 a43 = true := by kernel_rfl
/-- loop.example/g01215/laws.eqIntS -/
def a44 : AFn := { np := 2, nt := 26, res := [.t 4], body :=
  (.seq (.region [⟨some 4, none, .p (.mv (.k (.c (C.bool false))))⟩] [0, 1])
  (.seq (.seq (.region [⟨some 6, none, .p (.mv (.t 0))⟩,
    ⟨some 7, none, .p (.len (.t 6))⟩,
    ⟨some 8, none, .p (.mv (.t 1))⟩,
    ⟨some 9, none, .p (.len (.t 8))⟩,
    ⟨some 10, none, .p (.bin .neq (.t 7) (.t 9))⟩] [0, 1, 10])
  (.cond (.t 10)
  (.seq (.region [⟨some 4, none, .p (.mv (.k (.c (C.bool false))))⟩] [4])
  .ret)
  .skip))
  (.seq (.seq (.region [⟨some 5, none, .p (.mv (.k (.c (C.int .i64 0))))⟩] [0, 1, 5])
  (.block 0 (.loop (.seq (.seq (.region [⟨some 11, none, .p (.mv (.t 5))⟩,
    ⟨some 12, none, .p (.mv (.t 0))⟩,
    ⟨some 13, none, .p (.len (.t 12))⟩,
    ⟨some 14, none, .p (.bin .lss (.t 11) (.t 13))⟩] [0, 1, 5, 14])
  (.cond (.t 14)
  .skip
  (.exit 0)))
  (.seq (.block 1 (.seq (.regionD [⟨some 17, none, .p (.mv (.t 0))⟩,
    ⟨some 18, none, .p (.mv (.t 5))⟩,
    ⟨some 19, none, .p (.ixS 1 (.t 17) (.t 18))⟩,
    ⟨some 20, none, .h (.load 1 false (.t 19))⟩,
    ⟨some 21, none, .p (.mv (.t 1))⟩,
    ⟨some 22, none, .p (.mv (.t 5))⟩,
    ⟨some 23, none, .p (.ixS 1 (.t 21) (.t 22))⟩,
    ⟨some 24, none, .h (.load 1 false (.t 23))⟩,
    ⟨some 25, none, .p (.bin .neq (.t 20) (.t 24))⟩] [0, 1, 5, 25] [])
  (.cond (.t 25)
  (.seq (.region [⟨some 4, none, .p (.mv (.k (.c (C.bool false))))⟩] [4])
  .ret)
  .skip)))
  (.region [⟨some 15, none, .p (.mv (.t 5))⟩,
    ⟨some 16, none, .p (.bin .add (.t 15) (.k (.c (C.int .i64 1))))⟩,
    ⟨some 5, none, .p (.mv (.t 16))⟩] [0, 1, 5]))) [0, 1, 5])))
  (.seq (.region [⟨some 4, none, .p (.mv (.k (.c (C.bool true))))⟩] [4])
  .ret)))) }
theorem a44_ok : okFn Try.prog 44 a44 = true := by kernel_rfl
/-- loop.example/g01215/laws.markIntS -/
def a45 : AFn := { np := 2, nt := 19, res := [.t 4], body :=
  (.seq (.region [⟨some 4, none, .p (.mv (.k (.c (C.int .i64 0))))⟩] [0, 1])
  (.seq (.seq (.region [⟨some 5, none, .p (.mv (.k (.c (C.int .i64 0))))⟩] [0, 1, 5])
  (.block 0 (.loop (.seq (.seq (.region [⟨some 6, none, .p (.mv (.t 5))⟩,
    ⟨some 7, none, .p (.mv (.t 0))⟩,
    ⟨some 8, none, .p (.len (.t 7))⟩,
    ⟨some 9, none, .p (.bin .lss (.t 6) (.t 8))⟩] [0, 1, 5, 9])
  (.cond (.t 9)
  .skip
  (.exit 0)))
  (.seq (.block 1 (.seq (.region [⟨some 12, none, .p (.mv (.t 0))⟩,
    ⟨some 13, none, .p (.mv (.t 5))⟩,
    ⟨some 14, none, .p (.mv (.t 1))⟩,
    ⟨some 15, none, .p (.ixS 1 (.t 12) (.t 13))⟩,
    ⟨none, none, .h (.store 1 (.t 15) (.t 14))⟩] [0, 1, 5])
  (.region [⟨some 16, none, .p (.mv (.t 1))⟩,
    ⟨some 17, none, .p (.bin .add (.t 16) (.k (.c (C.int .i64 1))))⟩,
    ⟨some 1, none, .p (.mv (.t 17))⟩] [0, 1, 5])))
  (.region [⟨some 10, none, .p (.mv (.t 5))⟩,
    ⟨some 11, none, .p (.bin .add (.t 10) (.k (.c (C.int .i64 1))))⟩,
    ⟨some 5, none, .p (.mv (.t 11))⟩] [0, 1, 5]))) [0, 1, 5])))
  (.seq (.region [⟨some 18, none, .p (.mv (.t 1))⟩,
    ⟨some 4, none, .p (.mv (.t 18))⟩] [4])
  .ret))) }
theorem a45_ok : okFn Try.prog 45 a45 = true := by kernel_rfl
/-- loop.example/g01215/laws.heldIntS -/
def a46 : AFn := { np := 2, nt := 21, res := [.t 4], body :=
  (.seq (.region [⟨some 4, none, .p (.mv (.k (.c (C.int .i64 0))))⟩] [0, 1])
  (.seq (.seq (.region [⟨some 5, none, .p (.mv (.k (.c (C.int .i64 0))))⟩] [0, 1, 5])
  (.block 0 (.loop (.seq (.seq (.region [⟨some 6, none, .p (.mv (.t 5))⟩,
    ⟨some 7, none, .p (.mv (.t 0))⟩,
    ⟨some 8, none, .p (.len (.t 7))⟩,
    ⟨some 9, none, .p (.bin .lss (.t 6) (.t 8))⟩] [0, 1, 5, 9])
  (.cond (.t 9)
  .skip
  (.exit 0)))
  (.seq (.block 1 (.seq (.seq (.region [⟨some 12, none, .p (.mv (.t 0))⟩,
    ⟨some 13, none, .p (.mv (.t 5))⟩,
    ⟨some 14, none, .p (.ixS 1 (.t 12) (.t 13))⟩,
    ⟨some 15, none, .h (.load 1 false (.t 14))⟩,
    ⟨some 16, none, .p (.mv (.t 1))⟩,
    ⟨some 17, none, .p (.bin .neq (.t 15) (.t 16))⟩] [0, 1, 5, 17])
  (.cond (.t 17)
  (.seq (.region [⟨some 4, none, .p (.mv (.k (.c (C.int .i64 (-1)))))⟩] [4])
  .ret)
  .skip))
  (.region [⟨some 18, none, .p (.mv (.t 1))⟩,
    ⟨some 19, none, .p (.bin .add (.t 18) (.k (.c (C.int .i64 1))))⟩,
    ⟨some 1, none, .p (.mv (.t 19))⟩] [0, 1, 5])))
  (.region [⟨some 10, none, .p (.mv (.t 5))⟩,
    ⟨some 11, none, .p (.bin .add (.t 10) (.k (.c (C.int .i64 1))))⟩,
    ⟨some 5, none, .p (.mv (.t 11))⟩] [0, 1, 5]))) [0, 1, 5])))
  (.seq (.region [⟨some 20, none, .p (.mv (.t 1))⟩,
    ⟨some 4, none, .p (.mv (.t 20))⟩] [4])
  .ret))) }
theorem a46_ok : okFn Try.prog 46 a46 = true := by kernel_rfl
/-- loop.example/g01215/laws.szReplay -/
def a47 : AFn := { np := 2, nt := 12, res := [.t 4], body :=
  (.seq (.region [⟨some 2, none, .p (.box 25 (.t 0))⟩,
    ⟨some 4, none, .p (.mv (.k (.c (C.int .i64 0))))⟩] [1, 2])
  (.seq (.region [⟨some 5, none, .p (.fld 24 (.t 2))⟩,
    ⟨some 6, none, .h (.load 1 false (.t 5))⟩,
    ⟨some 7, none, .p (.mv (.t 1))⟩,
    ⟨some 8, none, .h (.call (.f 55) [.t 6, .t 7])⟩,
    ⟨some 1, none, .p (.mv (.t 8))⟩] [1])
  (.seq (.seq (.region [⟨some 9, none, .p (.mv (.t 1))⟩,
    ⟨some 10, none, .p (.bin .lss (.t 9) (.k (.c (C.int .i64 0))))⟩] [1, 10])
  (.cond (.t 10)
  (.seq (.region [⟨some 4, none, .p (.mv (.k (.c (C.int .i64 (-1)))))⟩] [4])
  .ret)
  .skip))
  (.seq (.region [⟨some 11, none, .p (.mv (.t 1))⟩,
    ⟨some 4, none, .p (.mv (.t 11))⟩] [4])
  .ret)))) }
theorem a47_ok : okFn Try.prog 47 a47 = true := by kernel_rfl
/-- loop.example/g01215/spec.IsReplay -/
def a48 : AFn := { np := 1, nt := 11, res := [.t 2], body :=
  (.seq (.region [⟨some 1, none, .p (.box 25 (.t 0))⟩,
    ⟨some 2, none, .p (.mv (.k (.c (C.bool false))))⟩] [1])
  (.seq (.region [⟨some 6, none, .h (.load 25 true (.t 1))⟩,
    ⟨some 7, none, .h (.call (.f 150) [.t 6])⟩,
    ⟨some 5, none, .p (.mv (.t 7))⟩,
    ⟨some 8, none, .p (.ext (.t 5) 0)⟩,
    ⟨some 9, none, .p (.ext (.t 5) 1)⟩,
    ⟨some 3, none, .p (.mv (.t 8))⟩,
    ⟨some 4, none, .p (.mv (.t 9))⟩] [4])
  (.seq (.region [⟨some 10, none, .p (.mv (.t 4))⟩,
    ⟨some 2, none, .p (.mv (.t 10))⟩] [2])
  .ret))) }
theorem a48_ok : okFn Try.prog 48 a48 = true := by kernel_rfl
/-- loop.example/g01215/laws.toReplay -/
def a49 : AFn := { np := 1, nt := 13, res := [.cell 2 25 true], body :=
  (.seq (.region [⟨some 1, none, .p (.box 25 (.t 0))⟩,
    ⟨some 2, none, .p (.alloc [.k (C.int .i64 0), .k (C.int .i64 0), .k (C.int .i64 0), .k (C.int .i64 0), .k (C.int .i64 0), .k (C.int .i64 0), .k (C.int .i64 0), .k (C.int .i64 0), .k (C.int .i64 0), .k (C.int .i64 0), .k (C.int .i64 0), .k (C.int .i64 0), .k (C.int .i64 0), .k (C.int .i64 0), .k (C.int .i64 0), .k (C.int .i64 0), .k (C.int .i64 0), .k (C.int .i64 0), .k (C.int .i64 0), .k (C.int .i64 0), .k (C.int .i64 0), .k (C.int .i64 0), .k (C.int .i64 0), .k (C.int .i64 0), .sl 2])⟩] [1, 2])
  (.seq (.region [⟨some 3, none, .p (.alloc [.k (C.int .i64 0), .k (C.int .i64 0), .k (C.int .i64 0), .k (C.int .i64 0), .k (C.int .i64 0), .k (C.int .i64 0), .k (C.int .i64 0), .k (C.int .i64 0), .k (C.int .i64 0), .k (C.int .i64 0), .k (C.int .i64 0), .k (C.int .i64 0), .k (C.int .i64 0), .k (C.int .i64 0), .k (C.int .i64 0), .k (C.int .i64 0), .k (C.int .i64 0), .k (C.int .i64 0), .k (C.int .i64 0), .k (C.int .i64 0), .k (C.int .i64 0), .k (C.int .i64 0), .k (C.int .i64 0), .k (C.int .i64 0), .sl 2])⟩] [1, 2, 3])
  (.seq (.region [⟨some 4, none, .p (.fld 0 (.t 1))⟩,
    ⟨some 5, none, .h (.load 24 true (.t 4))⟩,
    ⟨some 6, none, .h (.call (.f 38) [.t 5])⟩,
    ⟨some 7, none, .p (.fld 0 (.t 3))⟩,
    ⟨none, none, .h (.store 24 (.t 7) (.t 6))⟩] [1, 2, 3])
  (.seq (.region [⟨some 8, none, .p (.fld 24 (.t 1))⟩,
    ⟨some 9, none, .h (.load 1 false (.t 8))⟩,
    ⟨some 10, none, .h (.call (.f 57) [.t 9])⟩,
    ⟨some 11, none, .p (.fld 24 (.t 3))⟩,
    ⟨none, none, .h (.store 1 (.t 11) (.t 10))⟩] [2, 3])
  (.seq (.region [⟨some 12, none, .h (.load 25 true (.t 3))⟩,
    ⟨none, none, .h (.store 25 (.t 2) (.t 12))⟩] [2])
  .ret))))) }
theorem a49_ok : okFn Try.prog 49 a49 = true := by kernel_rfl
/-- loop.example/g01215/impl.IsReplay -/
def a50 : AFn := { np := 1, nt := 11, res := [.t 2], body :=
  (.seq (.region [⟨some 1, none, .p (.box 25 (.t 0))⟩,
    ⟨some 2, none, .p (.mv (.k (.c (C.bool false))))⟩] [1])
  (.seq (.region [⟨some 6, none, .h (.load 25 true (.t 1))⟩,
    ⟨some 7, none, .h (.call (.f 151) [.t 6])⟩,
    ⟨some 5, none, .p (.mv (.t 7))⟩,
    ⟨some 8, none, .p (.ext (.t 5) 0)⟩,
    ⟨some 9, none, .p (.ext (.t 5) 1)⟩,
    ⟨some 3, none, .p (.mv (.t 8))⟩,
    ⟨some 4, none, .p (.mv (.t 9))⟩] [4])
  (.seq (.region [⟨some 10, none, .p (.mv (.t 4))⟩,
    ⟨some 2, none, .p (.mv (.t 10))⟩] [2])
  .ret))) }
theorem a50_ok : okFn Try.prog 50 a50 = true := by kernel_rfl
/-- loop.example/g01215/laws.eqReplay -/
def a51 : AFn := { np := 2, nt := 17, res := [.t 4], body :=
  (.seq (.region [⟨some 2, none, .p (.box 25 (.t 0))⟩,
    ⟨some 3, none, .p (.box 25 (.t 1))⟩,
    ⟨some 4, none, .p (.mv (.k (.c (C.bool false))))⟩] [2, 3])
  (.seq (.seq (.region [⟨some 5, none, .p (.fld 0 (.t 2))⟩,
    ⟨some 6, none, .h (.load 24 true (.t 5))⟩,
    ⟨some 7, none, .p (.fld 0 (.t 3))⟩,
    ⟨some 8, none, .h (.load 24 true (.t 7))⟩,
    ⟨some 9, none, .h (.call (.f 54) [.t 6, .t 8])⟩,
    ⟨some 10, none, .p (.un .not (.t 9))⟩] [2, 3, 10])
  (.cond (.t 10)
  (.seq (.region [⟨some 4, none, .p (.mv (.k (.c (C.bool false))))⟩] [4])
  .ret)
  .skip))
  (.seq (.seq (.region [⟨some 11, none, .p (.fld 24 (.t 2))⟩,
    ⟨some 12, none, .h (.load 1 false (.t 11))⟩,
    ⟨some 13, none, .p (.fld 24 (.t 3))⟩,
    ⟨some 14, none, .h (.load 1 false (.t 13))⟩,
    ⟨some 15, none, .h (.call (.f 59) [.t 12, .t 14])⟩,
    ⟨some 16, none, .p (.un .not (.t 15))⟩] [16])
  (.cond (.t 16)
  (.seq (.region [⟨some 4, none, .p (.mv (.k (.c (C.bool false))))⟩] [4])
  .ret)
  .skip))
  (.seq (.region [⟨some 4, none, .p (.mv (.k (.c (C.bool true))))⟩] [4])
  .ret)))) }
theorem a51_ok : okFn Try.prog 51 a51 = true := by kernel_rfl
def prA : Prog
  | 2 => some a2
  | 3 => some a3
  | 4 => some a4
  | 5 => some a5
  | 6 => some a6
  | 7 => some a7
  | 8 => some a8
  | 9 => some a9
  | 10 => some a10
  | 11 => some a11
  | 12 => some a12
  | 13 => some a13
  | 14 => some a14
  | 15 => some a15
  | 16 => some a16
  | 17 => some a17
  | 18 => some a18
  | 19 => some a19
  | 20 => some a20
  | 21 => some a21
  | 22 => some a22
  | 23 => some a23
  | 24 => some a24
  | 25 => some a25
  | 26 => some a26
  | 27 => some a27
  | 28 => some a28
  | 29 => some a29
  | 30 => some a30
  | 31 => some a31
  | 32 => some a32
  | 33 => some a33
  | 34 => some a34
  | 35 => some a35
  | 36 => some a36
  | 37 => some a37
  | 38 => some a38
  | 39 => some a39
  | 40 => some a40
  | 41 => some a41
  | 42 => some a42
  | 43 => some a43
  | 44 => some a44
  | 45 => some a45
  | 46 => some a46
  | 47 => some a47
  | 48 => some a48
  | 49 => some a49
  | 50 => some a50
  | 51 => some a51
  | _ => none
theorem prA_ok : ProgOK Try.prog prA := by
  intro f fn h
  unfold prA at h
  split at h
  · injection h with h; subst h; exact a2_ok
  · injection h with h; subst h; exact a3_ok
  · injection h with h; subst h; exact a4_ok
  · injection h with h; subst h; exact a5_ok
  · injection h with h; subst h; exact a6_ok
  · injection h with h; subst h; exact a7_ok
  · injection h with h; subst h; exact a8_ok
  · injection h with h; subst h; exact a9_ok
  · injection h with h; subst h; exact a10_ok
  · injection h with h; subst h; exact a11_ok
  · injection h with h; subst h; exact a12_ok
  · injection h with h; subst h; exact a13_ok
  · injection h with h; subst h; exact a14_ok
  · injection h with h; subst h; exact a15_ok
  · injection h with h; subst h; exact a16_ok
  · injection h with h; subst h; exact a17_ok
  · injection h with h; subst h; exact a18_ok
  · injection h with h; subst h; exact a19_ok
  · injection h with h; subst h; exact a20_ok
  · injection h with h; subst h; exact a21_ok
  · injection h with h; subst h; exact a22_ok
  · injection h with h; subst h; exact a23_ok
  · injection h with h; subst h; exact a24_ok
  · injection h with h; subst h; exact a25_ok
  · injection h with h; subst h; exact a26_ok
  · injection h with h; subst h; exact a27_ok
  · injection h with h; subst h; exact a28_ok
  · injection h with h; subst h; exact a29_ok
  · injection h with h; subst h; exact a30_ok
  · injection h with h; subst h; exact a31_ok
  · injection h with h; subst h; exact a32_ok
  · injection h with h; subst h; exact a33_ok
  · injection h with h; subst h; exact a34_ok
  · injection h with h; subst h; exact a35_ok
  · injection h with h; subst h; exact a36_ok
  · injection h with h; subst h; exact a37_ok
  · injection h with h; subst h; exact a38_ok
  · injection h with h; subst h; exact a39_ok
  · injection h with h; subst h; exact a40_ok
  · injection h with h; subst h; exact a41_ok
  · injection h with h; subst h; exact a42_ok
  · injection h with h; subst h; exact a43_ok
  · injection h with h; subst h; exact a44_ok
  · injection h with h; subst h; exact a45_ok
  · injection h with h; subst h; exact a46_ok
  · injection h with h; subst h; exact a47_ok
  · injection h with h; subst h; exact a48_ok
  · injection h with h; subst h; exact a49_ok
  · injection h with h; subst h; exact a50_ok
  · injection h with h; subst h; exact a51_ok
  · cases h
end Go.Proofs.Ytgmamngkkpadhaa.AM
