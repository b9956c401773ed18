/- the functions' code in the abstract machine: printed by a program (wip/tools/genparts.py) out of the loaded program -/
import Derived.Test.YtllabonhgkocfaaAmD
import Derived.Test.YtllabonhgkocfaaProg
import Derived.KernelRfl
namespace Go.Proofs.Ytllabonhgkocfaa.AM
open Go
set_option maxRecDepth 100000
/-- loop.example/g01215/laws.FnExactDealSame -/
def a3 : AFn := { np := 2, nt := 34, res := [.t 4], body :=
  (.seq (.region [⟨some 2, none, .p (.box 6 (.t 0))⟩,
    ⟨some 3, none, .p (.box 6 (.t 1))⟩,
    ⟨some 4, none, .p (.mv (.k (.c (C.bool false))))⟩] [2, 3])
  (.seq (.regionD [⟨some 10, none, .h (.load 6 true (.t 2))⟩,
    ⟨some 11, none, .h (.call (.f 16) [.t 10])⟩,
    ⟨some 12, none, .h (.load 6 true (.t 3))⟩,
    ⟨some 13, none, .h (.call (.f 16) [.t 12])⟩,
    ⟨some 14, none, .h (.call (.f 15) [.t 11, .t 13])⟩,
    ⟨some 9, none, .p (.mv (.t 14))⟩,
    ⟨some 15, none, .p (.ext (.t 9) 0)⟩,
    ⟨some 16, none, .p (.ext (.t 9) 1)⟩,
    ⟨some 5, none, .p (.alloc [.k (C.int .i64 0), .k (C.int .i64 0)])⟩,
    ⟨none, none, .h (.store 2 (.t 5) (.t 15))⟩,
    ⟨some 6, none, .p (.mv (.t 16))⟩] [2, 3, 5, 6] [])
  (.seq (.regionD [⟨some 18, none, .h (.load 6 true (.t 2))⟩,
    ⟨some 19, none, .h (.call (.f 16) [.t 18])⟩,
    ⟨some 20, none, .h (.load 6 true (.t 3))⟩,
    ⟨some 21, none, .h (.call (.f 16) [.t 20])⟩,
    ⟨some 22, none, .h (.call (.f 17) [.t 19, .t 21])⟩,
    ⟨some 17, none, .p (.mv (.t 22))⟩,
    ⟨some 23, none, .p (.ext (.t 17) 0)⟩,
    ⟨some 24, none, .p (.ext (.t 17) 1)⟩,
    ⟨some 7, none, .p (.alloc [.k (C.int .i64 0), .k (C.int .i64 0)])⟩,
    ⟨none, none, .h (.store 2 (.t 7) (.t 23))⟩,
    ⟨some 8, none, .p (.mv (.t 24))⟩] [5, 6, 7, 8] [])
  (.seq (.seq (.region [⟨some 25, none, .h (.load 2 true (.t 7))⟩,
    ⟨some 26, none, .h (.load 2 true (.t 5))⟩,
    ⟨some 27, none, .h (.call (.f 18) [.t 25, .t 26])⟩,
    ⟨some 28, none, .p (.un .not (.t 27))⟩,
    ⟨some 29, none, .p (.mv (.t 28))⟩,
    ⟨some 30, some (29, false), .p (.mv (.t 8))⟩,
    ⟨some 31, some (29, false), .p (.mv (.t 6))⟩,
    ⟨some 32, some (29, false), .p (.eqb true (.t 30) (.t 31))⟩,
    ⟨some 33, none, .p (.pick (.t 29) (.k (.c (C.bool true))) (.t 32))⟩] [33])
  (.cond (.t 33)
  (.seq (.region [⟨some 4, none, .p (.mv (.k (.c (C.bool false))))⟩] [4])
  .ret)
  .skip))
  (.seq (.region [⟨some 4, none, .p (.mv (.k (.c (C.bool true))))⟩] [4])
  .ret))))) }
theorem a3_ok : okFn Try.prog 3 a3 = true := by kernel_rfl
/-- loop.example/g01215/laws.FnExactCanSwap -/
def a4 : AFn := { np := 2, nt := 44, res := [.t 4], body :=
  (.seq (.region [⟨some 2, none, .p (.box 25 (.t 0))⟩,
    ⟨some 4, none, .p (.mv (.k (.c (C.bool false))))⟩] [1, 2])
  (.seq (.region [⟨some 5, none, .p (.mv (.k (.c (C.int .i64 1048576))))⟩] [1, 2, 5])
  (.seq (.region [⟨some 11, none, .h (.load 25 true (.t 2))⟩,
    ⟨some 12, none, .p (.mv (.t 5))⟩,
    ⟨some 13, none, .h (.call (.f 19) [.t 11, .t 12])⟩,
    ⟨some 5, none, .p (.mv (.t 13))⟩] [1, 2, 5])
  (.seq (.seq (.region [⟨some 14, none, .p (.mv (.t 5))⟩,
    ⟨some 15, none, .p (.bin .lss (.t 14) (.k (.c (C.int .i64 0))))⟩] [1, 2, 15])
  (.cond (.t 15)
  (.seq (.region [⟨some 4, none, .p (.mv (.k (.c (C.bool true))))⟩] [4])
  .ret)
  .skip))
  (.seq (.region [⟨some 17, none, .h (.load 25 true (.t 2))⟩,
    ⟨some 18, none, .h (.call (.f 21) [.t 17])⟩,
    ⟨some 19, none, .p (.mv (.t 1))⟩,
    ⟨some 20, none, .h (.call (.f 20) [.t 18, .t 19])⟩,
    ⟨some 16, none, .p (.mv (.t 20))⟩,
    ⟨some 21, none, .p (.ext (.t 16) 0)⟩,
    ⟨some 22, none, .p (.ext (.t 16) 1)⟩,
    ⟨some 6, none, .p (.mv (.t 21))⟩,
    ⟨some 7, none, .p (.mv (.t 22))⟩] [1, 2, 6, 7])
  (.seq (.region [⟨some 23, none, .h (.load 25 true (.t 2))⟩,
    ⟨some 24, none, .h (.call (.f 21) [.t 23])⟩,
    ⟨some 8, none, .p (.alloc [.k (C.int .i64 0), .k (C.int .i64 0), .k (C.int .i64 0), .k (C.int .i64 0), .k (C.int .i64 0), .k (C.int .i64 0), .k (C.int .i64 0), .k (C.int .i64 0), .k (C.int .i64 0), .k (C.int .i64 0), .k (C.int .i64 0), .k (C.int .i64 0), .k (C.int .i64 0), .k (C.int .i64 0), .k (C.int .i64 0), .k (C.int .i64 0), .k (C.int .i64 0), .k (C.int .i64 0), .k (C.int .i64 0), .k (C.int .i64 0), .k (C.int .i64 0), .k (C.int .i64 0), .k (C.int .i64 0), .k (C.int .i64 0), .sl 2])⟩,
    ⟨none, none, .h (.store 25 (.t 8) (.t 24))⟩] [1, 2, 6, 7, 8])
  (.seq (.region [⟨some 26, none, .h (.load 25 true (.t 8))⟩,
    ⟨some 27, none, .p (.mv (.t 1))⟩,
    ⟨some 28, none, .h (.call (.f 22) [.t 26, .t 27])⟩,
    ⟨some 25, none, .p (.mv (.t 28))⟩,
    ⟨some 29, none, .p (.ext (.t 25) 0)⟩,
    ⟨some 30, none, .p (.ext (.t 25) 1)⟩,
    ⟨some 9, none, .p (.mv (.t 29))⟩,
    ⟨some 10, none, .p (.mv (.t 30))⟩] [2, 6, 7, 8, 9, 10])
  (.seq (.seq (.region [⟨some 31, none, .p (.mv (.t 9))⟩,
    ⟨some 32, none, .p (.mv (.t 6))⟩,
    ⟨some 33, none, .p (.eqb true (.t 31) (.t 32))⟩,
    ⟨some 34, none, .p (.mv (.t 33))⟩,
    ⟨some 35, some (34, false), .p (.mv (.t 10))⟩,
    ⟨some 36, some (34, false), .p (.mv (.t 7))⟩,
    ⟨some 37, some (34, false), .p (.eqb true (.t 35) (.t 36))⟩,
    ⟨some 38, none, .p (.pick (.t 34) (.k (.c (C.bool true))) (.t 37))⟩] [2, 8, 38])
  (.cond (.t 38)
  (.seq (.region [⟨some 4, none, .p (.mv (.k (.c (C.bool false))))⟩] [4])
  .ret)
  .skip))
  (.seq (.seq (.regionE [⟨some 39, none, .h (.load 25 true (.t 8))⟩,
    ⟨some 40, none, .h (.load 25 true (.t 2))⟩,
    ⟨some 41, none, .h (.call (.f 21) [.t 40])⟩,
    ⟨some 42, none, .h (.call (.f 23) [.t 39, .t 41])⟩,
    ⟨some 43, none, .p (.un .not (.t 42))⟩] [43] [] [[], [], [], [2]])
  (.cond (.t 43)
  (.seq (.region [⟨some 4, none, .p (.mv (.k (.c (C.bool false))))⟩] [4])
  .ret)
  .skip))
  (.seq (.region [⟨some 4, none, .p (.mv (.k (.c (C.bool true))))⟩] [4])
  .ret)))))))))) }
theorem a4_ok : okFn Try.prog 4 a4 = true := by kernel_rfl
/-- loop.example/g01215/laws.FnExactAddPour -/
def a5 : AFn := { np := 2, nt := 104, res := [.t 4], body :=
  (.seq (.region [⟨some 2, none, .p (.box 25 (.t 0))⟩,
    ⟨some 3, none, .p (.box 2 (.t 1))⟩,
    ⟨some 4, none, .p (.mv (.k (.c (C.bool false))))⟩] [2, 3])
  (.seq (.region [⟨some 5, none, .p (.mv (.k (.c (C.int .i64 1048576))))⟩] [2, 3, 5])
  (.seq (.region [⟨some 16, none, .h (.load 25 true (.t 2))⟩,
    ⟨some 17, none, .p (.mv (.t 5))⟩,
    ⟨some 18, none, .h (.call (.f 19) [.t 16, .t 17])⟩,
    ⟨some 5, none, .p (.mv (.t 18))⟩] [2, 3, 5])
  (.seq (.seq (.region [⟨some 19, none, .p (.mv (.t 5))⟩,
    ⟨some 20, none, .p (.bin .lss (.t 19) (.k (.c (C.int .i64 0))))⟩] [2, 3, 20])
  (.cond (.t 20)
  (.seq (.region [⟨some 4, none, .p (.mv (.k (.c (C.bool true))))⟩] [4])
  .ret)
  .skip))
  (.seq (.regionE [⟨some 22, none, .h (.load 25 true (.t 2))⟩,
    ⟨some 23, none, .h (.call (.f 21) [.t 22])⟩,
    ⟨some 24, none, .h (.load 2 true (.t 3))⟩,
    ⟨some 25, none, .h (.call (.f 25) [.t 24])⟩,
    ⟨some 26, none, .h (.call (.f 24) [.t 23, .t 25])⟩,
    ⟨some 21, none, .p (.mv (.t 26))⟩,
    ⟨some 27, none, .p (.ext (.t 21) 0)⟩,
    ⟨some 28, none, .p (.ext (.t 21) 1)⟩,
    ⟨some 6, none, .p (.alloc [.k (C.int .i64 0), .k (C.int .i64 0), .k (C.int .i64 0), .k (C.int .i64 0), .k (C.int .i64 0), .k (C.int .i64 0), .k (C.int .i64 0), .k (C.int .i64 0), .k (C.int .i64 0), .k (C.int .i64 0), .k (C.int .i64 0), .k (C.int .i64 0), .k (C.int .i64 0), .k (C.int .i64 0), .k (C.int .i64 0), .k (C.int .i64 0), .k (C.int .i64 0), .k (C.int .i64 0), .k (C.int .i64 0), .k (C.int .i64 0), .k (C.int .i64 0), .k (C.int .i64 0), .k (C.int .i64 0), .k (C.int .i64 0), .sl 2])⟩,
    ⟨none, none, .h (.store 25 (.t 6) (.t 27))⟩,
    ⟨some 7, none, .p (.mv (.t 28))⟩] [2, 3, 6, 7] [] [[], [], [], [1], [1, 3]])
  (.seq (.region [⟨some 29, none, .h (.load 25 true (.t 2))⟩,
    ⟨some 30, none, .h (.call (.f 21) [.t 29])⟩,
    ⟨some 8, none, .p (.alloc [.k (C.int .i64 0), .k (C.int .i64 0), .k (C.int .i64 0), .k (C.int .i64 0), .k (C.int .i64 0), .k (C.int .i64 0), .k (C.int .i64 0), .k (C.int .i64 0), .k (C.int .i64 0), .k (C.int .i64 0), .k (C.int .i64 0), .k (C.int .i64 0), .k (C.int .i64 0), .k (C.int .i64 0), .k (C.int .i64 0), .k (C.int .i64 0), .k (C.int .i64 0), .k (C.int .i64 0), .k (C.int .i64 0), .k (C.int .i64 0), .k (C.int .i64 0), .k (C.int .i64 0), .k (C.int .i64 0), .k (C.int .i64 0), .sl 2])⟩,
    ⟨none, none, .h (.store 25 (.t 8) (.t 30))⟩] [2, 3, 6, 7, 8])
  (.seq (.regionD [⟨some 32, none, .h (.load 25 true (.t 8))⟩,
    ⟨some 33, none, .h (.load 2 true (.t 3))⟩,
    ⟨some 34, none, .h (.call (.f 25) [.t 33])⟩,
    ⟨some 35, none, .h (.call (.f 26) [.t 32, .t 34])⟩,
    ⟨some 31, none, .p (.mv (.t 35))⟩,
    ⟨some 36, none, .p (.ext (.t 31) 0)⟩,
    ⟨some 37, none, .p (.ext (.t 31) 1)⟩,
    ⟨some 9, none, .p (.alloc [.k (C.int .i64 0), .k (C.int .i64 0), .k (C.int .i64 0), .k (C.int .i64 0), .k (C.int .i64 0), .k (C.int .i64 0), .k (C.int .i64 0), .k (C.int .i64 0), .k (C.int .i64 0), .k (C.int .i64 0), .k (C.int .i64 0), .k (C.int .i64 0), .k (C.int .i64 0), .k (C.int .i64 0), .k (C.int .i64 0), .k (C.int .i64 0), .k (C.int .i64 0), .k (C.int .i64 0), .k (C.int .i64 0), .k (C.int .i64 0), .k (C.int .i64 0), .k (C.int .i64 0), .k (C.int .i64 0), .k (C.int .i64 0), .sl 2])⟩,
    ⟨none, none, .h (.store 25 (.t 9) (.t 36))⟩,
    ⟨some 10, none, .p (.mv (.t 37))⟩] [2, 3, 6, 7, 8, 9, 10] [])
  (.seq (.seq (.region [⟨some 38, none, .h (.load 25 true (.t 9))⟩,
    ⟨some 39, none, .h (.load 25 true (.t 6))⟩,
    ⟨some 40, none, .h (.call (.f 23) [.t 38, .t 39])⟩,
    ⟨some 41, none, .p (.un .not (.t 40))⟩,
    ⟨some 42, none, .p (.mv (.t 41))⟩,
    ⟨some 43, some (42, false), .p (.mv (.t 10))⟩,
    ⟨some 44, some (42, false), .p (.mv (.t 7))⟩,
    ⟨some 45, some (42, false), .p (.eqb true (.t 43) (.t 44))⟩,
    ⟨some 46, none, .p (.pick (.t 42) (.k (.c (C.bool true))) (.t 45))⟩] [2, 3, 6, 7, 8, 9, 10, 46])
  (.cond (.t 46)
  (.seq (.region [⟨some 4, none, .p (.mv (.k (.c (C.bool false))))⟩] [4])
  .ret)
  .skip))
  (.seq (.seq (.regionE [⟨some 47, none, .h (.load 25 true (.t 8))⟩,
    ⟨some 48, none, .h (.load 25 true (.t 2))⟩,
    ⟨some 49, none, .h (.call (.f 21) [.t 48])⟩,
    ⟨some 50, none, .h (.call (.f 23) [.t 47, .t 49])⟩,
    ⟨some 51, none, .p (.un .not (.t 50))⟩] [2, 3, 6, 7, 8, 9, 10, 51] [] [[], [], [], [2]])
  (.cond (.t 51)
  (.seq (.region [⟨some 4, none, .p (.mv (.k (.c (C.bool false))))⟩] [4])
  .ret)
  .skip))
  (.seq (.region [⟨some 11, none, .p (.mv (.k (.c (C.int .i64 1))))⟩] [2, 3, 6, 7, 8, 9, 10, 11])
  (.seq (.region [⟨some 52, none, .h (.load 25 true (.t 8))⟩,
    ⟨some 53, none, .p (.mv (.t 11))⟩,
    ⟨some 54, none, .h (.call (.f 27) [.t 52, .t 53])⟩,
    ⟨some 11, none, .p (.mv (.t 54))⟩] [2, 3, 6, 7, 9, 10, 11])
  (.seq (.seq (.region [⟨some 55, none, .p (.mv (.t 11))⟩,
    ⟨some 56, none, .p (.bin .lss (.t 55) (.k (.c (C.int .i64 0))))⟩,
    ⟨some 57, none, .p (.mv (.t 56))⟩,
    ⟨some 58, some (57, false), .h (.load 25 true (.t 9))⟩,
    ⟨some 59, some (57, false), .h (.load 25 true (.t 6))⟩,
    ⟨some 60, some (57, false), .h (.call (.f 23) [.t 58, .t 59])⟩,
    ⟨some 61, some (57, false), .p (.un .not (.t 60))⟩,
    ⟨some 62, none, .p (.pick (.t 57) (.k (.c (C.bool true))) (.t 61))⟩,
    ⟨some 63, none, .p (.mv (.t 62))⟩,
    ⟨some 64, some (63, false), .p (.mv (.t 10))⟩,
    ⟨some 65, some (63, false), .p (.mv (.t 7))⟩,
    ⟨some 66, some (63, false), .p (.eqb true (.t 64) (.t 65))⟩,
    ⟨some 67, none, .p (.pick (.t 63) (.k (.c (C.bool true))) (.t 66))⟩] [2, 3, 6, 7, 9, 67])
  (.cond (.t 67)
  (.seq (.region [⟨some 4, none, .p (.mv (.k (.c (C.bool false))))⟩] [4])
  .ret)
  .skip))
  (.seq (.region [⟨some 12, none, .p (.mv (.k (.c (C.int .i64 1))))⟩] [2, 3, 6, 7, 9, 12])
  (.seq (.region [⟨some 68, none, .h (.load 25 true (.t 9))⟩,
    ⟨some 69, none, .p (.mv (.t 12))⟩,
    ⟨some 70, none, .h (.call (.f 27) [.t 68, .t 69])⟩,
    ⟨some 12, none, .p (.mv (.t 70))⟩] [2, 3, 6, 7, 9, 12])
  (.seq (.region [⟨some 13, none, .p (.mv (.k (.c (C.int .i64 1))))⟩] [2, 3, 6, 7, 9, 12, 13])
  (.seq (.region [⟨some 71, none, .h (.load 25 true (.t 9))⟩,
    ⟨some 72, none, .p (.mv (.t 13))⟩,
    ⟨some 73, none, .h (.call (.f 28) [.t 71, .t 72])⟩,
    ⟨some 13, none, .p (.mv (.t 73))⟩] [2, 3, 6, 7, 9, 12, 13])
  (.seq (.seq (.region [⟨some 74, none, .p (.mv (.t 13))⟩,
    ⟨some 75, none, .p (.bin .lss (.t 74) (.k (.c (C.int .i64 0))))⟩] [2, 3, 6, 7, 9, 12, 13, 75])
  (.cond (.t 75)
  (.seq (.region [⟨some 4, none, .p (.mv (.k (.c (C.bool false))))⟩] [4])
  .ret)
  .skip))
  (.seq (.seq (.region [⟨some 76, none, .p (.mv (.t 13))⟩,
    ⟨some 77, none, .p (.mv (.t 12))⟩,
    ⟨some 78, none, .p (.bin .neq (.t 76) (.t 77))⟩] [2, 3, 6, 7, 9, 12, 78])
  (.cond (.t 78)
  (.seq (.region [⟨some 4, none, .p (.mv (.k (.c (C.bool false))))⟩] [4])
  .ret)
  .skip))
  (.seq (.regionE [⟨some 80, none, .h (.load 25 true (.t 2))⟩,
    ⟨some 81, none, .h (.call (.f 21) [.t 80])⟩,
    ⟨some 82, none, .h (.load 2 true (.t 3))⟩,
    ⟨some 83, none, .h (.call (.f 25) [.t 82])⟩,
    ⟨some 84, none, .h (.call (.f 26) [.t 81, .t 83])⟩,
    ⟨some 79, none, .p (.mv (.t 84))⟩,
    ⟨some 85, none, .p (.ext (.t 79) 0)⟩,
    ⟨some 86, none, .p (.ext (.t 79) 1)⟩,
    ⟨some 14, none, .p (.alloc [.k (C.int .i64 0), .k (C.int .i64 0), .k (C.int .i64 0), .k (C.int .i64 0), .k (C.int .i64 0), .k (C.int .i64 0), .k (C.int .i64 0), .k (C.int .i64 0), .k (C.int .i64 0), .k (C.int .i64 0), .k (C.int .i64 0), .k (C.int .i64 0), .k (C.int .i64 0), .k (C.int .i64 0), .k (C.int .i64 0), .k (C.int .i64 0), .k (C.int .i64 0), .k (C.int .i64 0), .k (C.int .i64 0), .k (C.int .i64 0), .k (C.int .i64 0), .k (C.int .i64 0), .k (C.int .i64 0), .k (C.int .i64 0), .sl 2])⟩,
    ⟨none, none, .h (.store 25 (.t 14) (.t 85))⟩,
    ⟨some 15, none, .p (.mv (.t 86))⟩] [6, 7, 9, 12, 14, 15] [] [[], [], [], [1], [1, 3]])
  (.seq (.seq (.region [⟨some 87, none, .h (.load 25 true (.t 14))⟩,
    ⟨some 88, none, .h (.load 25 true (.t 6))⟩,
    ⟨some 89, none, .h (.call (.f 23) [.t 87, .t 88])⟩,
    ⟨some 90, none, .p (.un .not (.t 89))⟩,
    ⟨some 91, none, .p (.mv (.t 90))⟩,
    ⟨some 92, some (91, false), .p (.mv (.t 15))⟩,
    ⟨some 93, some (91, false), .p (.mv (.t 7))⟩,
    ⟨some 94, some (91, false), .p (.eqb true (.t 92) (.t 93))⟩,
    ⟨some 95, none, .p (.pick (.t 91) (.k (.c (C.bool true))) (.t 94))⟩] [9, 12, 95])
  (.cond (.t 95)
  (.seq (.region [⟨some 4, none, .p (.mv (.k (.c (C.bool false))))⟩] [4])
  .ret)
  .skip))
  (.seq (.region [⟨some 13, none, .p (.mv (.k (.c (C.int .i64 1))))⟩] [9, 12, 13])
  (.seq (.region [⟨some 96, none, .h (.load 25 true (.t 9))⟩,
    ⟨some 97, none, .p (.mv (.t 13))⟩,
    ⟨some 98, none, .h (.call (.f 28) [.t 96, .t 97])⟩,
    ⟨some 13, none, .p (.mv (.t 98))⟩] [12, 13])
  (.seq (.seq (.region [⟨some 99, none, .p (.mv (.t 13))⟩,
    ⟨some 100, none, .p (.bin .lss (.t 99) (.k (.c (C.int .i64 0))))⟩] [12, 13, 100])
  (.cond (.t 100)
  (.seq (.region [⟨some 4, none, .p (.mv (.k (.c (C.bool false))))⟩] [4])
  .ret)
  .skip))
  (.seq (.seq (.region [⟨some 101, none, .p (.mv (.t 13))⟩,
    ⟨some 102, none, .p (.mv (.t 12))⟩,
    ⟨some 103, none, .p (.bin .neq (.t 101) (.t 102))⟩] [103])
  (.cond (.t 103)
  (.seq (.region [⟨some 4, none, .p (.mv (.k (.c (C.bool false))))⟩] [4])
  .ret)
  .skip))
  (.seq (.region [⟨some 4, none, .p (.mv (.k (.c (C.bool true))))⟩] [4])
  .ret))))))))))))))))))))))))) }
theorem a5_ok : okFn Try.prog 5 a5 = true := by kernel_rfl
/-- loop.example/g01215/laws.FnExactUndoPours -/
def a6 : AFn := { np := 2, nt := 101, res := [.t 4], body :=
  (.seq (.region [⟨some 2, none, .p (.box 25 (.t 0))⟩,
    ⟨some 4, none, .p (.mv (.k (.c (C.bool false))))⟩] [1, 2])
  (.seq (.region [⟨some 5, none, .p (.mv (.k (.c (C.int .i64 1048576))))⟩] [1, 2, 5])
  (.seq (.region [⟨some 16, none, .h (.load 25 true (.t 2))⟩,
    ⟨some 17, none, .p (.mv (.t 5))⟩,
    ⟨some 18, none, .h (.call (.f 19) [.t 16, .t 17])⟩,
    ⟨some 5, none, .p (.mv (.t 18))⟩] [1, 2, 5])
  (.seq (.seq (.region [⟨some 19, none, .p (.mv (.t 5))⟩,
    ⟨some 20, none, .p (.bin .lss (.t 19) (.k (.c (C.int .i64 0))))⟩] [1, 2, 20])
  (.cond (.t 20)
  (.seq (.region [⟨some 4, none, .p (.mv (.k (.c (C.bool true))))⟩] [4])
  .ret)
  .skip))
  (.seq (.region [⟨some 22, none, .h (.load 25 true (.t 2))⟩,
    ⟨some 23, none, .h (.call (.f 21) [.t 22])⟩,
    ⟨some 24, none, .p (.mv (.t 1))⟩,
    ⟨some 25, none, .h (.call (.f 29) [.t 23, .t 24])⟩,
    ⟨some 21, none, .p (.mv (.t 25))⟩,
    ⟨some 26, none, .p (.ext (.t 21) 0)⟩,
    ⟨some 27, none, .p (.ext (.t 21) 1)⟩,
    ⟨some 6, none, .p (.alloc [.k (C.int .i64 0), .k (C.int .i64 0), .k (C.int .i64 0), .k (C.int .i64 0), .k (C.int .i64 0), .k (C.int .i64 0), .k (C.int .i64 0), .k (C.int .i64 0), .k (C.int .i64 0), .k (C.int .i64 0), .k (C.int .i64 0), .k (C.int .i64 0), .k (C.int .i64 0), .k (C.int .i64 0), .k (C.int .i64 0), .k (C.int .i64 0), .k (C.int .i64 0), .k (C.int .i64 0), .k (C.int .i64 0), .k (C.int .i64 0), .k (C.int .i64 0), .k (C.int .i64 0), .k (C.int .i64 0), .k (C.int .i64 0), .sl 2])⟩,
    ⟨none, none, .h (.store 25 (.t 6) (.t 26))⟩,
    ⟨some 7, none, .p (.mv (.t 27))⟩] [1, 2, 6, 7])
  (.seq (.region [⟨some 28, none, .h (.load 25 true (.t 2))⟩,
    ⟨some 29, none, .h (.call (.f 21) [.t 28])⟩,
    ⟨some 8, none, .p (.alloc [.k (C.int .i64 0), .k (C.int .i64 0), .k (C.int .i64 0), .k (C.int .i64 0), .k (C.int .i64 0), .k (C.int .i64 0), .k (C.int .i64 0), .k (C.int .i64 0), .k (C.int .i64 0), .k (C.int .i64 0), .k (C.int .i64 0), .k (C.int .i64 0), .k (C.int .i64 0), .k (C.int .i64 0), .k (C.int .i64 0), .k (C.int .i64 0), .k (C.int .i64 0), .k (C.int .i64 0), .k (C.int .i64 0), .k (C.int .i64 0), .k (C.int .i64 0), .k (C.int .i64 0), .k (C.int .i64 0), .k (C.int .i64 0), .sl 2])⟩,
    ⟨none, none, .h (.store 25 (.t 8) (.t 29))⟩] [1, 2, 6, 7, 8])
  (.seq (.region [⟨some 31, none, .h (.load 25 true (.t 8))⟩,
    ⟨some 32, none, .p (.mv (.t 1))⟩,
    ⟨some 33, none, .h (.call (.f 30) [.t 31, .t 32])⟩,
    ⟨some 30, none, .p (.mv (.t 33))⟩,
    ⟨some 34, none, .p (.ext (.t 30) 0)⟩,
    ⟨some 35, none, .p (.ext (.t 30) 1)⟩,
    ⟨some 9, none, .p (.alloc [.k (C.int .i64 0), .k (C.int .i64 0), .k (C.int .i64 0), .k (C.int .i64 0), .k (C.int .i64 0), .k (C.int .i64 0), .k (C.int .i64 0), .k (C.int .i64 0), .k (C.int .i64 0), .k (C.int .i64 0), .k (C.int .i64 0), .k (C.int .i64 0), .k (C.int .i64 0), .k (C.int .i64 0), .k (C.int .i64 0), .k (C.int .i64 0), .k (C.int .i64 0), .k (C.int .i64 0), .k (C.int .i64 0), .k (C.int .i64 0), .k (C.int .i64 0), .k (C.int .i64 0), .k (C.int .i64 0), .k (C.int .i64 0), .sl 2])⟩,
    ⟨none, none, .h (.store 25 (.t 9) (.t 34))⟩,
    ⟨some 10, none, .p (.mv (.t 35))⟩] [1, 2, 6, 7, 8, 9, 10])
  (.seq (.seq (.region [⟨some 36, none, .h (.load 25 true (.t 9))⟩,
    ⟨some 37, none, .h (.load 25 true (.t 6))⟩,
    ⟨some 38, none, .h (.call (.f 23) [.t 36, .t 37])⟩,
    ⟨some 39, none, .p (.un .not (.t 38))⟩,
    ⟨some 40, none, .p (.mv (.t 39))⟩,
    ⟨some 41, some (40, false), .p (.mv (.t 10))⟩,
    ⟨some 42, some (40, false), .p (.mv (.t 7))⟩,
    ⟨some 43, some (40, false), .p (.eqb true (.t 41) (.t 42))⟩,
    ⟨some 44, none, .p (.pick (.t 40) (.k (.c (C.bool true))) (.t 43))⟩] [1, 2, 6, 7, 8, 9, 10, 44])
  (.cond (.t 44)
  (.seq (.region [⟨some 4, none, .p (.mv (.k (.c (C.bool false))))⟩] [4])
  .ret)
  .skip))
  (.seq (.seq (.regionE [⟨some 45, none, .h (.load 25 true (.t 8))⟩,
    ⟨some 46, none, .h (.load 25 true (.t 2))⟩,
    ⟨some 47, none, .h (.call (.f 21) [.t 46])⟩,
    ⟨some 48, none, .h (.call (.f 23) [.t 45, .t 47])⟩,
    ⟨some 49, none, .p (.un .not (.t 48))⟩] [1, 2, 6, 7, 8, 9, 10, 49] [] [[], [], [], [2]])
  (.cond (.t 49)
  (.seq (.region [⟨some 4, none, .p (.mv (.k (.c (C.bool false))))⟩] [4])
  .ret)
  .skip))
  (.seq (.region [⟨some 11, none, .p (.mv (.k (.c (C.int .i64 1))))⟩] [1, 2, 6, 7, 8, 9, 10, 11])
  (.seq (.region [⟨some 50, none, .h (.load 25 true (.t 8))⟩,
    ⟨some 51, none, .p (.mv (.t 11))⟩,
    ⟨some 52, none, .h (.call (.f 27) [.t 50, .t 51])⟩,
    ⟨some 11, none, .p (.mv (.t 52))⟩] [1, 2, 6, 7, 9, 10, 11])
  (.seq (.seq (.region [⟨some 53, none, .p (.mv (.t 11))⟩,
    ⟨some 54, none, .p (.bin .lss (.t 53) (.k (.c (C.int .i64 0))))⟩,
    ⟨some 55, none, .p (.mv (.t 54))⟩,
    ⟨some 56, some (55, false), .h (.load 25 true (.t 9))⟩,
    ⟨some 57, some (55, false), .h (.load 25 true (.t 6))⟩,
    ⟨some 58, some (55, false), .h (.call (.f 23) [.t 56, .t 57])⟩,
    ⟨some 59, some (55, false), .p (.un .not (.t 58))⟩,
    ⟨some 60, none, .p (.pick (.t 55) (.k (.c (C.bool true))) (.t 59))⟩,
    ⟨some 61, none, .p (.mv (.t 60))⟩,
    ⟨some 62, some (61, false), .p (.mv (.t 10))⟩,
    ⟨some 63, some (61, false), .p (.mv (.t 7))⟩,
    ⟨some 64, some (61, false), .p (.eqb true (.t 62) (.t 63))⟩,
    ⟨some 65, none, .p (.pick (.t 61) (.k (.c (C.bool true))) (.t 64))⟩] [1, 2, 6, 7, 9, 65])
  (.cond (.t 65)
  (.seq (.region [⟨some 4, none, .p (.mv (.k (.c (C.bool false))))⟩] [4])
  .ret)
  .skip))
  (.seq (.region [⟨some 12, none, .p (.mv (.k (.c (C.int .i64 1))))⟩] [1, 2, 6, 7, 9, 12])
  (.seq (.region [⟨some 66, none, .h (.load 25 true (.t 9))⟩,
    ⟨some 67, none, .p (.mv (.t 12))⟩,
    ⟨some 68, none, .h (.call (.f 27) [.t 66, .t 67])⟩,
    ⟨some 12, none, .p (.mv (.t 68))⟩] [1, 2, 6, 7, 9, 12])
  (.seq (.region [⟨some 13, none, .p (.mv (.k (.c (C.int .i64 1))))⟩] [1, 2, 6, 7, 9, 12, 13])
  (.seq (.region [⟨some 69, none, .h (.load 25 true (.t 9))⟩,
    ⟨some 70, none, .p (.mv (.t 13))⟩,
    ⟨some 71, none, .h (.call (.f 28) [.t 69, .t 70])⟩,
    ⟨some 13, none, .p (.mv (.t 71))⟩] [1, 2, 6, 7, 9, 12, 13])
  (.seq (.seq (.region [⟨some 72, none, .p (.mv (.t 13))⟩,
    ⟨some 73, none, .p (.bin .lss (.t 72) (.k (.c (C.int .i64 0))))⟩] [1, 2, 6, 7, 9, 12, 13, 73])
  (.cond (.t 73)
  (.seq (.region [⟨some 4, none, .p (.mv (.k (.c (C.bool false))))⟩] [4])
  .ret)
  .skip))
  (.seq (.seq (.region [⟨some 74, none, .p (.mv (.t 13))⟩,
    ⟨some 75, none, .p (.mv (.t 12))⟩,
    ⟨some 76, none, .p (.bin .neq (.t 74) (.t 75))⟩] [1, 2, 6, 7, 9, 12, 76])
  (.cond (.t 76)
  (.seq (.region [⟨some 4, none, .p (.mv (.k (.c (C.bool false))))⟩] [4])
  .ret)
  .skip))
  (.seq (.region [⟨some 78, none, .h (.load 25 true (.t 2))⟩,
    ⟨some 79, none, .h (.call (.f 21) [.t 78])⟩,
    ⟨some 80, none, .p (.mv (.t 1))⟩,
    ⟨some 81, none, .h (.call (.f 30) [.t 79, .t 80])⟩,
    ⟨some 77, none, .p (.mv (.t 81))⟩,
    ⟨some 82, none, .p (.ext (.t 77) 0)⟩,
    ⟨some 83, none, .p (.ext (.t 77) 1)⟩,
    ⟨some 14, none, .p (.alloc [.k (C.int .i64 0), .k (C.int .i64 0), .k (C.int .i64 0), .k (C.int .i64 0), .k (C.int .i64 0), .k (C.int .i64 0), .k (C.int .i64 0), .k (C.int .i64 0), .k (C.int .i64 0), .k (C.int .i64 0), .k (C.int .i64 0), .k (C.int .i64 0), .k (C.int .i64 0), .k (C.int .i64 0), .k (C.int .i64 0), .k (C.int .i64 0), .k (C.int .i64 0), .k (C.int .i64 0), .k (C.int .i64 0), .k (C.int .i64 0), .k (C.int .i64 0), .k (C.int .i64 0), .k (C.int .i64 0), .k (C.int .i64 0), .sl 2])⟩,
    ⟨none, none, .h (.store 25 (.t 14) (.t 82))⟩,
    ⟨some 15, none, .p (.mv (.t 83))⟩] [6, 7, 9, 12, 14, 15])
  (.seq (.seq (.region [⟨some 84, none, .h (.load 25 true (.t 14))⟩,
    ⟨some 85, none, .h (.load 25 true (.t 6))⟩,
    ⟨some 86, none, .h (.call (.f 23) [.t 84, .t 85])⟩,
    ⟨some 87, none, .p (.un .not (.t 86))⟩,
    ⟨some 88, none, .p (.mv (.t 87))⟩,
    ⟨some 89, some (88, false), .p (.mv (.t 15))⟩,
    ⟨some 90, some (88, false), .p (.mv (.t 7))⟩,
    ⟨some 91, some (88, false), .p (.eqb true (.t 89) (.t 90))⟩,
    ⟨some 92, none, .p (.pick (.t 88) (.k (.c (C.bool true))) (.t 91))⟩] [9, 12, 92])
  (.cond (.t 92)
  (.seq (.region [⟨some 4, none, .p (.mv (.k (.c (C.bool false))))⟩] [4])
  .ret)
  .skip))
  (.seq (.region [⟨some 13, none, .p (.mv (.k (.c (C.int .i64 1))))⟩] [9, 12, 13])
  (.seq (.region [⟨some 93, none, .h (.load 25 true (.t 9))⟩,
    ⟨some 94, none, .p (.mv (.t 13))⟩,
    ⟨some 95, none, .h (.call (.f 28) [.t 93, .t 94])⟩,
    ⟨some 13, none, .p (.mv (.t 95))⟩] [12, 13])
  (.seq (.seq (.region [⟨some 96, none, .p (.mv (.t 13))⟩,
    ⟨some 97, none, .p (.bin .lss (.t 96) (.k (.c (C.int .i64 0))))⟩] [12, 13, 97])
  (.cond (.t 97)
  (.seq (.region [⟨some 4, none, .p (.mv (.k (.c (C.bool false))))⟩] [4])
  .ret)
  .skip))
  (.seq (.seq (.region [⟨some 98, none, .p (.mv (.t 13))⟩,
    ⟨some 99, none, .p (.mv (.t 12))⟩,
    ⟨some 100, none, .p (.bin .neq (.t 98) (.t 99))⟩] [100])
  (.cond (.t 100)
  (.seq (.region [⟨some 4, none, .p (.mv (.k (.c (C.bool false))))⟩] [4])
  .ret)
  .skip))
  (.seq (.region [⟨some 4, none, .p (.mv (.k (.c (C.bool true))))⟩] [4])
  .ret))))))))))))))))))))))))) }
theorem a6_ok : okFn Try.prog 6 a6 = true := by kernel_rfl
/-- loop.example/g01215/laws.FnExactDropIdle -/
def a7 : AFn := { np := 1, nt := 96, res := [.t 2], body :=
  (.seq (.region [⟨some 1, none, .p (.box 25 (.t 0))⟩,
    ⟨some 2, none, .p (.mv (.k (.c (C.bool false))))⟩] [1])
  (.seq (.region [⟨some 3, none, .p (.mv (.k (.c (C.int .i64 1048576))))⟩] [1, 3])
  (.seq (.region [⟨some 14, none, .h (.load 25 true (.t 1))⟩,
    ⟨some 15, none, .p (.mv (.t 3))⟩,
    ⟨some 16, none, .h (.call (.f 19) [.t 14, .t 15])⟩,
    ⟨some 3, none, .p (.mv (.t 16))⟩] [1, 3])
  (.seq (.seq (.region [⟨some 17, none, .p (.mv (.t 3))⟩,
    ⟨some 18, none, .p (.bin .lss (.t 17) (.k (.c (C.int .i64 0))))⟩] [1, 18])
  (.cond (.t 18)
  (.seq (.region [⟨some 2, none, .p (.mv (.k (.c (C.bool true))))⟩] [2])
  .ret)
  .skip))
  (.seq (.region [⟨some 20, none, .h (.load 25 true (.t 1))⟩,
    ⟨some 21, none, .h (.call (.f 21) [.t 20])⟩,
    ⟨some 22, none, .h (.call (.f 31) [.t 21])⟩,
    ⟨some 19, none, .p (.mv (.t 22))⟩,
    ⟨some 23, none, .p (.ext (.t 19) 0)⟩,
    ⟨some 24, none, .p (.ext (.t 19) 1)⟩,
    ⟨some 4, none, .p (.alloc [.k (C.int .i64 0), .k (C.int .i64 0), .k (C.int .i64 0), .k (C.int .i64 0), .k (C.int .i64 0), .k (C.int .i64 0), .k (C.int .i64 0), .k (C.int .i64 0), .k (C.int .i64 0), .k (C.int .i64 0), .k (C.int .i64 0), .k (C.int .i64 0), .k (C.int .i64 0), .k (C.int .i64 0), .k (C.int .i64 0), .k (C.int .i64 0), .k (C.int .i64 0), .k (C.int .i64 0), .k (C.int .i64 0), .k (C.int .i64 0), .k (C.int .i64 0), .k (C.int .i64 0), .k (C.int .i64 0), .k (C.int .i64 0), .sl 2])⟩,
    ⟨none, none, .h (.store 25 (.t 4) (.t 23))⟩,
    ⟨some 5, none, .p (.mv (.t 24))⟩] [1, 4, 5])
  (.seq (.region [⟨some 25, none, .h (.load 25 true (.t 1))⟩,
    ⟨some 26, none, .h (.call (.f 21) [.t 25])⟩,
    ⟨some 6, none, .p (.alloc [.k (C.int .i64 0), .k (C.int .i64 0), .k (C.int .i64 0), .k (C.int .i64 0), .k (C.int .i64 0), .k (C.int .i64 0), .k (C.int .i64 0), .k (C.int .i64 0), .k (C.int .i64 0), .k (C.int .i64 0), .k (C.int .i64 0), .k (C.int .i64 0), .k (C.int .i64 0), .k (C.int .i64 0), .k (C.int .i64 0), .k (C.int .i64 0), .k (C.int .i64 0), .k (C.int .i64 0), .k (C.int .i64 0), .k (C.int .i64 0), .k (C.int .i64 0), .k (C.int .i64 0), .k (C.int .i64 0), .k (C.int .i64 0), .sl 2])⟩,
    ⟨none, none, .h (.store 25 (.t 6) (.t 26))⟩] [1, 4, 5, 6])
  (.seq (.region [⟨some 28, none, .h (.load 25 true (.t 6))⟩,
    ⟨some 29, none, .h (.call (.f 32) [.t 28])⟩,
    ⟨some 27, none, .p (.mv (.t 29))⟩,
    ⟨some 30, none, .p (.ext (.t 27) 0)⟩,
    ⟨some 31, none, .p (.ext (.t 27) 1)⟩,
    ⟨some 7, none, .p (.alloc [.k (C.int .i64 0), .k (C.int .i64 0), .k (C.int .i64 0), .k (C.int .i64 0), .k (C.int .i64 0), .k (C.int .i64 0), .k (C.int .i64 0), .k (C.int .i64 0), .k (C.int .i64 0), .k (C.int .i64 0), .k (C.int .i64 0), .k (C.int .i64 0), .k (C.int .i64 0), .k (C.int .i64 0), .k (C.int .i64 0), .k (C.int .i64 0), .k (C.int .i64 0), .k (C.int .i64 0), .k (C.int .i64 0), .k (C.int .i64 0), .k (C.int .i64 0), .k (C.int .i64 0), .k (C.int .i64 0), .k (C.int .i64 0), .sl 2])⟩,
    ⟨none, none, .h (.store 25 (.t 7) (.t 30))⟩,
    ⟨some 8, none, .p (.mv (.t 31))⟩] [1, 4, 5, 6, 7, 8])
  (.seq (.seq (.region [⟨some 32, none, .h (.load 25 true (.t 7))⟩,
    ⟨some 33, none, .h (.load 25 true (.t 4))⟩,
    ⟨some 34, none, .h (.call (.f 23) [.t 32, .t 33])⟩,
    ⟨some 35, none, .p (.un .not (.t 34))⟩,
    ⟨some 36, none, .p (.mv (.t 35))⟩,
    ⟨some 37, some (36, false), .p (.mv (.t 8))⟩,
    ⟨some 38, some (36, false), .p (.mv (.t 5))⟩,
    ⟨some 39, some (36, false), .p (.eqb true (.t 37) (.t 38))⟩,
    ⟨some 40, none, .p (.pick (.t 36) (.k (.c (C.bool true))) (.t 39))⟩] [1, 4, 5, 6, 7, 8, 40])
  (.cond (.t 40)
  (.seq (.region [⟨some 2, none, .p (.mv (.k (.c (C.bool false))))⟩] [2])
  .ret)
  .skip))
  (.seq (.seq (.regionE [⟨some 41, none, .h (.load 25 true (.t 6))⟩,
    ⟨some 42, none, .h (.load 25 true (.t 1))⟩,
    ⟨some 43, none, .h (.call (.f 21) [.t 42])⟩,
    ⟨some 44, none, .h (.call (.f 23) [.t 41, .t 43])⟩,
    ⟨some 45, none, .p (.un .not (.t 44))⟩] [1, 4, 5, 6, 7, 8, 45] [] [[], [], [], [2]])
  (.cond (.t 45)
  (.seq (.region [⟨some 2, none, .p (.mv (.k (.c (C.bool false))))⟩] [2])
  .ret)
  .skip))
  (.seq (.region [⟨some 9, none, .p (.mv (.k (.c (C.int .i64 1))))⟩] [1, 4, 5, 6, 7, 8, 9])
  (.seq (.region [⟨some 46, none, .h (.load 25 true (.t 6))⟩,
    ⟨some 47, none, .p (.mv (.t 9))⟩,
    ⟨some 48, none, .h (.call (.f 27) [.t 46, .t 47])⟩,
    ⟨some 9, none, .p (.mv (.t 48))⟩] [1, 4, 5, 7, 8, 9])
  (.seq (.seq (.region [⟨some 49, none, .p (.mv (.t 9))⟩,
    ⟨some 50, none, .p (.bin .lss (.t 49) (.k (.c (C.int .i64 0))))⟩,
    ⟨some 51, none, .p (.mv (.t 50))⟩,
    ⟨some 52, some (51, false), .h (.load 25 true (.t 7))⟩,
    ⟨some 53, some (51, false), .h (.load 25 true (.t 4))⟩,
    ⟨some 54, some (51, false), .h (.call (.f 23) [.t 52, .t 53])⟩,
    ⟨some 55, some (51, false), .p (.un .not (.t 54))⟩,
    ⟨some 56, none, .p (.pick (.t 51) (.k (.c (C.bool true))) (.t 55))⟩,
    ⟨some 57, none, .p (.mv (.t 56))⟩,
    ⟨some 58, some (57, false), .p (.mv (.t 8))⟩,
    ⟨some 59, some (57, false), .p (.mv (.t 5))⟩,
    ⟨some 60, some (57, false), .p (.eqb true (.t 58) (.t 59))⟩,
    ⟨some 61, none, .p (.pick (.t 57) (.k (.c (C.bool true))) (.t 60))⟩] [1, 4, 5, 7, 61])
  (.cond (.t 61)
  (.seq (.region [⟨some 2, none, .p (.mv (.k (.c (C.bool false))))⟩] [2])
  .ret)
  .skip))
  (.seq (.region [⟨some 10, none, .p (.mv (.k (.c (C.int .i64 1))))⟩] [1, 4, 5, 7, 10])
  (.seq (.region [⟨some 62, none, .h (.load 25 true (.t 7))⟩,
    ⟨some 63, none, .p (.mv (.t 10))⟩,
    ⟨some 64, none, .h (.call (.f 27) [.t 62, .t 63])⟩,
    ⟨some 10, none, .p (.mv (.t 64))⟩] [1, 4, 5, 7, 10])
  (.seq (.region [⟨some 11, none, .p (.mv (.k (.c (C.int .i64 1))))⟩] [1, 4, 5, 7, 10, 11])
  (.seq (.region [⟨some 65, none, .h (.load 25 true (.t 7))⟩,
    ⟨some 66, none, .p (.mv (.t 11))⟩,
    ⟨some 67, none, .h (.call (.f 28) [.t 65, .t 66])⟩,
    ⟨some 11, none, .p (.mv (.t 67))⟩] [1, 4, 5, 7, 10, 11])
  (.seq (.seq (.region [⟨some 68, none, .p (.mv (.t 11))⟩,
    ⟨some 69, none, .p (.bin .lss (.t 68) (.k (.c (C.int .i64 0))))⟩] [1, 4, 5, 7, 10, 11, 69])
  (.cond (.t 69)
  (.seq (.region [⟨some 2, none, .p (.mv (.k (.c (C.bool false))))⟩] [2])
  .ret)
  .skip))
  (.seq (.seq (.region [⟨some 70, none, .p (.mv (.t 11))⟩,
    ⟨some 71, none, .p (.mv (.t 10))⟩,
    ⟨some 72, none, .p (.bin .neq (.t 70) (.t 71))⟩] [1, 4, 5, 7, 10, 72])
  (.cond (.t 72)
  (.seq (.region [⟨some 2, none, .p (.mv (.k (.c (C.bool false))))⟩] [2])
  .ret)
  .skip))
  (.seq (.region [⟨some 74, none, .h (.load 25 true (.t 1))⟩,
    ⟨some 75, none, .h (.call (.f 21) [.t 74])⟩,
    ⟨some 76, none, .h (.call (.f 32) [.t 75])⟩,
    ⟨some 73, none, .p (.mv (.t 76))⟩,
    ⟨some 77, none, .p (.ext (.t 73) 0)⟩,
    ⟨some 78, none, .p (.ext (.t 73) 1)⟩,
    ⟨some 12, none, .p (.alloc [.k (C.int .i64 0), .k (C.int .i64 0), .k (C.int .i64 0), .k (C.int .i64 0), .k (C.int .i64 0), .k (C.int .i64 0), .k (C.int .i64 0), .k (C.int .i64 0), .k (C.int .i64 0), .k (C.int .i64 0), .k (C.int .i64 0), .k (C.int .i64 0), .k (C.int .i64 0), .k (C.int .i64 0), .k (C.int .i64 0), .k (C.int .i64 0), .k (C.int .i64 0), .k (C.int .i64 0), .k (C.int .i64 0), .k (C.int .i64 0), .k (C.int .i64 0), .k (C.int .i64 0), .k (C.int .i64 0), .k (C.int .i64 0), .sl 2])⟩,
    ⟨none, none, .h (.store 25 (.t 12) (.t 77))⟩,
    ⟨some 13, none, .p (.mv (.t 78))⟩] [4, 5, 7, 10, 12, 13])
  (.seq (.seq (.region [⟨some 79, none, .h (.load 25 true (.t 12))⟩,
    ⟨some 80, none, .h (.load 25 true (.t 4))⟩,
    ⟨some 81, none, .h (.call (.f 23) [.t 79, .t 80])⟩,
    ⟨some 82, none, .p (.un .not (.t 81))⟩,
    ⟨some 83, none, .p (.mv (.t 82))⟩,
    ⟨some 84, some (83, false), .p (.mv (.t 13))⟩,
    ⟨some 85, some (83, false), .p (.mv (.t 5))⟩,
    ⟨some 86, some (83, false), .p (.eqb true (.t 84) (.t 85))⟩,
    ⟨some 87, none, .p (.pick (.t 83) (.k (.c (C.bool true))) (.t 86))⟩] [7, 10, 87])
  (.cond (.t 87)
  (.seq (.region [⟨some 2, none, .p (.mv (.k (.c (C.bool false))))⟩] [2])
  .ret)
  .skip))
  (.seq (.region [⟨some 11, none, .p (.mv (.k (.c (C.int .i64 1))))⟩] [7, 10, 11])
  (.seq (.region [⟨some 88, none, .h (.load 25 true (.t 7))⟩,
    ⟨some 89, none, .p (.mv (.t 11))⟩,
    ⟨some 90, none, .h (.call (.f 28) [.t 88, .t 89])⟩,
    ⟨some 11, none, .p (.mv (.t 90))⟩] [10, 11])
  (.seq (.seq (.region [⟨some 91, none, .p (.mv (.t 11))⟩,
    ⟨some 92, none, .p (.bin .lss (.t 91) (.k (.c (C.int .i64 0))))⟩] [10, 11, 92])
  (.cond (.t 92)
  (.seq (.region [⟨some 2, none, .p (.mv (.k (.c (C.bool false))))⟩] [2])
  .ret)
  .skip))
  (.seq (.seq (.region [⟨some 93, none, .p (.mv (.t 11))⟩,
    ⟨some 94, none, .p (.mv (.t 10))⟩,
    ⟨some 95, none, .p (.bin .neq (.t 93) (.t 94))⟩] [95])
  (.cond (.t 95)
  (.seq (.region [⟨some 2, none, .p (.mv (.k (.c (C.bool false))))⟩] [2])
  .ret)
  .skip))
  (.seq (.region [⟨some 2, none, .p (.mv (.k (.c (C.bool true))))⟩] [2])
  .ret))))))))))))))))))))))))) }
theorem a7_ok : okFn Try.prog 7 a7 = true := by kernel_rfl
/-- loop.example/g01215/laws.FnExactCutLoops -/
def a8 : AFn := { np := 1, nt := 96, res := [.t 2], body :=
  (.seq (.region [⟨some 1, none, .p (.box 25 (.t 0))⟩,
    ⟨some 2, none, .p (.mv (.k (.c (C.bool false))))⟩] [1])
  (.seq (.region [⟨some 3, none, .p (.mv (.k (.c (C.int .i64 1048576))))⟩] [1, 3])
  (.seq (.region [⟨some 14, none, .h (.load 25 true (.t 1))⟩,
    ⟨some 15, none, .p (.mv (.t 3))⟩,
    ⟨some 16, none, .h (.call (.f 19) [.t 14, .t 15])⟩,
    ⟨some 3, none, .p (.mv (.t 16))⟩] [1, 3])
  (.seq (.seq (.region [⟨some 17, none, .p (.mv (.t 3))⟩,
    ⟨some 18, none, .p (.bin .lss (.t 17) (.k (.c (C.int .i64 0))))⟩] [1, 18])
  (.cond (.t 18)
  (.seq (.region [⟨some 2, none, .p (.mv (.k (.c (C.bool true))))⟩] [2])
  .ret)
  .skip))
  (.seq (.region [⟨some 20, none, .h (.load 25 true (.t 1))⟩,
    ⟨some 21, none, .h (.call (.f 21) [.t 20])⟩,
    ⟨some 22, none, .h (.call (.f 33) [.t 21])⟩,
    ⟨some 19, none, .p (.mv (.t 22))⟩,
    ⟨some 23, none, .p (.ext (.t 19) 0)⟩,
    ⟨some 24, none, .p (.ext (.t 19) 1)⟩,
    ⟨some 4, none, .p (.alloc [.k (C.int .i64 0), .k (C.int .i64 0), .k (C.int .i64 0), .k (C.int .i64 0), .k (C.int .i64 0), .k (C.int .i64 0), .k (C.int .i64 0), .k (C.int .i64 0), .k (C.int .i64 0), .k (C.int .i64 0), .k (C.int .i64 0), .k (C.int .i64 0), .k (C.int .i64 0), .k (C.int .i64 0), .k (C.int .i64 0), .k (C.int .i64 0), .k (C.int .i64 0), .k (C.int .i64 0), .k (C.int .i64 0), .k (C.int .i64 0), .k (C.int .i64 0), .k (C.int .i64 0), .k (C.int .i64 0), .k (C.int .i64 0), .sl 2])⟩,
    ⟨none, none, .h (.store 25 (.t 4) (.t 23))⟩,
    ⟨some 5, none, .p (.mv (.t 24))⟩] [1, 4, 5])
  (.seq (.region [⟨some 25, none, .h (.load 25 true (.t 1))⟩,
    ⟨some 26, none, .h (.call (.f 21) [.t 25])⟩,
    ⟨some 6, none, .p (.alloc [.k (C.int .i64 0), .k (C.int .i64 0), .k (C.int .i64 0), .k (C.int .i64 0), .k (C.int .i64 0), .k (C.int .i64 0), .k (C.int .i64 0), .k (C.int .i64 0), .k (C.int .i64 0), .k (C.int .i64 0), .k (C.int .i64 0), .k (C.int .i64 0), .k (C.int .i64 0), .k (C.int .i64 0), .k (C.int .i64 0), .k (C.int .i64 0), .k (C.int .i64 0), .k (C.int .i64 0), .k (C.int .i64 0), .k (C.int .i64 0), .k (C.int .i64 0), .k (C.int .i64 0), .k (C.int .i64 0), .k (C.int .i64 0), .sl 2])⟩,
    ⟨none, none, .h (.store 25 (.t 6) (.t 26))⟩] [1, 4, 5, 6])
  (.seq (.region [⟨some 28, none, .h (.load 25 true (.t 6))⟩,
    ⟨some 29, none, .h (.call (.f 34) [.t 28])⟩,
    ⟨some 27, none, .p (.mv (.t 29))⟩,
    ⟨some 30, none, .p (.ext (.t 27) 0)⟩,
    ⟨some 31, none, .p (.ext (.t 27) 1)⟩,
    ⟨some 7, none, .p (.alloc [.k (C.int .i64 0), .k (C.int .i64 0), .k (C.int .i64 0), .k (C.int .i64 0), .k (C.int .i64 0), .k (C.int .i64 0), .k (C.int .i64 0), .k (C.int .i64 0), .k (C.int .i64 0), .k (C.int .i64 0), .k (C.int .i64 0), .k (C.int .i64 0), .k (C.int .i64 0), .k (C.int .i64 0), .k (C.int .i64 0), .k (C.int .i64 0), .k (C.int .i64 0), .k (C.int .i64 0), .k (C.int .i64 0), .k (C.int .i64 0), .k (C.int .i64 0), .k (C.int .i64 0), .k (C.int .i64 0), .k (C.int .i64 0), .sl 2])⟩,
    ⟨none, none, .h (.store 25 (.t 7) (.t 30))⟩,
    ⟨some 8, none, .p (.mv (.t 31))⟩] [1, 4, 5, 6, 7, 8])
  (.seq (.seq (.region [⟨some 32, none, .h (.load 25 true (.t 7))⟩,
    ⟨some 33, none, .h (.load 25 true (.t 4))⟩,
    ⟨some 34, none, .h (.call (.f 23) [.t 32, .t 33])⟩,
    ⟨some 35, none, .p (.un .not (.t 34))⟩,
    ⟨some 36, none, .p (.mv (.t 35))⟩,
    ⟨some 37, some (36, false), .p (.mv (.t 8))⟩,
    ⟨some 38, some (36, false), .p (.mv (.t 5))⟩,
    ⟨some 39, some (36, false), .p (.eqb true (.t 37) (.t 38))⟩,
    ⟨some 40, none, .p (.pick (.t 36) (.k (.c (C.bool true))) (.t 39))⟩] [1, 4, 5, 6, 7, 8, 40])
  (.cond (.t 40)
  (.seq (.region [⟨some 2, none, .p (.mv (.k (.c (C.bool false))))⟩] [2])
  .ret)
  .skip))
  (.seq (.seq (.regionE [⟨some 41, none, .h (.load 25 true (.t 6))⟩,
    ⟨some 42, none, .h (.load 25 true (.t 1))⟩,
    ⟨some 43, none, .h (.call (.f 21) [.t 42])⟩,
    ⟨some 44, none, .h (.call (.f 23) [.t 41, .t 43])⟩,
    ⟨some 45, none, .p (.un .not (.t 44))⟩] [1, 4, 5, 6, 7, 8, 45] [] [[], [], [], [2]])
  (.cond (.t 45)
  (.seq (.region [⟨some 2, none, .p (.mv (.k (.c (C.bool false))))⟩] [2])
  .ret)
  .skip))
  (.seq (.region [⟨some 9, none, .p (.mv (.k (.c (C.int .i64 1))))⟩] [1, 4, 5, 6, 7, 8, 9])
  (.seq (.region [⟨some 46, none, .h (.load 25 true (.t 6))⟩,
    ⟨some 47, none, .p (.mv (.t 9))⟩,
    ⟨some 48, none, .h (.call (.f 27) [.t 46, .t 47])⟩,
    ⟨some 9, none, .p (.mv (.t 48))⟩] [1, 4, 5, 7, 8, 9])
  (.seq (.seq (.region [⟨some 49, none, .p (.mv (.t 9))⟩,
    ⟨some 50, none, .p (.bin .lss (.t 49) (.k (.c (C.int .i64 0))))⟩,
    ⟨some 51, none, .p (.mv (.t 50))⟩,
    ⟨some 52, some (51, false), .h (.load 25 true (.t 7))⟩,
    ⟨some 53, some (51, false), .h (.load 25 true (.t 4))⟩,
    ⟨some 54, some (51, false), .h (.call (.f 23) [.t 52, .t 53])⟩,
    ⟨some 55, some (51, false), .p (.un .not (.t 54))⟩,
    ⟨some 56, none, .p (.pick (.t 51) (.k (.c (C.bool true))) (.t 55))⟩,
    ⟨some 57, none, .p (.mv (.t 56))⟩,
    ⟨some 58, some (57, false), .p (.mv (.t 8))⟩,
    ⟨some 59, some (57, false), .p (.mv (.t 5))⟩,
    ⟨some 60, some (57, false), .p (.eqb true (.t 58) (.t 59))⟩,
    ⟨some 61, none, .p (.pick (.t 57) (.k (.c (C.bool true))) (.t 60))⟩] [1, 4, 5, 7, 61])
  (.cond (.t 61)
  (.seq (.region [⟨some 2, none, .p (.mv (.k (.c (C.bool false))))⟩] [2])
  .ret)
  .skip))
  (.seq (.region [⟨some 10, none, .p (.mv (.k (.c (C.int .i64 1))))⟩] [1, 4, 5, 7, 10])
  (.seq (.region [⟨some 62, none, .h (.load 25 true (.t 7))⟩,
    ⟨some 63, none, .p (.mv (.t 10))⟩,
    ⟨some 64, none, .h (.call (.f 27) [.t 62, .t 63])⟩,
    ⟨some 10, none, .p (.mv (.t 64))⟩] [1, 4, 5, 7, 10])
  (.seq (.region [⟨some 11, none, .p (.mv (.k (.c (C.int .i64 1))))⟩] [1, 4, 5, 7, 10, 11])
  (.seq (.region [⟨some 65, none, .h (.load 25 true (.t 7))⟩,
    ⟨some 66, none, .p (.mv (.t 11))⟩,
    ⟨some 67, none, .h (.call (.f 28) [.t 65, .t 66])⟩,
    ⟨some 11, none, .p (.mv (.t 67))⟩] [1, 4, 5, 7, 10, 11])
  (.seq (.seq (.region [⟨some 68, none, .p (.mv (.t 11))⟩,
    ⟨some 69, none, .p (.bin .lss (.t 68) (.k (.c (C.int .i64 0))))⟩] [1, 4, 5, 7, 10, 11, 69])
  (.cond (.t 69)
  (.seq (.region [⟨some 2, none, .p (.mv (.k (.c (C.bool false))))⟩] [2])
  .ret)
  .skip))
  (.seq (.seq (.region [⟨some 70, none, .p (.mv (.t 11))⟩,
    ⟨some 71, none, .p (.mv (.t 10))⟩,
    ⟨some 72, none, .p (.bin .neq (.t 70) (.t 71))⟩] [1, 4, 5, 7, 10, 72])
  (.cond (.t 72)
  (.seq (.region [⟨some 2, none, .p (.mv (.k (.c (C.bool false))))⟩] [2])
  .ret)
  .skip))
  (.seq (.region [⟨some 74, none, .h (.load 25 true (.t 1))⟩,
    ⟨some 75, none, .h (.call (.f 21) [.t 74])⟩,
    ⟨some 76, none, .h (.call (.f 34) [.t 75])⟩,
    ⟨some 73, none, .p (.mv (.t 76))⟩,
    ⟨some 77, none, .p (.ext (.t 73) 0)⟩,
    ⟨some 78, none, .p (.ext (.t 73) 1)⟩,
    ⟨some 12, none, .p (.alloc [.k (C.int .i64 0), .k (C.int .i64 0), .k (C.int .i64 0), .k (C.int .i64 0), .k (C.int .i64 0), .k (C.int .i64 0), .k (C.int .i64 0), .k (C.int .i64 0), .k (C.int .i64 0), .k (C.int .i64 0), .k (C.int .i64 0), .k (C.int .i64 0), .k (C.int .i64 0), .k (C.int .i64 0), .k (C.int .i64 0), .k (C.int .i64 0), .k (C.int .i64 0), .k (C.int .i64 0), .k (C.int .i64 0), .k (C.int .i64 0), .k (C.int .i64 0), .k (C.int .i64 0), .k (C.int .i64 0), .k (C.int .i64 0), .sl 2])⟩,
    ⟨none, none, .h (.store 25 (.t 12) (.t 77))⟩,
    ⟨some 13, none, .p (.mv (.t 78))⟩] [4, 5, 7, 10, 12, 13])
  (.seq (.seq (.region [⟨some 79, none, .h (.load 25 true (.t 12))⟩,
    ⟨some 80, none, .h (.load 25 true (.t 4))⟩,
    ⟨some 81, none, .h (.call (.f 23) [.t 79, .t 80])⟩,
    ⟨some 82, none, .p (.un .not (.t 81))⟩,
    ⟨some 83, none, .p (.mv (.t 82))⟩,
    ⟨some 84, some (83, false), .p (.mv (.t 13))⟩,
    ⟨some 85, some (83, false), .p (.mv (.t 5))⟩,
    ⟨some 86, some (83, false), .p (.eqb true (.t 84) (.t 85))⟩,
    ⟨some 87, none, .p (.pick (.t 83) (.k (.c (C.bool true))) (.t 86))⟩] [7, 10, 87])
  (.cond (.t 87)
  (.seq (.region [⟨some 2, none, .p (.mv (.k (.c (C.bool false))))⟩] [2])
  .ret)
  .skip))
  (.seq (.region [⟨some 11, none, .p (.mv (.k (.c (C.int .i64 1))))⟩] [7, 10, 11])
  (.seq (.region [⟨some 88, none, .h (.load 25 true (.t 7))⟩,
    ⟨some 89, none, .p (.mv (.t 11))⟩,
    ⟨some 90, none, .h (.call (.f 28) [.t 88, .t 89])⟩,
    ⟨some 11, none, .p (.mv (.t 90))⟩] [10, 11])
  (.seq (.seq (.region [⟨some 91, none, .p (.mv (.t 11))⟩,
    ⟨some 92, none, .p (.bin .lss (.t 91) (.k (.c (C.int .i64 0))))⟩] [10, 11, 92])
  (.cond (.t 92)
  (.seq (.region [⟨some 2, none, .p (.mv (.k (.c (C.bool false))))⟩] [2])
  .ret)
  .skip))
  (.seq (.seq (.region [⟨some 93, none, .p (.mv (.t 11))⟩,
    ⟨some 94, none, .p (.mv (.t 10))⟩,
    ⟨some 95, none, .p (.bin .neq (.t 93) (.t 94))⟩] [95])
  (.cond (.t 95)
  (.seq (.region [⟨some 2, none, .p (.mv (.k (.c (C.bool false))))⟩] [2])
  .ret)
  .skip))
  (.seq (.region [⟨some 2, none, .p (.mv (.k (.c (C.bool true))))⟩] [2])
  .ret))))))))))))))))))))))))) }
theorem a8_ok : okFn Try.prog 8 a8 = true := by kernel_rfl
/-- loop.example/g01215/laws.FnEndGames -/
def a10 : AFn := { np := 1, nt := 274, res := [.t 2], body :=
  (.seq (.region [⟨some 2, none, .p (.mv (.k (.c (C.bool false))))⟩] [0])
  (.seq (.seq (.region [⟨some 35, none, .p (.mv (.t 0))⟩,
    ⟨some 36, none, .h (.call (.f 50) [.t 35])⟩] [0, 36])
  (.cond (.t 36)
  (.seq (.region [⟨some 2, none, .p (.mv (.k (.c (C.bool true))))⟩] [2])
  .ret)
  .skip))
  (.seq (.region [⟨some 38, none, .p (.mv (.t 0))⟩,
    ⟨some 39, none, .h (.call (.f 51) [.t 38])⟩,
    ⟨some 37, none, .p (.mv (.t 39))⟩,
    ⟨some 40, none, .p (.ext (.t 37) 0)⟩,
    ⟨some 41, none, .p (.ext (.t 37) 1)⟩,
    ⟨some 3, none, .p (.alloc (List.replicate 24 (.k (C.int .i64 0))))⟩,
    ⟨none, none, .h (.store 24 (.t 3) (.t 40))⟩,
    ⟨some 4, none, .p (.mv (.t 41))⟩] [3, 4])
  (.seq (.region [⟨some 43, none, .h (.load 24 true (.t 3))⟩,
    ⟨some 44, none, .p (.mv (.t 4))⟩,
    ⟨some 45, none, .h (.call (.f 52) [.t 43, .t 44])⟩,
    ⟨some 42, none, .p (.mv (.t 45))⟩,
    ⟨some 46, none, .p (.ext (.t 42) 0)⟩,
    ⟨some 47, none, .p (.ext (.t 42) 1)⟩,
    ⟨some 5, none, .p (.mv (.t 46))⟩,
    ⟨some 6, none, .p (.mv (.t 47))⟩] [3, 4, 5, 6])
  (.seq (.seq (.region [⟨some 49, none, .h (.load 24 true (.t 3))⟩,
    ⟨some 50, none, .p (.mv (.t 4))⟩,
    ⟨some 51, none, .h (.call (.f 53) [.t 49, .t 50])⟩,
    ⟨some 48, none, .p (.mv (.t 51))⟩,
    ⟨some 52, none, .p (.ext (.t 48) 0)⟩,
    ⟨some 53, none, .p (.ext (.t 48) 1)⟩,
    ⟨some 7, none, .p (.mv (.t 52))⟩,
    ⟨some 8, none, .p (.mv (.t 53))⟩] [3, 4, 5, 6, 7, 8])
  (.seq (.region [⟨some 54, none, .p (.mv (.t 5))⟩,
    ⟨some 55, none, .p (.mv (.t 7))⟩,
    ⟨some 56, none, .p (.bin .neq (.t 54) (.t 55))⟩,
    ⟨some 57, none, .p (.mv (.t 56))⟩,
    ⟨some 58, some (57, false), .p (.mv (.t 6))⟩,
    ⟨some 59, some (57, false), .p (.mv (.t 8))⟩,
    ⟨some 60, some (57, false), .p (.eqb true (.t 58) (.t 59))⟩,
    ⟨some 61, none, .p (.pick (.t 57) (.k (.c (C.bool true))) (.t 60))⟩,
    ⟨some 62, none, .p (.mv (.t 61))⟩,
    ⟨some 63, some (62, false), .p (.mv (.t 6))⟩,
    ⟨some 64, some (62, false), .p (.mv (.t 63))⟩,
    ⟨some 65, some (64, true), .p (.mv (.t 5))⟩,
    ⟨some 66, some (64, true), .p (.bin .lss (.t 65) (.k (.c (C.int .i64 (-1)))))⟩,
    ⟨some 67, some (64, true), .p (.mv (.t 66))⟩,
    ⟨some 68, some (67, false), .p (.mv (.t 5))⟩,
    ⟨some 69, some (67, false), .p (.bin .gtr (.t 68) (.k (.c (C.int .i64 1))))⟩,
    ⟨some 70, some (64, true), .p (.pick (.t 67) (.k (.c (C.bool true))) (.t 69))⟩,
    ⟨some 71, some (62, false), .p (.pick (.t 64) (.t 70) (.k (.c (C.bool false))))⟩,
    ⟨some 72, none, .p (.pick (.t 62) (.k (.c (C.bool true))) (.t 71))⟩] [3, 4, 5, 6, 72])
  (.cond (.t 72)
  (.seq (.region [⟨some 2, none, .p (.mv (.k (.c (C.bool false))))⟩] [2])
  .ret)
  .skip)))
  (.seq (.region [⟨some 74, none, .h (.load 24 true (.t 3))⟩,
    ⟨some 75, none, .p (.mv (.t 4))⟩,
    ⟨some 76, none, .h (.call (.f 54) [.t 74, .t 75])⟩,
    ⟨some 73, none, .p (.mv (.t 76))⟩,
    ⟨some 77, none, .p (.ext (.t 73) 0)⟩,
    ⟨some 78, none, .p (.ext (.t 73) 1)⟩,
    ⟨some 9, none, .p (.mv (.t 77))⟩,
    ⟨some 10, none, .p (.mv (.t 78))⟩] [3, 4, 5, 6, 9, 10])
  (.seq (.seq (.region [⟨some 80, none, .h (.load 24 true (.t 3))⟩,
    ⟨some 81, none, .p (.mv (.t 4))⟩,
    ⟨some 82, none, .h (.call (.f 55) [.t 80, .t 81])⟩,
    ⟨some 79, none, .p (.mv (.t 82))⟩,
    ⟨some 83, none, .p (.ext (.t 79) 0)⟩,
    ⟨some 84, none, .p (.ext (.t 79) 1)⟩,
    ⟨some 11, none, .p (.mv (.t 83))⟩,
    ⟨some 12, none, .p (.mv (.t 84))⟩] [3, 4, 5, 6, 9, 10, 11, 12])
  (.seq (.region [⟨some 85, none, .p (.mv (.t 10))⟩,
    ⟨some 86, none, .p (.mv (.t 12))⟩,
    ⟨some 87, none, .p (.eqb true (.t 85) (.t 86))⟩,
    ⟨some 88, none, .p (.mv (.t 87))⟩,
    ⟨some 89, some (88, false), .p (.mv (.t 9))⟩,
    ⟨some 90, some (88, false), .p (.mv (.t 11))⟩,
    ⟨some 91, some (88, false), .h (.call (.f 56) [.t 89, .t 90])⟩,
    ⟨some 92, some (88, false), .p (.un .not (.t 91))⟩,
    ⟨some 93, none, .p (.pick (.t 88) (.k (.c (C.bool true))) (.t 92))⟩] [3, 4, 5, 6, 9, 10, 93])
  (.cond (.t 93)
  (.seq (.region [⟨some 2, none, .p (.mv (.k (.c (C.bool false))))⟩] [2])
  .ret)
  .skip)))
  (.seq (.region [⟨some 95, none, .h (.load 24 true (.t 3))⟩,
    ⟨some 96, none, .h (.call (.f 57) [.t 95])⟩,
    ⟨some 94, none, .p (.mv (.t 96))⟩,
    ⟨some 97, none, .p (.ext (.t 94) 0)⟩,
    ⟨some 98, none, .p (.ext (.t 94) 1)⟩,
    ⟨some 13, none, .p (.mv (.t 97))⟩,
    ⟨some 14, none, .p (.mv (.t 98))⟩] [3, 4, 5, 6, 9, 10, 13, 14])
  (.seq (.seq (.region [⟨some 100, none, .h (.load 24 true (.t 3))⟩,
    ⟨some 101, none, .h (.call (.f 58) [.t 100])⟩,
    ⟨some 99, none, .p (.mv (.t 101))⟩,
    ⟨some 102, none, .p (.ext (.t 99) 0)⟩,
    ⟨some 103, none, .p (.ext (.t 99) 1)⟩,
    ⟨some 15, none, .p (.mv (.t 102))⟩,
    ⟨some 16, none, .p (.mv (.t 103))⟩] [3, 4, 5, 6, 9, 10, 13, 14, 15, 16])
  (.seq (.region [⟨some 104, none, .p (.mv (.t 13))⟩,
    ⟨some 105, none, .p (.mv (.t 15))⟩,
    ⟨some 106, none, .p (.eqb true (.t 104) (.t 105))⟩,
    ⟨some 107, none, .p (.mv (.t 106))⟩,
    ⟨some 108, some (107, false), .p (.mv (.t 14))⟩,
    ⟨some 109, some (107, false), .p (.mv (.t 16))⟩,
    ⟨some 110, some (107, false), .p (.eqb true (.t 108) (.t 109))⟩,
    ⟨some 111, none, .p (.pick (.t 107) (.k (.c (C.bool true))) (.t 110))⟩,
    ⟨some 112, none, .p (.mv (.t 111))⟩,
    ⟨some 113, some (112, false), .p (.mv (.t 14))⟩,
    ⟨some 114, some (112, false), .h (.load 24 true (.t 3))⟩,
    ⟨some 115, some (112, false), .h (.call (.f 59) [.t 114])⟩,
    ⟨some 116, some (112, false), .p (.eqb true (.t 113) (.t 115))⟩,
    ⟨some 117, none, .p (.pick (.t 112) (.k (.c (C.bool true))) (.t 116))⟩] [3, 4, 5, 6, 9, 10, 13, 14, 117])
  (.cond (.t 117)
  (.seq (.region [⟨some 2, none, .p (.mv (.k (.c (C.bool false))))⟩] [2])
  .ret)
  .skip)))
  (.seq (.region [⟨some 119, none, .h (.load 24 true (.t 3))⟩,
    ⟨some 120, none, .h (.call (.f 60) [.t 119])⟩,
    ⟨some 118, none, .p (.mv (.t 120))⟩,
    ⟨some 121, none, .p (.ext (.t 118) 0)⟩,
    ⟨some 122, none, .p (.ext (.t 118) 1)⟩,
    ⟨some 17, none, .p (.mv (.t 121))⟩,
    ⟨some 18, none, .p (.mv (.t 122))⟩] [3, 4, 5, 6, 9, 10, 13, 14, 17, 18])
  (.seq (.seq (.region [⟨some 124, none, .h (.load 24 true (.t 3))⟩,
    ⟨some 125, none, .h (.call (.f 61) [.t 124])⟩,
    ⟨some 123, none, .p (.mv (.t 125))⟩,
    ⟨some 126, none, .p (.ext (.t 123) 0)⟩,
    ⟨some 127, none, .p (.ext (.t 123) 1)⟩,
    ⟨some 19, none, .p (.mv (.t 126))⟩,
    ⟨some 20, none, .p (.mv (.t 127))⟩] [3, 4, 5, 6, 9, 10, 13, 14, 17, 18, 19, 20])
  (.seq (.region [⟨some 128, none, .p (.mv (.t 18))⟩,
    ⟨some 129, none, .p (.mv (.t 20))⟩,
    ⟨some 130, none, .p (.eqb true (.t 128) (.t 129))⟩,
    ⟨some 131, none, .p (.mv (.t 130))⟩,
    ⟨some 132, some (131, false), .p (.mv (.t 18))⟩,
    ⟨some 133, some (131, false), .p (.mv (.t 14))⟩,
    ⟨some 134, some (131, false), .p (.eqb true (.t 132) (.t 133))⟩,
    ⟨some 135, none, .p (.pick (.t 131) (.k (.c (C.bool true))) (.t 134))⟩,
    ⟨some 136, none, .p (.mv (.t 135))⟩,
    ⟨some 137, some (136, false), .p (.mv (.t 17))⟩,
    ⟨some 138, some (136, false), .p (.mv (.t 19))⟩,
    ⟨some 139, some (136, false), .h (.call (.f 62) [.t 137, .t 138])⟩,
    ⟨some 140, some (136, false), .p (.un .not (.t 139))⟩,
    ⟨some 141, none, .p (.pick (.t 136) (.k (.c (C.bool true))) (.t 140))⟩] [3, 4, 5, 6, 9, 10, 13, 14, 17, 141])
  (.cond (.t 141)
  (.seq (.region [⟨some 2, none, .p (.mv (.k (.c (C.bool false))))⟩] [2])
  .ret)
  .skip)))
  (.seq (.seq (.region [⟨some 142, none, .p (.mv (.t 6))⟩,
    ⟨some 143, none, .p (.mv (.t 142))⟩,
    ⟨some 144, some (143, true), .p (.mv (.t 4))⟩,
    ⟨some 145, some (143, true), .p (.bin .eql (.t 144) (.k (.c (C.int .i64 0))))⟩,
    ⟨some 146, some (143, true), .p (.mv (.t 145))⟩,
    ⟨some 147, some (146, true), .p (.mv (.t 5))⟩,
    ⟨some 148, some (146, true), .p (.bin .neq (.t 147) (.k (.c (C.int .i64 0))))⟩,
    ⟨some 149, some (143, true), .p (.pick (.t 146) (.t 148) (.k (.c (C.bool false))))⟩,
    ⟨some 150, some (143, true), .p (.mv (.t 149))⟩,
    ⟨some 151, some (150, false), .p (.mv (.t 4))⟩,
    ⟨some 152, some (150, false), .p (.bin .gtr (.t 151) (.k (.c (C.int .i64 0))))⟩,
    ⟨some 153, some (150, false), .p (.mv (.t 152))⟩,
    ⟨some 154, some (153, true), .p (.mv (.t 13))⟩,
    ⟨some 155, some (150, false), .p (.pick (.t 153) (.t 154) (.k (.c (C.bool false))))⟩,
    ⟨some 156, some (150, false), .p (.mv (.t 155))⟩,
    ⟨some 157, some (156, true), .p (.mv (.t 5))⟩,
    ⟨some 158, some (156, true), .p (.bin .neq (.t 157) (.k (.c (C.int .i64 (-1)))))⟩,
    ⟨some 159, some (150, false), .p (.pick (.t 156) (.t 158) (.k (.c (C.bool false))))⟩,
    ⟨some 160, some (143, true), .p (.pick (.t 150) (.k (.c (C.bool true))) (.t 159))⟩,
    ⟨some 161, none, .p (.pick (.t 143) (.t 160) (.k (.c (C.bool false))))⟩] [3, 4, 5, 9, 10, 13, 14, 17, 161])
  (.cond (.t 161)
  (.seq (.region [⟨some 2, none, .p (.mv (.k (.c (C.bool false))))⟩] [2])
  .ret)
  .skip))
  (.seq (.seq (.region [⟨some 162, none, .p (.mv (.t 10))⟩] [3, 4, 5, 9, 13, 14, 17, 162])
  (.cond (.t 162)
  (.seq (.seq (.region [⟨some 163, none, .p (.mv (.t 13))⟩,
    ⟨some 164, none, .p (.mv (.t 9))⟩,
    ⟨some 165, none, .p (.len (.t 164))⟩,
    ⟨some 166, none, .p (.bin .eql (.t 165) (.k (.c (C.int .i64 0))))⟩,
    ⟨some 167, none, .p (.eqb true (.t 163) (.t 166))⟩] [3, 4, 5, 9, 13, 14, 17, 167])
  (.cond (.t 167)
  (.seq (.region [⟨some 2, none, .p (.mv (.k (.c (C.bool false))))⟩] [2])
  .ret)
  .skip))
  (.seq (.region [⟨some 21, none, .p (.mv (.k (.c (C.int .i64 0))))⟩] [3, 4, 5, 9, 13, 14, 17, 21])
  (.block 0 (.loop (.seq (.seq (.region [⟨some 168, none, .p (.mv (.t 21))⟩,
    ⟨some 169, none, .p (.mv (.t 9))⟩,
    ⟨some 170, none, .p (.len (.t 169))⟩,
    ⟨some 171, none, .p (.bin .lss (.t 168) (.t 170))⟩] [3, 4, 5, 9, 13, 14, 17, 21, 171])
  (.cond (.t 171)
  .skip
  (.exit 0)))
  (.seq (.block 1 (.seq (.regionD [⟨some 175, none, .h (.load 24 true (.t 3))⟩,
    ⟨some 176, none, .p (.mv (.t 9))⟩,
    ⟨some 177, none, .p (.mv (.t 21))⟩,
    ⟨some 178, none, .p (.ixS 2 (.t 176) (.t 177))⟩,
    ⟨some 179, none, .p (.ixA 2 1 (.t 178) (.k (.c (C.int .i64 0))))⟩,
    ⟨some 180, none, .h (.load 1 false (.t 179))⟩,
    ⟨some 181, none, .p (.mv (.t 9))⟩,
    ⟨some 182, none, .p (.mv (.t 21))⟩,
    ⟨some 183, none, .p (.ixS 2 (.t 181) (.t 182))⟩,
    ⟨some 184, none, .p (.ixA 2 1 (.t 183) (.k (.c (C.int .i64 1))))⟩,
    ⟨some 185, none, .h (.load 1 false (.t 184))⟩,
    ⟨some 186, none, .h (.call (.f 63) [.t 175, .t 180, .t 185])⟩,
    ⟨some 174, none, .p (.mv (.t 186))⟩,
    ⟨some 187, none, .p (.ext (.t 174) 0)⟩,
    ⟨some 188, none, .p (.ext (.t 174) 1)⟩,
    ⟨some 189, none, .p (.ext (.t 174) 2)⟩,
    ⟨some 22, none, .p (.alloc (List.replicate 24 (.k (C.int .i64 0))))⟩,
    ⟨none, none, .h (.store 24 (.t 22) (.t 187))⟩,
    ⟨some 23, none, .p (.mv (.t 188))⟩,
    ⟨some 24, none, .p (.mv (.t 189))⟩] [3, 4, 5, 9, 13, 14, 17, 21, 22, 24] [])
  (.seq (.region [⟨some 191, none, .h (.load 24 true (.t 22))⟩,
    ⟨some 192, none, .p (.mv (.t 4))⟩,
    ⟨some 193, none, .p (.bin .sub (.t 192) (.k (.c (C.int .i64 1))))⟩,
    ⟨some 194, none, .h (.call (.f 52) [.t 191, .t 193])⟩,
    ⟨some 190, none, .p (.mv (.t 194))⟩,
    ⟨some 195, none, .p (.ext (.t 190) 0)⟩,
    ⟨some 196, none, .p (.ext (.t 190) 1)⟩,
    ⟨some 25, none, .p (.mv (.t 195))⟩,
    ⟨some 26, none, .p (.mv (.t 196))⟩] [3, 4, 5, 9, 13, 14, 17, 21, 24, 25, 26])
  (.seq (.region [⟨some 197, none, .p (.mv (.t 24))⟩,
    ⟨some 198, none, .p (.un .not (.t 197))⟩,
    ⟨some 199, none, .p (.mv (.t 198))⟩,
    ⟨some 200, some (199, false), .p (.mv (.t 26))⟩,
    ⟨some 201, some (199, false), .p (.un .not (.t 200))⟩,
    ⟨some 202, none, .p (.pick (.t 199) (.k (.c (C.bool true))) (.t 201))⟩,
    ⟨some 203, none, .p (.mv (.t 202))⟩,
    ⟨some 204, some (203, false), .p (.mv (.t 25))⟩,
    ⟨some 205, some (203, false), .p (.un .neg (.t 204))⟩,
    ⟨some 206, some (203, false), .p (.mv (.t 5))⟩,
    ⟨some 207, some (203, false), .p (.bin .neq (.t 205) (.t 206))⟩,
    ⟨some 208, none, .p (.pick (.t 203) (.k (.c (C.bool true))) (.t 207))⟩] [3, 4, 5, 9, 13, 14, 17, 21, 208])
  (.cond (.t 208)
  (.seq (.region [⟨some 2, none, .p (.mv (.k (.c (C.bool false))))⟩] [2])
  .ret)
  .skip)))))
  (.region [⟨some 172, none, .p (.mv (.t 21))⟩,
    ⟨some 173, none, .p (.bin .add (.t 172) (.k (.c (C.int .i64 1))))⟩,
    ⟨some 21, none, .p (.mv (.t 173))⟩] [3, 4, 5, 9, 13, 14, 17, 21]))) [3, 4, 5, 9, 13, 14, 17, 21]))))
  .skip))
  (.seq (.seq (.region [⟨some 209, none, .p (.mv (.t 14))⟩,
    ⟨some 210, none, .p (.un .not (.t 209))⟩] [3, 13, 17, 210])
  (.cond (.t 210)
  (.seq (.region [⟨some 2, none, .p (.mv (.k (.c (C.bool true))))⟩] [2])
  .ret)
  .skip))
  (.seq (.region [⟨some 212, none, .h (.load 24 true (.t 3))⟩,
    ⟨some 213, none, .h (.call (.f 64) [.t 212])⟩,
    ⟨some 211, none, .p (.mv (.t 213))⟩,
    ⟨some 214, none, .p (.ext (.t 211) 0)⟩,
    ⟨some 215, none, .p (.ext (.t 211) 1)⟩,
    ⟨some 27, none, .p (.mv (.t 214))⟩,
    ⟨some 28, none, .p (.mv (.t 215))⟩] [3, 13, 17, 27, 28])
  (.seq (.seq (.region [⟨some 216, none, .p (.mv (.t 28))⟩,
    ⟨some 217, none, .p (.un .not (.t 216))⟩,
    ⟨some 218, none, .p (.mv (.t 217))⟩,
    ⟨some 219, some (218, false), .p (.mv (.t 13))⟩,
    ⟨some 220, some (218, false), .p (.mv (.t 27))⟩,
    ⟨some 221, some (218, false), .p (.len (.t 220))⟩,
    ⟨some 222, some (218, false), .p (.bin .eql (.t 221) (.k (.c (C.int .i64 0))))⟩,
    ⟨some 223, some (218, false), .p (.eqb true (.t 219) (.t 222))⟩,
    ⟨some 224, none, .p (.pick (.t 218) (.k (.c (C.bool true))) (.t 223))⟩,
    ⟨some 225, none, .p (.mv (.t 224))⟩,
    ⟨some 226, some (225, false), .p (.mv (.t 17))⟩,
    ⟨some 227, some (225, false), .p (.len (.t 226))⟩,
    ⟨some 228, some (225, false), .p (.mv (.t 27))⟩,
    ⟨some 229, some (225, false), .p (.len (.t 228))⟩,
    ⟨some 230, some (225, false), .p (.bin .neq (.t 227) (.t 229))⟩,
    ⟨some 231, none, .p (.pick (.t 225) (.k (.c (C.bool true))) (.t 230))⟩] [3, 17, 27, 231])
  (.cond (.t 231)
  (.seq (.region [⟨some 2, none, .p (.mv (.k (.c (C.bool false))))⟩] [2])
  .ret)
  .skip))
  (.seq (.seq (.region [⟨some 29, none, .p (.mv (.k (.c (C.int .i64 0))))⟩] [3, 17, 27, 29])
  (.block 2 (.loop (.seq (.seq (.region [⟨some 232, none, .p (.mv (.t 29))⟩,
    ⟨some 233, none, .p (.mv (.t 27))⟩,
    ⟨some 234, none, .p (.len (.t 233))⟩,
    ⟨some 235, none, .p (.bin .lss (.t 232) (.t 234))⟩] [3, 17, 27, 29, 235])
  (.cond (.t 235)
  .skip
  (.exit 2)))
  (.seq (.block 3 (.seq (.regionD [⟨some 239, none, .h (.load 24 true (.t 3))⟩,
    ⟨some 240, none, .p (.mv (.t 27))⟩,
    ⟨some 241, none, .p (.mv (.t 29))⟩,
    ⟨some 242, none, .p (.ixS 2 (.t 240) (.t 241))⟩,
    ⟨some 243, none, .p (.ixA 2 1 (.t 242) (.k (.c (C.int .i64 0))))⟩,
    ⟨some 244, none, .h (.load 1 false (.t 243))⟩,
    ⟨some 245, none, .p (.mv (.t 27))⟩,
    ⟨some 246, none, .p (.mv (.t 29))⟩,
    ⟨some 247, none, .p (.ixS 2 (.t 245) (.t 246))⟩,
    ⟨some 248, none, .p (.ixA 2 1 (.t 247) (.k (.c (C.int .i64 1))))⟩,
    ⟨some 249, none, .h (.load 1 false (.t 248))⟩,
    ⟨some 250, none, .h (.call (.f 63) [.t 239, .t 244, .t 249])⟩,
    ⟨some 238, none, .p (.mv (.t 250))⟩,
    ⟨some 251, none, .p (.ext (.t 238) 0)⟩,
    ⟨some 252, none, .p (.ext (.t 238) 1)⟩,
    ⟨some 253, none, .p (.ext (.t 238) 2)⟩,
    ⟨some 30, none, .p (.alloc (List.replicate 24 (.k (C.int .i64 0))))⟩,
    ⟨none, none, .h (.store 24 (.t 30) (.t 251))⟩,
    ⟨some 31, none, .p (.mv (.t 252))⟩,
    ⟨some 32, none, .p (.mv (.t 253))⟩] [3, 17, 27, 29, 30, 32] [])
  (.seq (.region [⟨some 255, none, .h (.load 24 true (.t 30))⟩,
    ⟨some 256, none, .h (.call (.f 64) [.t 255])⟩,
    ⟨some 254, none, .p (.mv (.t 256))⟩,
    ⟨some 257, none, .p (.ext (.t 254) 0)⟩,
    ⟨some 258, none, .p (.ext (.t 254) 1)⟩,
    ⟨some 33, none, .p (.mv (.t 257))⟩,
    ⟨some 34, none, .p (.mv (.t 258))⟩] [3, 17, 27, 29, 32, 33, 34])
  (.seq (.region [⟨some 259, none, .p (.mv (.t 32))⟩,
    ⟨some 260, none, .p (.un .not (.t 259))⟩,
    ⟨some 261, none, .p (.mv (.t 260))⟩,
    ⟨some 262, some (261, false), .p (.mv (.t 34))⟩,
    ⟨some 263, some (261, false), .p (.un .not (.t 262))⟩,
    ⟨some 264, none, .p (.pick (.t 261) (.k (.c (C.bool true))) (.t 263))⟩,
    ⟨some 265, none, .p (.mv (.t 264))⟩,
    ⟨some 266, some (265, false), .p (.mv (.t 17))⟩,
    ⟨some 267, some (265, false), .p (.mv (.t 29))⟩,
    ⟨some 268, some (265, false), .p (.ixS 1 (.t 266) (.t 267))⟩,
    ⟨some 269, some (265, false), .h (.load 1 false (.t 268))⟩,
    ⟨some 270, some (265, false), .p (.mv (.t 33))⟩,
    ⟨some 271, some (265, false), .p (.len (.t 270))⟩,
    ⟨some 272, some (265, false), .p (.bin .neq (.t 269) (.t 271))⟩,
    ⟨some 273, none, .p (.pick (.t 265) (.k (.c (C.bool true))) (.t 272))⟩] [3, 17, 27, 29, 273])
  (.cond (.t 273)
  (.seq (.region [⟨some 2, none, .p (.mv (.k (.c (C.bool false))))⟩] [2])
  .ret)
  .skip)))))
  (.region [⟨some 236, none, .p (.mv (.t 29))⟩,
    ⟨some 237, none, .p (.bin .add (.t 236) (.k (.c (C.int .i64 1))))⟩,
    ⟨some 29, none, .p (.mv (.t 237))⟩] [3, 17, 27, 29]))) [3, 17, 27, 29])))
  (.seq (.region [⟨some 2, none, .p (.mv (.k (.c (C.bool true))))⟩] [2])
  .ret)))))))))))))))))) }
theorem a10_ok : okFn Try.prog 10 a10 = true := by kernel_rfl
/-- loop.example/g01215/laws.FnExactDoServe -/
def a11 : AFn := { np := 2, nt := 34, res := [.t 4], body :=
  (.seq (.region [⟨some 2, none, .p (.box 26 (.t 0))⟩,
    ⟨some 3, none, .p (.box 4 (.t 1))⟩,
    ⟨some 4, none, .p (.mv (.k (.c (C.bool false))))⟩] [2, 3])
  (.seq (.regionD [⟨some 10, none, .h (.load 26 true (.t 2))⟩,
    ⟨some 11, none, .h (.call (.f 66) [.t 10])⟩,
    ⟨some 12, none, .h (.load 4 true (.t 3))⟩,
    ⟨some 13, none, .h (.call (.f 67) [.t 12])⟩,
    ⟨some 14, none, .h (.call (.f 65) [.t 11, .t 13])⟩,
    ⟨some 9, none, .p (.mv (.t 14))⟩,
    ⟨some 15, none, .p (.ext (.t 9) 0)⟩,
    ⟨some 16, none, .p (.ext (.t 9) 1)⟩,
    ⟨some 5, none, .p (.alloc (List.replicate 26 (.k (C.int .i64 0))))⟩,
    ⟨none, none, .h (.store 26 (.t 5) (.t 15))⟩,
    ⟨some 6, none, .p (.mv (.t 16))⟩] [2, 3, 5, 6] [])
  (.seq (.regionD [⟨some 18, none, .h (.load 26 true (.t 2))⟩,
    ⟨some 19, none, .h (.call (.f 66) [.t 18])⟩,
    ⟨some 20, none, .h (.load 4 true (.t 3))⟩,
    ⟨some 21, none, .h (.call (.f 67) [.t 20])⟩,
    ⟨some 22, none, .h (.call (.f 68) [.t 19, .t 21])⟩,
    ⟨some 17, none, .p (.mv (.t 22))⟩,
    ⟨some 23, none, .p (.ext (.t 17) 0)⟩,
    ⟨some 24, none, .p (.ext (.t 17) 1)⟩,
    ⟨some 7, none, .p (.alloc (List.replicate 26 (.k (C.int .i64 0))))⟩,
    ⟨none, none, .h (.store 26 (.t 7) (.t 23))⟩,
    ⟨some 8, none, .p (.mv (.t 24))⟩] [5, 6, 7, 8] [])
  (.seq (.seq (.region [⟨some 25, none, .h (.load 26 true (.t 7))⟩,
    ⟨some 26, none, .h (.load 26 true (.t 5))⟩,
    ⟨some 27, none, .h (.call (.f 69) [.t 25, .t 26])⟩,
    ⟨some 28, none, .p (.un .not (.t 27))⟩,
    ⟨some 29, none, .p (.mv (.t 28))⟩,
    ⟨some 30, some (29, false), .p (.mv (.t 8))⟩,
    ⟨some 31, some (29, false), .p (.mv (.t 6))⟩,
    ⟨some 32, some (29, false), .p (.eqb true (.t 30) (.t 31))⟩,
    ⟨some 33, none, .p (.pick (.t 29) (.k (.c (C.bool true))) (.t 32))⟩] [33])
  (.cond (.t 33)
  (.seq (.region [⟨some 4, none, .p (.mv (.k (.c (C.bool false))))⟩] [4])
  .ret)
  .skip))
  (.seq (.region [⟨some 4, none, .p (.mv (.k (.c (C.bool true))))⟩] [4])
  .ret))))) }
theorem a11_ok : okFn Try.prog 11 a11 = true := by kernel_rfl
/-- loop.example/g01215/laws.FnExactDoServes -/
def a12 : AFn := { np := 2, nt := 56, res := [.t 4], body :=
  (.seq (.region [⟨some 2, none, .p (.box 26 (.t 0))⟩,
    ⟨some 4, none, .p (.mv (.k (.c (C.bool false))))⟩] [1, 2])
  (.seq (.region [⟨some 5, none, .p (.mv (.k (.c (C.int .i64 1048576))))⟩] [1, 2, 5])
  (.seq (.region [⟨some 13, none, .p (.mv (.t 1))⟩,
    ⟨some 14, none, .p (.mv (.t 5))⟩,
    ⟨some 15, none, .h (.call (.f 70) [.t 13, .t 14])⟩,
    ⟨some 5, none, .p (.mv (.t 15))⟩] [1, 2, 5])
  (.seq (.seq (.region [⟨some 16, none, .p (.mv (.t 5))⟩,
    ⟨some 17, none, .p (.bin .lss (.t 16) (.k (.c (C.int .i64 0))))⟩] [1, 2, 17])
  (.cond (.t 17)
  (.seq (.region [⟨some 4, none, .p (.mv (.k (.c (C.bool true))))⟩] [4])
  .ret)
  .skip))
  (.seq (.region [⟨some 19, none, .h (.load 26 true (.t 2))⟩,
    ⟨some 20, none, .h (.call (.f 66) [.t 19])⟩,
    ⟨some 21, none, .p (.mv (.t 1))⟩,
    ⟨some 22, none, .h (.call (.f 72) [.t 21])⟩,
    ⟨some 23, none, .h (.call (.f 71) [.t 20, .t 22])⟩,
    ⟨some 18, none, .p (.mv (.t 23))⟩,
    ⟨some 24, none, .p (.ext (.t 18) 0)⟩,
    ⟨some 25, none, .p (.ext (.t 18) 1)⟩,
    ⟨some 26, none, .p (.ext (.t 18) 2)⟩,
    ⟨some 6, none, .p (.alloc (List.replicate 26 (.k (C.int .i64 0))))⟩,
    ⟨none, none, .h (.store 26 (.t 6) (.t 24))⟩,
    ⟨some 7, none, .p (.mv (.t 25))⟩,
    ⟨some 8, none, .p (.mv (.t 26))⟩] [1, 2, 6, 7, 8])
  (.seq (.region [⟨some 27, none, .p (.mv (.t 1))⟩,
    ⟨some 28, none, .h (.call (.f 72) [.t 27])⟩,
    ⟨some 9, none, .p (.mv (.t 28))⟩] [1, 2, 6, 7, 8, 9])
  (.seq (.region [⟨some 30, none, .h (.load 26 true (.t 2))⟩,
    ⟨some 31, none, .h (.call (.f 66) [.t 30])⟩,
    ⟨some 32, none, .p (.mv (.t 9))⟩,
    ⟨some 33, none, .h (.call (.f 73) [.t 31, .t 32])⟩,
    ⟨some 29, none, .p (.mv (.t 33))⟩,
    ⟨some 34, none, .p (.ext (.t 29) 0)⟩,
    ⟨some 35, none, .p (.ext (.t 29) 1)⟩,
    ⟨some 36, none, .p (.ext (.t 29) 2)⟩,
    ⟨some 10, none, .p (.alloc (List.replicate 26 (.k (C.int .i64 0))))⟩,
    ⟨none, none, .h (.store 26 (.t 10) (.t 34))⟩,
    ⟨some 11, none, .p (.mv (.t 35))⟩,
    ⟨some 12, none, .p (.mv (.t 36))⟩] [1, 6, 7, 8, 9, 10, 11, 12])
  (.seq (.seq (.region [⟨some 37, none, .h (.load 26 true (.t 10))⟩,
    ⟨some 38, none, .h (.load 26 true (.t 6))⟩,
    ⟨some 39, none, .h (.call (.f 69) [.t 37, .t 38])⟩,
    ⟨some 40, none, .p (.un .not (.t 39))⟩,
    ⟨some 41, none, .p (.mv (.t 40))⟩,
    ⟨some 42, some (41, false), .p (.mv (.t 11))⟩,
    ⟨some 43, some (41, false), .p (.mv (.t 7))⟩,
    ⟨some 44, some (41, false), .p (.bin .neq (.t 42) (.t 43))⟩,
    ⟨some 45, none, .p (.pick (.t 41) (.k (.c (C.bool true))) (.t 44))⟩,
    ⟨some 46, none, .p (.mv (.t 45))⟩,
    ⟨some 47, some (46, false), .p (.mv (.t 12))⟩,
    ⟨some 48, some (46, false), .p (.mv (.t 8))⟩,
    ⟨some 49, some (46, false), .p (.eqb true (.t 47) (.t 48))⟩,
    ⟨some 50, none, .p (.pick (.t 46) (.k (.c (C.bool true))) (.t 49))⟩] [1, 9, 50])
  (.cond (.t 50)
  (.seq (.region [⟨some 4, none, .p (.mv (.k (.c (C.bool false))))⟩] [4])
  .ret)
  .skip))
  (.seq (.seq (.region [⟨some 51, none, .p (.mv (.t 9))⟩,
    ⟨some 52, none, .p (.mv (.t 1))⟩,
    ⟨some 53, none, .h (.call (.f 72) [.t 52])⟩,
    ⟨some 54, none, .h (.call (.f 74) [.t 51, .t 53])⟩,
    ⟨some 55, none, .p (.un .not (.t 54))⟩] [55])
  (.cond (.t 55)
  (.seq (.region [⟨some 4, none, .p (.mv (.k (.c (C.bool false))))⟩] [4])
  .ret)
  .skip))
  (.seq (.region [⟨some 4, none, .p (.mv (.k (.c (C.bool true))))⟩] [4])
  .ret)))))))))) }
theorem a12_ok : okFn Try.prog 12 a12 = true := by kernel_rfl
/-- loop.example/g01215/laws.FnReplayCuts -/
def a13 : AFn := { np := 1, nt := 310, res := [.t 2], body :=
  (.seq (.region [⟨some 2, none, .p (.mv (.k (.c (C.bool false))))⟩] [0])
  (.seq (.seq (.region [⟨some 37, none, .p (.mv (.t 0))⟩,
    ⟨some 38, none, .h (.call (.f 50) [.t 37])⟩] [0, 38])
  (.cond (.t 38)
  (.seq (.region [⟨some 2, none, .p (.mv (.k (.c (C.bool true))))⟩] [2])
  .ret)
  .skip))
  (.seq (.region [⟨some 39, none, .p (.mv (.t 0))⟩,
    ⟨some 40, none, .h (.call (.f 75) [.t 39])⟩,
    ⟨some 3, none, .p (.alloc [.k (C.int .i64 0), .k (C.int .i64 0), .k (C.int .i64 0), .k (C.int .i64 0), .k (C.int .i64 0), .k (C.int .i64 0), .k (C.int .i64 0), .k (C.int .i64 0), .k (C.int .i64 0), .k (C.int .i64 0), .k (C.int .i64 0), .k (C.int .i64 0), .k (C.int .i64 0), .k (C.int .i64 0), .k (C.int .i64 0), .k (C.int .i64 0), .k (C.int .i64 0), .k (C.int .i64 0), .k (C.int .i64 0), .k (C.int .i64 0), .k (C.int .i64 0), .k (C.int .i64 0), .k (C.int .i64 0), .k (C.int .i64 0), .sl 2])⟩,
    ⟨none, none, .h (.store 25 (.t 3) (.t 40))⟩] [3])
  (.seq (.region [⟨some 42, none, .h (.load 25 true (.t 3))⟩,
    ⟨some 43, none, .h (.call (.f 34) [.t 42])⟩,
    ⟨some 41, none, .p (.mv (.t 43))⟩,
    ⟨some 44, none, .p (.ext (.t 41) 0)⟩,
    ⟨some 45, none, .p (.ext (.t 41) 1)⟩,
    ⟨some 4, none, .p (.alloc [.k (C.int .i64 0), .k (C.int .i64 0), .k (C.int .i64 0), .k (C.int .i64 0), .k (C.int .i64 0), .k (C.int .i64 0), .k (C.int .i64 0), .k (C.int .i64 0), .k (C.int .i64 0), .k (C.int .i64 0), .k (C.int .i64 0), .k (C.int .i64 0), .k (C.int .i64 0), .k (C.int .i64 0), .k (C.int .i64 0), .k (C.int .i64 0), .k (C.int .i64 0), .k (C.int .i64 0), .k (C.int .i64 0), .k (C.int .i64 0), .k (C.int .i64 0), .k (C.int .i64 0), .k (C.int .i64 0), .k (C.int .i64 0), .sl 2])⟩,
    ⟨none, none, .h (.store 25 (.t 4) (.t 44))⟩,
    ⟨some 5, none, .p (.mv (.t 45))⟩] [3, 4, 5])
  (.seq (.seq (.region [⟨some 47, none, .h (.load 25 true (.t 3))⟩,
    ⟨some 48, none, .h (.call (.f 33) [.t 47])⟩,
    ⟨some 46, none, .p (.mv (.t 48))⟩,
    ⟨some 49, none, .p (.ext (.t 46) 0)⟩,
    ⟨some 50, none, .p (.ext (.t 46) 1)⟩,
    ⟨some 6, none, .p (.alloc [.k (C.int .i64 0), .k (C.int .i64 0), .k (C.int .i64 0), .k (C.int .i64 0), .k (C.int .i64 0), .k (C.int .i64 0), .k (C.int .i64 0), .k (C.int .i64 0), .k (C.int .i64 0), .k (C.int .i64 0), .k (C.int .i64 0), .k (C.int .i64 0), .k (C.int .i64 0), .k (C.int .i64 0), .k (C.int .i64 0), .k (C.int .i64 0), .k (C.int .i64 0), .k (C.int .i64 0), .k (C.int .i64 0), .k (C.int .i64 0), .k (C.int .i64 0), .k (C.int .i64 0), .k (C.int .i64 0), .k (C.int .i64 0), .sl 2])⟩,
    ⟨none, none, .h (.store 25 (.t 6) (.t 49))⟩,
    ⟨some 7, none, .p (.mv (.t 50))⟩] [3, 4, 5, 6, 7])
  (.seq (.region [⟨some 51, none, .p (.mv (.t 5))⟩,
    ⟨some 52, none, .p (.mv (.t 7))⟩,
    ⟨some 53, none, .p (.eqb true (.t 51) (.t 52))⟩,
    ⟨some 54, none, .p (.mv (.t 53))⟩,
    ⟨some 55, some (54, false), .p (.mv (.t 5))⟩,
    ⟨some 56, some (54, false), .h (.load 25 true (.t 3))⟩,
    ⟨some 57, some (54, false), .h (.call (.f 76) [.t 56])⟩,
    ⟨some 58, some (54, false), .p (.eqb true (.t 55) (.t 57))⟩,
    ⟨some 59, none, .p (.pick (.t 54) (.k (.c (C.bool true))) (.t 58))⟩,
    ⟨some 60, none, .p (.mv (.t 59))⟩,
    ⟨some 61, some (60, false), .h (.load 25 true (.t 4))⟩,
    ⟨some 62, some (60, false), .h (.load 25 true (.t 6))⟩,
    ⟨some 63, some (60, false), .h (.call (.f 77) [.t 61, .t 62])⟩,
    ⟨some 64, some (60, false), .p (.un .not (.t 63))⟩,
    ⟨some 65, none, .p (.pick (.t 60) (.k (.c (C.bool true))) (.t 64))⟩] [3, 4, 5, 65])
  (.cond (.t 65)
  (.seq (.region [⟨some 2, none, .p (.mv (.k (.c (C.bool false))))⟩] [2])
  .ret)
  .skip)))
  (.seq (.region [⟨some 67, none, .h (.load 25 true (.t 3))⟩,
    ⟨some 68, none, .h (.call (.f 78) [.t 67])⟩,
    ⟨some 66, none, .p (.mv (.t 68))⟩,
    ⟨some 69, none, .p (.ext (.t 66) 0)⟩,
    ⟨some 70, none, .p (.ext (.t 66) 1)⟩,
    ⟨some 8, none, .p (.mv (.t 69))⟩,
    ⟨some 9, none, .p (.mv (.t 70))⟩] [3, 4, 5, 8, 9])
  (.seq (.seq (.region [⟨some 72, none, .h (.load 25 true (.t 3))⟩,
    ⟨some 73, none, .h (.call (.f 79) [.t 72])⟩,
    ⟨some 71, none, .p (.mv (.t 73))⟩,
    ⟨some 74, none, .p (.ext (.t 71) 0)⟩,
    ⟨some 75, none, .p (.ext (.t 71) 1)⟩,
    ⟨some 10, none, .p (.mv (.t 74))⟩,
    ⟨some 11, none, .p (.mv (.t 75))⟩] [3, 4, 5, 8, 9, 10, 11])
  (.seq (.region [⟨some 76, none, .p (.mv (.t 9))⟩,
    ⟨some 77, none, .p (.mv (.t 11))⟩,
    ⟨some 78, none, .p (.eqb true (.t 76) (.t 77))⟩,
    ⟨some 79, none, .p (.mv (.t 78))⟩,
    ⟨some 80, some (79, false), .p (.mv (.t 9))⟩,
    ⟨some 81, some (79, false), .p (.mv (.t 5))⟩,
    ⟨some 82, some (79, false), .p (.eqb true (.t 80) (.t 81))⟩,
    ⟨some 83, none, .p (.pick (.t 79) (.k (.c (C.bool true))) (.t 82))⟩,
    ⟨some 84, none, .p (.mv (.t 83))⟩,
    ⟨some 85, some (84, false), .p (.mv (.t 8))⟩,
    ⟨some 86, some (84, false), .p (.mv (.t 10))⟩,
    ⟨some 87, some (84, false), .h (.call (.f 56) [.t 85, .t 86])⟩,
    ⟨some 88, some (84, false), .p (.un .not (.t 87))⟩,
    ⟨some 89, none, .p (.pick (.t 84) (.k (.c (C.bool true))) (.t 88))⟩] [3, 4, 5, 8, 89])
  (.cond (.t 89)
  (.seq (.region [⟨some 2, none, .p (.mv (.k (.c (C.bool false))))⟩] [2])
  .ret)
  .skip)))
  (.seq (.region [⟨some 91, none, .h (.load 25 true (.t 3))⟩,
    ⟨some 92, none, .h (.call (.f 32) [.t 91])⟩,
    ⟨some 90, none, .p (.mv (.t 92))⟩,
    ⟨some 93, none, .p (.ext (.t 90) 0)⟩,
    ⟨some 94, none, .p (.ext (.t 90) 1)⟩,
    ⟨some 12, none, .p (.alloc [.k (C.int .i64 0), .k (C.int .i64 0), .k (C.int .i64 0), .k (C.int .i64 0), .k (C.int .i64 0), .k (C.int .i64 0), .k (C.int .i64 0), .k (C.int .i64 0), .k (C.int .i64 0), .k (C.int .i64 0), .k (C.int .i64 0), .k (C.int .i64 0), .k (C.int .i64 0), .k (C.int .i64 0), .k (C.int .i64 0), .k (C.int .i64 0), .k (C.int .i64 0), .k (C.int .i64 0), .k (C.int .i64 0), .k (C.int .i64 0), .k (C.int .i64 0), .k (C.int .i64 0), .k (C.int .i64 0), .k (C.int .i64 0), .sl 2])⟩,
    ⟨none, none, .h (.store 25 (.t 12) (.t 93))⟩,
    ⟨some 13, none, .p (.mv (.t 94))⟩] [3, 4, 5, 8, 12, 13])
  (.seq (.seq (.region [⟨some 96, none, .h (.load 25 true (.t 3))⟩,
    ⟨some 97, none, .h (.call (.f 31) [.t 96])⟩,
    ⟨some 95, none, .p (.mv (.t 97))⟩,
    ⟨some 98, none, .p (.ext (.t 95) 0)⟩,
    ⟨some 99, none, .p (.ext (.t 95) 1)⟩,
    ⟨some 14, none, .p (.alloc [.k (C.int .i64 0), .k (C.int .i64 0), .k (C.int .i64 0), .k (C.int .i64 0), .k (C.int .i64 0), .k (C.int .i64 0), .k (C.int .i64 0), .k (C.int .i64 0), .k (C.int .i64 0), .k (C.int .i64 0), .k (C.int .i64 0), .k (C.int .i64 0), .k (C.int .i64 0), .k (C.int .i64 0), .k (C.int .i64 0), .k (C.int .i64 0), .k (C.int .i64 0), .k (C.int .i64 0), .k (C.int .i64 0), .k (C.int .i64 0), .k (C.int .i64 0), .k (C.int .i64 0), .k (C.int .i64 0), .k (C.int .i64 0), .sl 2])⟩,
    ⟨none, none, .h (.store 25 (.t 14) (.t 98))⟩,
    ⟨some 15, none, .p (.mv (.t 99))⟩] [3, 4, 5, 8, 12, 13, 14, 15])
  (.seq (.region [⟨some 100, none, .p (.mv (.t 13))⟩,
    ⟨some 101, none, .p (.mv (.t 15))⟩,
    ⟨some 102, none, .p (.eqb true (.t 100) (.t 101))⟩,
    ⟨some 103, none, .p (.mv (.t 102))⟩,
    ⟨some 104, some (103, false), .p (.mv (.t 13))⟩,
    ⟨some 105, some (103, false), .p (.mv (.t 5))⟩,
    ⟨some 106, some (103, false), .p (.eqb true (.t 104) (.t 105))⟩,
    ⟨some 107, none, .p (.pick (.t 103) (.k (.c (C.bool true))) (.t 106))⟩,
    ⟨some 108, none, .p (.mv (.t 107))⟩,
    ⟨some 109, some (108, false), .h (.load 25 true (.t 12))⟩,
    ⟨some 110, some (108, false), .h (.load 25 true (.t 14))⟩,
    ⟨some 111, some (108, false), .h (.call (.f 77) [.t 109, .t 110])⟩,
    ⟨some 112, some (108, false), .p (.un .not (.t 111))⟩,
    ⟨some 113, none, .p (.pick (.t 108) (.k (.c (C.bool true))) (.t 112))⟩] [3, 4, 5, 8, 12, 113])
  (.cond (.t 113)
  (.seq (.region [⟨some 2, none, .p (.mv (.k (.c (C.bool false))))⟩] [2])
  .ret)
  .skip)))
  (.seq (.region [⟨some 115, none, .h (.load 25 true (.t 3))⟩,
    ⟨some 116, none, .h (.call (.f 80) [.t 115])⟩,
    ⟨some 114, none, .p (.mv (.t 116))⟩,
    ⟨some 117, none, .p (.ext (.t 114) 0)⟩,
    ⟨some 118, none, .p (.ext (.t 114) 1)⟩,
    ⟨some 16, none, .p (.mv (.t 117))⟩,
    ⟨some 17, none, .p (.mv (.t 118))⟩] [3, 4, 5, 8, 12, 16, 17])
  (.seq (.seq (.region [⟨some 120, none, .h (.load 25 true (.t 3))⟩,
    ⟨some 121, none, .h (.call (.f 81) [.t 120])⟩,
    ⟨some 119, none, .p (.mv (.t 121))⟩,
    ⟨some 122, none, .p (.ext (.t 119) 0)⟩,
    ⟨some 123, none, .p (.ext (.t 119) 1)⟩,
    ⟨some 18, none, .p (.mv (.t 122))⟩,
    ⟨some 19, none, .p (.mv (.t 123))⟩] [3, 4, 5, 8, 12, 16, 17, 18, 19])
  (.seq (.region [⟨some 124, none, .p (.mv (.t 16))⟩,
    ⟨some 125, none, .p (.mv (.t 18))⟩,
    ⟨some 126, none, .p (.eqb true (.t 124) (.t 125))⟩,
    ⟨some 127, none, .p (.mv (.t 126))⟩,
    ⟨some 128, some (127, false), .p (.mv (.t 17))⟩,
    ⟨some 129, some (127, false), .p (.mv (.t 19))⟩,
    ⟨some 130, some (127, false), .p (.eqb true (.t 128) (.t 129))⟩,
    ⟨some 131, none, .p (.pick (.t 127) (.k (.c (C.bool true))) (.t 130))⟩,
    ⟨some 132, none, .p (.mv (.t 131))⟩,
    ⟨some 133, some (132, false), .p (.mv (.t 17))⟩,
    ⟨some 134, some (132, false), .p (.mv (.t 5))⟩,
    ⟨some 135, some (132, false), .p (.eqb true (.t 133) (.t 134))⟩,
    ⟨some 136, none, .p (.pick (.t 132) (.k (.c (C.bool true))) (.t 135))⟩] [3, 4, 5, 8, 12, 16, 136])
  (.cond (.t 136)
  (.seq (.region [⟨some 2, none, .p (.mv (.k (.c (C.bool false))))⟩] [2])
  .ret)
  .skip)))
  (.seq (.region [⟨some 138, none, .h (.load 25 true (.t 3))⟩,
    ⟨some 139, none, .h (.call (.f 82) [.t 138])⟩,
    ⟨some 137, none, .p (.mv (.t 139))⟩,
    ⟨some 140, none, .p (.ext (.t 137) 0)⟩,
    ⟨some 141, none, .p (.ext (.t 137) 1)⟩,
    ⟨some 20, none, .p (.mv (.t 140))⟩,
    ⟨some 21, none, .p (.mv (.t 141))⟩] [3, 4, 5, 8, 12, 16, 20, 21])
  (.seq (.seq (.region [⟨some 143, none, .h (.load 25 true (.t 3))⟩,
    ⟨some 144, none, .h (.call (.f 83) [.t 143])⟩,
    ⟨some 142, none, .p (.mv (.t 144))⟩,
    ⟨some 145, none, .p (.ext (.t 142) 0)⟩,
    ⟨some 146, none, .p (.ext (.t 142) 1)⟩,
    ⟨some 22, none, .p (.mv (.t 145))⟩,
    ⟨some 23, none, .p (.mv (.t 146))⟩] [3, 4, 5, 8, 12, 16, 20, 21, 22, 23])
  (.seq (.region [⟨some 147, none, .p (.mv (.t 20))⟩,
    ⟨some 148, none, .p (.mv (.t 22))⟩,
    ⟨some 149, none, .p (.bin .neq (.t 147) (.t 148))⟩,
    ⟨some 150, none, .p (.mv (.t 149))⟩,
    ⟨some 151, some (150, false), .p (.mv (.t 21))⟩,
    ⟨some 152, some (150, false), .p (.mv (.t 23))⟩,
    ⟨some 153, some (150, false), .p (.eqb true (.t 151) (.t 152))⟩,
    ⟨some 154, none, .p (.pick (.t 150) (.k (.c (C.bool true))) (.t 153))⟩,
    ⟨some 155, none, .p (.mv (.t 154))⟩,
    ⟨some 156, some (155, false), .p (.mv (.t 21))⟩,
    ⟨some 157, some (155, false), .p (.mv (.t 5))⟩,
    ⟨some 158, some (155, false), .p (.mv (.t 157))⟩,
    ⟨some 159, some (158, true), .p (.mv (.t 16))⟩,
    ⟨some 160, some (155, false), .p (.pick (.t 158) (.t 159) (.k (.c (C.bool false))))⟩,
    ⟨some 161, some (155, false), .p (.eqb true (.t 156) (.t 160))⟩,
    ⟨some 162, none, .p (.pick (.t 155) (.k (.c (C.bool true))) (.t 161))⟩,
    ⟨some 163, none, .p (.mv (.t 162))⟩,
    ⟨some 164, some (163, false), .p (.mv (.t 21))⟩,
    ⟨some 165, some (163, false), .p (.mv (.t 164))⟩,
    ⟨some 166, some (165, true), .p (.mv (.t 20))⟩,
    ⟨some 167, some (165, true), .p (.bin .lss (.t 166) (.k (.c (C.int .i64 0))))⟩,
    ⟨some 168, some (163, false), .p (.pick (.t 165) (.t 167) (.k (.c (C.bool false))))⟩,
    ⟨some 169, none, .p (.pick (.t 163) (.k (.c (C.bool true))) (.t 168))⟩] [3, 4, 5, 8, 12, 16, 169])
  (.cond (.t 169)
  (.seq (.region [⟨some 2, none, .p (.mv (.k (.c (C.bool false))))⟩] [2])
  .ret)
  .skip)))
  (.seq (.seq (.region [⟨some 170, none, .p (.mv (.t 5))⟩,
    ⟨some 171, none, .p (.un .not (.t 170))⟩] [3, 4, 8, 12, 16, 171])
  (.cond (.t 171)
  (.seq (.region [⟨some 2, none, .p (.mv (.k (.c (C.bool true))))⟩] [2])
  .ret)
  .skip))
  (.seq (.region [⟨some 173, none, .h (.load 25 true (.t 4))⟩,
    ⟨some 174, none, .h (.call (.f 78) [.t 173])⟩,
    ⟨some 172, none, .p (.mv (.t 174))⟩,
    ⟨some 175, none, .p (.ext (.t 172) 0)⟩,
    ⟨some 176, none, .p (.ext (.t 172) 1)⟩,
    ⟨some 24, none, .p (.mv (.t 175))⟩,
    ⟨some 25, none, .p (.mv (.t 176))⟩] [3, 4, 8, 12, 16, 24, 25])
  (.seq (.region [⟨some 178, none, .h (.load 25 true (.t 3))⟩,
    ⟨some 179, none, .p (.fld 24 (.t 3))⟩,
    ⟨some 180, none, .h (.load 1 false (.t 179))⟩,
    ⟨some 181, none, .p (.len (.t 180))⟩,
    ⟨some 182, none, .h (.call (.f 84) [.t 178, .t 181])⟩,
    ⟨some 177, none, .p (.mv (.t 182))⟩,
    ⟨some 183, none, .p (.ext (.t 177) 0)⟩,
    ⟨some 184, none, .p (.ext (.t 177) 1)⟩,
    ⟨some 26, none, .p (.alloc (List.replicate 24 (.k (C.int .i64 0))))⟩,
    ⟨none, none, .h (.store 24 (.t 26) (.t 183))⟩,
    ⟨some 27, none, .p (.mv (.t 184))⟩] [3, 4, 8, 12, 16, 24, 25, 26, 27])
  (.seq (.region [⟨some 186, none, .h (.load 25 true (.t 4))⟩,
    ⟨some 187, none, .p (.fld 24 (.t 4))⟩,
    ⟨some 188, none, .h (.load 1 false (.t 187))⟩,
    ⟨some 189, none, .p (.len (.t 188))⟩,
    ⟨some 190, none, .h (.call (.f 84) [.t 186, .t 189])⟩,
    ⟨some 185, none, .p (.mv (.t 190))⟩,
    ⟨some 191, none, .p (.ext (.t 185) 0)⟩,
    ⟨some 192, none, .p (.ext (.t 185) 1)⟩,
    ⟨some 28, none, .p (.alloc (List.replicate 24 (.k (C.int .i64 0))))⟩,
    ⟨none, none, .h (.store 24 (.t 28) (.t 191))⟩,
    ⟨some 29, none, .p (.mv (.t 192))⟩] [3, 4, 8, 12, 16, 24, 25, 26, 27, 28, 29])
  (.seq (.region [⟨some 194, none, .h (.load 25 true (.t 4))⟩,
    ⟨some 195, none, .h (.call (.f 80) [.t 194])⟩,
    ⟨some 193, none, .p (.mv (.t 195))⟩,
    ⟨some 196, none, .p (.ext (.t 193) 0)⟩,
    ⟨some 197, none, .p (.ext (.t 193) 1)⟩,
    ⟨some 30, none, .p (.mv (.t 196))⟩,
    ⟨some 31, none, .p (.mv (.t 197))⟩] [3, 4, 8, 12, 16, 24, 25, 26, 27, 28, 29, 30, 31])
  (.seq (.seq (.region [⟨some 198, none, .p (.mv (.t 25))⟩,
    ⟨some 199, none, .p (.un .not (.t 198))⟩,
    ⟨some 200, none, .p (.mv (.t 199))⟩,
    ⟨some 201, some (200, false), .p (.mv (.t 27))⟩,
    ⟨some 202, some (200, false), .p (.un .not (.t 201))⟩,
    ⟨some 203, none, .p (.pick (.t 200) (.k (.c (C.bool true))) (.t 202))⟩,
    ⟨some 204, none, .p (.mv (.t 203))⟩,
    ⟨some 205, some (204, false), .p (.mv (.t 29))⟩,
    ⟨some 206, some (204, false), .p (.un .not (.t 205))⟩,
    ⟨some 207, none, .p (.pick (.t 204) (.k (.c (C.bool true))) (.t 206))⟩,
    ⟨some 208, none, .p (.mv (.t 207))⟩,
    ⟨some 209, some (208, false), .p (.mv (.t 31))⟩,
    ⟨some 210, some (208, false), .p (.un .not (.t 209))⟩,
    ⟨some 211, none, .p (.pick (.t 208) (.k (.c (C.bool true))) (.t 210))⟩,
    ⟨some 212, none, .p (.mv (.t 211))⟩,
    ⟨some 213, some (212, false), .p (.mv (.t 24))⟩,
    ⟨some 214, some (212, false), .p (.len (.t 213))⟩,
    ⟨some 215, some (212, false), .p (.bin .neq (.t 214) (.k (.c (C.int .i64 0))))⟩,
    ⟨some 216, none, .p (.pick (.t 212) (.k (.c (C.bool true))) (.t 215))⟩,
    ⟨some 217, none, .p (.mv (.t 216))⟩,
    ⟨some 218, some (217, false), .h (.load 24 true (.t 26))⟩,
    ⟨some 219, some (217, false), .h (.load 24 true (.t 28))⟩,
    ⟨some 220, some (217, false), .p (.eqv true (List.replicate 24 (.int .i64)) (.t 218) (.t 219))⟩,
    ⟨some 221, none, .p (.pick (.t 217) (.k (.c (C.bool true))) (.t 220))⟩,
    ⟨some 222, none, .p (.mv (.t 221))⟩,
    ⟨some 223, some (222, false), .p (.mv (.t 30))⟩,
    ⟨some 224, some (222, false), .p (.mv (.t 16))⟩,
    ⟨some 225, some (222, false), .p (.eqb true (.t 223) (.t 224))⟩,
    ⟨some 226, none, .p (.pick (.t 222) (.k (.c (C.bool true))) (.t 225))⟩,
    ⟨some 227, none, .p (.mv (.t 226))⟩,
    ⟨some 228, some (227, false), .p (.fld 24 (.t 4))⟩,
    ⟨some 229, some (227, false), .h (.load 1 false (.t 228))⟩,
    ⟨some 230, some (227, false), .p (.len (.t 229))⟩,
    ⟨some 231, some (227, false), .p (.fld 24 (.t 3))⟩,
    ⟨some 232, some (227, false), .h (.load 1 false (.t 231))⟩,
    ⟨some 233, some (227, false), .p (.len (.t 232))⟩,
    ⟨some 234, some (227, false), .p (.bin .gtr (.t 230) (.t 233))⟩,
    ⟨some 235, none, .p (.pick (.t 227) (.k (.c (C.bool true))) (.t 234))⟩,
    ⟨some 236, none, .p (.mv (.t 235))⟩,
    ⟨some 237, some (236, false), .p (.mv (.t 8))⟩,
    ⟨some 238, some (236, false), .p (.len (.t 237))⟩,
    ⟨some 239, some (236, false), .p (.bin .eql (.t 238) (.k (.c (C.int .i64 0))))⟩,
    ⟨some 240, some (236, false), .p (.fld 24 (.t 4))⟩,
    ⟨some 241, some (236, false), .h (.load 1 false (.t 240))⟩,
    ⟨some 242, some (236, false), .p (.len (.t 241))⟩,
    ⟨some 243, some (236, false), .p (.fld 24 (.t 3))⟩,
    ⟨some 244, some (236, false), .h (.load 1 false (.t 243))⟩,
    ⟨some 245, some (236, false), .p (.len (.t 244))⟩,
    ⟨some 246, some (236, false), .p (.bin .eql (.t 242) (.t 245))⟩,
    ⟨some 247, some (236, false), .p (.eqb true (.t 239) (.t 246))⟩,
    ⟨some 248, none, .p (.pick (.t 236) (.k (.c (C.bool true))) (.t 247))⟩] [3, 8, 12, 248])
  (.cond (.t 248)
  (.seq (.region [⟨some 2, none, .p (.mv (.k (.c (C.bool false))))⟩] [2])
  .ret)
  .skip))
  (.seq (.seq (.region [⟨some 32, none, .p (.mv (.k (.c (C.int .i64 0))))⟩] [3, 8, 12, 32])
  (.block 0 (.loop (.seq (.seq (.region [⟨some 249, none, .p (.mv (.t 32))⟩,
    ⟨some 250, none, .p (.mv (.t 8))⟩,
    ⟨some 251, none, .p (.len (.t 250))⟩,
    ⟨some 252, none, .p (.bin .lss (.t 249) (.t 251))⟩] [3, 8, 12, 32, 252])
  (.cond (.t 252)
  .skip
  (.exit 0)))
  (.seq (.block 1 (.seq (.regionD [⟨some 256, none, .h (.load 25 true (.t 3))⟩,
    ⟨some 257, none, .p (.mv (.t 8))⟩,
    ⟨some 258, none, .p (.mv (.t 32))⟩,
    ⟨some 259, none, .p (.ixS 2 (.t 257) (.t 258))⟩,
    ⟨some 260, none, .p (.ixA 2 1 (.t 259) (.k (.c (C.int .i64 0))))⟩,
    ⟨some 261, none, .h (.load 1 false (.t 260))⟩,
    ⟨some 262, none, .h (.call (.f 84) [.t 256, .t 261])⟩,
    ⟨some 255, none, .p (.mv (.t 262))⟩,
    ⟨some 263, none, .p (.ext (.t 255) 0)⟩,
    ⟨some 264, none, .p (.ext (.t 255) 1)⟩,
    ⟨some 33, none, .p (.alloc (List.replicate 24 (.k (C.int .i64 0))))⟩,
    ⟨none, none, .h (.store 24 (.t 33) (.t 263))⟩,
    ⟨some 34, none, .p (.mv (.t 264))⟩] [3, 8, 12, 32, 33, 34] [])
  (.seq (.regionD [⟨some 266, none, .h (.load 25 true (.t 3))⟩,
    ⟨some 267, none, .p (.mv (.t 8))⟩,
    ⟨some 268, none, .p (.mv (.t 32))⟩,
    ⟨some 269, none, .p (.ixS 2 (.t 267) (.t 268))⟩,
    ⟨some 270, none, .p (.ixA 2 1 (.t 269) (.k (.c (C.int .i64 1))))⟩,
    ⟨some 271, none, .h (.load 1 false (.t 270))⟩,
    ⟨some 272, none, .h (.call (.f 84) [.t 266, .t 271])⟩,
    ⟨some 265, none, .p (.mv (.t 272))⟩,
    ⟨some 273, none, .p (.ext (.t 265) 0)⟩,
    ⟨some 274, none, .p (.ext (.t 265) 1)⟩,
    ⟨some 35, none, .p (.alloc (List.replicate 24 (.k (C.int .i64 0))))⟩,
    ⟨none, none, .h (.store 24 (.t 35) (.t 273))⟩,
    ⟨some 36, none, .p (.mv (.t 274))⟩] [3, 8, 12, 32, 33, 34, 35, 36] [])
  (.seq (.regionD [⟨some 275, none, .p (.mv (.t 34))⟩,
    ⟨some 276, none, .p (.un .not (.t 275))⟩,
    ⟨some 277, none, .p (.mv (.t 276))⟩,
    ⟨some 278, some (277, false), .p (.mv (.t 36))⟩,
    ⟨some 279, some (277, false), .p (.un .not (.t 278))⟩,
    ⟨some 280, none, .p (.pick (.t 277) (.k (.c (C.bool true))) (.t 279))⟩,
    ⟨some 281, none, .p (.mv (.t 280))⟩,
    ⟨some 282, some (281, false), .h (.load 24 true (.t 33))⟩,
    ⟨some 283, some (281, false), .h (.load 24 true (.t 35))⟩,
    ⟨some 284, some (281, false), .p (.eqv true (List.replicate 24 (.int .i64)) (.t 282) (.t 283))⟩,
    ⟨some 285, none, .p (.pick (.t 281) (.k (.c (C.bool true))) (.t 284))⟩,
    ⟨some 286, none, .p (.mv (.t 285))⟩,
    ⟨some 287, some (286, false), .p (.mv (.t 8))⟩,
    ⟨some 288, some (286, false), .p (.mv (.t 32))⟩,
    ⟨some 289, some (286, false), .p (.ixS 2 (.t 287) (.t 288))⟩,
    ⟨some 290, some (286, false), .p (.ixA 2 1 (.t 289) (.k (.c (C.int .i64 0))))⟩,
    ⟨some 291, some (286, false), .h (.load 1 false (.t 290))⟩,
    ⟨some 292, some (286, false), .p (.mv (.t 8))⟩,
    ⟨some 293, some (286, false), .p (.mv (.t 32))⟩,
    ⟨some 294, some (286, false), .p (.ixS 2 (.t 292) (.t 293))⟩,
    ⟨some 295, some (286, false), .p (.ixA 2 1 (.t 294) (.k (.c (C.int .i64 1))))⟩,
    ⟨some 296, some (286, false), .h (.load 1 false (.t 295))⟩,
    ⟨some 297, some (286, false), .p (.bin .geq (.t 291) (.t 296))⟩,
    ⟨some 298, none, .p (.pick (.t 286) (.k (.c (C.bool true))) (.t 297))⟩] [3, 8, 12, 32, 298] [])
  (.cond (.t 298)
  (.seq (.region [⟨some 2, none, .p (.mv (.k (.c (C.bool false))))⟩] [2])
  .ret)
  .skip)))))
  (.region [⟨some 253, none, .p (.mv (.t 32))⟩,
    ⟨some 254, none, .p (.bin .add (.t 253) (.k (.c (C.int .i64 1))))⟩,
    ⟨some 32, none, .p (.mv (.t 254))⟩] [3, 8, 12, 32]))) [3, 8, 12, 32])))
  (.seq (.region [⟨some 299, none, .h (.load 25 true (.t 12))⟩,
    ⟨some 300, none, .h (.call (.f 76) [.t 299])⟩,
    ⟨some 301, none, .p (.mv (.t 300))⟩,
    ⟨some 302, some (301, true), .p (.fld 24 (.t 12))⟩,
    ⟨some 303, some (301, true), .h (.load 1 false (.t 302))⟩,
    ⟨some 304, some (301, true), .p (.len (.t 303))⟩,
    ⟨some 305, some (301, true), .p (.fld 24 (.t 3))⟩,
    ⟨some 306, some (301, true), .h (.load 1 false (.t 305))⟩,
    ⟨some 307, some (301, true), .p (.len (.t 306))⟩,
    ⟨some 308, some (301, true), .p (.bin .leq (.t 304) (.t 307))⟩,
    ⟨some 309, none, .p (.pick (.t 301) (.t 308) (.k (.c (C.bool false))))⟩,
    ⟨some 2, none, .p (.mv (.t 309))⟩] [2])
  .ret))))))))))))))))))))) }
theorem a13_ok : okFn Try.prog 13 a13 = true := by kernel_rfl
/-- loop.example/g01215/spec.DealSame -/
def a15 : AFn := { np := 2, nt := 23, res := [.cell 4 2 true, .t 5], body :=
  (.seq (.region [⟨some 2, none, .p (.box 6 (.t 0))⟩,
    ⟨some 3, none, .p (.box 6 (.t 1))⟩,
    ⟨some 4, none, .p (.alloc [.k (C.int .i64 0), .k (C.int .i64 0)])⟩,
    ⟨some 5, none, .p (.mv (.k (.c (C.bool false))))⟩] [2, 3, 4])
  (.seq (.seq (.region [⟨some 9, none, .h (.load 6 true (.t 2))⟩,
    ⟨some 10, none, .h (.load 6 true (.t 3))⟩,
    ⟨some 11, none, .h (.call (.f 102) [.t 9, .t 10])⟩,
    ⟨some 8, none, .p (.mv (.t 11))⟩,
    ⟨some 12, none, .p (.ext (.t 8) 0)⟩,
    ⟨some 13, none, .p (.ext (.t 8) 1)⟩,
    ⟨some 6, none, .p (.mv (.t 12))⟩,
    ⟨some 7, none, .p (.mv (.t 13))⟩] [2, 3, 4, 7])
  (.seq (.region [⟨some 14, none, .p (.mv (.t 7))⟩,
    ⟨some 15, none, .p (.un .not (.t 14))⟩] [2, 3, 4, 15])
  (.cond (.t 15)
  (.seq (.region [⟨some 16, none, .p (.build [.k (C.int .i64 0), .k (C.int .i64 0)] [])⟩,
    ⟨none, none, .h (.store 2 (.t 4) (.t 16))⟩,
    ⟨some 5, none, .p (.mv (.k (.c (C.bool false))))⟩] [4, 5])
  .ret)
  .skip)))
  (.seq (.regionD [⟨some 17, none, .h (.load 6 true (.t 2))⟩,
    ⟨some 18, none, .h (.load 6 true (.t 3))⟩,
    ⟨some 19, none, .h (.call (.f 104) [.t 17, .t 18, .k (.c (C.int .i64 0))])⟩,
    ⟨some 20, none, .h (.load 6 true (.t 3))⟩,
    ⟨some 21, none, .h (.call (.f 105) [.t 20])⟩,
    ⟨some 22, none, .h (.call (.f 103) [.t 19, .t 21])⟩,
    ⟨none, none, .h (.store 2 (.t 4) (.t 22))⟩,
    ⟨some 5, none, .p (.mv (.k (.c (C.bool true))))⟩] [4, 5] [])
  .ret))) }
theorem a15_ok : okFn Try.prog 15 a15 = true := by kernel_rfl
/-- loop.example/g01215/laws.toIntA6 -/
def a16 : AFn := { np := 1, nt := 15, res := [.cell 2 6 true], body :=
  (.seq (.region [⟨some 1, none, .p (.box 6 (.t 0))⟩,
    ⟨some 2, none, .p (.alloc [.k (C.int .i64 0), .k (C.int .i64 0), .k (C.int .i64 0), .k (C.int .i64 0), .k (C.int .i64 0), .k (C.int .i64 0)])⟩] [1, 2])
  (.seq (.region [⟨some 3, none, .p (.alloc [.k (C.int .i64 0), .k (C.int .i64 0), .k (C.int .i64 0), .k (C.int .i64 0), .k (C.int .i64 0), .k (C.int .i64 0)])⟩] [1, 2, 3])
  (.seq (.seq (.region [⟨some 4, none, .p (.mv (.k (.c (C.int .i64 0))))⟩] [1, 2, 3, 4])
  (.block 0 (.loop (.seq (.seq (.region [⟨some 5, none, .p (.mv (.t 4))⟩,
    ⟨some 6, none, .p (.bin .lss (.t 5) (.k (.c (C.int .i64 6))))⟩] [1, 2, 3, 4, 6])
  (.cond (.t 6)
  .skip
  (.exit 0)))
  (.seq (.block 1 (.region [⟨some 9, none, .p (.mv (.t 4))⟩,
    ⟨some 10, none, .p (.mv (.t 4))⟩,
    ⟨some 11, none, .p (.ixA 6 1 (.t 1) (.t 10))⟩,
    ⟨some 12, none, .h (.load 1 false (.t 11))⟩,
    ⟨some 13, none, .p (.ixA 6 1 (.t 3) (.t 9))⟩,
    ⟨none, none, .h (.store 1 (.t 13) (.t 12))⟩] [1, 2, 3, 4]))
  (.region [⟨some 7, none, .p (.mv (.t 4))⟩,
    ⟨some 8, none, .p (.bin .add (.t 7) (.k (.c (C.int .i64 1))))⟩,
    ⟨some 4, none, .p (.mv (.t 8))⟩] [1, 2, 3, 4]))) [1, 2, 3, 4])))
  (.seq (.region [⟨some 14, none, .h (.load 6 true (.t 3))⟩,
    ⟨none, none, .h (.store 6 (.t 2) (.t 14))⟩] [2])
  .ret)))) }
theorem a16_ok : okFn Try.prog 16 a16 = true := by kernel_rfl
/-- loop.example/g01215/impl.DealSame -/
def a17 : AFn := { np := 2, nt := 17, res := [.cell 4 2 true, .t 5], body :=
  (.seq (.region [⟨some 2, none, .p (.box 6 (.t 0))⟩,
    ⟨some 3, none, .p (.box 6 (.t 1))⟩,
    ⟨some 4, none, .p (.alloc [.k (C.int .i64 0), .k (C.int .i64 0)])⟩,
    ⟨some 5, none, .p (.mv (.k (.c (C.bool false))))⟩] [2, 3, 4])
  (.seq (.seq (.region [⟨some 6, none, .h (.load 6 true (.t 2))⟩,
    ⟨some 7, none, .h (.load 6 true (.t 3))⟩,
    ⟨some 8, none, .h (.call (.f 106) [.t 6, .t 7])⟩,
    ⟨some 9, none, .p (.un .not (.t 8))⟩] [2, 3, 4, 9])
  (.cond (.t 9)
  (.seq (.region [⟨some 10, none, .p (.build [.k (C.int .i64 0), .k (C.int .i64 0)] [])⟩,
    ⟨none, none, .h (.store 2 (.t 4) (.t 10))⟩,
    ⟨some 5, none, .p (.mv (.k (.c (C.bool false))))⟩] [4, 5])
  .ret)
  .skip))
  (.seq (.regionD [⟨some 11, none, .h (.slA 6 1 (.t 2) none none)⟩,
    ⟨some 12, none, .h (.load 6 true (.t 3))⟩,
    ⟨some 13, none, .h (.call (.f 108) [.t 11, .t 12])⟩,
    ⟨some 14, none, .h (.load 6 true (.t 3))⟩,
    ⟨some 15, none, .h (.call (.f 109) [.t 14])⟩,
    ⟨some 16, none, .h (.call (.f 107) [.t 13, .t 15])⟩,
    ⟨none, none, .h (.store 2 (.t 4) (.t 16))⟩,
    ⟨some 5, none, .p (.mv (.k (.c (C.bool true))))⟩] [4, 5] [])
  .ret))) }
theorem a17_ok : okFn Try.prog 17 a17 = true := by kernel_rfl
/-- loop.example/g01215/laws.eqIntA2 -/
def a18 : AFn := { np := 2, nt := 17, res := [.t 4], body :=
  (.seq (.region [⟨some 2, none, .p (.box 2 (.t 0))⟩,
    ⟨some 3, none, .p (.box 2 (.t 1))⟩,
    ⟨some 4, none, .p (.mv (.k (.c (C.bool false))))⟩] [2, 3])
  (.seq (.seq (.region [⟨some 5, none, .p (.mv (.k (.c (C.int .i64 0))))⟩] [2, 3, 5])
  (.block 0 (.loop (.seq (.seq (.region [⟨some 6, none, .p (.mv (.t 5))⟩,
    ⟨some 7, none, .p (.bin .lss (.t 6) (.k (.c (C.int .i64 2))))⟩] [2, 3, 5, 7])
  (.cond (.t 7)
  .skip
  (.exit 0)))
  (.seq (.block 1 (.seq (.regionD [⟨some 10, none, .p (.mv (.t 5))⟩,
    ⟨some 11, none, .p (.ixA 2 1 (.t 2) (.t 10))⟩,
    ⟨some 12, none, .h (.load 1 false (.t 11))⟩,
    ⟨some 13, none, .p (.mv (.t 5))⟩,
    ⟨some 14, none, .p (.ixA 2 1 (.t 3) (.t 13))⟩,
    ⟨some 15, none, .h (.load 1 false (.t 14))⟩,
    ⟨some 16, none, .p (.bin .neq (.t 12) (.t 15))⟩] [2, 3, 5, 16] [])
  (.cond (.t 16)
  (.seq (.region [⟨some 4, none, .p (.mv (.k (.c (C.bool false))))⟩] [4])
  .ret)
  .skip)))
  (.region [⟨some 8, none, .p (.mv (.t 5))⟩,
    ⟨some 9, none, .p (.bin .add (.t 8) (.k (.c (C.int .i64 1))))⟩,
    ⟨some 5, none, .p (.mv (.t 9))⟩] [2, 3, 5]))) [2, 3, 5])))
  (.seq (.region [⟨some 4, none, .p (.mv (.k (.c (C.bool true))))⟩] [4])
  .ret))) }
theorem a18_ok : okFn Try.prog 18 a18 = true := by kernel_rfl
/-- loop.example/g01215/laws.szReplay -/
def a19 : AFn := { np := 2, nt := 12, res := [.t 4], body :=
  (.seq (.region [⟨some 2, none, .p (.box 25 (.t 0))⟩,
    ⟨some 4, none, .p (.mv (.k (.c (C.int .i64 0))))⟩] [1, 2])
  (.seq (.region [⟨some 5, none, .p (.fld 24 (.t 2))⟩,
    ⟨some 6, none, .h (.load 1 false (.t 5))⟩,
    ⟨some 7, none, .p (.mv (.t 1))⟩,
    ⟨some 8, none, .h (.call (.f 110) [.t 6, .t 7])⟩,
    ⟨some 1, none, .p (.mv (.t 8))⟩] [1])
  (.seq (.seq (.region [⟨some 9, none, .p (.mv (.t 1))⟩,
    ⟨some 10, none, .p (.bin .lss (.t 9) (.k (.c (C.int .i64 0))))⟩] [1, 10])
  (.cond (.t 10)
  (.seq (.region [⟨some 4, none, .p (.mv (.k (.c (C.int .i64 (-1)))))⟩] [4])
  .ret)
  .skip))
  (.seq (.region [⟨some 11, none, .p (.mv (.t 1))⟩,
    ⟨some 4, none, .p (.mv (.t 11))⟩] [4])
  .ret)))) }
theorem a19_ok : okFn Try.prog 19 a19 = true := by kernel_rfl
/-- loop.example/g01215/spec.CanSwap -/
def a20 : AFn := { np := 2, nt := 73, res := [.t 4, .t 5], body :=
  (.seq (.region [⟨some 2, none, .p (.box 25 (.t 0))⟩,
    ⟨some 4, none, .p (.mv (.k (.c (C.bool false))))⟩,
    ⟨some 5, none, .p (.mv (.k (.c (C.bool false))))⟩] [1, 2])
  (.seq (.region [⟨some 12, none, .h (.load 25 true (.t 2))⟩,
    ⟨some 13, none, .h (.call (.f 111) [.t 12])⟩,
    ⟨some 11, none, .p (.mv (.t 13))⟩,
    ⟨some 14, none, .p (.ext (.t 11) 0)⟩,
    ⟨some 15, none, .p (.ext (.t 11) 1)⟩,
    ⟨some 6, none, .p (.mv (.t 14))⟩,
    ⟨some 7, none, .p (.mv (.t 15))⟩] [1, 2, 6, 7])
  (.seq (.seq (.region [⟨some 16, none, .p (.mv (.t 7))⟩,
    ⟨some 17, none, .p (.un .not (.t 16))⟩,
    ⟨some 18, none, .p (.mv (.t 17))⟩,
    ⟨some 19, some (18, false), .p (.mv (.t 1))⟩,
    ⟨some 20, some (18, false), .p (.fld 24 (.t 2))⟩,
    ⟨some 21, some (18, false), .h (.load 1 false (.t 20))⟩,
    ⟨some 22, some (18, false), .p (.len (.t 21))⟩,
    ⟨some 23, some (18, false), .p (.bin .sub (.t 22) (.k (.c (C.int .i64 2))))⟩,
    ⟨some 24, some (18, false), .h (.call (.f 112) [.t 19, .k (.c (C.int .i64 0)), .t 23])⟩,
    ⟨some 25, some (18, false), .p (.un .not (.t 24))⟩,
    ⟨some 26, none, .p (.pick (.t 18) (.k (.c (C.bool true))) (.t 25))⟩] [1, 2, 6, 26])
  (.cond (.t 26)
  (.seq (.region [⟨some 4, none, .p (.mv (.k (.c (C.bool false))))⟩,
    ⟨some 5, none, .p (.mv (.k (.c (C.bool false))))⟩] [4, 5])
  .ret)
  .skip))
  (.seq (.region [⟨some 27, none, .h (.load 25 true (.t 2))⟩,
    ⟨some 28, none, .p (.fld 24 (.t 2))⟩,
    ⟨some 29, none, .h (.load 1 false (.t 28))⟩,
    ⟨some 30, none, .p (.len (.t 29))⟩,
    ⟨some 31, none, .h (.call (.f 113) [.t 27, .t 30])⟩,
    ⟨some 8, none, .p (.alloc [.k (C.int .i64 0), .k (C.int .i64 0), .k (C.int .i64 0), .k (C.int .i64 0), .k (C.int .i64 0), .k (C.int .i64 0), .k (C.int .i64 0), .k (C.int .i64 0), .k (C.int .i64 0), .k (C.int .i64 0), .k (C.int .i64 0), .k (C.int .i64 0), .k (C.int .i64 0), .k (C.int .i64 0), .k (C.int .i64 0), .k (C.int .i64 0), .k (C.int .i64 0), .k (C.int .i64 0), .k (C.int .i64 0), .k (C.int .i64 0), .k (C.int .i64 0), .k (C.int .i64 0), .k (C.int .i64 0), .k (C.int .i64 0), .sl 2])⟩,
    ⟨none, none, .h (.store 25 (.t 8) (.t 31))⟩] [1, 2, 6, 8])
  (.seq (.regionD [⟨some 32, none, .p (.fld 24 (.t 8))⟩,
    ⟨some 33, none, .h (.load 1 false (.t 32))⟩,
    ⟨some 34, none, .p (.mv (.t 1))⟩,
    ⟨some 35, none, .p (.fld 24 (.t 2))⟩,
    ⟨some 36, none, .h (.load 1 false (.t 35))⟩,
    ⟨some 37, none, .p (.mv (.t 1))⟩,
    ⟨some 38, none, .p (.bin .add (.t 37) (.k (.c (C.int .i64 1))))⟩,
    ⟨some 39, none, .p (.ixS 2 (.t 36) (.t 38))⟩,
    ⟨some 40, none, .h (.load 2 true (.t 39))⟩,
    ⟨some 41, none, .p (.ixS 2 (.t 33) (.t 34))⟩,
    ⟨none, none, .h (.store 2 (.t 41) (.t 40))⟩] [1, 2, 6, 8] [])
  (.seq (.regionD [⟨some 42, none, .p (.fld 24 (.t 8))⟩,
    ⟨some 43, none, .h (.load 1 false (.t 42))⟩,
    ⟨some 44, none, .p (.mv (.t 1))⟩,
    ⟨some 45, none, .p (.bin .add (.t 44) (.k (.c (C.int .i64 1))))⟩,
    ⟨some 46, none, .p (.fld 24 (.t 2))⟩,
    ⟨some 47, none, .h (.load 1 false (.t 46))⟩,
    ⟨some 48, none, .p (.mv (.t 1))⟩,
    ⟨some 49, none, .p (.ixS 2 (.t 47) (.t 48))⟩,
    ⟨some 50, none, .h (.load 2 true (.t 49))⟩,
    ⟨some 51, none, .p (.ixS 2 (.t 43) (.t 45))⟩,
    ⟨none, none, .h (.store 2 (.t 51) (.t 50))⟩] [6, 8] [])
  (.seq (.region [⟨some 53, none, .h (.load 25 true (.t 8))⟩,
    ⟨some 54, none, .h (.call (.f 111) [.t 53])⟩,
    ⟨some 52, none, .p (.mv (.t 54))⟩,
    ⟨some 55, none, .p (.ext (.t 52) 0)⟩,
    ⟨some 56, none, .p (.ext (.t 52) 1)⟩,
    ⟨some 9, none, .p (.mv (.t 55))⟩,
    ⟨some 10, none, .p (.mv (.t 56))⟩] [6, 9, 10])
  (.seq (.regionD [⟨some 57, none, .p (.mv (.t 10))⟩,
    ⟨some 58, none, .p (.mv (.t 57))⟩,
    ⟨some 59, some (58, true), .p (.mv (.t 9))⟩,
    ⟨some 60, some (58, true), .p (.mv (.t 9))⟩,
    ⟨some 61, some (58, true), .p (.len (.t 60))⟩,
    ⟨some 62, some (58, true), .p (.bin .sub (.t 61) (.k (.c (C.int .i64 1))))⟩,
    ⟨some 63, some (58, true), .p (.ixS 24 (.t 59) (.t 62))⟩,
    ⟨some 64, some (58, true), .h (.load 24 true (.t 63))⟩,
    ⟨some 65, some (58, true), .p (.mv (.t 6))⟩,
    ⟨some 66, some (58, true), .p (.mv (.t 6))⟩,
    ⟨some 67, some (58, true), .p (.len (.t 66))⟩,
    ⟨some 68, some (58, true), .p (.bin .sub (.t 67) (.k (.c (C.int .i64 1))))⟩,
    ⟨some 69, some (58, true), .p (.ixS 24 (.t 65) (.t 68))⟩,
    ⟨some 70, some (58, true), .h (.load 24 true (.t 69))⟩,
    ⟨some 71, some (58, true), .p (.eqv false (List.replicate 24 (.int .i64)) (.t 64) (.t 70))⟩,
    ⟨some 72, none, .p (.pick (.t 58) (.t 71) (.k (.c (C.bool false))))⟩,
    ⟨some 4, none, .p (.mv (.t 72))⟩,
    ⟨some 5, none, .p (.mv (.k (.c (C.bool true))))⟩] [4, 5] [])
  .ret)))))))) }
theorem a20_ok : okFn Try.prog 20 a20 = true := by kernel_rfl
/-- loop.example/g01215/laws.toReplay -/
def a21 : AFn := { np := 1, nt := 13, res := [.cell 2 25 true], body :=
  (.seq (.region [⟨some 1, none, .p (.box 25 (.t 0))⟩,
    ⟨some 2, none, .p (.alloc [.k (C.int .i64 0), .k (C.int .i64 0), .k (C.int .i64 0), .k (C.int .i64 0), .k (C.int .i64 0), .k (C.int .i64 0), .k (C.int .i64 0), .k (C.int .i64 0), .k (C.int .i64 0), .k (C.int .i64 0), .k (C.int .i64 0), .k (C.int .i64 0), .k (C.int .i64 0), .k (C.int .i64 0), .k (C.int .i64 0), .k (C.int .i64 0), .k (C.int .i64 0), .k (C.int .i64 0), .k (C.int .i64 0), .k (C.int .i64 0), .k (C.int .i64 0), .k (C.int .i64 0), .k (C.int .i64 0), .k (C.int .i64 0), .sl 2])⟩] [1, 2])
  (.seq (.region [⟨some 3, none, .p (.alloc [.k (C.int .i64 0), .k (C.int .i64 0), .k (C.int .i64 0), .k (C.int .i64 0), .k (C.int .i64 0), .k (C.int .i64 0), .k (C.int .i64 0), .k (C.int .i64 0), .k (C.int .i64 0), .k (C.int .i64 0), .k (C.int .i64 0), .k (C.int .i64 0), .k (C.int .i64 0), .k (C.int .i64 0), .k (C.int .i64 0), .k (C.int .i64 0), .k (C.int .i64 0), .k (C.int .i64 0), .k (C.int .i64 0), .k (C.int .i64 0), .k (C.int .i64 0), .k (C.int .i64 0), .k (C.int .i64 0), .k (C.int .i64 0), .sl 2])⟩] [1, 2, 3])
  (.seq (.region [⟨some 4, none, .p (.fld 0 (.t 1))⟩,
    ⟨some 5, none, .h (.load 24 true (.t 4))⟩,
    ⟨some 6, none, .h (.call (.f 114) [.t 5])⟩,
    ⟨some 7, none, .p (.fld 0 (.t 3))⟩,
    ⟨none, none, .h (.store 24 (.t 7) (.t 6))⟩] [1, 2, 3])
  (.seq (.region [⟨some 8, none, .p (.fld 24 (.t 1))⟩,
    ⟨some 9, none, .h (.load 1 false (.t 8))⟩,
    ⟨some 10, none, .h (.call (.f 115) [.t 9])⟩,
    ⟨some 11, none, .p (.fld 24 (.t 3))⟩,
    ⟨none, none, .h (.store 1 (.t 11) (.t 10))⟩] [2, 3])
  (.seq (.region [⟨some 12, none, .h (.load 25 true (.t 3))⟩,
    ⟨none, none, .h (.store 25 (.t 2) (.t 12))⟩] [2])
  .ret))))) }
theorem a21_ok : okFn Try.prog 21 a21 = true := by kernel_rfl
/-- loop.example/g01215/impl.CanSwap -/
def a22 : AFn := { np := 2, nt := 72, res := [.t 4, .t 5], body :=
  (.seq (.region [⟨some 2, none, .p (.box 25 (.t 0))⟩,
    ⟨some 4, none, .p (.mv (.k (.c (C.bool false))))⟩,
    ⟨some 5, none, .p (.mv (.k (.c (C.bool false))))⟩] [1, 2])
  (.seq (.region [⟨some 11, none, .h (.load 25 true (.t 2))⟩,
    ⟨some 12, none, .h (.call (.f 116) [.t 11])⟩,
    ⟨some 10, none, .p (.mv (.t 12))⟩,
    ⟨some 13, none, .p (.ext (.t 10) 0)⟩,
    ⟨some 14, none, .p (.ext (.t 10) 1)⟩,
    ⟨some 6, none, .p (.mv (.t 13))⟩,
    ⟨some 7, none, .p (.mv (.t 14))⟩] [1, 2, 6, 7])
  (.seq (.seq (.region [⟨some 15, none, .p (.mv (.t 7))⟩,
    ⟨some 16, none, .p (.un .not (.t 15))⟩,
    ⟨some 17, none, .p (.mv (.t 16))⟩,
    ⟨some 18, some (17, false), .p (.mv (.t 1))⟩,
    ⟨some 19, some (17, false), .p (.fld 24 (.t 2))⟩,
    ⟨some 20, some (17, false), .h (.load 1 false (.t 19))⟩,
    ⟨some 21, some (17, false), .p (.len (.t 20))⟩,
    ⟨some 22, some (17, false), .p (.bin .sub (.t 21) (.k (.c (C.int .i64 2))))⟩,
    ⟨some 23, some (17, false), .h (.call (.f 117) [.t 18, .k (.c (C.int .i64 0)), .t 22])⟩,
    ⟨some 24, some (17, false), .p (.un .not (.t 23))⟩,
    ⟨some 25, none, .p (.pick (.t 17) (.k (.c (C.bool true))) (.t 24))⟩] [1, 2, 6, 25])
  (.cond (.t 25)
  (.seq (.region [⟨some 4, none, .p (.mv (.k (.c (C.bool false))))⟩,
    ⟨some 5, none, .p (.mv (.k (.c (C.bool false))))⟩] [4, 5])
  .ret)
  .skip))
  (.seq (.region [⟨some 26, none, .h (.load 25 true (.t 2))⟩,
    ⟨some 27, none, .p (.fld 24 (.t 2))⟩,
    ⟨some 28, none, .h (.load 1 false (.t 27))⟩,
    ⟨some 29, none, .p (.mksl 1 1 [.sl 2] [(0, 1, .t 28)])⟩,
    ⟨some 30, none, .h (.call (.f 118) [.t 26, .t 29])⟩,
    ⟨some 8, none, .p (.alloc [.k (C.int .i64 0), .k (C.int .i64 0), .k (C.int .i64 0), .k (C.int .i64 0), .k (C.int .i64 0), .k (C.int .i64 0), .k (C.int .i64 0), .k (C.int .i64 0), .k (C.int .i64 0), .k (C.int .i64 0), .k (C.int .i64 0), .k (C.int .i64 0), .k (C.int .i64 0), .k (C.int .i64 0), .k (C.int .i64 0), .k (C.int .i64 0), .k (C.int .i64 0), .k (C.int .i64 0), .k (C.int .i64 0), .k (C.int .i64 0), .k (C.int .i64 0), .k (C.int .i64 0), .k (C.int .i64 0), .k (C.int .i64 0), .sl 2])⟩,
    ⟨none, none, .h (.store 25 (.t 8) (.t 30))⟩] [1, 6, 8])
  (.seq (.regionD [⟨some 31, none, .p (.fld 24 (.t 8))⟩,
    ⟨some 32, none, .h (.load 1 false (.t 31))⟩,
    ⟨some 33, none, .p (.mv (.t 1))⟩,
    ⟨some 34, none, .p (.fld 24 (.t 8))⟩,
    ⟨some 35, none, .h (.load 1 false (.t 34))⟩,
    ⟨some 36, none, .p (.mv (.t 1))⟩,
    ⟨some 37, none, .p (.bin .add (.t 36) (.k (.c (C.int .i64 1))))⟩,
    ⟨some 38, none, .p (.fld 24 (.t 8))⟩,
    ⟨some 39, none, .h (.load 1 false (.t 38))⟩,
    ⟨some 40, none, .p (.mv (.t 1))⟩,
    ⟨some 41, none, .p (.bin .add (.t 40) (.k (.c (C.int .i64 1))))⟩,
    ⟨some 42, none, .p (.ixS 2 (.t 39) (.t 41))⟩,
    ⟨some 43, none, .h (.load 2 true (.t 42))⟩,
    ⟨some 44, none, .p (.fld 24 (.t 8))⟩,
    ⟨some 45, none, .h (.load 1 false (.t 44))⟩,
    ⟨some 46, none, .p (.mv (.t 1))⟩,
    ⟨some 47, none, .p (.ixS 2 (.t 45) (.t 46))⟩,
    ⟨some 48, none, .h (.load 2 true (.t 47))⟩,
    ⟨some 49, none, .p (.ixS 2 (.t 32) (.t 33))⟩,
    ⟨none, none, .h (.store 2 (.t 49) (.t 43))⟩,
    ⟨some 50, none, .p (.ixS 2 (.t 35) (.t 37))⟩,
    ⟨none, none, .h (.store 2 (.t 50) (.t 48))⟩] [6, 8] [(.t 34, .t 49)])
  (.seq (.region [⟨some 52, none, .h (.load 25 true (.t 8))⟩,
    ⟨some 53, none, .h (.call (.f 116) [.t 52])⟩,
    ⟨some 51, none, .p (.mv (.t 53))⟩,
    ⟨some 54, none, .p (.ext (.t 51) 0)⟩,
    ⟨some 55, none, .p (.ext (.t 51) 1)⟩,
    ⟨some 9, none, .p (.mv (.t 54))⟩,
    ⟨some 7, none, .p (.mv (.t 55))⟩] [6, 7, 9])
  (.seq (.regionD [⟨some 56, none, .p (.mv (.t 7))⟩,
    ⟨some 57, none, .p (.mv (.t 56))⟩,
    ⟨some 58, some (57, true), .p (.mv (.t 9))⟩,
    ⟨some 59, some (57, true), .p (.mv (.t 9))⟩,
    ⟨some 60, some (57, true), .p (.len (.t 59))⟩,
    ⟨some 61, some (57, true), .p (.bin .sub (.t 60) (.k (.c (C.int .i64 1))))⟩,
    ⟨some 62, some (57, true), .p (.ixS 24 (.t 58) (.t 61))⟩,
    ⟨some 63, some (57, true), .h (.load 24 true (.t 62))⟩,
    ⟨some 64, some (57, true), .p (.mv (.t 6))⟩,
    ⟨some 65, some (57, true), .p (.mv (.t 6))⟩,
    ⟨some 66, some (57, true), .p (.len (.t 65))⟩,
    ⟨some 67, some (57, true), .p (.bin .sub (.t 66) (.k (.c (C.int .i64 1))))⟩,
    ⟨some 68, some (57, true), .p (.ixS 24 (.t 64) (.t 67))⟩,
    ⟨some 69, some (57, true), .h (.load 24 true (.t 68))⟩,
    ⟨some 70, some (57, true), .p (.eqv false (List.replicate 24 (.int .i64)) (.t 63) (.t 69))⟩,
    ⟨some 71, none, .p (.pick (.t 57) (.t 70) (.k (.c (C.bool false))))⟩,
    ⟨some 4, none, .p (.mv (.t 71))⟩,
    ⟨some 5, none, .p (.mv (.k (.c (C.bool true))))⟩] [4, 5] [])
  .ret))))))) }
theorem a22_ok : okFn Try.prog 22 a22 = true := by kernel_rfl
/-- loop.example/g01215/laws.eqReplay -/
def a23 : AFn := { np := 2, nt := 17, res := [.t 4], body :=
  (.seq (.region [⟨some 2, none, .p (.box 25 (.t 0))⟩,
    ⟨some 3, none, .p (.box 25 (.t 1))⟩,
    ⟨some 4, none, .p (.mv (.k (.c (C.bool false))))⟩] [2, 3])
  (.seq (.seq (.region [⟨some 5, none, .p (.fld 0 (.t 2))⟩,
    ⟨some 6, none, .h (.load 24 true (.t 5))⟩,
    ⟨some 7, none, .p (.fld 0 (.t 3))⟩,
    ⟨some 8, none, .h (.load 24 true (.t 7))⟩,
    ⟨some 9, none, .h (.call (.f 119) [.t 6, .t 8])⟩,
    ⟨some 10, none, .p (.un .not (.t 9))⟩] [2, 3, 10])
  (.cond (.t 10)
  (.seq (.region [⟨some 4, none, .p (.mv (.k (.c (C.bool false))))⟩] [4])
  .ret)
  .skip))
  (.seq (.seq (.region [⟨some 11, none, .p (.fld 24 (.t 2))⟩,
    ⟨some 12, none, .h (.load 1 false (.t 11))⟩,
    ⟨some 13, none, .p (.fld 24 (.t 3))⟩,
    ⟨some 14, none, .h (.load 1 false (.t 13))⟩,
    ⟨some 15, none, .h (.call (.f 120) [.t 12, .t 14])⟩,
    ⟨some 16, none, .p (.un .not (.t 15))⟩] [16])
  (.cond (.t 16)
  (.seq (.region [⟨some 4, none, .p (.mv (.k (.c (C.bool false))))⟩] [4])
  .ret)
  .skip))
  (.seq (.region [⟨some 4, none, .p (.mv (.k (.c (C.bool true))))⟩] [4])
  .ret)))) }
theorem a23_ok : okFn Try.prog 23 a23 = true := by kernel_rfl
/-- loop.example/g01215/spec.AddPour -/
def a24 : AFn := { np := 2, nt := 46, res := [.cell 4 25 true, .t 5], body :=
  (.seq (.region [⟨some 2, none, .p (.box 25 (.t 0))⟩,
    ⟨some 3, none, .p (.box 2 (.t 1))⟩,
    ⟨some 4, none, .p (.alloc [.k (C.int .i64 0), .k (C.int .i64 0), .k (C.int .i64 0), .k (C.int .i64 0), .k (C.int .i64 0), .k (C.int .i64 0), .k (C.int .i64 0), .k (C.int .i64 0), .k (C.int .i64 0), .k (C.int .i64 0), .k (C.int .i64 0), .k (C.int .i64 0), .k (C.int .i64 0), .k (C.int .i64 0), .k (C.int .i64 0), .k (C.int .i64 0), .k (C.int .i64 0), .k (C.int .i64 0), .k (C.int .i64 0), .k (C.int .i64 0), .k (C.int .i64 0), .k (C.int .i64 0), .k (C.int .i64 0), .k (C.int .i64 0), .sl 2])⟩,
    ⟨some 5, none, .p (.mv (.k (.c (C.bool false))))⟩] [2, 3, 4])
  (.seq (.region [⟨some 10, none, .h (.load 25 true (.t 2))⟩,
    ⟨some 11, none, .h (.call (.f 111) [.t 10])⟩,
    ⟨some 9, none, .p (.mv (.t 11))⟩,
    ⟨some 12, none, .p (.ext (.t 9) 0)⟩,
    ⟨some 13, none, .p (.ext (.t 9) 1)⟩,
    ⟨some 6, none, .p (.mv (.t 12))⟩,
    ⟨some 7, none, .p (.mv (.t 13))⟩] [2, 3, 4, 6, 7])
  (.seq (.seq (.regionD [⟨some 14, none, .p (.mv (.t 7))⟩,
    ⟨some 15, none, .p (.un .not (.t 14))⟩,
    ⟨some 16, none, .p (.mv (.t 15))⟩,
    ⟨some 17, some (16, false), .p (.fld 24 (.t 2))⟩,
    ⟨some 18, some (16, false), .h (.load 1 false (.t 17))⟩,
    ⟨some 19, some (16, false), .p (.len (.t 18))⟩,
    ⟨some 20, some (16, false), .p (.bin .geq (.t 19) (.k (.c (C.int .i64 60))))⟩,
    ⟨some 21, none, .p (.pick (.t 16) (.k (.c (C.bool true))) (.t 20))⟩,
    ⟨some 22, none, .p (.mv (.t 21))⟩,
    ⟨some 23, some (22, false), .p (.mv (.t 6))⟩,
    ⟨some 24, some (22, false), .p (.mv (.t 6))⟩,
    ⟨some 25, some (22, false), .p (.len (.t 24))⟩,
    ⟨some 26, some (22, false), .p (.bin .sub (.t 25) (.k (.c (C.int .i64 1))))⟩,
    ⟨some 27, some (22, false), .p (.ixS 24 (.t 23) (.t 26))⟩,
    ⟨some 28, some (22, false), .h (.load 24 true (.t 27))⟩,
    ⟨some 29, some (22, false), .h (.load 2 true (.t 3))⟩,
    ⟨some 30, some (22, false), .h (.call (.f 121) [.t 28, .t 29])⟩,
    ⟨some 31, some (22, false), .p (.un .not (.t 30))⟩,
    ⟨some 32, none, .p (.pick (.t 22) (.k (.c (C.bool true))) (.t 31))⟩] [2, 3, 4, 32] [])
  (.cond (.t 32)
  (.seq (.region [⟨some 33, none, .p (.build [.k (C.int .i64 0), .k (C.int .i64 0), .k (C.int .i64 0), .k (C.int .i64 0), .k (C.int .i64 0), .k (C.int .i64 0), .k (C.int .i64 0), .k (C.int .i64 0), .k (C.int .i64 0), .k (C.int .i64 0), .k (C.int .i64 0), .k (C.int .i64 0), .k (C.int .i64 0), .k (C.int .i64 0), .k (C.int .i64 0), .k (C.int .i64 0), .k (C.int .i64 0), .k (C.int .i64 0), .k (C.int .i64 0), .k (C.int .i64 0), .k (C.int .i64 0), .k (C.int .i64 0), .k (C.int .i64 0), .k (C.int .i64 0), .sl 2] [])⟩,
    ⟨none, none, .h (.store 25 (.t 4) (.t 33))⟩,
    ⟨some 5, none, .p (.mv (.k (.c (C.bool false))))⟩] [4, 5])
  .ret)
  .skip))
  (.seq (.region [⟨some 34, none, .h (.load 25 true (.t 2))⟩,
    ⟨some 35, none, .p (.fld 24 (.t 2))⟩,
    ⟨some 36, none, .h (.load 1 false (.t 35))⟩,
    ⟨some 37, none, .p (.len (.t 36))⟩,
    ⟨some 38, none, .h (.call (.f 113) [.t 34, .t 37])⟩,
    ⟨some 8, none, .p (.alloc [.k (C.int .i64 0), .k (C.int .i64 0), .k (C.int .i64 0), .k (C.int .i64 0), .k (C.int .i64 0), .k (C.int .i64 0), .k (C.int .i64 0), .k (C.int .i64 0), .k (C.int .i64 0), .k (C.int .i64 0), .k (C.int .i64 0), .k (C.int .i64 0), .k (C.int .i64 0), .k (C.int .i64 0), .k (C.int .i64 0), .k (C.int .i64 0), .k (C.int .i64 0), .k (C.int .i64 0), .k (C.int .i64 0), .k (C.int .i64 0), .k (C.int .i64 0), .k (C.int .i64 0), .k (C.int .i64 0), .k (C.int .i64 0), .sl 2])⟩,
    ⟨none, none, .h (.store 25 (.t 8) (.t 38))⟩] [3, 4, 8])
  (.seq (.region [⟨some 39, none, .p (.fld 24 (.t 8))⟩,
    ⟨some 40, none, .h (.load 1 false (.t 39))⟩,
    ⟨some 41, none, .h (.load 2 true (.t 3))⟩,
    ⟨some 42, none, .p (.mksl 2 1 [.k (C.int .i64 0), .k (C.int .i64 0)] [(0, 2, .t 41)])⟩,
    ⟨some 43, none, .h (.app 2 (.t 40) (.t 42))⟩,
    ⟨some 44, none, .p (.fld 24 (.t 8))⟩,
    ⟨none, none, .h (.store 1 (.t 44) (.t 43))⟩] [4, 8])
  (.seq (.region [⟨some 45, none, .h (.load 25 true (.t 8))⟩,
    ⟨none, none, .h (.store 25 (.t 4) (.t 45))⟩,
    ⟨some 5, none, .p (.mv (.k (.c (C.bool true))))⟩] [4, 5])
  .ret)))))) }
theorem a24_ok : okFn Try.prog 24 a24 = true := by kernel_rfl
/-- loop.example/g01215/laws.toIntA2 -/
def a25 : AFn := { np := 1, nt := 15, res := [.cell 2 2 true], body :=
  (.seq (.region [⟨some 1, none, .p (.box 2 (.t 0))⟩,
    ⟨some 2, none, .p (.alloc [.k (C.int .i64 0), .k (C.int .i64 0)])⟩] [1, 2])
  (.seq (.region [⟨some 3, none, .p (.alloc [.k (C.int .i64 0), .k (C.int .i64 0)])⟩] [1, 2, 3])
  (.seq (.seq (.region [⟨some 4, none, .p (.mv (.k (.c (C.int .i64 0))))⟩] [1, 2, 3, 4])
  (.block 0 (.loop (.seq (.seq (.region [⟨some 5, none, .p (.mv (.t 4))⟩,
    ⟨some 6, none, .p (.bin .lss (.t 5) (.k (.c (C.int .i64 2))))⟩] [1, 2, 3, 4, 6])
  (.cond (.t 6)
  .skip
  (.exit 0)))
  (.seq (.block 1 (.region [⟨some 9, none, .p (.mv (.t 4))⟩,
    ⟨some 10, none, .p (.mv (.t 4))⟩,
    ⟨some 11, none, .p (.ixA 2 1 (.t 1) (.t 10))⟩,
    ⟨some 12, none, .h (.load 1 false (.t 11))⟩,
    ⟨some 13, none, .p (.ixA 2 1 (.t 3) (.t 9))⟩,
    ⟨none, none, .h (.store 1 (.t 13) (.t 12))⟩] [1, 2, 3, 4]))
  (.region [⟨some 7, none, .p (.mv (.t 4))⟩,
    ⟨some 8, none, .p (.bin .add (.t 7) (.k (.c (C.int .i64 1))))⟩,
    ⟨some 4, none, .p (.mv (.t 8))⟩] [1, 2, 3, 4]))) [1, 2, 3, 4])))
  (.seq (.region [⟨some 14, none, .h (.load 2 true (.t 3))⟩,
    ⟨none, none, .h (.store 2 (.t 2) (.t 14))⟩] [2])
  .ret)))) }
theorem a25_ok : okFn Try.prog 25 a25 = true := by kernel_rfl
/-- loop.example/g01215/impl.AddPour -/
def a26 : AFn := { np := 2, nt := 19, res := [.cell 4 25 true, .t 5], body :=
  (.seq (.region [⟨some 2, none, .p (.box 25 (.t 0))⟩,
    ⟨some 3, none, .p (.box 2 (.t 1))⟩,
    ⟨some 4, none, .p (.alloc [.k (C.int .i64 0), .k (C.int .i64 0), .k (C.int .i64 0), .k (C.int .i64 0), .k (C.int .i64 0), .k (C.int .i64 0), .k (C.int .i64 0), .k (C.int .i64 0), .k (C.int .i64 0), .k (C.int .i64 0), .k (C.int .i64 0), .k (C.int .i64 0), .k (C.int .i64 0), .k (C.int .i64 0), .k (C.int .i64 0), .k (C.int .i64 0), .k (C.int .i64 0), .k (C.int .i64 0), .k (C.int .i64 0), .k (C.int .i64 0), .k (C.int .i64 0), .k (C.int .i64 0), .k (C.int .i64 0), .k (C.int .i64 0), .sl 2])⟩,
    ⟨some 5, none, .p (.mv (.k (.c (C.bool false))))⟩] [2, 3, 4])
  (.seq (.region [⟨some 7, none, .h (.load 25 true (.t 2))⟩,
    ⟨some 8, none, .p (.fld 24 (.t 2))⟩,
    ⟨some 9, none, .h (.load 1 false (.t 8))⟩,
    ⟨some 10, none, .h (.load 2 true (.t 3))⟩,
    ⟨some 11, none, .p (.mksl 2 1 [.k (C.int .i64 0), .k (C.int .i64 0)] [(0, 2, .t 10)])⟩,
    ⟨some 12, none, .p (.mksl 1 2 [.sl 2] [(0, 1, .t 9), (1, 1, .t 11)])⟩,
    ⟨some 13, none, .h (.call (.f 118) [.t 7, .t 12])⟩,
    ⟨some 6, none, .p (.alloc [.k (C.int .i64 0), .k (C.int .i64 0), .k (C.int .i64 0), .k (C.int .i64 0), .k (C.int .i64 0), .k (C.int .i64 0), .k (C.int .i64 0), .k (C.int .i64 0), .k (C.int .i64 0), .k (C.int .i64 0), .k (C.int .i64 0), .k (C.int .i64 0), .k (C.int .i64 0), .k (C.int .i64 0), .k (C.int .i64 0), .k (C.int .i64 0), .k (C.int .i64 0), .k (C.int .i64 0), .k (C.int .i64 0), .k (C.int .i64 0), .k (C.int .i64 0), .k (C.int .i64 0), .k (C.int .i64 0), .k (C.int .i64 0), .sl 2])⟩,
    ⟨none, none, .h (.store 25 (.t 6) (.t 13))⟩] [4, 6])
  (.seq (.seq (.region [⟨some 14, none, .h (.load 25 true (.t 6))⟩,
    ⟨some 15, none, .h (.call (.f 76) [.t 14])⟩,
    ⟨some 16, none, .p (.un .not (.t 15))⟩] [4, 6, 16])
  (.cond (.t 16)
  (.seq (.region [⟨some 17, none, .p (.build [.k (C.int .i64 0), .k (C.int .i64 0), .k (C.int .i64 0), .k (C.int .i64 0), .k (C.int .i64 0), .k (C.int .i64 0), .k (C.int .i64 0), .k (C.int .i64 0), .k (C.int .i64 0), .k (C.int .i64 0), .k (C.int .i64 0), .k (C.int .i64 0), .k (C.int .i64 0), .k (C.int .i64 0), .k (C.int .i64 0), .k (C.int .i64 0), .k (C.int .i64 0), .k (C.int .i64 0), .k (C.int .i64 0), .k (C.int .i64 0), .k (C.int .i64 0), .k (C.int .i64 0), .k (C.int .i64 0), .k (C.int .i64 0), .sl 2] [])⟩,
    ⟨none, none, .h (.store 25 (.t 4) (.t 17))⟩,
    ⟨some 5, none, .p (.mv (.k (.c (C.bool false))))⟩] [4, 5])
  .ret)
  .skip))
  (.seq (.region [⟨some 18, none, .h (.load 25 true (.t 6))⟩,
    ⟨none, none, .h (.store 25 (.t 4) (.t 18))⟩,
    ⟨some 5, none, .p (.mv (.k (.c (C.bool true))))⟩] [4, 5])
  .ret)))) }
theorem a26_ok : okFn Try.prog 26 a26 = true := by kernel_rfl
/-- loop.example/g01215/laws.markReplay -/
def a27 : AFn := { np := 2, nt := 10, res := [.t 4], body :=
  (.seq (.region [⟨some 2, none, .p (.box 25 (.t 0))⟩,
    ⟨some 4, none, .p (.mv (.k (.c (C.int .i64 0))))⟩] [1, 2])
  (.seq (.region [⟨some 5, none, .p (.fld 24 (.t 2))⟩,
    ⟨some 6, none, .h (.load 1 false (.t 5))⟩,
    ⟨some 7, none, .p (.mv (.t 1))⟩,
    ⟨some 8, none, .h (.call (.f 122) [.t 6, .t 7])⟩,
    ⟨some 1, none, .p (.mv (.t 8))⟩] [1])
  (.seq (.region [⟨some 9, none, .p (.mv (.t 1))⟩,
    ⟨some 4, none, .p (.mv (.t 9))⟩] [4])
  .ret))) }
theorem a27_ok : okFn Try.prog 27 a27 = true := by kernel_rfl
/-- loop.example/g01215/laws.heldReplay -/
def a28 : AFn := { np := 2, nt := 12, res := [.t 4], body :=
  (.seq (.region [⟨some 2, none, .p (.box 25 (.t 0))⟩,
    ⟨some 4, none, .p (.mv (.k (.c (C.int .i64 0))))⟩] [1, 2])
  (.seq (.region [⟨some 5, none, .p (.fld 24 (.t 2))⟩,
    ⟨some 6, none, .h (.load 1 false (.t 5))⟩,
    ⟨some 7, none, .p (.mv (.t 1))⟩,
    ⟨some 8, none, .h (.call (.f 123) [.t 6, .t 7])⟩,
    ⟨some 1, none, .p (.mv (.t 8))⟩] [1])
  (.seq (.seq (.region [⟨some 9, none, .p (.mv (.t 1))⟩,
    ⟨some 10, none, .p (.bin .lss (.t 9) (.k (.c (C.int .i64 0))))⟩] [1, 10])
  (.cond (.t 10)
  (.seq (.region [⟨some 4, none, .p (.mv (.k (.c (C.int .i64 (-1)))))⟩] [4])
  .ret)
  .skip))
  (.seq (.region [⟨some 11, none, .p (.mv (.t 1))⟩,
    ⟨some 4, none, .p (.mv (.t 11))⟩] [4])
  .ret)))) }
theorem a28_ok : okFn Try.prog 28 a28 = true := by kernel_rfl
/-- loop.example/g01215/spec.UndoPours -/
def a29 : AFn := { np := 2, nt := 25, res := [.cell 4 25 true, .t 5], body :=
  (.seq (.region [⟨some 2, none, .p (.box 25 (.t 0))⟩,
    ⟨some 4, none, .p (.alloc [.k (C.int .i64 0), .k (C.int .i64 0), .k (C.int .i64 0), .k (C.int .i64 0), .k (C.int .i64 0), .k (C.int .i64 0), .k (C.int .i64 0), .k (C.int .i64 0), .k (C.int .i64 0), .k (C.int .i64 0), .k (C.int .i64 0), .k (C.int .i64 0), .k (C.int .i64 0), .k (C.int .i64 0), .k (C.int .i64 0), .k (C.int .i64 0), .k (C.int .i64 0), .k (C.int .i64 0), .k (C.int .i64 0), .k (C.int .i64 0), .k (C.int .i64 0), .k (C.int .i64 0), .k (C.int .i64 0), .k (C.int .i64 0), .sl 2])⟩,
    ⟨some 5, none, .p (.mv (.k (.c (C.bool false))))⟩] [1, 2, 4])
  (.seq (.seq (.region [⟨some 6, none, .h (.load 25 true (.t 2))⟩,
    ⟨some 7, none, .h (.call (.f 124) [.t 6])⟩,
    ⟨some 8, none, .p (.un .not (.t 7))⟩,
    ⟨some 9, none, .p (.mv (.t 8))⟩,
    ⟨some 10, some (9, false), .p (.mv (.t 1))⟩,
    ⟨some 11, some (9, false), .p (.fld 24 (.t 2))⟩,
    ⟨some 12, some (9, false), .h (.load 1 false (.t 11))⟩,
    ⟨some 13, some (9, false), .p (.len (.t 12))⟩,
    ⟨some 14, some (9, false), .h (.call (.f 112) [.t 10, .k (.c (C.int .i64 0)), .t 13])⟩,
    ⟨some 15, some (9, false), .p (.un .not (.t 14))⟩,
    ⟨some 16, none, .p (.pick (.t 9) (.k (.c (C.bool true))) (.t 15))⟩] [1, 2, 4, 16])
  (.cond (.t 16)
  (.seq (.region [⟨some 17, none, .p (.build [.k (C.int .i64 0), .k (C.int .i64 0), .k (C.int .i64 0), .k (C.int .i64 0), .k (C.int .i64 0), .k (C.int .i64 0), .k (C.int .i64 0), .k (C.int .i64 0), .k (C.int .i64 0), .k (C.int .i64 0), .k (C.int .i64 0), .k (C.int .i64 0), .k (C.int .i64 0), .k (C.int .i64 0), .k (C.int .i64 0), .k (C.int .i64 0), .k (C.int .i64 0), .k (C.int .i64 0), .k (C.int .i64 0), .k (C.int .i64 0), .k (C.int .i64 0), .k (C.int .i64 0), .k (C.int .i64 0), .k (C.int .i64 0), .sl 2] [])⟩,
    ⟨none, none, .h (.store 25 (.t 4) (.t 17))⟩,
    ⟨some 5, none, .p (.mv (.k (.c (C.bool false))))⟩] [4, 5])
  .ret)
  .skip))
  (.seq (.region [⟨some 18, none, .h (.load 25 true (.t 2))⟩,
    ⟨some 19, none, .p (.fld 24 (.t 2))⟩,
    ⟨some 20, none, .h (.load 1 false (.t 19))⟩,
    ⟨some 21, none, .p (.len (.t 20))⟩,
    ⟨some 22, none, .p (.mv (.t 1))⟩,
    ⟨some 23, none, .p (.bin .sub (.t 21) (.t 22))⟩,
    ⟨some 24, none, .h (.call (.f 113) [.t 18, .t 23])⟩,
    ⟨none, none, .h (.store 25 (.t 4) (.t 24))⟩,
    ⟨some 5, none, .p (.mv (.k (.c (C.bool true))))⟩] [4, 5])
  .ret))) }
theorem a29_ok : okFn Try.prog 29 a29 = true := by kernel_rfl
/-- loop.example/g01215/impl.UndoPours -/
def a30 : AFn := { np := 2, nt := 29, res := [.cell 4 25 true, .t 5], body :=
  (.seq (.region [⟨some 2, none, .p (.box 25 (.t 0))⟩,
    ⟨some 4, none, .p (.alloc [.k (C.int .i64 0), .k (C.int .i64 0), .k (C.int .i64 0), .k (C.int .i64 0), .k (C.int .i64 0), .k (C.int .i64 0), .k (C.int .i64 0), .k (C.int .i64 0), .k (C.int .i64 0), .k (C.int .i64 0), .k (C.int .i64 0), .k (C.int .i64 0), .k (C.int .i64 0), .k (C.int .i64 0), .k (C.int .i64 0), .k (C.int .i64 0), .k (C.int .i64 0), .k (C.int .i64 0), .k (C.int .i64 0), .k (C.int .i64 0), .k (C.int .i64 0), .k (C.int .i64 0), .k (C.int .i64 0), .k (C.int .i64 0), .sl 2])⟩,
    ⟨some 5, none, .p (.mv (.k (.c (C.bool false))))⟩] [1, 2, 4])
  (.seq (.seq (.region [⟨some 6, none, .h (.load 25 true (.t 2))⟩,
    ⟨some 7, none, .h (.call (.f 76) [.t 6])⟩,
    ⟨some 8, none, .p (.un .not (.t 7))⟩,
    ⟨some 9, none, .p (.mv (.t 8))⟩,
    ⟨some 10, some (9, false), .p (.mv (.t 1))⟩,
    ⟨some 11, some (9, false), .p (.fld 24 (.t 2))⟩,
    ⟨some 12, some (9, false), .h (.load 1 false (.t 11))⟩,
    ⟨some 13, some (9, false), .p (.len (.t 12))⟩,
    ⟨some 14, some (9, false), .h (.call (.f 117) [.t 10, .k (.c (C.int .i64 0)), .t 13])⟩,
    ⟨some 15, some (9, false), .p (.un .not (.t 14))⟩,
    ⟨some 16, none, .p (.pick (.t 9) (.k (.c (C.bool true))) (.t 15))⟩] [1, 2, 4, 16])
  (.cond (.t 16)
  (.seq (.region [⟨some 17, none, .p (.build [.k (C.int .i64 0), .k (C.int .i64 0), .k (C.int .i64 0), .k (C.int .i64 0), .k (C.int .i64 0), .k (C.int .i64 0), .k (C.int .i64 0), .k (C.int .i64 0), .k (C.int .i64 0), .k (C.int .i64 0), .k (C.int .i64 0), .k (C.int .i64 0), .k (C.int .i64 0), .k (C.int .i64 0), .k (C.int .i64 0), .k (C.int .i64 0), .k (C.int .i64 0), .k (C.int .i64 0), .k (C.int .i64 0), .k (C.int .i64 0), .k (C.int .i64 0), .k (C.int .i64 0), .k (C.int .i64 0), .k (C.int .i64 0), .sl 2] [])⟩,
    ⟨none, none, .h (.store 25 (.t 4) (.t 17))⟩,
    ⟨some 5, none, .p (.mv (.k (.c (C.bool false))))⟩] [4, 5])
  .ret)
  .skip))
  (.seq (.regionE [⟨some 18, none, .h (.load 25 true (.t 2))⟩,
    ⟨some 19, none, .p (.fld 24 (.t 2))⟩,
    ⟨some 20, none, .h (.load 1 false (.t 19))⟩,
    ⟨some 21, none, .p (.fld 24 (.t 2))⟩,
    ⟨some 22, none, .h (.load 1 false (.t 21))⟩,
    ⟨some 23, none, .p (.len (.t 22))⟩,
    ⟨some 24, none, .p (.mv (.t 1))⟩,
    ⟨some 25, none, .p (.bin .sub (.t 23) (.t 24))⟩,
    ⟨some 26, none, .p (.slS 2 (.t 20) none (some (.t 25)))⟩,
    ⟨some 27, none, .p (.mksl 1 1 [.sl 2] [(0, 1, .t 26)])⟩,
    ⟨some 28, none, .h (.call (.f 118) [.t 18, .t 27])⟩,
    ⟨none, none, .h (.store 25 (.t 4) (.t 28))⟩,
    ⟨some 5, none, .p (.mv (.k (.c (C.bool true))))⟩] [4, 5] [] [[], [], [], [], [], [], [], [], [], [], [9]])
  .ret))) }
theorem a30_ok : okFn Try.prog 30 a30 = true := by kernel_rfl
/-- loop.example/g01215/spec.DropIdle -/
def a31 : AFn := { np := 1, nt := 59, res := [.cell 2 25 true, .t 3], body :=
  (.seq (.region [⟨some 1, none, .p (.box 25 (.t 0))⟩,
    ⟨some 2, none, .p (.alloc [.k (C.int .i64 0), .k (C.int .i64 0), .k (C.int .i64 0), .k (C.int .i64 0), .k (C.int .i64 0), .k (C.int .i64 0), .k (C.int .i64 0), .k (C.int .i64 0), .k (C.int .i64 0), .k (C.int .i64 0), .k (C.int .i64 0), .k (C.int .i64 0), .k (C.int .i64 0), .k (C.int .i64 0), .k (C.int .i64 0), .k (C.int .i64 0), .k (C.int .i64 0), .k (C.int .i64 0), .k (C.int .i64 0), .k (C.int .i64 0), .k (C.int .i64 0), .k (C.int .i64 0), .k (C.int .i64 0), .k (C.int .i64 0), .sl 2])⟩,
    ⟨some 3, none, .p (.mv (.k (.c (C.bool false))))⟩] [1, 2])
  (.seq (.seq (.region [⟨some 10, none, .h (.load 25 true (.t 1))⟩,
    ⟨some 11, none, .h (.call (.f 124) [.t 10])⟩,
    ⟨some 12, none, .p (.un .not (.t 11))⟩] [1, 2, 12])
  (.cond (.t 12)
  (.seq (.region [⟨some 13, none, .p (.build [.k (C.int .i64 0), .k (C.int .i64 0), .k (C.int .i64 0), .k (C.int .i64 0), .k (C.int .i64 0), .k (C.int .i64 0), .k (C.int .i64 0), .k (C.int .i64 0), .k (C.int .i64 0), .k (C.int .i64 0), .k (C.int .i64 0), .k (C.int .i64 0), .k (C.int .i64 0), .k (C.int .i64 0), .k (C.int .i64 0), .k (C.int .i64 0), .k (C.int .i64 0), .k (C.int .i64 0), .k (C.int .i64 0), .k (C.int .i64 0), .k (C.int .i64 0), .k (C.int .i64 0), .k (C.int .i64 0), .k (C.int .i64 0), .sl 2] [])⟩,
    ⟨none, none, .h (.store 25 (.t 2) (.t 13))⟩,
    ⟨some 3, none, .p (.mv (.k (.c (C.bool false))))⟩] [2, 3])
  .ret)
  .skip))
  (.seq (.regionD [⟨some 14, none, .h (.load 25 true (.t 1))⟩,
    ⟨some 15, none, .h (.call (.f 113) [.t 14, .k (.c (C.int .i64 0))])⟩,
    ⟨some 16, none, .p (.fld 0 (.t 1))⟩,
    ⟨some 17, none, .h (.load 24 true (.t 16))⟩,
    ⟨some 4, none, .p (.alloc [.k (C.int .i64 0), .k (C.int .i64 0), .k (C.int .i64 0), .k (C.int .i64 0), .k (C.int .i64 0), .k (C.int .i64 0), .k (C.int .i64 0), .k (C.int .i64 0), .k (C.int .i64 0), .k (C.int .i64 0), .k (C.int .i64 0), .k (C.int .i64 0), .k (C.int .i64 0), .k (C.int .i64 0), .k (C.int .i64 0), .k (C.int .i64 0), .k (C.int .i64 0), .k (C.int .i64 0), .k (C.int .i64 0), .k (C.int .i64 0), .k (C.int .i64 0), .k (C.int .i64 0), .k (C.int .i64 0), .k (C.int .i64 0), .sl 2])⟩,
    ⟨some 5, none, .p (.alloc (List.replicate 24 (.k (C.int .i64 0))))⟩,
    ⟨none, none, .h (.store 25 (.t 4) (.t 15))⟩,
    ⟨none, none, .h (.store 24 (.t 5) (.t 17))⟩] [1, 2, 4, 5] [(.t 16, .t 4)])
  (.seq (.seq (.region [⟨some 6, none, .p (.mv (.k (.c (C.int .i64 0))))⟩] [1, 2, 4, 5, 6])
  (.block 0 (.loop (.seq (.seq (.region [⟨some 18, none, .p (.mv (.t 6))⟩,
    ⟨some 19, none, .p (.fld 24 (.t 1))⟩,
    ⟨some 20, none, .h (.load 1 false (.t 19))⟩,
    ⟨some 21, none, .p (.len (.t 20))⟩,
    ⟨some 22, none, .p (.bin .lss (.t 18) (.t 21))⟩] [1, 2, 4, 5, 6, 22])
  (.cond (.t 22)
  .skip
  (.exit 0)))
  (.seq (.block 1 (.seq (.region [⟨some 25, none, .p (.fld 24 (.t 1))⟩,
    ⟨some 26, none, .h (.load 1 false (.t 25))⟩,
    ⟨some 27, none, .p (.mv (.t 6))⟩,
    ⟨some 28, none, .p (.ixS 2 (.t 26) (.t 27))⟩,
    ⟨some 29, none, .h (.load 2 true (.t 28))⟩,
    ⟨some 7, none, .p (.alloc [.k (C.int .i64 0), .k (C.int .i64 0)])⟩,
    ⟨none, none, .h (.store 2 (.t 7) (.t 29))⟩] [1, 2, 4, 5, 6, 7])
  (.seq (.region [⟨some 30, none, .h (.load 24 true (.t 5))⟩,
    ⟨some 31, none, .h (.load 2 true (.t 7))⟩,
    ⟨some 32, none, .h (.call (.f 121) [.t 30, .t 31])⟩,
    ⟨some 33, none, .p (.mv (.t 32))⟩,
    ⟨some 34, some (33, true), .h (.load 24 true (.t 5))⟩,
    ⟨some 35, some (33, true), .p (.ixA 2 1 (.t 7) (.k (.c (C.int .i64 0))))⟩,
    ⟨some 36, some (33, true), .h (.load 1 false (.t 35))⟩,
    ⟨some 37, some (33, true), .p (.ixA 2 1 (.t 7) (.k (.c (C.int .i64 1))))⟩,
    ⟨some 38, some (33, true), .h (.load 1 false (.t 37))⟩,
    ⟨some 39, some (33, true), .h (.call (.f 125) [.t 34, .t 36, .t 38])⟩,
    ⟨some 40, some (33, true), .p (.un .not (.t 39))⟩,
    ⟨some 41, none, .p (.pick (.t 33) (.t 40) (.k (.c (C.bool false))))⟩] [1, 2, 4, 5, 6, 7, 41])
  (.cond (.t 41)
  (.seq (.region [⟨some 43, none, .h (.load 24 true (.t 5))⟩,
    ⟨some 44, none, .p (.ixA 2 1 (.t 7) (.k (.c (C.int .i64 0))))⟩,
    ⟨some 45, none, .h (.load 1 false (.t 44))⟩,
    ⟨some 46, none, .p (.ixA 2 1 (.t 7) (.k (.c (C.int .i64 1))))⟩,
    ⟨some 47, none, .h (.load 1 false (.t 46))⟩,
    ⟨some 48, none, .h (.call (.f 126) [.t 43, .t 45, .t 47])⟩,
    ⟨some 42, none, .p (.mv (.t 48))⟩,
    ⟨some 49, none, .p (.ext (.t 42) 0)⟩,
    ⟨some 50, none, .p (.ext (.t 42) 1)⟩,
    ⟨some 8, none, .p (.alloc (List.replicate 24 (.k (C.int .i64 0))))⟩,
    ⟨none, none, .h (.store 24 (.t 8) (.t 49))⟩,
    ⟨some 9, none, .p (.mv (.t 50))⟩] [1, 2, 4, 5, 6, 7, 8])
  (.seq (.region [⟨some 51, none, .p (.fld 24 (.t 4))⟩,
    ⟨some 52, none, .h (.load 1 false (.t 51))⟩,
    ⟨some 53, none, .h (.load 2 true (.t 7))⟩,
    ⟨some 54, none, .p (.mksl 2 1 [.k (C.int .i64 0), .k (C.int .i64 0)] [(0, 2, .t 53)])⟩,
    ⟨some 55, none, .h (.app 2 (.t 52) (.t 54))⟩,
    ⟨some 56, none, .p (.fld 24 (.t 4))⟩,
    ⟨none, none, .h (.store 1 (.t 56) (.t 55))⟩] [1, 2, 4, 5, 6, 8])
  (.region [⟨some 57, none, .h (.load 24 true (.t 8))⟩,
    ⟨none, none, .h (.store 24 (.t 5) (.t 57))⟩] [1, 2, 4, 5, 6])))
  .skip))))
  (.region [⟨some 23, none, .p (.mv (.t 6))⟩,
    ⟨some 24, none, .p (.bin .add (.t 23) (.k (.c (C.int .i64 1))))⟩,
    ⟨some 6, none, .p (.mv (.t 24))⟩] [1, 2, 4, 5, 6]))) [1, 2, 4, 5, 6])))
  (.seq (.region [⟨some 58, none, .h (.load 25 true (.t 4))⟩,
    ⟨none, none, .h (.store 25 (.t 2) (.t 58))⟩,
    ⟨some 3, none, .p (.mv (.k (.c (C.bool true))))⟩] [2, 3])
  .ret))))) }
theorem a31_ok : okFn Try.prog 31 a31 = true := by kernel_rfl
/-- loop.example/g01215/impl.DropIdle -/
def a32 : AFn := { np := 1, nt := 50, res := [.cell 2 25 true, .t 3], body :=
  (.seq (.region [⟨some 1, none, .p (.box 25 (.t 0))⟩,
    ⟨some 2, none, .p (.alloc [.k (C.int .i64 0), .k (C.int .i64 0), .k (C.int .i64 0), .k (C.int .i64 0), .k (C.int .i64 0), .k (C.int .i64 0), .k (C.int .i64 0), .k (C.int .i64 0), .k (C.int .i64 0), .k (C.int .i64 0), .k (C.int .i64 0), .k (C.int .i64 0), .k (C.int .i64 0), .k (C.int .i64 0), .k (C.int .i64 0), .k (C.int .i64 0), .k (C.int .i64 0), .k (C.int .i64 0), .k (C.int .i64 0), .k (C.int .i64 0), .k (C.int .i64 0), .k (C.int .i64 0), .k (C.int .i64 0), .k (C.int .i64 0), .sl 2])⟩,
    ⟨some 3, none, .p (.mv (.k (.c (C.bool false))))⟩] [1, 2])
  (.seq (.seq (.region [⟨some 8, none, .h (.load 25 true (.t 1))⟩,
    ⟨some 9, none, .h (.call (.f 76) [.t 8])⟩,
    ⟨some 10, none, .p (.un .not (.t 9))⟩] [1, 2, 10])
  (.cond (.t 10)
  (.seq (.region [⟨some 11, none, .p (.build [.k (C.int .i64 0), .k (C.int .i64 0), .k (C.int .i64 0), .k (C.int .i64 0), .k (C.int .i64 0), .k (C.int .i64 0), .k (C.int .i64 0), .k (C.int .i64 0), .k (C.int .i64 0), .k (C.int .i64 0), .k (C.int .i64 0), .k (C.int .i64 0), .k (C.int .i64 0), .k (C.int .i64 0), .k (C.int .i64 0), .k (C.int .i64 0), .k (C.int .i64 0), .k (C.int .i64 0), .k (C.int .i64 0), .k (C.int .i64 0), .k (C.int .i64 0), .k (C.int .i64 0), .k (C.int .i64 0), .k (C.int .i64 0), .sl 2] [])⟩,
    ⟨none, none, .h (.store 25 (.t 2) (.t 11))⟩,
    ⟨some 3, none, .p (.mv (.k (.c (C.bool false))))⟩] [2, 3])
  .ret)
  .skip))
  (.seq (.regionD [⟨some 12, none, .p (.fld 0 (.t 1))⟩,
    ⟨some 13, none, .h (.load 24 true (.t 12))⟩,
    ⟨some 14, none, .p (.build [.k (C.int .i64 0), .k (C.int .i64 0), .k (C.int .i64 0), .k (C.int .i64 0), .k (C.int .i64 0), .k (C.int .i64 0), .k (C.int .i64 0), .k (C.int .i64 0), .k (C.int .i64 0), .k (C.int .i64 0), .k (C.int .i64 0), .k (C.int .i64 0), .k (C.int .i64 0), .k (C.int .i64 0), .k (C.int .i64 0), .k (C.int .i64 0), .k (C.int .i64 0), .k (C.int .i64 0), .k (C.int .i64 0), .k (C.int .i64 0), .k (C.int .i64 0), .k (C.int .i64 0), .k (C.int .i64 0), .k (C.int .i64 0), .sl 2] [(0, 24, .t 13)])⟩,
    ⟨some 15, none, .p (.fld 0 (.t 1))⟩,
    ⟨some 16, none, .h (.load 24 true (.t 15))⟩,
    ⟨some 4, none, .p (.alloc [.k (C.int .i64 0), .k (C.int .i64 0), .k (C.int .i64 0), .k (C.int .i64 0), .k (C.int .i64 0), .k (C.int .i64 0), .k (C.int .i64 0), .k (C.int .i64 0), .k (C.int .i64 0), .k (C.int .i64 0), .k (C.int .i64 0), .k (C.int .i64 0), .k (C.int .i64 0), .k (C.int .i64 0), .k (C.int .i64 0), .k (C.int .i64 0), .k (C.int .i64 0), .k (C.int .i64 0), .k (C.int .i64 0), .k (C.int .i64 0), .k (C.int .i64 0), .k (C.int .i64 0), .k (C.int .i64 0), .k (C.int .i64 0), .sl 2])⟩,
    ⟨some 5, none, .p (.alloc (List.replicate 24 (.k (C.int .i64 0))))⟩,
    ⟨none, none, .h (.store 25 (.t 4) (.t 14))⟩,
    ⟨none, none, .h (.store 24 (.t 5) (.t 16))⟩] [1, 2, 4, 5] [(.t 15, .t 4)])
  (.seq (.seq (.region [⟨some 17, none, .p (.fld 24 (.t 1))⟩,
    ⟨some 18, none, .h (.load 1 false (.t 17))⟩,
    ⟨some 19, none, .p (.len (.t 18))⟩,
    ⟨some 20, none, .p (.mv (.k (.c (C.int .i64 0))))⟩] [2, 4, 5, 18, 19, 20])
  (.block 0 (.loop (.seq (.region [⟨some 21, none, .p (.bin .lss (.t 20) (.t 19))⟩] [2, 4, 5, 18, 19, 20, 21])
  (.seq (.cond (.t 21)
  .skip
  (.exit 0))
  (.seq (.block 1 (.seq (.region [⟨some 22, none, .p (.ixS 2 (.t 18) (.t 20))⟩,
    ⟨some 23, none, .h (.load 2 true (.t 22))⟩,
    ⟨some 7, none, .p (.alloc [.k (C.int .i64 0), .k (C.int .i64 0)])⟩,
    ⟨none, none, .h (.store 2 (.t 7) (.t 23))⟩] [2, 4, 5, 7, 18, 19, 20])
  (.seq (.region [⟨some 24, none, .h (.load 24 true (.t 5))⟩,
    ⟨some 25, none, .h (.load 2 true (.t 7))⟩,
    ⟨some 26, none, .h (.call (.f 127) [.t 24, .t 25])⟩,
    ⟨some 27, none, .p (.mv (.t 26))⟩,
    ⟨some 28, some (27, true), .h (.load 24 true (.t 5))⟩,
    ⟨some 29, some (27, true), .h (.load 2 true (.t 7))⟩,
    ⟨some 30, some (27, true), .h (.call (.f 128) [.t 28, .t 29])⟩,
    ⟨some 31, some (27, true), .p (.un .not (.t 30))⟩,
    ⟨some 32, none, .p (.pick (.t 27) (.t 31) (.k (.c (C.bool false))))⟩] [2, 4, 5, 7, 18, 19, 20, 32])
  (.cond (.t 32)
  (.seq (.region [⟨some 33, none, .p (.fld 24 (.t 4))⟩,
    ⟨some 34, none, .h (.load 1 false (.t 33))⟩,
    ⟨some 35, none, .h (.load 2 true (.t 7))⟩,
    ⟨some 36, none, .p (.mksl 2 1 [.k (C.int .i64 0), .k (C.int .i64 0)] [(0, 2, .t 35)])⟩,
    ⟨some 37, none, .h (.app 2 (.t 34) (.t 36))⟩,
    ⟨some 38, none, .p (.fld 24 (.t 4))⟩,
    ⟨none, none, .h (.store 1 (.t 38) (.t 37))⟩] [2, 4, 5, 7, 18, 19, 20])
  (.region [⟨some 40, none, .h (.load 24 true (.t 5))⟩,
    ⟨some 41, none, .p (.ixA 2 1 (.t 7) (.k (.c (C.int .i64 0))))⟩,
    ⟨some 42, none, .h (.load 1 false (.t 41))⟩,
    ⟨some 43, none, .p (.ixA 2 1 (.t 7) (.k (.c (C.int .i64 1))))⟩,
    ⟨some 44, none, .h (.load 1 false (.t 43))⟩,
    ⟨some 45, none, .h (.call (.f 129) [.t 40, .t 42, .t 44])⟩,
    ⟨some 39, none, .p (.mv (.t 45))⟩,
    ⟨some 46, none, .p (.ext (.t 39) 0)⟩,
    ⟨some 47, none, .p (.ext (.t 39) 1)⟩,
    ⟨none, none, .h (.store 24 (.t 5) (.t 46))⟩] [2, 4, 5, 18, 19, 20]))
  .skip))))
  (.region [⟨some 48, none, .p (.bin .add (.t 20) (.k (.c (C.int .i64 1))))⟩,
    ⟨some 20, none, .p (.mv (.t 48))⟩] [2, 4, 5, 18, 19, 20])))) [2, 4, 5, 18, 19, 20])))
  (.seq (.region [⟨some 49, none, .h (.load 25 true (.t 4))⟩,
    ⟨none, none, .h (.store 25 (.t 2) (.t 49))⟩,
    ⟨some 3, none, .p (.mv (.k (.c (C.bool true))))⟩] [2, 3])
  .ret))))) }
theorem a32_ok : okFn Try.prog 32 a32 = true := by kernel_rfl
/-- loop.example/g01215/spec.CutLoops -/
def a33 : AFn := { np := 1, nt := 77, res := [.cell 2 25 true, .t 3], body :=
  (.seq (.region [⟨some 1, none, .p (.box 25 (.t 0))⟩,
    ⟨some 2, none, .p (.alloc [.k (C.int .i64 0), .k (C.int .i64 0), .k (C.int .i64 0), .k (C.int .i64 0), .k (C.int .i64 0), .k (C.int .i64 0), .k (C.int .i64 0), .k (C.int .i64 0), .k (C.int .i64 0), .k (C.int .i64 0), .k (C.int .i64 0), .k (C.int .i64 0), .k (C.int .i64 0), .k (C.int .i64 0), .k (C.int .i64 0), .k (C.int .i64 0), .k (C.int .i64 0), .k (C.int .i64 0), .k (C.int .i64 0), .k (C.int .i64 0), .k (C.int .i64 0), .k (C.int .i64 0), .k (C.int .i64 0), .k (C.int .i64 0), .sl 2])⟩,
    ⟨some 3, none, .p (.mv (.k (.c (C.bool false))))⟩] [1, 2])
  (.seq (.region [⟨some 12, none, .h (.load 25 true (.t 1))⟩,
    ⟨some 13, none, .h (.call (.f 111) [.t 12])⟩,
    ⟨some 11, none, .p (.mv (.t 13))⟩,
    ⟨some 14, none, .p (.ext (.t 11) 0)⟩,
    ⟨some 15, none, .p (.ext (.t 11) 1)⟩,
    ⟨some 4, none, .p (.mv (.t 14))⟩,
    ⟨some 5, none, .p (.mv (.t 15))⟩] [1, 2, 4, 5])
  (.seq (.seq (.region [⟨some 16, none, .p (.mv (.t 5))⟩,
    ⟨some 17, none, .p (.un .not (.t 16))⟩] [1, 2, 4, 17])
  (.cond (.t 17)
  (.seq (.region [⟨some 18, none, .p (.build [.k (C.int .i64 0), .k (C.int .i64 0), .k (C.int .i64 0), .k (C.int .i64 0), .k (C.int .i64 0), .k (C.int .i64 0), .k (C.int .i64 0), .k (C.int .i64 0), .k (C.int .i64 0), .k (C.int .i64 0), .k (C.int .i64 0), .k (C.int .i64 0), .k (C.int .i64 0), .k (C.int .i64 0), .k (C.int .i64 0), .k (C.int .i64 0), .k (C.int .i64 0), .k (C.int .i64 0), .k (C.int .i64 0), .k (C.int .i64 0), .k (C.int .i64 0), .k (C.int .i64 0), .k (C.int .i64 0), .k (C.int .i64 0), .sl 2] [])⟩,
    ⟨none, none, .h (.store 25 (.t 2) (.t 18))⟩,
    ⟨some 3, none, .p (.mv (.k (.c (C.bool false))))⟩] [2, 3])
  .ret)
  .skip))
  (.seq (.region [⟨some 19, none, .h (.load 25 true (.t 1))⟩,
    ⟨some 20, none, .p (.fld 24 (.t 1))⟩,
    ⟨some 21, none, .h (.load 1 false (.t 20))⟩,
    ⟨some 22, none, .p (.len (.t 21))⟩,
    ⟨some 23, none, .h (.call (.f 113) [.t 19, .t 22])⟩,
    ⟨some 6, none, .p (.alloc [.k (C.int .i64 0), .k (C.int .i64 0), .k (C.int .i64 0), .k (C.int .i64 0), .k (C.int .i64 0), .k (C.int .i64 0), .k (C.int .i64 0), .k (C.int .i64 0), .k (C.int .i64 0), .k (C.int .i64 0), .k (C.int .i64 0), .k (C.int .i64 0), .k (C.int .i64 0), .k (C.int .i64 0), .k (C.int .i64 0), .k (C.int .i64 0), .k (C.int .i64 0), .k (C.int .i64 0), .k (C.int .i64 0), .k (C.int .i64 0), .k (C.int .i64 0), .k (C.int .i64 0), .k (C.int .i64 0), .k (C.int .i64 0), .sl 2])⟩,
    ⟨none, none, .h (.store 25 (.t 6) (.t 23))⟩] [2, 4, 6])
  (.seq (.seq (.region [⟨some 24, none, .p (.mv (.t 4))⟩,
    ⟨some 25, none, .h (.call (.f 130) [.t 24])⟩,
    ⟨some 7, none, .p (.mv (.t 25))⟩] [2, 6, 7])
  (.block 0 (.loop (.seq (.seq (.region [⟨some 26, none, .p (.mv (.t 7))⟩,
    ⟨some 27, none, .p (.len (.t 26))⟩,
    ⟨some 28, none, .p (.bin .gtr (.t 27) (.k (.c (C.int .i64 0))))⟩] [2, 6, 7, 28])
  (.cond (.t 28)
  .skip
  (.exit 0)))
  (.seq (.block 1 (.seq (.regionD [⟨some 31, none, .p (.mv (.t 7))⟩,
    ⟨some 32, none, .p (.ixS 2 (.t 31) (.k (.c (C.int .i64 0))))⟩,
    ⟨some 33, none, .p (.ixA 2 1 (.t 32) (.k (.c (C.int .i64 0))))⟩,
    ⟨some 34, none, .h (.load 1 false (.t 33))⟩,
    ⟨some 35, none, .p (.mv (.t 7))⟩,
    ⟨some 36, none, .p (.ixS 2 (.t 35) (.k (.c (C.int .i64 0))))⟩,
    ⟨some 37, none, .p (.ixA 2 1 (.t 36) (.k (.c (C.int .i64 1))))⟩,
    ⟨some 38, none, .h (.load 1 false (.t 37))⟩,
    ⟨some 8, none, .p (.mv (.t 34))⟩,
    ⟨some 9, none, .p (.mv (.t 38))⟩] [2, 6, 7, 8, 9] [])
  (.seq (.seq (.region [⟨some 10, none, .p (.mv (.k (.c (C.int .i64 1))))⟩] [2, 6, 7, 8, 9, 10])
  (.block 2 (.loop (.seq (.seq (.region [⟨some 39, none, .p (.mv (.t 10))⟩,
    ⟨some 40, none, .p (.mv (.t 7))⟩,
    ⟨some 41, none, .p (.len (.t 40))⟩,
    ⟨some 42, none, .p (.bin .lss (.t 39) (.t 41))⟩,
    ⟨some 43, none, .p (.mv (.t 42))⟩,
    ⟨some 44, some (43, true), .p (.mv (.t 7))⟩,
    ⟨some 45, some (43, true), .p (.mv (.t 10))⟩,
    ⟨some 46, some (43, true), .p (.ixS 2 (.t 44) (.t 45))⟩,
    ⟨some 47, some (43, true), .p (.ixA 2 1 (.t 46) (.k (.c (C.int .i64 0))))⟩,
    ⟨some 48, some (43, true), .h (.load 1 false (.t 47))⟩,
    ⟨some 49, some (43, true), .p (.mv (.t 8))⟩,
    ⟨some 50, some (43, true), .p (.bin .eql (.t 48) (.t 49))⟩,
    ⟨some 51, none, .p (.pick (.t 43) (.t 50) (.k (.c (C.bool false))))⟩] [2, 6, 7, 8, 9, 10, 51])
  (.cond (.t 51)
  .skip
  (.exit 2)))
  (.seq (.block 3 (.region [⟨some 54, none, .p (.mv (.t 7))⟩,
    ⟨some 55, none, .p (.mv (.t 10))⟩,
    ⟨some 56, none, .p (.ixS 2 (.t 54) (.t 55))⟩,
    ⟨some 57, none, .p (.ixA 2 1 (.t 56) (.k (.c (C.int .i64 1))))⟩,
    ⟨some 58, none, .h (.load 1 false (.t 57))⟩,
    ⟨some 9, none, .p (.mv (.t 58))⟩] [2, 6, 7, 8, 9, 10]))
  (.region [⟨some 52, none, .p (.mv (.t 10))⟩,
    ⟨some 53, none, .p (.bin .add (.t 52) (.k (.c (C.int .i64 1))))⟩,
    ⟨some 10, none, .p (.mv (.t 53))⟩] [2, 6, 7, 8, 9, 10]))) [2, 6, 7, 8, 9, 10])))
  (.seq (.regionE [⟨some 59, none, .p (.mksl 2 0 [.k (C.int .i64 0), .k (C.int .i64 0)] [])⟩,
    ⟨some 60, none, .p (.fld 24 (.t 6))⟩,
    ⟨some 61, none, .h (.load 1 false (.t 60))⟩,
    ⟨some 62, none, .p (.mv (.t 8))⟩,
    ⟨some 63, none, .p (.slS 2 (.t 61) none (some (.t 62)))⟩,
    ⟨some 64, none, .h (.app 2 (.t 59) (.t 63))⟩,
    ⟨some 65, none, .p (.fld 24 (.t 6))⟩,
    ⟨some 66, none, .h (.load 1 false (.t 65))⟩,
    ⟨some 67, none, .p (.mv (.t 9))⟩,
    ⟨some 68, none, .p (.slS 2 (.t 66) (some (.t 67)) none)⟩,
    ⟨some 69, none, .h (.app 2 (.t 64) (.t 68))⟩,
    ⟨some 70, none, .p (.fld 24 (.t 6))⟩,
    ⟨none, none, .h (.store 1 (.t 70) (.t 69))⟩] [2, 6] [(.t 59, .t 65)] [[], [], [], [], [], [0], [], [], [], [], [0, 5]])
  (.region [⟨some 72, none, .h (.load 25 true (.t 6))⟩,
    ⟨some 73, none, .h (.call (.f 111) [.t 72])⟩,
    ⟨some 71, none, .p (.mv (.t 73))⟩,
    ⟨some 74, none, .p (.ext (.t 71) 0)⟩,
    ⟨some 75, none, .p (.ext (.t 71) 1)⟩,
    ⟨some 4, none, .p (.mv (.t 74))⟩] [2, 4, 6])))))
  (.region [⟨some 29, none, .p (.mv (.t 4))⟩,
    ⟨some 30, none, .h (.call (.f 130) [.t 29])⟩,
    ⟨some 7, none, .p (.mv (.t 30))⟩] [2, 6, 7]))) [2, 6, 7])))
  (.seq (.region [⟨some 76, none, .h (.load 25 true (.t 6))⟩,
    ⟨none, none, .h (.store 25 (.t 2) (.t 76))⟩,
    ⟨some 3, none, .p (.mv (.k (.c (C.bool true))))⟩] [2, 3])
  .ret)))))) }
theorem a33_ok : okFn Try.prog 33 a33 = true := by kernel_rfl
/-- loop.example/g01215/impl.CutLoops -/
def a34 : AFn := { np := 1, nt := 55, res := [.cell 2 25 true, .t 3], body :=
  (.seq (.region [⟨some 1, none, .p (.box 25 (.t 0))⟩,
    ⟨some 2, none, .p (.alloc [.k (C.int .i64 0), .k (C.int .i64 0), .k (C.int .i64 0), .k (C.int .i64 0), .k (C.int .i64 0), .k (C.int .i64 0), .k (C.int .i64 0), .k (C.int .i64 0), .k (C.int .i64 0), .k (C.int .i64 0), .k (C.int .i64 0), .k (C.int .i64 0), .k (C.int .i64 0), .k (C.int .i64 0), .k (C.int .i64 0), .k (C.int .i64 0), .k (C.int .i64 0), .k (C.int .i64 0), .k (C.int .i64 0), .k (C.int .i64 0), .k (C.int .i64 0), .k (C.int .i64 0), .k (C.int .i64 0), .k (C.int .i64 0), .sl 2])⟩,
    ⟨some 3, none, .p (.mv (.k (.c (C.bool false))))⟩] [1, 2])
  (.seq (.seq (.region [⟨some 9, none, .h (.load 25 true (.t 1))⟩,
    ⟨some 10, none, .h (.call (.f 76) [.t 9])⟩,
    ⟨some 11, none, .p (.un .not (.t 10))⟩] [1, 2, 11])
  (.cond (.t 11)
  (.seq (.region [⟨some 12, none, .p (.build [.k (C.int .i64 0), .k (C.int .i64 0), .k (C.int .i64 0), .k (C.int .i64 0), .k (C.int .i64 0), .k (C.int .i64 0), .k (C.int .i64 0), .k (C.int .i64 0), .k (C.int .i64 0), .k (C.int .i64 0), .k (C.int .i64 0), .k (C.int .i64 0), .k (C.int .i64 0), .k (C.int .i64 0), .k (C.int .i64 0), .k (C.int .i64 0), .k (C.int .i64 0), .k (C.int .i64 0), .k (C.int .i64 0), .k (C.int .i64 0), .k (C.int .i64 0), .k (C.int .i64 0), .k (C.int .i64 0), .k (C.int .i64 0), .sl 2] [])⟩,
    ⟨none, none, .h (.store 25 (.t 2) (.t 12))⟩,
    ⟨some 3, none, .p (.mv (.k (.c (C.bool false))))⟩] [2, 3])
  .ret)
  .skip))
  (.seq (.region [⟨some 13, none, .h (.load 25 true (.t 1))⟩,
    ⟨some 14, none, .p (.fld 24 (.t 1))⟩,
    ⟨some 15, none, .h (.load 1 false (.t 14))⟩,
    ⟨some 16, none, .p (.mksl 1 1 [.sl 2] [(0, 1, .t 15)])⟩,
    ⟨some 17, none, .h (.call (.f 118) [.t 13, .t 16])⟩,
    ⟨some 4, none, .p (.alloc [.k (C.int .i64 0), .k (C.int .i64 0), .k (C.int .i64 0), .k (C.int .i64 0), .k (C.int .i64 0), .k (C.int .i64 0), .k (C.int .i64 0), .k (C.int .i64 0), .k (C.int .i64 0), .k (C.int .i64 0), .k (C.int .i64 0), .k (C.int .i64 0), .k (C.int .i64 0), .k (C.int .i64 0), .k (C.int .i64 0), .k (C.int .i64 0), .k (C.int .i64 0), .k (C.int .i64 0), .k (C.int .i64 0), .k (C.int .i64 0), .k (C.int .i64 0), .k (C.int .i64 0), .k (C.int .i64 0), .k (C.int .i64 0), .sl 2])⟩,
    ⟨none, none, .h (.store 25 (.t 4) (.t 17))⟩] [2, 4])
  (.seq (.seq (.region [⟨some 18, none, .h (.load 25 true (.t 4))⟩,
    ⟨some 19, none, .h (.call (.f 131) [.t 18])⟩,
    ⟨some 5, none, .p (.mv (.t 19))⟩] [2, 4, 5])
  (.block 0 (.loop (.seq (.seq (.region [⟨some 20, none, .p (.mv (.t 5))⟩,
    ⟨some 21, none, .p (.len (.t 20))⟩,
    ⟨some 22, none, .p (.bin .gtr (.t 21) (.k (.c (C.int .i64 0))))⟩] [2, 4, 5, 22])
  (.cond (.t 22)
  .skip
  (.exit 0)))
  (.seq (.block 1 (.seq (.region [⟨some 25, none, .p (.mv (.t 5))⟩,
    ⟨some 26, none, .p (.ixS 2 (.t 25) (.k (.c (C.int .i64 0))))⟩,
    ⟨some 27, none, .h (.load 2 true (.t 26))⟩,
    ⟨some 6, none, .p (.alloc [.k (C.int .i64 0), .k (C.int .i64 0)])⟩,
    ⟨none, none, .h (.store 2 (.t 6) (.t 27))⟩] [2, 4, 5, 6])
  (.seq (.seq (.region [⟨some 28, none, .p (.mv (.t 5))⟩,
    ⟨some 29, none, .p (.len (.t 28))⟩,
    ⟨some 30, none, .p (.mv (.k (.c (C.int .i64 0))))⟩] [2, 4, 6, 28, 29, 30])
  (.block 2 (.loop (.seq (.region [⟨some 31, none, .p (.bin .lss (.t 30) (.t 29))⟩] [2, 4, 6, 28, 29, 30, 31])
  (.seq (.cond (.t 31)
  .skip
  (.exit 2))
  (.seq (.block 3 (.seq (.region [⟨some 32, none, .p (.ixS 2 (.t 28) (.t 30))⟩,
    ⟨some 33, none, .h (.load 2 true (.t 32))⟩,
    ⟨some 8, none, .p (.alloc [.k (C.int .i64 0), .k (C.int .i64 0)])⟩,
    ⟨none, none, .h (.store 2 (.t 8) (.t 33))⟩] [2, 4, 6, 8, 28, 29, 30])
  (.seq (.region [⟨some 34, none, .p (.ixA 2 1 (.t 8) (.k (.c (C.int .i64 0))))⟩,
    ⟨some 35, none, .h (.load 1 false (.t 34))⟩,
    ⟨some 36, none, .p (.ixA 2 1 (.t 6) (.k (.c (C.int .i64 0))))⟩,
    ⟨some 37, none, .h (.load 1 false (.t 36))⟩,
    ⟨some 38, none, .p (.bin .eql (.t 35) (.t 37))⟩] [2, 4, 6, 8, 28, 29, 30, 38])
  (.cond (.t 38)
  (.region [⟨some 39, none, .h (.load 2 true (.t 8))⟩,
    ⟨none, none, .h (.store 2 (.t 6) (.t 39))⟩] [2, 4, 6, 28, 29, 30])
  .skip))))
  (.region [⟨some 40, none, .p (.bin .add (.t 30) (.k (.c (C.int .i64 1))))⟩,
    ⟨some 30, none, .p (.mv (.t 40))⟩] [2, 4, 6, 28, 29, 30])))) [2, 4, 6, 28, 29, 30])))
  (.regionE [⟨some 41, none, .h (.load 25 true (.t 4))⟩,
    ⟨some 42, none, .p (.fld 24 (.t 4))⟩,
    ⟨some 43, none, .h (.load 1 false (.t 42))⟩,
    ⟨some 44, none, .p (.ixA 2 1 (.t 6) (.k (.c (C.int .i64 0))))⟩,
    ⟨some 45, none, .h (.load 1 false (.t 44))⟩,
    ⟨some 46, none, .p (.slS 2 (.t 43) none (some (.t 45)))⟩,
    ⟨some 47, none, .p (.fld 24 (.t 4))⟩,
    ⟨some 48, none, .h (.load 1 false (.t 47))⟩,
    ⟨some 49, none, .p (.ixA 2 1 (.t 6) (.k (.c (C.int .i64 1))))⟩,
    ⟨some 50, none, .h (.load 1 false (.t 49))⟩,
    ⟨some 51, none, .p (.slS 2 (.t 48) (some (.t 50)) none)⟩,
    ⟨some 52, none, .p (.mksl 1 2 [.sl 2] [(0, 1, .t 46), (1, 1, .t 51)])⟩,
    ⟨some 53, none, .h (.call (.f 118) [.t 41, .t 52])⟩,
    ⟨none, none, .h (.store 25 (.t 4) (.t 53))⟩] [2, 4] [] [[], [], [], [], [], [], [], [], [], [], [], [], [11]]))))
  (.region [⟨some 23, none, .h (.load 25 true (.t 4))⟩,
    ⟨some 24, none, .h (.call (.f 131) [.t 23])⟩,
    ⟨some 5, none, .p (.mv (.t 24))⟩] [2, 4, 5]))) [2, 4, 5])))
  (.seq (.region [⟨some 54, none, .h (.load 25 true (.t 4))⟩,
    ⟨none, none, .h (.store 25 (.t 2) (.t 54))⟩,
    ⟨some 3, none, .p (.mv (.k (.c (C.bool true))))⟩] [2, 3])
  .ret))))) }
theorem a34_ok : okFn Try.prog 34 a34 = true := by kernel_rfl
/-- loop.example/g01215/laws.rBig -/
def a50 : AFn := { np := 1, nt := 6, res := [.t 2], body :=
  (.seq (.region [⟨some 2, none, .p (.mv (.k (.c (C.bool false))))⟩] [0])
  (.seq (.region [⟨some 3, none, .p (.mv (.t 0))⟩,
    ⟨some 4, none, .p (.len (.t 3))⟩,
    ⟨some 5, none, .p (.bin .gtr (.t 4) (.k (.c (C.int .i64 65536))))⟩,
    ⟨some 2, none, .p (.mv (.t 5))⟩] [2])
  .ret)) }
theorem a50_ok : okFn Try.prog 50 a50 = true := by kernel_rfl
/-- loop.example/g01215/spec.DrawEndValue -/
def a51 : AFn := { np := 1, nt := 15, res := [.cell 2 24 true, .t 3], body :=
  (.seq (.region [⟨some 2, none, .p (.alloc (List.replicate 24 (.k (C.int .i64 0))))⟩,
    ⟨some 3, none, .p (.mv (.k (.c (C.int .i64 0))))⟩] [0, 2])
  (.seq (.region [⟨some 6, none, .p (.mv (.t 0))⟩,
    ⟨some 7, none, .p (.build [.sl 1, .k (C.int .i64 0), .k (C.int .u64 0)] [(0, 1, .t 6)])⟩,
    ⟨some 8, none, .p (.box 3 (.t 7))⟩,
    ⟨some 4, none, .p (.mv (.t 8))⟩] [2, 4])
  (.seq (.region [⟨some 9, none, .p (.mv (.t 4))⟩,
    ⟨some 10, none, .p (.mksl 1 7 [.k (C.int .i64 0)] [(0, 1, .k (.c (C.int .i64 2))), (1, 1, .k (.c (C.int .i64 3))), (2, 1, .k (.c (C.int .i64 1))), (3, 1, .k (.c (C.int .i64 0))), (4, 1, .k (.c (C.int .i64 3))), (5, 1, .k (.c (C.int .i64 4))), (6, 1, .k (.c (C.int .i64 (-1))))])⟩,
    ⟨some 11, none, .h (.call (.f 143) [.t 9, .t 10])⟩,
    ⟨some 5, none, .p (.mv (.t 11))⟩] [2, 4, 5])
  (.seq (.region [⟨some 12, none, .p (.mv (.t 4))⟩,
    ⟨some 13, none, .h (.call (.f 144) [.t 12])⟩,
    ⟨some 14, none, .p (.mv (.t 5))⟩,
    ⟨none, none, .h (.store 24 (.t 2) (.t 13))⟩,
    ⟨some 3, none, .p (.mv (.t 14))⟩] [2, 3])
  .ret)))) }
theorem a51_ok : okFn Try.prog 51 a51 = true := by kernel_rfl
/-- loop.example/g01215/impl.EndValue -/
def a52 : AFn := { np := 2, nt := 13, res := [.t 4, .t 5], body :=
  (.seq (.region [⟨some 2, none, .p (.box 24 (.t 0))⟩,
    ⟨some 4, none, .p (.mv (.k (.c (C.int .i64 0))))⟩,
    ⟨some 5, none, .p (.mv (.k (.c (C.bool false))))⟩] [1, 2])
  (.seq (.seq (.region [⟨some 6, none, .h (.load 24 true (.t 2))⟩,
    ⟨some 7, none, .p (.mv (.t 1))⟩,
    ⟨some 8, none, .h (.call (.f 145) [.t 6, .t 7, .k (.c (C.int .i64 0))])⟩,
    ⟨some 9, none, .p (.un .not (.t 8))⟩] [1, 2, 9])
  (.cond (.t 9)
  (.seq (.region [⟨some 4, none, .p (.mv (.k (.c (C.int .i64 0))))⟩,
    ⟨some 5, none, .p (.mv (.k (.c (C.bool false))))⟩] [4, 5])
  .ret)
  .skip))
  (.seq (.region [⟨some 10, none, .h (.load 24 true (.t 2))⟩,
    ⟨some 11, none, .p (.mv (.t 1))⟩,
    ⟨some 12, none, .h (.call (.f 146) [.t 10, .t 11])⟩,
    ⟨some 4, none, .p (.mv (.t 12))⟩,
    ⟨some 5, none, .p (.mv (.k (.c (C.bool true))))⟩] [4, 5])
  .ret))) }
theorem a52_ok : okFn Try.prog 52 a52 = true := by kernel_rfl
/-- loop.example/g01215/spec.EndValue -/
def a53 : AFn := { np := 2, nt := 17, res := [.t 4, .t 5], body :=
  (.seq (.region [⟨some 2, none, .p (.box 24 (.t 0))⟩,
    ⟨some 4, none, .p (.mv (.k (.c (C.int .i64 0))))⟩,
    ⟨some 5, none, .p (.mv (.k (.c (C.bool false))))⟩] [1, 2])
  (.seq (.seq (.region [⟨some 6, none, .h (.load 24 true (.t 2))⟩,
    ⟨some 7, none, .h (.call (.f 147) [.t 6])⟩,
    ⟨some 8, none, .p (.un .not (.t 7))⟩,
    ⟨some 9, none, .p (.mv (.t 8))⟩,
    ⟨some 10, some (9, false), .p (.mv (.t 1))⟩,
    ⟨some 11, some (9, false), .h (.call (.f 112) [.t 10, .k (.c (C.int .i64 0)), .k (.c (C.int .i64 3))])⟩,
    ⟨some 12, some (9, false), .p (.un .not (.t 11))⟩,
    ⟨some 13, none, .p (.pick (.t 9) (.k (.c (C.bool true))) (.t 12))⟩] [1, 2, 13])
  (.cond (.t 13)
  (.seq (.region [⟨some 4, none, .p (.mv (.k (.c (C.int .i64 0))))⟩,
    ⟨some 5, none, .p (.mv (.k (.c (C.bool false))))⟩] [4, 5])
  .ret)
  .skip))
  (.seq (.region [⟨some 14, none, .h (.load 24 true (.t 2))⟩,
    ⟨some 15, none, .p (.mv (.t 1))⟩,
    ⟨some 16, none, .h (.call (.f 148) [.t 14, .t 15])⟩,
    ⟨some 4, none, .p (.mv (.t 16))⟩,
    ⟨some 5, none, .p (.mv (.k (.c (C.bool true))))⟩] [4, 5])
  .ret))) }
theorem a53_ok : okFn Try.prog 53 a53 = true := by kernel_rfl
/-- loop.example/g01215/impl.EndPours -/
def a54 : AFn := { np := 2, nt := 18, res := [.t 4, .t 5], body :=
  (.seq (.region [⟨some 2, none, .p (.box 24 (.t 0))⟩,
    ⟨some 3, none, .p (.box 1 (.t 1))⟩,
    ⟨some 4, none, .p (.nilsl 2)⟩,
    ⟨some 5, none, .p (.mv (.k (.c (C.bool false))))⟩] [2, 3])
  (.seq (.seq (.region [⟨some 7, none, .h (.load 24 true (.t 2))⟩,
    ⟨some 8, none, .h (.load 1 false (.t 3))⟩,
    ⟨some 9, none, .h (.call (.f 145) [.t 7, .t 8, .k (.c (C.int .i64 1))])⟩,
    ⟨some 10, none, .p (.un .not (.t 9))⟩] [2, 3, 10])
  (.cond (.t 10)
  (.seq (.region [⟨some 4, none, .p (.nilsl 2)⟩,
    ⟨some 5, none, .p (.mv (.k (.c (C.bool false))))⟩] [4, 5])
  .ret)
  .skip))
  (.seq (.region [⟨some 11, none, .h (.load 24 true (.t 2))⟩,
    ⟨some 12, none, .h (.load 1 false (.t 3))⟩,
    ⟨some 13, none, .h (.call (.f 146) [.t 11, .t 12])⟩,
    ⟨some 6, none, .p (.alloc [.k (C.int .i64 0)])⟩,
    ⟨none, none, .h (.store 1 (.t 6) (.t 13))⟩] [2, 3, 6])
  (.seq (.region [⟨some 14, none, .h (.load 24 true (.t 2))⟩,
    ⟨some 15, none, .h (.call (.f 150) [.t 14])⟩,
    ⟨some 16, none, .p (.mkfn 151 [.t 2, .t 3, .t 6])⟩,
    ⟨some 17, none, .h (.call (.f 149) [.t 15, .t 16])⟩,
    ⟨some 4, none, .p (.mv (.t 17))⟩,
    ⟨some 5, none, .p (.mv (.k (.c (C.bool true))))⟩] [4, 5])
  .ret)))) }
theorem a54_ok : okFn Try.prog 54 a54 = true := by kernel_rfl
/-- loop.example/g01215/spec.EndPours -/
def a55 : AFn := { np := 2, nt := 63, res := [.t 4, .t 5], body :=
  (.seq (.region [⟨some 2, none, .p (.box 24 (.t 0))⟩,
    ⟨some 4, none, .p (.nilsl 2)⟩,
    ⟨some 5, none, .p (.mv (.k (.c (C.bool false))))⟩] [1, 2])
  (.seq (.region [⟨some 12, none, .p (.mksl 2 0 [.k (C.int .i64 0), .k (C.int .i64 0)] [])⟩,
    ⟨some 6, none, .p (.mv (.t 12))⟩] [1, 2, 6])
  (.seq (.seq (.region [⟨some 13, none, .h (.load 24 true (.t 2))⟩,
    ⟨some 14, none, .h (.call (.f 147) [.t 13])⟩,
    ⟨some 15, none, .p (.un .not (.t 14))⟩,
    ⟨some 16, none, .p (.mv (.t 15))⟩,
    ⟨some 17, some (16, false), .p (.mv (.t 1))⟩,
    ⟨some 18, some (16, false), .h (.call (.f 112) [.t 17, .k (.c (C.int .i64 1)), .k (.c (C.int .i64 3))])⟩,
    ⟨some 19, some (16, false), .p (.un .not (.t 18))⟩,
    ⟨some 20, none, .p (.pick (.t 16) (.k (.c (C.bool true))) (.t 19))⟩] [1, 2, 6, 20])
  (.cond (.t 20)
  (.seq (.region [⟨some 21, none, .p (.mv (.t 6))⟩,
    ⟨some 4, none, .p (.mv (.t 21))⟩,
    ⟨some 5, none, .p (.mv (.k (.c (C.bool false))))⟩] [4, 5])
  .ret)
  .skip))
  (.seq (.regionD [⟨some 22, none, .h (.load 24 true (.t 2))⟩,
    ⟨some 23, none, .p (.mv (.t 1))⟩,
    ⟨some 24, none, .h (.call (.f 148) [.t 22, .t 23])⟩,
    ⟨some 25, none, .h (.load 24 true (.t 2))⟩,
    ⟨some 26, none, .h (.call (.f 152) [.t 25])⟩,
    ⟨some 7, none, .p (.mv (.t 24))⟩,
    ⟨some 8, none, .p (.mv (.t 26))⟩] [1, 2, 6, 7, 8] [])
  (.seq (.seq (.region [⟨some 9, none, .p (.mv (.k (.c (C.int .i64 0))))⟩] [1, 2, 6, 7, 8, 9])
  (.block 0 (.loop (.seq (.seq (.region [⟨some 27, none, .p (.mv (.t 9))⟩,
    ⟨some 28, none, .p (.mv (.t 8))⟩,
    ⟨some 29, none, .p (.len (.t 28))⟩,
    ⟨some 30, none, .p (.bin .lss (.t 27) (.t 29))⟩] [1, 2, 6, 7, 8, 9, 30])
  (.cond (.t 30)
  .skip
  (.exit 0)))
  (.seq (.block 1 (.seq (.regionD [⟨some 34, none, .h (.load 24 true (.t 2))⟩,
    ⟨some 35, none, .p (.mv (.t 8))⟩,
    ⟨some 36, none, .p (.mv (.t 9))⟩,
    ⟨some 37, none, .p (.ixS 2 (.t 35) (.t 36))⟩,
    ⟨some 38, none, .p (.ixA 2 1 (.t 37) (.k (.c (C.int .i64 0))))⟩,
    ⟨some 39, none, .h (.load 1 false (.t 38))⟩,
    ⟨some 40, none, .p (.mv (.t 8))⟩,
    ⟨some 41, none, .p (.mv (.t 9))⟩,
    ⟨some 42, none, .p (.ixS 2 (.t 40) (.t 41))⟩,
    ⟨some 43, none, .p (.ixA 2 1 (.t 42) (.k (.c (C.int .i64 1))))⟩,
    ⟨some 44, none, .h (.load 1 false (.t 43))⟩,
    ⟨some 45, none, .h (.call (.f 126) [.t 34, .t 39, .t 44])⟩,
    ⟨some 33, none, .p (.mv (.t 45))⟩,
    ⟨some 46, none, .p (.ext (.t 33) 0)⟩,
    ⟨some 47, none, .p (.ext (.t 33) 1)⟩,
    ⟨some 10, none, .p (.alloc (List.replicate 24 (.k (C.int .i64 0))))⟩,
    ⟨none, none, .h (.store 24 (.t 10) (.t 46))⟩,
    ⟨some 11, none, .p (.mv (.t 47))⟩] [1, 2, 6, 7, 8, 9, 10] [])
  (.seq (.region [⟨some 48, none, .h (.load 24 true (.t 10))⟩,
    ⟨some 49, none, .p (.mv (.t 1))⟩,
    ⟨some 50, none, .p (.bin .sub (.t 49) (.k (.c (C.int .i64 1))))⟩,
    ⟨some 51, none, .h (.call (.f 148) [.t 48, .t 50])⟩,
    ⟨some 52, none, .p (.un .neg (.t 51))⟩,
    ⟨some 53, none, .p (.mv (.t 7))⟩,
    ⟨some 54, none, .p (.bin .eql (.t 52) (.t 53))⟩] [1, 2, 6, 7, 8, 9, 54])
  (.cond (.t 54)
  (.region [⟨some 55, none, .p (.mv (.t 6))⟩,
    ⟨some 56, none, .p (.mv (.t 8))⟩,
    ⟨some 57, none, .p (.mv (.t 9))⟩,
    ⟨some 58, none, .p (.ixS 2 (.t 56) (.t 57))⟩,
    ⟨some 59, none, .h (.load 2 true (.t 58))⟩,
    ⟨some 60, none, .p (.mksl 2 1 [.k (C.int .i64 0), .k (C.int .i64 0)] [(0, 2, .t 59)])⟩,
    ⟨some 61, none, .h (.app 2 (.t 55) (.t 60))⟩,
    ⟨some 6, none, .p (.mv (.t 61))⟩] [1, 2, 6, 7, 8, 9])
  .skip))))
  (.region [⟨some 31, none, .p (.mv (.t 9))⟩,
    ⟨some 32, none, .p (.bin .add (.t 31) (.k (.c (C.int .i64 1))))⟩,
    ⟨some 9, none, .p (.mv (.t 32))⟩] [1, 2, 6, 7, 8, 9]))) [1, 2, 6, 7, 8, 9])))
  (.seq (.region [⟨some 62, none, .p (.mv (.t 6))⟩,
    ⟨some 4, none, .p (.mv (.t 62))⟩,
    ⟨some 5, none, .p (.mv (.k (.c (C.bool true))))⟩] [4, 5])
  .ret)))))) }
theorem a55_ok : okFn Try.prog 55 a55 = true := by kernel_rfl
/-- loop.example/g01215/laws.rPairs -/
def a56 : AFn := { np := 2, nt := 26, res := [.t 4], body :=
  (.seq (.region [⟨some 4, none, .p (.mv (.k (.c (C.bool false))))⟩] [0, 1])
  (.seq (.seq (.region [⟨some 6, none, .p (.mv (.t 0))⟩,
    ⟨some 7, none, .p (.len (.t 6))⟩,
    ⟨some 8, none, .p (.mv (.t 1))⟩,
    ⟨some 9, none, .p (.len (.t 8))⟩,
    ⟨some 10, none, .p (.bin .neq (.t 7) (.t 9))⟩] [0, 1, 10])
  (.cond (.t 10)
  (.seq (.region [⟨some 4, none, .p (.mv (.k (.c (C.bool false))))⟩] [4])
  .ret)
  .skip))
  (.seq (.seq (.region [⟨some 5, none, .p (.mv (.k (.c (C.int .i64 0))))⟩] [0, 1, 5])
  (.block 0 (.loop (.seq (.seq (.region [⟨some 11, none, .p (.mv (.t 5))⟩,
    ⟨some 12, none, .p (.mv (.t 0))⟩,
    ⟨some 13, none, .p (.len (.t 12))⟩,
    ⟨some 14, none, .p (.bin .lss (.t 11) (.t 13))⟩] [0, 1, 5, 14])
  (.cond (.t 14)
  .skip
  (.exit 0)))
  (.seq (.block 1 (.seq (.regionD [⟨some 17, none, .p (.mv (.t 0))⟩,
    ⟨some 18, none, .p (.mv (.t 5))⟩,
    ⟨some 19, none, .p (.ixS 2 (.t 17) (.t 18))⟩,
    ⟨some 20, none, .h (.load 2 true (.t 19))⟩,
    ⟨some 21, none, .p (.mv (.t 1))⟩,
    ⟨some 22, none, .p (.mv (.t 5))⟩,
    ⟨some 23, none, .p (.ixS 2 (.t 21) (.t 22))⟩,
    ⟨some 24, none, .h (.load 2 true (.t 23))⟩,
    ⟨some 25, none, .p (.eqv true [.int .i64, .int .i64] (.t 20) (.t 24))⟩] [0, 1, 5, 25] [])
  (.cond (.t 25)
  (.seq (.region [⟨some 4, none, .p (.mv (.k (.c (C.bool false))))⟩] [4])
  .ret)
  .skip)))
  (.region [⟨some 15, none, .p (.mv (.t 5))⟩,
    ⟨some 16, none, .p (.bin .add (.t 15) (.k (.c (C.int .i64 1))))⟩,
    ⟨some 5, none, .p (.mv (.t 16))⟩] [0, 1, 5]))) [0, 1, 5])))
  (.seq (.region [⟨some 4, none, .p (.mv (.k (.c (C.bool true))))⟩] [4])
  .ret)))) }
theorem a56_ok : okFn Try.prog 56 a56 = true := by kernel_rfl
/-- loop.example/g01215/impl.IsLost -/
def a57 : AFn := { np := 1, nt := 11, res := [.t 2, .t 3], body :=
  (.seq (.region [⟨some 1, none, .p (.box 24 (.t 0))⟩,
    ⟨some 2, none, .p (.mv (.k (.c (C.bool false))))⟩,
    ⟨some 3, none, .p (.mv (.k (.c (C.bool false))))⟩] [1])
  (.seq (.seq (.region [⟨some 4, none, .h (.load 24 true (.t 1))⟩,
    ⟨some 5, none, .h (.call (.f 59) [.t 4])⟩,
    ⟨some 6, none, .p (.un .not (.t 5))⟩] [1, 6])
  (.cond (.t 6)
  (.seq (.region [⟨some 2, none, .p (.mv (.k (.c (C.bool false))))⟩,
    ⟨some 3, none, .p (.mv (.k (.c (C.bool false))))⟩] [2, 3])
  .ret)
  .skip))
  (.seq (.region [⟨some 7, none, .h (.load 24 true (.t 1))⟩,
    ⟨some 8, none, .h (.call (.f 150) [.t 7])⟩,
    ⟨some 9, none, .p (.len (.t 8))⟩,
    ⟨some 10, none, .p (.bin .eql (.t 9) (.k (.c (C.int .i64 0))))⟩,
    ⟨some 2, none, .p (.mv (.t 10))⟩,
    ⟨some 3, none, .p (.mv (.k (.c (C.bool true))))⟩] [2, 3])
  .ret))) }
theorem a57_ok : okFn Try.prog 57 a57 = true := by kernel_rfl
/-- loop.example/g01215/spec.IsLost -/
def a58 : AFn := { np := 1, nt := 11, res := [.t 2, .t 3], body :=
  (.seq (.region [⟨some 1, none, .p (.box 24 (.t 0))⟩,
    ⟨some 2, none, .p (.mv (.k (.c (C.bool false))))⟩,
    ⟨some 3, none, .p (.mv (.k (.c (C.bool false))))⟩] [1])
  (.seq (.seq (.region [⟨some 4, none, .h (.load 24 true (.t 1))⟩,
    ⟨some 5, none, .h (.call (.f 147) [.t 4])⟩,
    ⟨some 6, none, .p (.un .not (.t 5))⟩] [1, 6])
  (.cond (.t 6)
  (.seq (.region [⟨some 2, none, .p (.mv (.k (.c (C.bool false))))⟩,
    ⟨some 3, none, .p (.mv (.k (.c (C.bool false))))⟩] [2, 3])
  .ret)
  .skip))
  (.seq (.region [⟨some 7, none, .h (.load 24 true (.t 1))⟩,
    ⟨some 8, none, .h (.call (.f 152) [.t 7])⟩,
    ⟨some 9, none, .p (.len (.t 8))⟩,
    ⟨some 10, none, .p (.bin .eql (.t 9) (.k (.c (C.int .i64 0))))⟩,
    ⟨some 2, none, .p (.mv (.t 10))⟩,
    ⟨some 3, none, .p (.mv (.k (.c (C.bool true))))⟩] [2, 3])
  .ret))) }
theorem a58_ok : okFn Try.prog 58 a58 = true := by kernel_rfl
/-- loop.example/g01215/impl.IsRack -/
def a59 : AFn := { np := 1, nt := 6, res := [.t 2], body :=
  (.seq (.region [⟨some 1, none, .p (.box 24 (.t 0))⟩,
    ⟨some 2, none, .p (.mv (.k (.c (C.bool false))))⟩] [1])
  (.seq (.region [⟨some 3, none, .p (.fld 0 (.t 1))⟩,
    ⟨some 4, none, .h (.slA 6 4 (.t 3) none none)⟩,
    ⟨some 5, none, .h (.call (.f 153) [.t 4, .f 154])⟩,
    ⟨some 2, none, .p (.mv (.t 5))⟩] [2])
  .ret)) }
theorem a59_ok : okFn Try.prog 59 a59 = true := by kernel_rfl
/-- loop.example/g01215/impl.CountReplies -/
def a60 : AFn := { np := 1, nt := 36, res := [.t 2, .t 3], body :=
  (.seq (.region [⟨some 1, none, .p (.box 24 (.t 0))⟩,
    ⟨some 2, none, .p (.nilsl 1)⟩,
    ⟨some 3, none, .p (.mv (.k (.c (C.bool false))))⟩] [1])
  (.seq (.seq (.region [⟨some 9, none, .h (.load 24 true (.t 1))⟩,
    ⟨some 10, none, .h (.call (.f 59) [.t 9])⟩,
    ⟨some 11, none, .p (.un .not (.t 10))⟩] [1, 11])
  (.cond (.t 11)
  (.seq (.region [⟨some 2, none, .p (.nilsl 1)⟩,
    ⟨some 3, none, .p (.mv (.k (.c (C.bool false))))⟩] [2, 3])
  .ret)
  .skip))
  (.seq (.region [⟨some 4, none, .p (.nilsl 1)⟩] [1, 4])
  (.seq (.seq (.region [⟨some 12, none, .h (.load 24 true (.t 1))⟩,
    ⟨some 13, none, .h (.call (.f 150) [.t 12])⟩,
    ⟨some 14, none, .p (.len (.t 13))⟩,
    ⟨some 15, none, .p (.mv (.k (.c (C.int .i64 0))))⟩] [1, 4, 13, 14, 15])
  (.block 0 (.loop (.seq (.region [⟨some 16, none, .p (.bin .lss (.t 15) (.t 14))⟩] [1, 4, 13, 14, 15, 16])
  (.seq (.cond (.t 16)
  .skip
  (.exit 0))
  (.seq (.block 1 (.seq (.region [⟨some 17, none, .p (.ixS 2 (.t 13) (.t 15))⟩,
    ⟨some 18, none, .h (.load 2 true (.t 17))⟩,
    ⟨some 6, none, .p (.alloc [.k (C.int .i64 0), .k (C.int .i64 0)])⟩,
    ⟨none, none, .h (.store 2 (.t 6) (.t 18))⟩] [1, 4, 6, 13, 14, 15])
  (.seq (.region [⟨some 20, none, .h (.load 24 true (.t 1))⟩,
    ⟨some 21, none, .p (.ixA 2 1 (.t 6) (.k (.c (C.int .i64 0))))⟩,
    ⟨some 22, none, .h (.load 1 false (.t 21))⟩,
    ⟨some 23, none, .p (.ixA 2 1 (.t 6) (.k (.c (C.int .i64 1))))⟩,
    ⟨some 24, none, .h (.load 1 false (.t 23))⟩,
    ⟨some 25, none, .h (.call (.f 129) [.t 20, .t 22, .t 24])⟩,
    ⟨some 19, none, .p (.mv (.t 25))⟩,
    ⟨some 26, none, .p (.ext (.t 19) 0)⟩,
    ⟨some 27, none, .p (.ext (.t 19) 1)⟩,
    ⟨some 7, none, .p (.alloc (List.replicate 24 (.k (C.int .i64 0))))⟩,
    ⟨none, none, .h (.store 24 (.t 7) (.t 26))⟩,
    ⟨some 8, none, .p (.mv (.t 27))⟩] [1, 4, 7, 13, 14, 15])
  (.region [⟨some 28, none, .p (.mv (.t 4))⟩,
    ⟨some 29, none, .h (.load 24 true (.t 7))⟩,
    ⟨some 30, none, .h (.call (.f 150) [.t 29])⟩,
    ⟨some 31, none, .p (.len (.t 30))⟩,
    ⟨some 32, none, .p (.mksl 1 1 [.k (C.int .i64 0)] [(0, 1, .t 31)])⟩,
    ⟨some 33, none, .h (.app 1 (.t 28) (.t 32))⟩,
    ⟨some 4, none, .p (.mv (.t 33))⟩] [1, 4, 13, 14, 15]))))
  (.region [⟨some 34, none, .p (.bin .add (.t 15) (.k (.c (C.int .i64 1))))⟩,
    ⟨some 15, none, .p (.mv (.t 34))⟩] [1, 4, 13, 14, 15])))) [1, 4, 13, 14, 15])))
  (.seq (.region [⟨some 35, none, .p (.mv (.t 4))⟩,
    ⟨some 2, none, .p (.mv (.t 35))⟩,
    ⟨some 3, none, .p (.mv (.k (.c (C.bool true))))⟩] [2, 3])
  .ret))))) }
theorem a60_ok : okFn Try.prog 60 a60 = true := by kernel_rfl
/-- loop.example/g01215/spec.CountReplies -/
def a61 : AFn := { np := 1, nt := 44, res := [.t 2, .t 3], body :=
  (.seq (.region [⟨some 1, none, .p (.box 24 (.t 0))⟩,
    ⟨some 2, none, .p (.nilsl 1)⟩,
    ⟨some 3, none, .p (.mv (.k (.c (C.bool false))))⟩] [1])
  (.seq (.region [⟨some 9, none, .p (.mksl 1 0 [.k (C.int .i64 0)] [])⟩,
    ⟨some 4, none, .p (.mv (.t 9))⟩] [1, 4])
  (.seq (.seq (.region [⟨some 10, none, .h (.load 24 true (.t 1))⟩,
    ⟨some 11, none, .h (.call (.f 147) [.t 10])⟩,
    ⟨some 12, none, .p (.un .not (.t 11))⟩] [1, 4, 12])
  (.cond (.t 12)
  (.seq (.region [⟨some 13, none, .p (.mv (.t 4))⟩,
    ⟨some 2, none, .p (.mv (.t 13))⟩,
    ⟨some 3, none, .p (.mv (.k (.c (C.bool false))))⟩] [2, 3])
  .ret)
  .skip))
  (.seq (.region [⟨some 14, none, .h (.load 24 true (.t 1))⟩,
    ⟨some 15, none, .h (.call (.f 152) [.t 14])⟩,
    ⟨some 5, none, .p (.mv (.t 15))⟩] [1, 4, 5])
  (.seq (.seq (.region [⟨some 6, none, .p (.mv (.k (.c (C.int .i64 0))))⟩] [1, 4, 5, 6])
  (.block 0 (.loop (.seq (.seq (.region [⟨some 16, none, .p (.mv (.t 6))⟩,
    ⟨some 17, none, .p (.mv (.t 5))⟩,
    ⟨some 18, none, .p (.len (.t 17))⟩,
    ⟨some 19, none, .p (.bin .lss (.t 16) (.t 18))⟩] [1, 4, 5, 6, 19])
  (.cond (.t 19)
  .skip
  (.exit 0)))
  (.seq (.block 1 (.seq (.regionD [⟨some 23, none, .h (.load 24 true (.t 1))⟩,
    ⟨some 24, none, .p (.mv (.t 5))⟩,
    ⟨some 25, none, .p (.mv (.t 6))⟩,
    ⟨some 26, none, .p (.ixS 2 (.t 24) (.t 25))⟩,
    ⟨some 27, none, .p (.ixA 2 1 (.t 26) (.k (.c (C.int .i64 0))))⟩,
    ⟨some 28, none, .h (.load 1 false (.t 27))⟩,
    ⟨some 29, none, .p (.mv (.t 5))⟩,
    ⟨some 30, none, .p (.mv (.t 6))⟩,
    ⟨some 31, none, .p (.ixS 2 (.t 29) (.t 30))⟩,
    ⟨some 32, none, .p (.ixA 2 1 (.t 31) (.k (.c (C.int .i64 1))))⟩,
    ⟨some 33, none, .h (.load 1 false (.t 32))⟩,
    ⟨some 34, none, .h (.call (.f 126) [.t 23, .t 28, .t 33])⟩,
    ⟨some 22, none, .p (.mv (.t 34))⟩,
    ⟨some 35, none, .p (.ext (.t 22) 0)⟩,
    ⟨some 36, none, .p (.ext (.t 22) 1)⟩,
    ⟨some 7, none, .p (.alloc (List.replicate 24 (.k (C.int .i64 0))))⟩,
    ⟨none, none, .h (.store 24 (.t 7) (.t 35))⟩,
    ⟨some 8, none, .p (.mv (.t 36))⟩] [1, 4, 5, 6, 7] [])
  (.region [⟨some 37, none, .p (.mv (.t 4))⟩,
    ⟨some 38, none, .h (.load 24 true (.t 7))⟩,
    ⟨some 39, none, .h (.call (.f 152) [.t 38])⟩,
    ⟨some 40, none, .p (.len (.t 39))⟩,
    ⟨some 41, none, .p (.mksl 1 1 [.k (C.int .i64 0)] [(0, 1, .t 40)])⟩,
    ⟨some 42, none, .h (.app 1 (.t 37) (.t 41))⟩,
    ⟨some 4, none, .p (.mv (.t 42))⟩] [1, 4, 5, 6])))
  (.region [⟨some 20, none, .p (.mv (.t 6))⟩,
    ⟨some 21, none, .p (.bin .add (.t 20) (.k (.c (C.int .i64 1))))⟩,
    ⟨some 6, none, .p (.mv (.t 21))⟩] [1, 4, 5, 6]))) [1, 4, 5, 6])))
  (.seq (.region [⟨some 43, none, .p (.mv (.t 4))⟩,
    ⟨some 2, none, .p (.mv (.t 43))⟩,
    ⟨some 3, none, .p (.mv (.k (.c (C.bool true))))⟩] [2, 3])
  .ret)))))) }
theorem a61_ok : okFn Try.prog 61 a61 = true := by kernel_rfl
/-- loop.example/g01215/laws.rInts -/
def a62 : AFn := { np := 2, nt := 26, res := [.t 4], body :=
  (.seq (.region [⟨some 4, none, .p (.mv (.k (.c (C.bool false))))⟩] [0, 1])
  (.seq (.seq (.region [⟨some 6, none, .p (.mv (.t 0))⟩,
    ⟨some 7, none, .p (.len (.t 6))⟩,
    ⟨some 8, none, .p (.mv (.t 1))⟩,
    ⟨some 9, none, .p (.len (.t 8))⟩,
    ⟨some 10, none, .p (.bin .neq (.t 7) (.t 9))⟩] [0, 1, 10])
  (.cond (.t 10)
  (.seq (.region [⟨some 4, none, .p (.mv (.k (.c (C.bool false))))⟩] [4])
  .ret)
  .skip))
  (.seq (.seq (.region [⟨some 5, none, .p (.mv (.k (.c (C.int .i64 0))))⟩] [0, 1, 5])
  (.block 0 (.loop (.seq (.seq (.region [⟨some 11, none, .p (.mv (.t 5))⟩,
    ⟨some 12, none, .p (.mv (.t 0))⟩,
    ⟨some 13, none, .p (.len (.t 12))⟩,
    ⟨some 14, none, .p (.bin .lss (.t 11) (.t 13))⟩] [0, 1, 5, 14])
  (.cond (.t 14)
  .skip
  (.exit 0)))
  (.seq (.block 1 (.seq (.regionD [⟨some 17, none, .p (.mv (.t 0))⟩,
    ⟨some 18, none, .p (.mv (.t 5))⟩,
    ⟨some 19, none, .p (.ixS 1 (.t 17) (.t 18))⟩,
    ⟨some 20, none, .h (.load 1 false (.t 19))⟩,
    ⟨some 21, none, .p (.mv (.t 1))⟩,
    ⟨some 22, none, .p (.mv (.t 5))⟩,
    ⟨some 23, none, .p (.ixS 1 (.t 21) (.t 22))⟩,
    ⟨some 24, none, .h (.load 1 false (.t 23))⟩,
    ⟨some 25, none, .p (.bin .neq (.t 20) (.t 24))⟩] [0, 1, 5, 25] [])
  (.cond (.t 25)
  (.seq (.region [⟨some 4, none, .p (.mv (.k (.c (C.bool false))))⟩] [4])
  .ret)
  .skip)))
  (.region [⟨some 15, none, .p (.mv (.t 5))⟩,
    ⟨some 16, none, .p (.bin .add (.t 15) (.k (.c (C.int .i64 1))))⟩,
    ⟨some 5, none, .p (.mv (.t 16))⟩] [0, 1, 5]))) [0, 1, 5])))
  (.seq (.region [⟨some 4, none, .p (.mv (.k (.c (C.bool true))))⟩] [4])
  .ret)))) }
theorem a62_ok : okFn Try.prog 62 a62 = true := by kernel_rfl
/-- loop.example/g01215/impl.Pour -/
def a63 : AFn := { np := 3, nt := 34, res := [.cell 6 24 true, .t 7, .t 8], body :=
  (.seq (.region [⟨some 3, none, .p (.box 24 (.t 0))⟩,
    ⟨some 6, none, .p (.alloc (List.replicate 24 (.k (C.int .i64 0))))⟩,
    ⟨some 7, none, .p (.mv (.k (.c (C.int .i64 0))))⟩,
    ⟨some 8, none, .p (.mv (.k (.c (C.bool false))))⟩] [1, 2, 3, 6])
  (.seq (.seq (.region [⟨some 11, none, .h (.load 24 true (.t 3))⟩,
    ⟨some 12, none, .p (.mv (.t 1))⟩,
    ⟨some 13, none, .p (.mv (.t 2))⟩,
    ⟨some 14, none, .p (.mksl 1 2 [.k (C.int .i64 0)] [(0, 1, .t 12), (1, 1, .t 13)])⟩,
    ⟨some 15, none, .h (.call (.f 155) [.t 11, .t 14])⟩,
    ⟨some 16, none, .p (.un .not (.t 15))⟩,
    ⟨some 17, none, .p (.mv (.t 16))⟩,
    ⟨some 18, some (17, false), .h (.load 24 true (.t 3))⟩,
    ⟨some 19, some (17, false), .p (.mv (.t 1))⟩,
    ⟨some 20, some (17, false), .p (.mv (.t 2))⟩,
    ⟨some 21, some (17, false), .h (.call (.f 156) [.t 18, .t 19, .t 20])⟩,
    ⟨some 22, some (17, false), .p (.un .not (.t 21))⟩,
    ⟨some 23, none, .p (.pick (.t 17) (.k (.c (C.bool true))) (.t 22))⟩] [1, 2, 3, 6, 23])
  (.cond (.t 23)
  (.seq (.region [⟨some 24, none, .p (.build (List.replicate 24 (.k (C.int .i64 0))) [])⟩,
    ⟨none, none, .h (.store 24 (.t 6) (.t 24))⟩,
    ⟨some 7, none, .p (.mv (.k (.c (C.int .i64 0))))⟩,
    ⟨some 8, none, .p (.mv (.k (.c (C.bool false))))⟩] [6, 7, 8])
  .ret)
  .skip))
  (.seq (.region [⟨some 26, none, .h (.load 24 true (.t 3))⟩,
    ⟨some 27, none, .p (.mv (.t 1))⟩,
    ⟨some 28, none, .p (.mv (.t 2))⟩,
    ⟨some 29, none, .h (.call (.f 129) [.t 26, .t 27, .t 28])⟩,
    ⟨some 25, none, .p (.mv (.t 29))⟩,
    ⟨some 30, none, .p (.ext (.t 25) 0)⟩,
    ⟨some 31, none, .p (.ext (.t 25) 1)⟩,
    ⟨some 9, none, .p (.alloc (List.replicate 24 (.k (C.int .i64 0))))⟩,
    ⟨none, none, .h (.store 24 (.t 9) (.t 30))⟩,
    ⟨some 10, none, .p (.mv (.t 31))⟩] [6, 9, 10])
  (.seq (.region [⟨some 32, none, .h (.load 24 true (.t 9))⟩,
    ⟨some 33, none, .p (.mv (.t 10))⟩,
    ⟨none, none, .h (.store 24 (.t 6) (.t 32))⟩,
    ⟨some 7, none, .p (.mv (.t 33))⟩,
    ⟨some 8, none, .p (.mv (.k (.c (C.bool true))))⟩] [6, 7, 8])
  .ret)))) }
theorem a63_ok : okFn Try.prog 63 a63 = true := by kernel_rfl
/-- loop.example/g01215/impl.UsefulPours -/
def a64 : AFn := { np := 1, nt := 9, res := [.t 2, .t 3], body :=
  (.seq (.region [⟨some 1, none, .p (.box 24 (.t 0))⟩,
    ⟨some 2, none, .p (.nilsl 2)⟩,
    ⟨some 3, none, .p (.mv (.k (.c (C.bool false))))⟩] [1])
  (.seq (.seq (.region [⟨some 4, none, .h (.load 24 true (.t 1))⟩,
    ⟨some 5, none, .h (.call (.f 59) [.t 4])⟩,
    ⟨some 6, none, .p (.un .not (.t 5))⟩] [1, 6])
  (.cond (.t 6)
  (.seq (.region [⟨some 2, none, .p (.nilsl 2)⟩,
    ⟨some 3, none, .p (.mv (.k (.c (C.bool false))))⟩] [2, 3])
  .ret)
  .skip))
  (.seq (.region [⟨some 7, none, .h (.load 24 true (.t 1))⟩,
    ⟨some 8, none, .h (.call (.f 150) [.t 7])⟩,
    ⟨some 2, none, .p (.mv (.t 8))⟩,
    ⟨some 3, none, .p (.mv (.k (.c (C.bool true))))⟩] [2, 3])
  .ret))) }
theorem a64_ok : okFn Try.prog 64 a64 = true := by kernel_rfl
/-- loop.example/g01215/spec.DoServe -/
def a65 : AFn := { np := 2, nt := 15, res := [.cell 4 26 true, .t 5], body :=
  (.seq (.region [⟨some 2, none, .p (.box 26 (.t 0))⟩,
    ⟨some 3, none, .p (.box 4 (.t 1))⟩,
    ⟨some 4, none, .p (.alloc (List.replicate 26 (.k (C.int .i64 0))))⟩,
    ⟨some 5, none, .p (.mv (.k (.c (C.bool false))))⟩] [2, 3, 4])
  (.seq (.seq (.region [⟨some 6, none, .h (.load 26 true (.t 2))⟩,
    ⟨some 7, none, .h (.call (.f 157) [.t 6])⟩,
    ⟨some 8, none, .p (.un .not (.t 7))⟩] [2, 3, 4, 8])
  (.cond (.t 8)
  (.seq (.region [⟨some 9, none, .p (.build (List.replicate 26 (.k (C.int .i64 0))) [])⟩,
    ⟨none, none, .h (.store 26 (.t 4) (.t 9))⟩,
    ⟨some 5, none, .p (.mv (.k (.c (C.bool false))))⟩] [4, 5])
  .ret)
  .skip))
  (.seq (.region [⟨some 10, none, .h (.load 26 true (.t 2))⟩,
    ⟨some 11, none, .h (.load 4 true (.t 3))⟩,
    ⟨some 12, none, .h (.call (.f 158) [.t 10, .t 11])⟩,
    ⟨some 13, none, .p (.ext (.t 12) 0)⟩,
    ⟨some 14, none, .p (.ext (.t 12) 1)⟩,
    ⟨none, none, .h (.store 26 (.t 4) (.t 13))⟩,
    ⟨some 5, none, .p (.mv (.t 14))⟩] [4, 5])
  .ret))) }
theorem a65_ok : okFn Try.prog 65 a65 = true := by kernel_rfl
/-- loop.example/g01215/laws.toBar -/
def a66 : AFn := { np := 1, nt := 15, res := [.cell 2 26 true], body :=
  (.seq (.region [⟨some 1, none, .p (.box 26 (.t 0))⟩,
    ⟨some 2, none, .p (.alloc (List.replicate 26 (.k (C.int .i64 0))))⟩] [1, 2])
  (.seq (.region [⟨some 3, none, .p (.alloc (List.replicate 26 (.k (C.int .i64 0))))⟩] [1, 2, 3])
  (.seq (.region [⟨some 4, none, .p (.fld 0 (.t 1))⟩,
    ⟨some 5, none, .h (.load 24 true (.t 4))⟩,
    ⟨some 6, none, .h (.call (.f 114) [.t 5])⟩,
    ⟨some 7, none, .p (.fld 0 (.t 3))⟩,
    ⟨none, none, .h (.store 24 (.t 7) (.t 6))⟩] [1, 2, 3])
  (.seq (.region [⟨some 8, none, .p (.fld 24 (.t 1))⟩,
    ⟨some 9, none, .h (.load 1 false (.t 8))⟩,
    ⟨some 10, none, .p (.fld 24 (.t 3))⟩,
    ⟨none, none, .h (.store 1 (.t 10) (.t 9))⟩] [1, 2, 3])
  (.seq (.region [⟨some 11, none, .p (.fld 25 (.t 1))⟩,
    ⟨some 12, none, .h (.load 1 false (.t 11))⟩,
    ⟨some 13, none, .p (.fld 25 (.t 3))⟩,
    ⟨none, none, .h (.store 1 (.t 13) (.t 12))⟩] [2, 3])
  (.seq (.region [⟨some 14, none, .h (.load 26 true (.t 3))⟩,
    ⟨none, none, .h (.store 26 (.t 2) (.t 14))⟩] [2])
  .ret)))))) }
theorem a66_ok : okFn Try.prog 66 a66 = true := by kernel_rfl
/-- loop.example/g01215/laws.toServe -/
def a67 : AFn := { np := 1, nt := 17, res := [.cell 2 4 true], body :=
  (.seq (.region [⟨some 1, none, .p (.box 4 (.t 0))⟩,
    ⟨some 2, none, .p (.alloc [.k (C.int .i64 0), .k (C.int .i64 0), .k (C.int .i64 0), .k (C.int .i64 0)])⟩] [1, 2])
  (.seq (.region [⟨some 3, none, .p (.alloc [.k (C.int .i64 0), .k (C.int .i64 0), .k (C.int .i64 0), .k (C.int .i64 0)])⟩] [1, 2, 3])
  (.seq (.region [⟨some 4, none, .p (.fld 0 (.t 1))⟩,
    ⟨some 5, none, .h (.load 1 false (.t 4))⟩,
    ⟨some 6, none, .p (.fld 0 (.t 3))⟩,
    ⟨none, none, .h (.store 1 (.t 6) (.t 5))⟩] [1, 2, 3])
  (.seq (.region [⟨some 7, none, .p (.fld 1 (.t 1))⟩,
    ⟨some 8, none, .h (.load 1 false (.t 7))⟩,
    ⟨some 9, none, .p (.fld 1 (.t 3))⟩,
    ⟨none, none, .h (.store 1 (.t 9) (.t 8))⟩] [1, 2, 3])
  (.seq (.region [⟨some 10, none, .p (.fld 2 (.t 1))⟩,
    ⟨some 11, none, .h (.load 1 false (.t 10))⟩,
    ⟨some 12, none, .p (.fld 2 (.t 3))⟩,
    ⟨none, none, .h (.store 1 (.t 12) (.t 11))⟩] [1, 2, 3])
  (.seq (.region [⟨some 13, none, .p (.fld 3 (.t 1))⟩,
    ⟨some 14, none, .h (.load 1 false (.t 13))⟩,
    ⟨some 15, none, .p (.fld 3 (.t 3))⟩,
    ⟨none, none, .h (.store 1 (.t 15) (.t 14))⟩] [2, 3])
  (.seq (.region [⟨some 16, none, .h (.load 4 true (.t 3))⟩,
    ⟨none, none, .h (.store 4 (.t 2) (.t 16))⟩] [2])
  .ret))))))) }
theorem a67_ok : okFn Try.prog 67 a67 = true := by kernel_rfl
/-- loop.example/g01215/impl.DoServe -/
def a68 : AFn := { np := 2, nt := 27, res := [.cell 4 26 true, .t 5], body :=
  (.seq (.region [⟨some 2, none, .p (.box 26 (.t 0))⟩,
    ⟨some 3, none, .p (.box 4 (.t 1))⟩,
    ⟨some 4, none, .p (.alloc (List.replicate 26 (.k (C.int .i64 0))))⟩,
    ⟨some 5, none, .p (.mv (.k (.c (C.bool false))))⟩] [2, 3, 4])
  (.seq (.seq (.region [⟨some 8, none, .h (.load 26 true (.t 2))⟩,
    ⟨some 9, none, .h (.call (.f 159) [.t 8])⟩,
    ⟨some 10, none, .p (.un .not (.t 9))⟩] [2, 3, 4, 10])
  (.cond (.t 10)
  (.seq (.region [⟨some 11, none, .p (.build (List.replicate 26 (.k (C.int .i64 0))) [])⟩,
    ⟨none, none, .h (.store 26 (.t 4) (.t 11))⟩,
    ⟨some 5, none, .p (.mv (.k (.c (C.bool false))))⟩] [4, 5])
  .ret)
  .skip))
  (.seq (.region [⟨some 13, none, .h (.load 26 true (.t 2))⟩,
    ⟨some 14, none, .h (.load 4 true (.t 3))⟩,
    ⟨some 15, none, .h (.call (.f 160) [.t 13, .t 14])⟩,
    ⟨some 12, none, .p (.mv (.t 15))⟩,
    ⟨some 16, none, .p (.ext (.t 12) 0)⟩,
    ⟨some 17, none, .p (.ext (.t 12) 1)⟩,
    ⟨some 6, none, .p (.alloc (List.replicate 26 (.k (C.int .i64 0))))⟩,
    ⟨none, none, .h (.store 26 (.t 6) (.t 16))⟩,
    ⟨some 7, none, .p (.mv (.t 17))⟩] [4, 6, 7])
  (.seq (.seq (.region [⟨some 18, none, .p (.mv (.t 7))⟩,
    ⟨some 19, none, .p (.un .not (.t 18))⟩,
    ⟨some 20, none, .p (.mv (.t 19))⟩,
    ⟨some 21, some (20, false), .h (.load 26 true (.t 6))⟩,
    ⟨some 22, some (20, false), .h (.call (.f 159) [.t 21])⟩,
    ⟨some 23, some (20, false), .p (.un .not (.t 22))⟩,
    ⟨some 24, none, .p (.pick (.t 20) (.k (.c (C.bool true))) (.t 23))⟩] [4, 6, 24])
  (.cond (.t 24)
  (.seq (.region [⟨some 25, none, .p (.build (List.replicate 26 (.k (C.int .i64 0))) [])⟩,
    ⟨none, none, .h (.store 26 (.t 4) (.t 25))⟩,
    ⟨some 5, none, .p (.mv (.k (.c (C.bool false))))⟩] [4, 5])
  .ret)
  .skip))
  (.seq (.region [⟨some 26, none, .h (.load 26 true (.t 6))⟩,
    ⟨none, none, .h (.store 26 (.t 4) (.t 26))⟩,
    ⟨some 5, none, .p (.mv (.k (.c (C.bool true))))⟩] [4, 5])
  .ret))))) }
theorem a68_ok : okFn Try.prog 68 a68 = true := by kernel_rfl
/-- loop.example/g01215/laws.eqBar -/
def a69 : AFn := { np := 2, nt := 21, res := [.t 4], body :=
  (.seq (.region [⟨some 2, none, .p (.box 26 (.t 0))⟩,
    ⟨some 3, none, .p (.box 26 (.t 1))⟩,
    ⟨some 4, none, .p (.mv (.k (.c (C.bool false))))⟩] [2, 3])
  (.seq (.seq (.region [⟨some 5, none, .p (.fld 0 (.t 2))⟩,
    ⟨some 6, none, .h (.load 24 true (.t 5))⟩,
    ⟨some 7, none, .p (.fld 0 (.t 3))⟩,
    ⟨some 8, none, .h (.load 24 true (.t 7))⟩,
    ⟨some 9, none, .h (.call (.f 119) [.t 6, .t 8])⟩,
    ⟨some 10, none, .p (.un .not (.t 9))⟩] [2, 3, 10])
  (.cond (.t 10)
  (.seq (.region [⟨some 4, none, .p (.mv (.k (.c (C.bool false))))⟩] [4])
  .ret)
  .skip))
  (.seq (.seq (.region [⟨some 11, none, .p (.fld 24 (.t 2))⟩,
    ⟨some 12, none, .h (.load 1 false (.t 11))⟩,
    ⟨some 13, none, .p (.fld 24 (.t 3))⟩,
    ⟨some 14, none, .h (.load 1 false (.t 13))⟩,
    ⟨some 15, none, .p (.bin .neq (.t 12) (.t 14))⟩] [2, 3, 15])
  (.cond (.t 15)
  (.seq (.region [⟨some 4, none, .p (.mv (.k (.c (C.bool false))))⟩] [4])
  .ret)
  .skip))
  (.seq (.seq (.region [⟨some 16, none, .p (.fld 25 (.t 2))⟩,
    ⟨some 17, none, .h (.load 1 false (.t 16))⟩,
    ⟨some 18, none, .p (.fld 25 (.t 3))⟩,
    ⟨some 19, none, .h (.load 1 false (.t 18))⟩,
    ⟨some 20, none, .p (.bin .neq (.t 17) (.t 19))⟩] [20])
  (.cond (.t 20)
  (.seq (.region [⟨some 4, none, .p (.mv (.k (.c (C.bool false))))⟩] [4])
  .ret)
  .skip))
  (.seq (.region [⟨some 4, none, .p (.mv (.k (.c (C.bool true))))⟩] [4])
  .ret))))) }
theorem a69_ok : okFn Try.prog 69 a69 = true := by kernel_rfl
/-- loop.example/g01215/laws.szServeS -/
def a70 : AFn := { np := 2, nt := 12, res := [.t 4], body :=
  (.seq (.region [⟨some 4, none, .p (.mv (.k (.c (C.int .i64 0))))⟩] [0, 1])
  (.seq (.region [⟨some 5, none, .p (.mv (.t 1))⟩,
    ⟨some 6, none, .p (.mv (.t 0))⟩,
    ⟨some 7, none, .p (.len (.t 6))⟩,
    ⟨some 8, none, .p (.bin .sub (.t 5) (.t 7))⟩,
    ⟨some 1, none, .p (.mv (.t 8))⟩] [1])
  (.seq (.seq (.region [⟨some 9, none, .p (.mv (.t 1))⟩,
    ⟨some 10, none, .p (.bin .lss (.t 9) (.k (.c (C.int .i64 0))))⟩] [1, 10])
  (.cond (.t 10)
  (.seq (.region [⟨some 4, none, .p (.mv (.k (.c (C.int .i64 (-1)))))⟩] [4])
  .ret)
  .skip))
  (.seq (.region [⟨some 11, none, .p (.mv (.t 1))⟩,
    ⟨some 4, none, .p (.mv (.t 11))⟩] [4])
  .ret)))) }
theorem a70_ok : okFn Try.prog 70 a70 = true := by kernel_rfl
/-- loop.example/g01215/spec.DoServes -/
def a71 : AFn := { np := 2, nt := 39, res := [.cell 4 26 true, .t 5, .t 6], body :=
  (.seq (.region [⟨some 2, none, .p (.box 26 (.t 0))⟩,
    ⟨some 4, none, .p (.alloc (List.replicate 26 (.k (C.int .i64 0))))⟩,
    ⟨some 5, none, .p (.mv (.k (.c (C.int .i64 0))))⟩,
    ⟨some 6, none, .p (.mv (.k (.c (C.bool false))))⟩] [1, 2, 4])
  (.seq (.seq (.region [⟨some 11, none, .h (.load 26 true (.t 2))⟩,
    ⟨some 12, none, .h (.call (.f 157) [.t 11])⟩,
    ⟨some 13, none, .p (.un .not (.t 12))⟩] [1, 2, 4, 13])
  (.cond (.t 13)
  (.seq (.region [⟨some 14, none, .p (.build (List.replicate 26 (.k (C.int .i64 0))) [])⟩,
    ⟨none, none, .h (.store 26 (.t 4) (.t 14))⟩,
    ⟨some 5, none, .p (.mv (.k (.c (C.int .i64 0))))⟩,
    ⟨some 6, none, .p (.mv (.k (.c (C.bool false))))⟩] [4, 5, 6])
  .ret)
  .skip))
  (.seq (.region [⟨some 15, none, .h (.load 26 true (.t 2))⟩,
    ⟨some 7, none, .p (.alloc (List.replicate 26 (.k (C.int .i64 0))))⟩,
    ⟨none, none, .h (.store 26 (.t 7) (.t 15))⟩] [1, 4, 7])
  (.seq (.seq (.region [⟨some 8, none, .p (.mv (.k (.c (C.int .i64 0))))⟩] [1, 4, 7, 8])
  (.block 0 (.loop (.seq (.seq (.region [⟨some 16, none, .p (.mv (.t 8))⟩,
    ⟨some 17, none, .p (.mv (.t 1))⟩,
    ⟨some 18, none, .p (.len (.t 17))⟩,
    ⟨some 19, none, .p (.bin .lss (.t 16) (.t 18))⟩] [1, 4, 7, 8, 19])
  (.cond (.t 19)
  .skip
  (.exit 0)))
  (.seq (.block 1 (.seq (.regionD [⟨some 23, none, .h (.load 26 true (.t 7))⟩,
    ⟨some 24, none, .p (.mv (.t 1))⟩,
    ⟨some 25, none, .p (.mv (.t 8))⟩,
    ⟨some 26, none, .p (.ixS 4 (.t 24) (.t 25))⟩,
    ⟨some 27, none, .h (.load 4 true (.t 26))⟩,
    ⟨some 28, none, .h (.call (.f 158) [.t 23, .t 27])⟩,
    ⟨some 22, none, .p (.mv (.t 28))⟩,
    ⟨some 29, none, .p (.ext (.t 22) 0)⟩,
    ⟨some 30, none, .p (.ext (.t 22) 1)⟩,
    ⟨some 9, none, .p (.alloc (List.replicate 26 (.k (C.int .i64 0))))⟩,
    ⟨none, none, .h (.store 26 (.t 9) (.t 29))⟩,
    ⟨some 10, none, .p (.mv (.t 30))⟩] [1, 4, 7, 8, 9, 10] [])
  (.seq (.seq (.region [⟨some 31, none, .p (.mv (.t 10))⟩,
    ⟨some 32, none, .p (.un .not (.t 31))⟩] [1, 4, 7, 8, 9, 32])
  (.cond (.t 32)
  (.seq (.region [⟨some 33, none, .h (.load 26 true (.t 7))⟩,
    ⟨some 34, none, .p (.mv (.t 8))⟩,
    ⟨none, none, .h (.store 26 (.t 4) (.t 33))⟩,
    ⟨some 5, none, .p (.mv (.t 34))⟩,
    ⟨some 6, none, .p (.mv (.k (.c (C.bool true))))⟩] [4, 5, 6])
  .ret)
  .skip))
  (.region [⟨some 35, none, .h (.load 26 true (.t 9))⟩,
    ⟨none, none, .h (.store 26 (.t 7) (.t 35))⟩] [1, 4, 7, 8]))))
  (.region [⟨some 20, none, .p (.mv (.t 8))⟩,
    ⟨some 21, none, .p (.bin .add (.t 20) (.k (.c (C.int .i64 1))))⟩,
    ⟨some 8, none, .p (.mv (.t 21))⟩] [1, 4, 7, 8]))) [1, 4, 7, 8])))
  (.seq (.region [⟨some 36, none, .h (.load 26 true (.t 7))⟩,
    ⟨some 37, none, .p (.mv (.t 1))⟩,
    ⟨some 38, none, .p (.len (.t 37))⟩,
    ⟨none, none, .h (.store 26 (.t 4) (.t 36))⟩,
    ⟨some 5, none, .p (.mv (.t 38))⟩,
    ⟨some 6, none, .p (.mv (.k (.c (C.bool true))))⟩] [4, 5, 6])
  .ret))))) }
theorem a71_ok : okFn Try.prog 71 a71 = true := by kernel_rfl
/-- loop.example/g01215/laws.toServeS -/
def a72 : AFn := { np := 1, nt := 23, res := [.t 2], body :=
  (.seq (.region [⟨some 2, none, .p (.nilsl 4)⟩] [0])
  (.seq (.region [⟨some 5, none, .p (.mv (.t 0))⟩,
    ⟨some 6, none, .p (.len (.t 5))⟩,
    ⟨some 7, none, .p (.mkslice 4 [.k (C.int .i64 0), .k (C.int .i64 0), .k (C.int .i64 0), .k (C.int .i64 0)] (.t 6) (.t 6))⟩,
    ⟨some 3, none, .p (.mv (.t 7))⟩] [0, 3])
  (.seq (.seq (.region [⟨some 4, none, .p (.mv (.k (.c (C.int .i64 0))))⟩] [0, 3, 4])
  (.block 0 (.loop (.seq (.seq (.region [⟨some 8, none, .p (.mv (.t 4))⟩,
    ⟨some 9, none, .p (.mv (.t 0))⟩,
    ⟨some 10, none, .p (.len (.t 9))⟩,
    ⟨some 11, none, .p (.bin .lss (.t 8) (.t 10))⟩] [0, 3, 4, 11])
  (.cond (.t 11)
  .skip
  (.exit 0)))
  (.seq (.block 1 (.region [⟨some 14, none, .p (.mv (.t 3))⟩,
    ⟨some 15, none, .p (.mv (.t 4))⟩,
    ⟨some 16, none, .p (.mv (.t 0))⟩,
    ⟨some 17, none, .p (.mv (.t 4))⟩,
    ⟨some 18, none, .p (.ixS 4 (.t 16) (.t 17))⟩,
    ⟨some 19, none, .h (.load 4 true (.t 18))⟩,
    ⟨some 20, none, .h (.call (.f 67) [.t 19])⟩,
    ⟨some 21, none, .p (.ixS 4 (.t 14) (.t 15))⟩,
    ⟨none, none, .h (.store 4 (.t 21) (.t 20))⟩] [0, 3, 4]))
  (.region [⟨some 12, none, .p (.mv (.t 4))⟩,
    ⟨some 13, none, .p (.bin .add (.t 12) (.k (.c (C.int .i64 1))))⟩,
    ⟨some 4, none, .p (.mv (.t 13))⟩] [0, 3, 4]))) [0, 3, 4])))
  (.seq (.region [⟨some 22, none, .p (.mv (.t 3))⟩,
    ⟨some 2, none, .p (.mv (.t 22))⟩] [2])
  .ret)))) }
theorem a72_ok : okFn Try.prog 72 a72 = true := by kernel_rfl
/-- loop.example/g01215/impl.DoServes -/
def a73 : AFn := { np := 2, nt := 37, res := [.cell 4 26 true, .t 5, .t 6], body :=
  (.seq (.region [⟨some 2, none, .p (.box 26 (.t 0))⟩,
    ⟨some 4, none, .p (.alloc (List.replicate 26 (.k (C.int .i64 0))))⟩,
    ⟨some 5, none, .p (.mv (.k (.c (C.int .i64 0))))⟩,
    ⟨some 6, none, .p (.mv (.k (.c (C.bool false))))⟩] [1, 2, 4])
  (.seq (.seq (.region [⟨some 11, none, .h (.load 26 true (.t 2))⟩,
    ⟨some 12, none, .h (.call (.f 159) [.t 11])⟩,
    ⟨some 13, none, .p (.un .not (.t 12))⟩] [1, 2, 4, 13])
  (.cond (.t 13)
  (.seq (.region [⟨some 14, none, .p (.build (List.replicate 26 (.k (C.int .i64 0))) [])⟩,
    ⟨none, none, .h (.store 26 (.t 4) (.t 14))⟩,
    ⟨some 5, none, .p (.mv (.k (.c (C.int .i64 0))))⟩,
    ⟨some 6, none, .p (.mv (.k (.c (C.bool false))))⟩] [4, 5, 6])
  .ret)
  .skip))
  (.seq (.seq (.region [⟨some 15, none, .p (.mv (.t 1))⟩,
    ⟨some 16, none, .p (.len (.t 15))⟩,
    ⟨some 17, none, .p (.mv (.k (.c (C.int .i64 0))))⟩] [1, 2, 4, 15, 16, 17])
  (.block 0 (.loop (.seq (.region [⟨some 18, none, .p (.bin .lss (.t 17) (.t 16))⟩] [1, 2, 4, 15, 16, 17, 18])
  (.seq (.cond (.t 18)
  .skip
  (.exit 0))
  (.seq (.block 1 (.seq (.region [⟨some 19, none, .p (.mv (.t 17))⟩,
    ⟨some 20, none, .p (.ixS 4 (.t 15) (.t 17))⟩,
    ⟨some 21, none, .h (.load 4 true (.t 20))⟩,
    ⟨some 8, none, .p (.alloc [.k (C.int .i64 0), .k (C.int .i64 0), .k (C.int .i64 0), .k (C.int .i64 0)])⟩,
    ⟨some 7, none, .p (.mv (.t 19))⟩,
    ⟨none, none, .h (.store 4 (.t 8) (.t 21))⟩] [1, 2, 4, 7, 8, 15, 16, 17])
  (.seq (.region [⟨some 23, none, .h (.load 26 true (.t 2))⟩,
    ⟨some 24, none, .h (.load 4 true (.t 8))⟩,
    ⟨some 25, none, .h (.call (.f 68) [.t 23, .t 24])⟩,
    ⟨some 22, none, .p (.mv (.t 25))⟩,
    ⟨some 26, none, .p (.ext (.t 22) 0)⟩,
    ⟨some 27, none, .p (.ext (.t 22) 1)⟩,
    ⟨some 9, none, .p (.alloc (List.replicate 26 (.k (C.int .i64 0))))⟩,
    ⟨none, none, .h (.store 26 (.t 9) (.t 26))⟩,
    ⟨some 10, none, .p (.mv (.t 27))⟩] [1, 2, 4, 7, 9, 10, 15, 16, 17])
  (.seq (.seq (.region [⟨some 28, none, .p (.mv (.t 10))⟩,
    ⟨some 29, none, .p (.un .not (.t 28))⟩] [1, 2, 4, 7, 9, 15, 16, 17, 29])
  (.cond (.t 29)
  (.seq (.region [⟨some 30, none, .h (.load 26 true (.t 2))⟩,
    ⟨some 31, none, .p (.mv (.t 7))⟩,
    ⟨none, none, .h (.store 26 (.t 4) (.t 30))⟩,
    ⟨some 5, none, .p (.mv (.t 31))⟩,
    ⟨some 6, none, .p (.mv (.k (.c (C.bool true))))⟩] [4, 5, 6])
  .ret)
  .skip))
  (.region [⟨some 32, none, .h (.load 26 true (.t 9))⟩,
    ⟨none, none, .h (.store 26 (.t 2) (.t 32))⟩] [1, 2, 4, 15, 16, 17])))))
  (.region [⟨some 33, none, .p (.bin .add (.t 17) (.k (.c (C.int .i64 1))))⟩,
    ⟨some 17, none, .p (.mv (.t 33))⟩] [1, 2, 4, 15, 16, 17])))) [1, 2, 4, 15, 16, 17])))
  (.seq (.region [⟨some 34, none, .h (.load 26 true (.t 2))⟩,
    ⟨some 35, none, .p (.mv (.t 1))⟩,
    ⟨some 36, none, .p (.len (.t 35))⟩,
    ⟨none, none, .h (.store 26 (.t 4) (.t 34))⟩,
    ⟨some 5, none, .p (.mv (.t 36))⟩,
    ⟨some 6, none, .p (.mv (.k (.c (C.bool true))))⟩] [4, 5, 6])
  .ret)))) }
theorem a73_ok : okFn Try.prog 73 a73 = true := by kernel_rfl
/-- loop.example/g01215/laws.eqServeS -/
def a74 : AFn := { np := 2, nt := 27, res := [.t 4], body :=
  (.seq (.region [⟨some 4, none, .p (.mv (.k (.c (C.bool false))))⟩] [0, 1])
  (.seq (.seq (.region [⟨some 6, none, .p (.mv (.t 0))⟩,
    ⟨some 7, none, .p (.len (.t 6))⟩,
    ⟨some 8, none, .p (.mv (.t 1))⟩,
    ⟨some 9, none, .p (.len (.t 8))⟩,
    ⟨some 10, none, .p (.bin .neq (.t 7) (.t 9))⟩] [0, 1, 10])
  (.cond (.t 10)
  (.seq (.region [⟨some 4, none, .p (.mv (.k (.c (C.bool false))))⟩] [4])
  .ret)
  .skip))
  (.seq (.seq (.region [⟨some 5, none, .p (.mv (.k (.c (C.int .i64 0))))⟩] [0, 1, 5])
  (.block 0 (.loop (.seq (.seq (.region [⟨some 11, none, .p (.mv (.t 5))⟩,
    ⟨some 12, none, .p (.mv (.t 0))⟩,
    ⟨some 13, none, .p (.len (.t 12))⟩,
    ⟨some 14, none, .p (.bin .lss (.t 11) (.t 13))⟩] [0, 1, 5, 14])
  (.cond (.t 14)
  .skip
  (.exit 0)))
  (.seq (.block 1 (.seq (.regionD [⟨some 17, none, .p (.mv (.t 0))⟩,
    ⟨some 18, none, .p (.mv (.t 5))⟩,
    ⟨some 19, none, .p (.ixS 4 (.t 17) (.t 18))⟩,
    ⟨some 20, none, .h (.load 4 true (.t 19))⟩,
    ⟨some 21, none, .p (.mv (.t 1))⟩,
    ⟨some 22, none, .p (.mv (.t 5))⟩,
    ⟨some 23, none, .p (.ixS 4 (.t 21) (.t 22))⟩,
    ⟨some 24, none, .h (.load 4 true (.t 23))⟩,
    ⟨some 25, none, .h (.call (.f 161) [.t 20, .t 24])⟩,
    ⟨some 26, none, .p (.un .not (.t 25))⟩] [0, 1, 5, 26] [])
  (.cond (.t 26)
  (.seq (.region [⟨some 4, none, .p (.mv (.k (.c (C.bool false))))⟩] [4])
  .ret)
  .skip)))
  (.region [⟨some 15, none, .p (.mv (.t 5))⟩,
    ⟨some 16, none, .p (.bin .add (.t 15) (.k (.c (C.int .i64 1))))⟩,
    ⟨some 5, none, .p (.mv (.t 16))⟩] [0, 1, 5]))) [0, 1, 5])))
  (.seq (.region [⟨some 4, none, .p (.mv (.k (.c (C.bool true))))⟩] [4])
  .ret)))) }
theorem a74_ok : okFn Try.prog 74 a74 = true := by kernel_rfl
/-- loop.example/g01215/spec.DrawCutLoops -/
def a75 : AFn := { np := 1, nt := 5, res := [.cell 2 25 true], body :=
  (.seq (.region [⟨some 2, none, .p (.alloc [.k (C.int .i64 0), .k (C.int .i64 0), .k (C.int .i64 0), .k (C.int .i64 0), .k (C.int .i64 0), .k (C.int .i64 0), .k (C.int .i64 0), .k (C.int .i64 0), .k (C.int .i64 0), .k (C.int .i64 0), .k (C.int .i64 0), .k (C.int .i64 0), .k (C.int .i64 0), .k (C.int .i64 0), .k (C.int .i64 0), .k (C.int .i64 0), .k (C.int .i64 0), .k (C.int .i64 0), .k (C.int .i64 0), .k (C.int .i64 0), .k (C.int .i64 0), .k (C.int .i64 0), .k (C.int .i64 0), .k (C.int .i64 0), .sl 2])⟩] [0, 2])
  (.seq (.region [⟨some 3, none, .p (.mv (.t 0))⟩,
    ⟨some 4, none, .h (.call (.f 162) [.t 3])⟩,
    ⟨none, none, .h (.store 25 (.t 2) (.t 4))⟩] [2])
  .ret)) }
theorem a75_ok : okFn Try.prog 75 a75 = true := by kernel_rfl
/-- loop.example/g01215/impl.IsReplay -/
def a76 : AFn := { np := 1, nt := 11, res := [.t 2], body :=
  (.seq (.region [⟨some 1, none, .p (.box 25 (.t 0))⟩,
    ⟨some 2, none, .p (.mv (.k (.c (C.bool false))))⟩] [1])
  (.seq (.region [⟨some 6, none, .h (.load 25 true (.t 1))⟩,
    ⟨some 7, none, .h (.call (.f 116) [.t 6])⟩,
    ⟨some 5, none, .p (.mv (.t 7))⟩,
    ⟨some 8, none, .p (.ext (.t 5) 0)⟩,
    ⟨some 9, none, .p (.ext (.t 5) 1)⟩,
    ⟨some 3, none, .p (.mv (.t 8))⟩,
    ⟨some 4, none, .p (.mv (.t 9))⟩] [4])
  (.seq (.region [⟨some 10, none, .p (.mv (.t 4))⟩,
    ⟨some 2, none, .p (.mv (.t 10))⟩] [2])
  .ret))) }
theorem a76_ok : okFn Try.prog 76 a76 = true := by kernel_rfl
/-- loop.example/g01215/laws.rReplay -/
def a77 : AFn := { np := 2, nt := 17, res := [.t 4], body :=
  (.seq (.region [⟨some 2, none, .p (.box 25 (.t 0))⟩,
    ⟨some 3, none, .p (.box 25 (.t 1))⟩,
    ⟨some 4, none, .p (.mv (.k (.c (C.bool false))))⟩] [2, 3])
  (.seq (.region [⟨some 5, none, .p (.fld 0 (.t 2))⟩,
    ⟨some 6, none, .h (.load 24 true (.t 5))⟩,
    ⟨some 7, none, .p (.fld 0 (.t 3))⟩,
    ⟨some 8, none, .h (.load 24 true (.t 7))⟩,
    ⟨some 9, none, .p (.eqv false (List.replicate 24 (.int .i64)) (.t 6) (.t 8))⟩,
    ⟨some 10, none, .p (.mv (.t 9))⟩,
    ⟨some 11, some (10, true), .p (.fld 24 (.t 2))⟩,
    ⟨some 12, some (10, true), .h (.load 1 false (.t 11))⟩,
    ⟨some 13, some (10, true), .p (.fld 24 (.t 3))⟩,
    ⟨some 14, some (10, true), .h (.load 1 false (.t 13))⟩,
    ⟨some 15, some (10, true), .h (.call (.f 56) [.t 12, .t 14])⟩,
    ⟨some 16, none, .p (.pick (.t 10) (.t 15) (.k (.c (C.bool false))))⟩,
    ⟨some 4, none, .p (.mv (.t 16))⟩] [4])
  .ret)) }
theorem a77_ok : okFn Try.prog 77 a77 = true := by kernel_rfl
/-- loop.example/g01215/impl.LoopsOf -/
def a78 : AFn := { np := 1, nt := 9, res := [.t 2, .t 3], body :=
  (.seq (.region [⟨some 1, none, .p (.box 25 (.t 0))⟩,
    ⟨some 2, none, .p (.nilsl 2)⟩,
    ⟨some 3, none, .p (.mv (.k (.c (C.bool false))))⟩] [1])
  (.seq (.seq (.region [⟨some 4, none, .h (.load 25 true (.t 1))⟩,
    ⟨some 5, none, .h (.call (.f 76) [.t 4])⟩,
    ⟨some 6, none, .p (.un .not (.t 5))⟩] [1, 6])
  (.cond (.t 6)
  (.seq (.region [⟨some 2, none, .p (.nilsl 2)⟩,
    ⟨some 3, none, .p (.mv (.k (.c (C.bool false))))⟩] [2, 3])
  .ret)
  .skip))
  (.seq (.region [⟨some 7, none, .h (.load 25 true (.t 1))⟩,
    ⟨some 8, none, .h (.call (.f 131) [.t 7])⟩,
    ⟨some 2, none, .p (.mv (.t 8))⟩,
    ⟨some 3, none, .p (.mv (.k (.c (C.bool true))))⟩] [2, 3])
  .ret))) }
theorem a78_ok : okFn Try.prog 78 a78 = true := by kernel_rfl
/-- loop.example/g01215/spec.LoopsOf -/
def a79 : AFn := { np := 1, nt := 16, res := [.t 2, .t 3], body :=
  (.seq (.region [⟨some 1, none, .p (.box 25 (.t 0))⟩,
    ⟨some 2, none, .p (.nilsl 2)⟩,
    ⟨some 3, none, .p (.mv (.k (.c (C.bool false))))⟩] [1])
  (.seq (.region [⟨some 7, none, .h (.load 25 true (.t 1))⟩,
    ⟨some 8, none, .h (.call (.f 111) [.t 7])⟩,
    ⟨some 6, none, .p (.mv (.t 8))⟩,
    ⟨some 9, none, .p (.ext (.t 6) 0)⟩,
    ⟨some 10, none, .p (.ext (.t 6) 1)⟩,
    ⟨some 4, none, .p (.mv (.t 9))⟩,
    ⟨some 5, none, .p (.mv (.t 10))⟩] [4, 5])
  (.seq (.seq (.region [⟨some 11, none, .p (.mv (.t 5))⟩,
    ⟨some 12, none, .p (.un .not (.t 11))⟩] [4, 12])
  (.cond (.t 12)
  (.seq (.region [⟨some 13, none, .p (.mksl 2 0 [.k (C.int .i64 0), .k (C.int .i64 0)] [])⟩,
    ⟨some 2, none, .p (.mv (.t 13))⟩,
    ⟨some 3, none, .p (.mv (.k (.c (C.bool false))))⟩] [2, 3])
  .ret)
  .skip))
  (.seq (.region [⟨some 14, none, .p (.mv (.t 4))⟩,
    ⟨some 15, none, .h (.call (.f 130) [.t 14])⟩,
    ⟨some 2, none, .p (.mv (.t 15))⟩,
    ⟨some 3, none, .p (.mv (.k (.c (C.bool true))))⟩] [2, 3])
  .ret)))) }
theorem a79_ok : okFn Try.prog 79 a79 = true := by kernel_rfl
/-- loop.example/g01215/impl.DoesSolve -/
def a80 : AFn := { np := 1, nt := 9, res := [.t 2, .t 3], body :=
  (.seq (.region [⟨some 1, none, .p (.box 25 (.t 0))⟩,
    ⟨some 2, none, .p (.mv (.k (.c (C.bool false))))⟩,
    ⟨some 3, none, .p (.mv (.k (.c (C.bool false))))⟩] [1])
  (.seq (.seq (.region [⟨some 4, none, .h (.load 25 true (.t 1))⟩,
    ⟨some 5, none, .h (.call (.f 76) [.t 4])⟩,
    ⟨some 6, none, .p (.un .not (.t 5))⟩] [1, 6])
  (.cond (.t 6)
  (.seq (.region [⟨some 2, none, .p (.mv (.k (.c (C.bool false))))⟩,
    ⟨some 3, none, .p (.mv (.k (.c (C.bool false))))⟩] [2, 3])
  .ret)
  .skip))
  (.seq (.region [⟨some 7, none, .h (.load 25 true (.t 1))⟩,
    ⟨some 8, none, .h (.call (.f 163) [.t 7])⟩,
    ⟨some 2, none, .p (.mv (.t 8))⟩,
    ⟨some 3, none, .p (.mv (.k (.c (C.bool true))))⟩] [2, 3])
  .ret))) }
theorem a80_ok : okFn Try.prog 80 a80 = true := by kernel_rfl
/-- loop.example/g01215/spec.DoesSolve -/
def a81 : AFn := { np := 1, nt := 20, res := [.t 2, .t 3], body :=
  (.seq (.region [⟨some 1, none, .p (.box 25 (.t 0))⟩,
    ⟨some 2, none, .p (.mv (.k (.c (C.bool false))))⟩,
    ⟨some 3, none, .p (.mv (.k (.c (C.bool false))))⟩] [1])
  (.seq (.region [⟨some 7, none, .h (.load 25 true (.t 1))⟩,
    ⟨some 8, none, .h (.call (.f 111) [.t 7])⟩,
    ⟨some 6, none, .p (.mv (.t 8))⟩,
    ⟨some 9, none, .p (.ext (.t 6) 0)⟩,
    ⟨some 10, none, .p (.ext (.t 6) 1)⟩,
    ⟨some 4, none, .p (.mv (.t 9))⟩,
    ⟨some 5, none, .p (.mv (.t 10))⟩] [4, 5])
  (.seq (.seq (.region [⟨some 11, none, .p (.mv (.t 5))⟩,
    ⟨some 12, none, .p (.un .not (.t 11))⟩] [4, 12])
  (.cond (.t 12)
  (.seq (.region [⟨some 2, none, .p (.mv (.k (.c (C.bool false))))⟩,
    ⟨some 3, none, .p (.mv (.k (.c (C.bool false))))⟩] [2, 3])
  .ret)
  .skip))
  (.seq (.region [⟨some 13, none, .p (.mv (.t 4))⟩,
    ⟨some 14, none, .p (.mv (.t 4))⟩,
    ⟨some 15, none, .p (.len (.t 14))⟩,
    ⟨some 16, none, .p (.bin .sub (.t 15) (.k (.c (C.int .i64 1))))⟩,
    ⟨some 17, none, .p (.ixS 24 (.t 13) (.t 16))⟩,
    ⟨some 18, none, .h (.load 24 true (.t 17))⟩,
    ⟨some 19, none, .h (.call (.f 164) [.t 18])⟩,
    ⟨some 2, none, .p (.mv (.t 19))⟩,
    ⟨some 3, none, .p (.mv (.k (.c (C.bool true))))⟩] [2, 3])
  .ret)))) }
theorem a81_ok : okFn Try.prog 81 a81 = true := by kernel_rfl
/-- loop.example/g01215/impl.CertifyReplay -/
def a82 : AFn := { np := 1, nt := 14, res := [.t 2, .t 3], body :=
  (.seq (.region [⟨some 1, none, .p (.box 25 (.t 0))⟩,
    ⟨some 2, none, .p (.mv (.k (.c (C.int .i64 0))))⟩,
    ⟨some 3, none, .p (.mv (.k (.c (C.bool false))))⟩] [1])
  (.seq (.seq (.region [⟨some 4, none, .h (.load 25 true (.t 1))⟩,
    ⟨some 5, none, .h (.call (.f 163) [.t 4])⟩,
    ⟨some 6, none, .p (.un .not (.t 5))⟩] [1, 6])
  (.cond (.t 6)
  (.seq (.region [⟨some 2, none, .p (.mv (.k (.c (C.int .i64 0))))⟩,
    ⟨some 3, none, .p (.mv (.k (.c (C.bool false))))⟩] [2, 3])
  .ret)
  .skip))
  (.seq (.regionD [⟨some 7, none, .p (.fld 24 (.t 1))⟩,
    ⟨some 8, none, .h (.load 1 false (.t 7))⟩,
    ⟨some 9, none, .p (.len (.t 8))⟩,
    ⟨some 10, none, .p (.fld 0 (.t 1))⟩,
    ⟨some 11, none, .h (.load 24 true (.t 10))⟩,
    ⟨some 12, none, .h (.call (.f 165) [.t 11])⟩,
    ⟨some 13, none, .p (.bin .sub (.t 9) (.t 12))⟩,
    ⟨some 2, none, .p (.mv (.t 13))⟩,
    ⟨some 3, none, .p (.mv (.k (.c (C.bool true))))⟩] [2, 3] [])
  .ret))) }
theorem a82_ok : okFn Try.prog 82 a82 = true := by kernel_rfl
/-- loop.example/g01215/spec.CertifyReplay -/
def a83 : AFn := { np := 1, nt := 30, res := [.t 2, .t 3], body :=
  (.seq (.region [⟨some 1, none, .p (.box 25 (.t 0))⟩,
    ⟨some 2, none, .p (.mv (.k (.c (C.int .i64 0))))⟩,
    ⟨some 3, none, .p (.mv (.k (.c (C.bool false))))⟩] [1])
  (.seq (.region [⟨some 7, none, .h (.load 25 true (.t 1))⟩,
    ⟨some 8, none, .h (.call (.f 111) [.t 7])⟩,
    ⟨some 6, none, .p (.mv (.t 8))⟩,
    ⟨some 9, none, .p (.ext (.t 6) 0)⟩,
    ⟨some 10, none, .p (.ext (.t 6) 1)⟩,
    ⟨some 4, none, .p (.mv (.t 9))⟩,
    ⟨some 5, none, .p (.mv (.t 10))⟩] [1, 4, 5])
  (.seq (.seq (.region [⟨some 11, none, .p (.mv (.t 5))⟩,
    ⟨some 12, none, .p (.un .not (.t 11))⟩,
    ⟨some 13, none, .p (.mv (.t 12))⟩,
    ⟨some 14, some (13, false), .p (.mv (.t 4))⟩,
    ⟨some 15, some (13, false), .p (.mv (.t 4))⟩,
    ⟨some 16, some (13, false), .p (.len (.t 15))⟩,
    ⟨some 17, some (13, false), .p (.bin .sub (.t 16) (.k (.c (C.int .i64 1))))⟩,
    ⟨some 18, some (13, false), .p (.ixS 24 (.t 14) (.t 17))⟩,
    ⟨some 19, some (13, false), .h (.load 24 true (.t 18))⟩,
    ⟨some 20, some (13, false), .h (.call (.f 164) [.t 19])⟩,
    ⟨some 21, some (13, false), .p (.un .not (.t 20))⟩,
    ⟨some 22, none, .p (.pick (.t 13) (.k (.c (C.bool true))) (.t 21))⟩] [1, 22])
  (.cond (.t 22)
  (.seq (.region [⟨some 2, none, .p (.mv (.k (.c (C.int .i64 0))))⟩,
    ⟨some 3, none, .p (.mv (.k (.c (C.bool false))))⟩] [2, 3])
  .ret)
  .skip))
  (.seq (.regionD [⟨some 23, none, .p (.fld 24 (.t 1))⟩,
    ⟨some 24, none, .h (.load 1 false (.t 23))⟩,
    ⟨some 25, none, .p (.len (.t 24))⟩,
    ⟨some 26, none, .p (.fld 0 (.t 1))⟩,
    ⟨some 27, none, .h (.load 24 true (.t 26))⟩,
    ⟨some 28, none, .h (.call (.f 166) [.t 27])⟩,
    ⟨some 29, none, .p (.bin .sub (.t 25) (.t 28))⟩,
    ⟨some 2, none, .p (.mv (.t 29))⟩,
    ⟨some 3, none, .p (.mv (.k (.c (C.bool true))))⟩] [2, 3] [])
  .ret)))) }
theorem a83_ok : okFn Try.prog 83 a83 = true := by kernel_rfl
/-- loop.example/g01215/impl.ReplayRack -/
def a84 : AFn := { np := 2, nt := 28, res := [.cell 4 24 true, .t 5], body :=
  (.seq (.region [⟨some 2, none, .p (.box 25 (.t 0))⟩,
    ⟨some 4, none, .p (.alloc (List.replicate 24 (.k (C.int .i64 0))))⟩,
    ⟨some 5, none, .p (.mv (.k (.c (C.bool false))))⟩] [1, 2, 4])
  (.seq (.region [⟨some 9, none, .h (.load 25 true (.t 2))⟩,
    ⟨some 10, none, .h (.call (.f 116) [.t 9])⟩,
    ⟨some 8, none, .p (.mv (.t 10))⟩,
    ⟨some 11, none, .p (.ext (.t 8) 0)⟩,
    ⟨some 12, none, .p (.ext (.t 8) 1)⟩,
    ⟨some 6, none, .p (.mv (.t 11))⟩,
    ⟨some 7, none, .p (.mv (.t 12))⟩] [1, 2, 4, 6, 7])
  (.seq (.seq (.region [⟨some 13, none, .p (.mv (.t 7))⟩,
    ⟨some 14, none, .p (.un .not (.t 13))⟩,
    ⟨some 15, none, .p (.mv (.t 14))⟩,
    ⟨some 16, some (15, false), .p (.mv (.t 1))⟩,
    ⟨some 17, some (15, false), .p (.fld 24 (.t 2))⟩,
    ⟨some 18, some (15, false), .h (.load 1 false (.t 17))⟩,
    ⟨some 19, some (15, false), .p (.len (.t 18))⟩,
    ⟨some 20, some (15, false), .h (.call (.f 117) [.t 16, .k (.c (C.int .i64 0)), .t 19])⟩,
    ⟨some 21, some (15, false), .p (.un .not (.t 20))⟩,
    ⟨some 22, none, .p (.pick (.t 15) (.k (.c (C.bool true))) (.t 21))⟩] [1, 4, 6, 22])
  (.cond (.t 22)
  (.seq (.region [⟨some 23, none, .p (.build (List.replicate 24 (.k (C.int .i64 0))) [])⟩,
    ⟨none, none, .h (.store 24 (.t 4) (.t 23))⟩,
    ⟨some 5, none, .p (.mv (.k (.c (C.bool false))))⟩] [4, 5])
  .ret)
  .skip))
  (.seq (.region [⟨some 24, none, .p (.mv (.t 6))⟩,
    ⟨some 25, none, .p (.mv (.t 1))⟩,
    ⟨some 26, none, .p (.ixS 24 (.t 24) (.t 25))⟩,
    ⟨some 27, none, .h (.load 24 true (.t 26))⟩,
    ⟨none, none, .h (.store 24 (.t 4) (.t 27))⟩,
    ⟨some 5, none, .p (.mv (.k (.c (C.bool true))))⟩] [4, 5])
  .ret)))) }
theorem a84_ok : okFn Try.prog 84 a84 = true := by kernel_rfl
/-- loop.example/g01215/spec.l9Deal -/
def a102 : AFn := { np := 2, nt := 47, res := [.t 4, .t 5], body :=
  (.seq (.region [⟨some 2, none, .p (.box 6 (.t 0))⟩,
    ⟨some 3, none, .p (.box 6 (.t 1))⟩,
    ⟨some 4, none, .p (.mv (.k (.c (C.int .i64 0))))⟩,
    ⟨some 5, none, .p (.mv (.k (.c (C.bool false))))⟩] [2, 3])
  (.seq (.region [⟨some 6, none, .p (.mv (.k (.c (C.int .i64 0))))⟩,
    ⟨some 7, none, .p (.mv (.k (.c (C.int .i64 0))))⟩] [2, 3, 6, 7])
  (.seq (.seq (.region [⟨some 8, none, .p (.mv (.k (.c (C.int .i64 0))))⟩] [2, 3, 6, 7, 8])
  (.block 0 (.loop (.seq (.seq (.region [⟨some 10, none, .p (.mv (.t 8))⟩,
    ⟨some 11, none, .p (.bin .lss (.t 10) (.k (.c (C.int .i64 6))))⟩] [2, 3, 6, 7, 8, 11])
  (.cond (.t 11)
  .skip
  (.exit 0)))
  (.seq (.block 1 (.seq (.seq (.region [⟨some 14, none, .p (.mv (.t 8))⟩,
    ⟨some 15, none, .p (.ixA 6 1 (.t 2) (.t 14))⟩,
    ⟨some 16, none, .h (.load 1 false (.t 15))⟩,
    ⟨some 17, none, .h (.call (.f 112) [.t 16, .k (.c (C.int .i64 0)), .k (.c (C.int .i64 4))])⟩,
    ⟨some 18, none, .p (.un .not (.t 17))⟩] [2, 3, 6, 7, 8, 18])
  (.cond (.t 18)
  (.seq (.region [⟨some 4, none, .p (.mv (.k (.c (C.int .i64 0))))⟩,
    ⟨some 5, none, .p (.mv (.k (.c (C.bool false))))⟩] [4, 5])
  .ret)
  .skip))
  (.region [⟨some 19, none, .p (.mv (.t 6))⟩,
    ⟨some 20, none, .p (.mv (.t 8))⟩,
    ⟨some 21, none, .p (.ixA 6 1 (.t 2) (.t 20))⟩,
    ⟨some 22, none, .h (.load 1 false (.t 21))⟩,
    ⟨some 23, none, .p (.bin .add (.t 19) (.t 22))⟩,
    ⟨some 6, none, .p (.mv (.t 23))⟩] [2, 3, 6, 7, 8])))
  (.region [⟨some 12, none, .p (.mv (.t 8))⟩,
    ⟨some 13, none, .p (.bin .add (.t 12) (.k (.c (C.int .i64 1))))⟩,
    ⟨some 8, none, .p (.mv (.t 13))⟩] [2, 3, 6, 7, 8]))) [2, 3, 6, 7, 8])))
  (.seq (.seq (.region [⟨some 9, none, .p (.mv (.k (.c (C.int .i64 1))))⟩] [3, 6, 7, 9])
  (.block 2 (.loop (.seq (.seq (.region [⟨some 24, none, .p (.mv (.t 9))⟩,
    ⟨some 25, none, .p (.bin .leq (.t 24) (.k (.c (C.int .i64 5))))⟩] [3, 6, 7, 9, 25])
  (.cond (.t 25)
  .skip
  (.exit 2)))
  (.seq (.block 3 (.seq (.seq (.region [⟨some 28, none, .p (.mv (.t 9))⟩,
    ⟨some 29, none, .p (.ixA 6 1 (.t 3) (.t 28))⟩,
    ⟨some 30, none, .h (.load 1 false (.t 29))⟩,
    ⟨some 31, none, .h (.call (.f 112) [.t 30, .k (.c (C.int .i64 0)), .k (.c (C.int .i64 24))])⟩,
    ⟨some 32, none, .p (.un .not (.t 31))⟩] [3, 6, 7, 9, 32])
  (.cond (.t 32)
  (.seq (.region [⟨some 4, none, .p (.mv (.k (.c (C.int .i64 0))))⟩,
    ⟨some 5, none, .p (.mv (.k (.c (C.bool false))))⟩] [4, 5])
  .ret)
  .skip))
  (.region [⟨some 33, none, .p (.mv (.t 7))⟩,
    ⟨some 34, none, .p (.mv (.t 9))⟩,
    ⟨some 35, none, .p (.ixA 6 1 (.t 3) (.t 34))⟩,
    ⟨some 36, none, .h (.load 1 false (.t 35))⟩,
    ⟨some 37, none, .p (.bin .add (.t 33) (.t 36))⟩,
    ⟨some 7, none, .p (.mv (.t 37))⟩] [3, 6, 7, 9])))
  (.region [⟨some 26, none, .p (.mv (.t 9))⟩,
    ⟨some 27, none, .p (.bin .add (.t 26) (.k (.c (C.int .i64 1))))⟩,
    ⟨some 9, none, .p (.mv (.t 27))⟩] [3, 6, 7, 9]))) [3, 6, 7, 9])))
  (.seq (.region [⟨some 38, none, .p (.mv (.t 6))⟩,
    ⟨some 39, none, .p (.ixA 6 1 (.t 3) (.k (.c (C.int .i64 0))))⟩,
    ⟨some 40, none, .h (.load 1 false (.t 39))⟩,
    ⟨some 41, none, .p (.bin .eql (.t 40) (.k (.c (C.int .i64 0))))⟩,
    ⟨some 42, none, .p (.mv (.t 41))⟩,
    ⟨some 43, some (42, true), .p (.mv (.t 6))⟩,
    ⟨some 44, some (42, true), .p (.mv (.t 7))⟩,
    ⟨some 45, some (42, true), .p (.bin .eql (.t 43) (.t 44))⟩,
    ⟨some 46, none, .p (.pick (.t 42) (.t 45) (.k (.c (C.bool false))))⟩,
    ⟨some 4, none, .p (.mv (.t 38))⟩,
    ⟨some 5, none, .p (.mv (.t 46))⟩] [4, 5])
  .ret))))) }
theorem a102_ok : okFn Try.prog 102 a102 = true := by kernel_rfl
/-- loop.example/g01215/spec.l7Cut -/
def a103 : AFn := { np := 2, nt := 24, res := [.cell 4 2 true], body :=
  (.seq (.region [⟨some 4, none, .p (.alloc [.k (C.int .i64 0), .k (C.int .i64 0)])⟩] [0, 1, 4])
  (.seq (.region [⟨some 7, none, .p (.mv (.t 0))⟩,
    ⟨some 8, none, .p (.mv (.t 1))⟩,
    ⟨some 5, none, .p (.mv (.t 7))⟩,
    ⟨some 6, none, .p (.mv (.t 8))⟩] [0, 1, 4, 5, 6])
  (.seq (.block 0 (.loop (.seq (.seq (.region [⟨some 9, none, .p (.mv (.t 6))⟩,
    ⟨some 10, none, .p (.bin .gtr (.t 9) (.k (.c (C.int .i64 0))))⟩] [0, 1, 4, 5, 6, 10])
  (.cond (.t 10)
  .skip
  (.exit 0)))
  (.block 1 (.regionD [⟨some 11, none, .p (.mv (.t 6))⟩,
    ⟨some 12, none, .p (.mv (.t 5))⟩,
    ⟨some 13, none, .p (.mv (.t 6))⟩,
    ⟨some 14, none, .p (.bin .rem (.t 12) (.t 13))⟩,
    ⟨some 5, none, .p (.mv (.t 11))⟩,
    ⟨some 6, none, .p (.mv (.t 14))⟩] [0, 1, 4, 5, 6] []))) [0, 1, 4, 5, 6]))
  (.seq (.regionD [⟨some 15, none, .p (.mv (.t 0))⟩,
    ⟨some 16, none, .p (.mv (.t 5))⟩,
    ⟨some 17, none, .h (.call (.f 178) [.t 16, .k (.c (C.int .i64 1))])⟩,
    ⟨some 18, none, .p (.bin .quo (.t 15) (.t 17))⟩,
    ⟨some 19, none, .p (.mv (.t 1))⟩,
    ⟨some 20, none, .p (.mv (.t 5))⟩,
    ⟨some 21, none, .h (.call (.f 178) [.t 20, .k (.c (C.int .i64 1))])⟩,
    ⟨some 22, none, .p (.bin .quo (.t 19) (.t 21))⟩,
    ⟨some 23, none, .p (.build [.k (C.int .i64 0), .k (C.int .i64 0)] [(0, 1, .t 18), (1, 1, .t 22)])⟩,
    ⟨none, none, .h (.store 2 (.t 4) (.t 23))⟩] [4] [])
  .ret)))) }
theorem a103_ok : okFn Try.prog 103 a103 = true := by kernel_rfl
/-- loop.example/g01215/spec.l9Same -/
def a104 : AFn := { np := 3, nt := 50, res := [.t 6], body :=
  (.seq (.region [⟨some 3, none, .p (.box 6 (.t 0))⟩,
    ⟨some 4, none, .p (.box 6 (.t 1))⟩,
    ⟨some 6, none, .p (.mv (.k (.c (C.int .i64 0))))⟩] [2, 3, 4])
  (.seq (.seq (.region [⟨some 10, none, .p (.mv (.t 2))⟩,
    ⟨some 11, none, .p (.bin .eql (.t 10) (.k (.c (C.int .i64 6))))⟩] [2, 3, 4, 11])
  (.cond (.t 11)
  (.seq (.region [⟨some 6, none, .p (.mv (.k (.c (C.int .i64 1))))⟩] [6])
  .ret)
  .skip))
  (.seq (.seq (.region [⟨some 12, none, .p (.mv (.t 2))⟩,
    ⟨some 13, none, .p (.ixA 6 1 (.t 3) (.t 12))⟩,
    ⟨some 14, none, .h (.load 1 false (.t 13))⟩,
    ⟨some 15, none, .p (.bin .eql (.t 14) (.k (.c (C.int .i64 0))))⟩] [2, 3, 4, 15])
  (.cond (.t 15)
  (.seq (.region [⟨some 16, none, .h (.load 6 true (.t 3))⟩,
    ⟨some 17, none, .h (.load 6 true (.t 4))⟩,
    ⟨some 18, none, .p (.mv (.t 2))⟩,
    ⟨some 19, none, .p (.bin .add (.t 18) (.k (.c (C.int .i64 1))))⟩,
    ⟨some 20, none, .h (.call (.f 104) [.t 16, .t 17, .t 19])⟩,
    ⟨some 6, none, .p (.mv (.t 20))⟩] [6])
  .ret)
  .skip))
  (.seq (.region [⟨some 7, none, .p (.mv (.k (.c (C.int .i64 0))))⟩] [2, 3, 4, 7])
  (.seq (.seq (.region [⟨some 8, none, .p (.mv (.k (.c (C.int .i64 1))))⟩] [2, 3, 4, 7, 8])
  (.block 0 (.loop (.seq (.seq (.region [⟨some 21, none, .p (.mv (.t 8))⟩,
    ⟨some 22, none, .p (.bin .leq (.t 21) (.k (.c (C.int .i64 5))))⟩] [2, 3, 4, 7, 8, 22])
  (.cond (.t 22)
  .skip
  (.exit 0)))
  (.seq (.block 1 (.seq (.regionD [⟨some 25, none, .p (.mv (.t 8))⟩,
    ⟨some 26, none, .p (.ixA 6 1 (.t 4) (.t 25))⟩,
    ⟨some 27, none, .h (.load 1 false (.t 26))⟩,
    ⟨some 28, none, .p (.mv (.t 2))⟩,
    ⟨some 29, none, .p (.ixA 6 1 (.t 3) (.t 28))⟩,
    ⟨some 30, none, .h (.load 1 false (.t 29))⟩,
    ⟨some 31, none, .p (.bin .geq (.t 27) (.t 30))⟩] [2, 3, 4, 7, 8, 31] [])
  (.cond (.t 31)
  (.seq (.region [⟨some 32, none, .h (.load 6 true (.t 4))⟩,
    ⟨some 9, none, .p (.alloc [.k (C.int .i64 0), .k (C.int .i64 0), .k (C.int .i64 0), .k (C.int .i64 0), .k (C.int .i64 0), .k (C.int .i64 0)])⟩,
    ⟨none, none, .h (.store 6 (.t 9) (.t 32))⟩] [2, 3, 4, 7, 8, 9])
  (.seq (.regionD [⟨some 33, none, .p (.mv (.t 8))⟩,
    ⟨some 34, none, .p (.mv (.t 8))⟩,
    ⟨some 35, none, .p (.ixA 6 1 (.t 9) (.t 34))⟩,
    ⟨some 36, none, .h (.load 1 false (.t 35))⟩,
    ⟨some 37, none, .p (.mv (.t 2))⟩,
    ⟨some 38, none, .p (.ixA 6 1 (.t 3) (.t 37))⟩,
    ⟨some 39, none, .h (.load 1 false (.t 38))⟩,
    ⟨some 40, none, .p (.bin .sub (.t 36) (.t 39))⟩,
    ⟨some 41, none, .p (.ixA 6 1 (.t 9) (.t 33))⟩,
    ⟨none, none, .h (.store 1 (.t 41) (.t 40))⟩] [2, 3, 4, 7, 8, 9] [])
  (.region [⟨some 42, none, .p (.mv (.t 7))⟩,
    ⟨some 43, none, .h (.load 6 true (.t 3))⟩,
    ⟨some 44, none, .h (.load 6 true (.t 9))⟩,
    ⟨some 45, none, .p (.mv (.t 2))⟩,
    ⟨some 46, none, .p (.bin .add (.t 45) (.k (.c (C.int .i64 1))))⟩,
    ⟨some 47, none, .h (.call (.f 104) [.t 43, .t 44, .t 46])⟩,
    ⟨some 48, none, .p (.bin .add (.t 42) (.t 47))⟩,
    ⟨some 7, none, .p (.mv (.t 48))⟩] [2, 3, 4, 7, 8])))
  .skip)))
  (.region [⟨some 23, none, .p (.mv (.t 8))⟩,
    ⟨some 24, none, .p (.bin .add (.t 23) (.k (.c (C.int .i64 1))))⟩,
    ⟨some 8, none, .p (.mv (.t 24))⟩] [2, 3, 4, 7, 8]))) [2, 3, 4, 7, 8])))
  (.seq (.region [⟨some 49, none, .p (.mv (.t 7))⟩,
    ⟨some 6, none, .p (.mv (.t 49))⟩] [6])
  .ret)))))) }
theorem a104_ok : okFn Try.prog 104 a104 = true := by kernel_rfl
/-- loop.example/g01215/spec.l7Ways -/
def a105 : AFn := { np := 1, nt := 26, res := [.t 2], body :=
  (.seq (.region [⟨some 1, none, .p (.box 6 (.t 0))⟩,
    ⟨some 2, none, .p (.mv (.k (.c (C.int .i64 0))))⟩] [1])
  (.seq (.region [⟨some 3, none, .p (.mv (.k (.c (C.int .i64 1))))⟩,
    ⟨some 4, none, .p (.mv (.k (.c (C.int .i64 0))))⟩] [1, 3, 4])
  (.seq (.seq (.region [⟨some 5, none, .p (.mv (.k (.c (C.int .i64 1))))⟩] [1, 3, 4, 5])
  (.block 0 (.loop (.seq (.seq (.region [⟨some 7, none, .p (.mv (.t 5))⟩,
    ⟨some 8, none, .p (.bin .leq (.t 7) (.k (.c (C.int .i64 5))))⟩] [1, 3, 4, 5, 8])
  (.cond (.t 8)
  .skip
  (.exit 0)))
  (.seq (.block 1 (.seq (.region [⟨some 6, none, .p (.mv (.k (.c (C.int .i64 1))))⟩] [1, 3, 4, 5, 6])
  (.block 2 (.loop (.seq (.seq (.region [⟨some 11, none, .p (.mv (.t 6))⟩,
    ⟨some 12, none, .p (.mv (.t 5))⟩,
    ⟨some 13, none, .p (.ixA 6 1 (.t 1) (.t 12))⟩,
    ⟨some 14, none, .h (.load 1 false (.t 13))⟩,
    ⟨some 15, none, .p (.bin .leq (.t 11) (.t 14))⟩] [1, 3, 4, 5, 6, 15])
  (.cond (.t 15)
  .skip
  (.exit 2)))
  (.seq (.block 3 (.seq (.region [⟨some 18, none, .p (.mv (.t 4))⟩,
    ⟨some 19, none, .p (.bin .add (.t 18) (.k (.c (C.int .i64 1))))⟩,
    ⟨some 4, none, .p (.mv (.t 19))⟩] [1, 3, 4, 5, 6])
  (.region [⟨some 20, none, .p (.mv (.t 3))⟩,
    ⟨some 21, none, .p (.mv (.t 4))⟩,
    ⟨some 22, none, .p (.bin .mul (.t 20) (.t 21))⟩,
    ⟨some 23, none, .p (.mv (.t 6))⟩,
    ⟨some 24, none, .p (.bin .quo (.t 22) (.t 23))⟩,
    ⟨some 3, none, .p (.mv (.t 24))⟩] [1, 3, 4, 5, 6])))
  (.region [⟨some 16, none, .p (.mv (.t 6))⟩,
    ⟨some 17, none, .p (.bin .add (.t 16) (.k (.c (C.int .i64 1))))⟩,
    ⟨some 6, none, .p (.mv (.t 17))⟩] [1, 3, 4, 5, 6]))) [1, 3, 4, 5, 6]))))
  (.region [⟨some 9, none, .p (.mv (.t 5))⟩,
    ⟨some 10, none, .p (.bin .add (.t 9) (.k (.c (C.int .i64 1))))⟩,
    ⟨some 5, none, .p (.mv (.t 10))⟩] [1, 3, 4, 5]))) [1, 3, 4, 5])))
  (.seq (.region [⟨some 25, none, .p (.mv (.t 3))⟩,
    ⟨some 2, none, .p (.mv (.t 25))⟩] [2])
  .ret)))) }
theorem a105_ok : okFn Try.prog 105 a105 = true := by kernel_rfl
/-- loop.example/g01215/impl.isDeal -/
def a106 : AFn := { np := 2, nt := 23, res := [.t 4], body :=
  (.seq (.region [⟨some 2, none, .p (.box 6 (.t 0))⟩,
    ⟨some 3, none, .p (.box 6 (.t 1))⟩,
    ⟨some 4, none, .p (.mv (.k (.c (C.bool false))))⟩] [2, 3])
  (.seq (.regionD [⟨some 5, none, .p (.ixA 6 1 (.t 3) (.k (.c (C.int .i64 0))))⟩,
    ⟨some 6, none, .h (.load 1 false (.t 5))⟩,
    ⟨some 7, none, .p (.bin .eql (.t 6) (.k (.c (C.int .i64 0))))⟩,
    ⟨some 8, none, .p (.mv (.t 7))⟩,
    ⟨some 9, some (8, true), .h (.slA 6 1 (.t 2) none none)⟩,
    ⟨some 10, some (8, true), .h (.call (.f 179) [.t 9, .f 180])⟩,
    ⟨some 11, none, .p (.pick (.t 8) (.t 10) (.k (.c (C.bool false))))⟩,
    ⟨some 12, none, .p (.mv (.t 11))⟩,
    ⟨some 13, some (12, true), .h (.slA 6 1 (.t 3) none none)⟩,
    ⟨some 14, some (12, true), .h (.call (.f 179) [.t 13, .f 181])⟩,
    ⟨some 15, none, .p (.pick (.t 12) (.t 14) (.k (.c (C.bool false))))⟩,
    ⟨some 16, none, .p (.mv (.t 15))⟩,
    ⟨some 17, some (16, true), .h (.slA 6 1 (.t 2) none none)⟩,
    ⟨some 18, some (16, true), .h (.call (.f 141) [.t 17])⟩,
    ⟨some 19, some (16, true), .h (.slA 6 1 (.t 3) none none)⟩,
    ⟨some 20, some (16, true), .h (.call (.f 141) [.t 19])⟩,
    ⟨some 21, some (16, true), .p (.bin .eql (.t 18) (.t 20))⟩,
    ⟨some 22, none, .p (.pick (.t 16) (.t 21) (.k (.c (C.bool false))))⟩,
    ⟨some 4, none, .p (.mv (.t 22))⟩] [4] [])
  .ret)) }
theorem a106_ok : okFn Try.prog 106 a106 = true := by kernel_rfl
/-- loop.example/g01215/impl.fraction -/
def a107 : AFn := { np := 2, nt := 16, res := [.cell 4 2 true], body :=
  (.seq (.region [⟨some 4, none, .p (.alloc [.k (C.int .i64 0), .k (C.int .i64 0)])⟩] [0, 1, 4])
  (.seq (.region [⟨some 6, none, .p (.mv (.t 0))⟩,
    ⟨some 7, none, .p (.mv (.t 1))⟩,
    ⟨some 8, none, .h (.call (.f 182) [.t 6, .t 7])⟩,
    ⟨some 5, none, .p (.mv (.t 8))⟩] [0, 1, 4, 5])
  (.seq (.regionD [⟨some 9, none, .p (.mv (.t 0))⟩,
    ⟨some 10, none, .p (.mv (.t 5))⟩,
    ⟨some 11, none, .p (.bin .quo (.t 9) (.t 10))⟩,
    ⟨some 12, none, .p (.mv (.t 1))⟩,
    ⟨some 13, none, .p (.mv (.t 5))⟩,
    ⟨some 14, none, .p (.bin .quo (.t 12) (.t 13))⟩,
    ⟨some 15, none, .p (.build [.k (C.int .i64 0), .k (C.int .i64 0)] [(0, 1, .t 11), (1, 1, .t 14)])⟩,
    ⟨none, none, .h (.store 2 (.t 4) (.t 15))⟩] [4] [])
  .ret))) }
theorem a107_ok : okFn Try.prog 107 a107 = true := by kernel_rfl
/-- loop.example/g01215/impl.plain -/
def a108 : AFn := { np := 2, nt := 47, res := [.t 4], body :=
  (.seq (.region [⟨some 3, none, .p (.box 6 (.t 1))⟩,
    ⟨some 4, none, .p (.mv (.k (.c (C.int .i64 0))))⟩] [0, 3])
  (.seq (.seq (.region [⟨some 9, none, .p (.mv (.t 0))⟩,
    ⟨some 10, none, .p (.len (.t 9))⟩,
    ⟨some 11, none, .p (.bin .eql (.t 10) (.k (.c (C.int .i64 0))))⟩] [0, 3, 11])
  (.cond (.t 11)
  (.seq (.region [⟨some 4, none, .p (.mv (.k (.c (C.int .i64 1))))⟩] [4])
  .ret)
  .skip))
  (.seq (.seq (.region [⟨some 12, none, .p (.mv (.t 0))⟩,
    ⟨some 13, none, .p (.ixS 1 (.t 12) (.k (.c (C.int .i64 0))))⟩,
    ⟨some 14, none, .h (.load 1 false (.t 13))⟩,
    ⟨some 15, none, .p (.bin .eql (.t 14) (.k (.c (C.int .i64 0))))⟩] [0, 3, 15])
  (.cond (.t 15)
  (.seq (.regionD [⟨some 16, none, .p (.mv (.t 0))⟩,
    ⟨some 17, none, .p (.slS 1 (.t 16) (some (.k (.c (C.int .i64 1)))) none)⟩,
    ⟨some 18, none, .h (.load 6 true (.t 3))⟩,
    ⟨some 19, none, .h (.call (.f 108) [.t 17, .t 18])⟩,
    ⟨some 4, none, .p (.mv (.t 19))⟩] [4] [])
  .ret)
  .skip))
  (.seq (.region [⟨some 5, none, .p (.mv (.k (.c (C.int .i64 0))))⟩] [0, 3, 5])
  (.seq (.seq (.region [⟨some 20, none, .h (.load 6 true (.t 3))⟩,
    ⟨some 21, none, .p (.mv (.k (.c (C.int .i64 0))))⟩] [0, 3, 5, 20, 21])
  (.block 0 (.loop (.seq (.region [⟨some 22, none, .p (.bin .lss (.t 21) (.k (.c (C.int .i64 6))))⟩] [0, 3, 5, 20, 21, 22])
  (.seq (.cond (.t 22)
  .skip
  (.exit 0))
  (.seq (.block 1 (.seq (.region [⟨some 23, none, .p (.mv (.t 21))⟩,
    ⟨some 24, none, .p (.ixV 6 1 false (.t 20) (.t 21))⟩,
    ⟨some 6, none, .p (.mv (.t 23))⟩,
    ⟨some 7, none, .p (.mv (.t 24))⟩] [0, 3, 5, 6, 7, 20, 21])
  (.seq (.region [⟨some 25, none, .p (.mv (.t 7))⟩,
    ⟨some 26, none, .p (.mv (.t 0))⟩,
    ⟨some 27, none, .p (.ixS 1 (.t 26) (.k (.c (C.int .i64 0))))⟩,
    ⟨some 28, none, .h (.load 1 false (.t 27))⟩,
    ⟨some 29, none, .p (.bin .geq (.t 25) (.t 28))⟩] [0, 3, 5, 6, 20, 21, 29])
  (.cond (.t 29)
  (.seq (.region [⟨some 30, none, .h (.load 6 true (.t 3))⟩,
    ⟨some 8, none, .p (.alloc [.k (C.int .i64 0), .k (C.int .i64 0), .k (C.int .i64 0), .k (C.int .i64 0), .k (C.int .i64 0), .k (C.int .i64 0)])⟩,
    ⟨none, none, .h (.store 6 (.t 8) (.t 30))⟩] [0, 3, 5, 6, 8, 20, 21])
  (.seq (.regionD [⟨some 31, none, .p (.mv (.t 6))⟩,
    ⟨some 32, none, .p (.ixA 6 1 (.t 8) (.t 31))⟩,
    ⟨some 33, none, .h (.load 1 false (.t 32))⟩,
    ⟨some 34, none, .p (.mv (.t 0))⟩,
    ⟨some 35, none, .p (.ixS 1 (.t 34) (.k (.c (C.int .i64 0))))⟩,
    ⟨some 36, none, .h (.load 1 false (.t 35))⟩,
    ⟨some 37, none, .p (.bin .sub (.t 33) (.t 36))⟩,
    ⟨some 38, none, .p (.ixA 6 1 (.t 8) (.t 31))⟩,
    ⟨none, none, .h (.store 1 (.t 38) (.t 37))⟩] [0, 3, 5, 8, 20, 21] [])
  (.regionD [⟨some 39, none, .p (.mv (.t 5))⟩,
    ⟨some 40, none, .p (.mv (.t 0))⟩,
    ⟨some 41, none, .p (.slS 1 (.t 40) (some (.k (.c (C.int .i64 1)))) none)⟩,
    ⟨some 42, none, .h (.load 6 true (.t 8))⟩,
    ⟨some 43, none, .h (.call (.f 108) [.t 41, .t 42])⟩,
    ⟨some 44, none, .p (.bin .add (.t 39) (.t 43))⟩,
    ⟨some 5, none, .p (.mv (.t 44))⟩] [0, 3, 5, 20, 21] [])))
  .skip))))
  (.region [⟨some 45, none, .p (.bin .add (.t 21) (.k (.c (C.int .i64 1))))⟩,
    ⟨some 21, none, .p (.mv (.t 45))⟩] [0, 3, 5, 20, 21])))) [0, 3, 5, 20, 21])))
  (.seq (.region [⟨some 46, none, .p (.mv (.t 5))⟩,
    ⟨some 4, none, .p (.mv (.t 46))⟩] [4])
  .ret)))))) }
theorem a108_ok : okFn Try.prog 108 a108 = true := by kernel_rfl
/-- loop.example/g01215/impl.arrangements -/
def a109 : AFn := { np := 1, nt := 27, res := [.t 2], body :=
  (.seq (.region [⟨some 1, none, .p (.box 6 (.t 0))⟩,
    ⟨some 2, none, .p (.mv (.k (.c (C.int .i64 0))))⟩] [1])
  (.seq (.region [⟨some 3, none, .p (.mv (.k (.c (C.int .i64 1))))⟩,
    ⟨some 4, none, .p (.mv (.k (.c (C.int .i64 0))))⟩] [1, 3, 4])
  (.seq (.seq (.region [⟨some 8, none, .h (.load 6 true (.t 1))⟩,
    ⟨some 9, none, .p (.mv (.k (.c (C.int .i64 0))))⟩] [3, 4, 8, 9])
  (.block 0 (.loop (.seq (.region [⟨some 10, none, .p (.bin .lss (.t 9) (.k (.c (C.int .i64 6))))⟩] [3, 4, 8, 9, 10])
  (.seq (.cond (.t 10)
  .skip
  (.exit 0))
  (.seq (.block 1 (.seq (.region [⟨some 11, none, .p (.ixV 6 1 false (.t 8) (.t 9))⟩,
    ⟨some 6, none, .p (.mv (.t 11))⟩] [3, 4, 6, 8, 9])
  (.seq (.region [⟨some 12, none, .p (.mv (.t 6))⟩,
    ⟨some 13, none, .p (.mv (.k (.c (C.int .i64 0))))⟩] [3, 4, 8, 9, 12, 13])
  (.block 2 (.loop (.seq (.region [⟨some 14, none, .p (.bin .lss (.t 13) (.t 12))⟩] [3, 4, 8, 9, 12, 13, 14])
  (.seq (.cond (.t 14)
  .skip
  (.exit 2))
  (.seq (.block 3 (.seq (.region [⟨some 15, none, .p (.mv (.t 13))⟩,
    ⟨some 7, none, .p (.mv (.t 15))⟩] [3, 4, 7, 8, 9, 12, 13])
  (.seq (.region [⟨some 16, none, .p (.mv (.t 4))⟩,
    ⟨some 17, none, .p (.bin .add (.t 16) (.k (.c (C.int .i64 1))))⟩,
    ⟨some 4, none, .p (.mv (.t 17))⟩] [3, 4, 7, 8, 9, 12, 13])
  (.region [⟨some 18, none, .p (.mv (.t 3))⟩,
    ⟨some 19, none, .p (.mv (.t 4))⟩,
    ⟨some 20, none, .p (.bin .mul (.t 18) (.t 19))⟩,
    ⟨some 21, none, .p (.mv (.t 7))⟩,
    ⟨some 22, none, .p (.bin .add (.t 21) (.k (.c (C.int .i64 1))))⟩,
    ⟨some 23, none, .p (.bin .quo (.t 20) (.t 22))⟩,
    ⟨some 3, none, .p (.mv (.t 23))⟩] [3, 4, 8, 9, 12, 13]))))
  (.region [⟨some 24, none, .p (.bin .add (.t 13) (.k (.c (C.int .i64 1))))⟩,
    ⟨some 13, none, .p (.mv (.t 24))⟩] [3, 4, 8, 9, 12, 13])))) [3, 4, 8, 9, 12, 13])))))
  (.region [⟨some 25, none, .p (.bin .add (.t 9) (.k (.c (C.int .i64 1))))⟩,
    ⟨some 9, none, .p (.mv (.t 25))⟩] [3, 4, 8, 9])))) [3, 4, 8, 9])))
  (.seq (.region [⟨some 26, none, .p (.mv (.t 3))⟩,
    ⟨some 2, none, .p (.mv (.t 26))⟩] [2])
  .ret)))) }
theorem a109_ok : okFn Try.prog 109 a109 = true := by kernel_rfl
/-- loop.example/g01215/laws.szIntA2S -/
def a110 : AFn := { np := 2, nt := 12, res := [.t 4], body :=
  (.seq (.region [⟨some 4, none, .p (.mv (.k (.c (C.int .i64 0))))⟩] [0, 1])
  (.seq (.region [⟨some 5, none, .p (.mv (.t 1))⟩,
    ⟨some 6, none, .p (.mv (.t 0))⟩,
    ⟨some 7, none, .p (.len (.t 6))⟩,
    ⟨some 8, none, .p (.bin .sub (.t 5) (.t 7))⟩,
    ⟨some 1, none, .p (.mv (.t 8))⟩] [1])
  (.seq (.seq (.region [⟨some 9, none, .p (.mv (.t 1))⟩,
    ⟨some 10, none, .p (.bin .lss (.t 9) (.k (.c (C.int .i64 0))))⟩] [1, 10])
  (.cond (.t 10)
  (.seq (.region [⟨some 4, none, .p (.mv (.k (.c (C.int .i64 (-1)))))⟩] [4])
  .ret)
  .skip))
  (.seq (.region [⟨some 11, none, .p (.mv (.t 1))⟩,
    ⟨some 4, none, .p (.mv (.t 11))⟩] [4])
  .ret)))) }
theorem a110_ok : okFn Try.prog 110 a110 = true := by kernel_rfl
/-- loop.example/g01215/spec.l11Racks -/
def a111 : AFn := { np := 1, nt := 66, res := [.t 2, .t 3], body :=
  (.seq (.region [⟨some 1, none, .p (.box 25 (.t 0))⟩,
    ⟨some 2, none, .p (.nilsl 24)⟩,
    ⟨some 3, none, .p (.mv (.k (.c (C.bool false))))⟩] [1])
  (.seq (.seq (.region [⟨some 8, none, .p (.fld 0 (.t 1))⟩,
    ⟨some 9, none, .h (.load 24 true (.t 8))⟩,
    ⟨some 10, none, .h (.call (.f 147) [.t 9])⟩,
    ⟨some 11, none, .p (.un .not (.t 10))⟩,
    ⟨some 12, none, .p (.mv (.t 11))⟩,
    ⟨some 13, some (12, false), .p (.fld 24 (.t 1))⟩,
    ⟨some 14, some (12, false), .h (.load 1 false (.t 13))⟩,
    ⟨some 15, some (12, false), .p (.len (.t 14))⟩,
    ⟨some 16, some (12, false), .p (.bin .gtr (.t 15) (.k (.c (C.int .i64 60))))⟩,
    ⟨some 17, none, .p (.pick (.t 12) (.k (.c (C.bool true))) (.t 16))⟩] [1, 17])
  (.cond (.t 17)
  (.seq (.region [⟨some 18, none, .p (.mksl 24 0 (List.replicate 24 (.k (C.int .i64 0))) [])⟩,
    ⟨some 2, none, .p (.mv (.t 18))⟩,
    ⟨some 3, none, .p (.mv (.k (.c (C.bool false))))⟩] [2, 3])
  .ret)
  .skip))
  (.seq (.region [⟨some 19, none, .p (.fld 0 (.t 1))⟩,
    ⟨some 20, none, .h (.load 24 true (.t 19))⟩,
    ⟨some 21, none, .p (.mksl 24 1 (List.replicate 24 (.k (C.int .i64 0))) [(0, 24, .t 20)])⟩,
    ⟨some 4, none, .p (.mv (.t 21))⟩] [1, 4])
  (.seq (.seq (.region [⟨some 5, none, .p (.mv (.k (.c (C.int .i64 0))))⟩] [1, 4, 5])
  (.block 0 (.loop (.seq (.seq (.region [⟨some 22, none, .p (.mv (.t 5))⟩,
    ⟨some 23, none, .p (.fld 24 (.t 1))⟩,
    ⟨some 24, none, .h (.load 1 false (.t 23))⟩,
    ⟨some 25, none, .p (.len (.t 24))⟩,
    ⟨some 26, none, .p (.bin .lss (.t 22) (.t 25))⟩] [1, 4, 5, 26])
  (.cond (.t 26)
  .skip
  (.exit 0)))
  (.seq (.block 1 (.seq (.seq (.regionD [⟨some 29, none, .p (.mv (.t 4))⟩,
    ⟨some 30, none, .p (.mv (.t 5))⟩,
    ⟨some 31, none, .p (.ixS 24 (.t 29) (.t 30))⟩,
    ⟨some 32, none, .h (.load 24 true (.t 31))⟩,
    ⟨some 33, none, .p (.fld 24 (.t 1))⟩,
    ⟨some 34, none, .h (.load 1 false (.t 33))⟩,
    ⟨some 35, none, .p (.mv (.t 5))⟩,
    ⟨some 36, none, .p (.ixS 2 (.t 34) (.t 35))⟩,
    ⟨some 37, none, .h (.load 2 true (.t 36))⟩,
    ⟨some 38, none, .h (.call (.f 121) [.t 32, .t 37])⟩,
    ⟨some 39, none, .p (.un .not (.t 38))⟩] [1, 4, 5, 39] [])
  (.cond (.t 39)
  (.seq (.region [⟨some 40, none, .p (.mksl 24 0 (List.replicate 24 (.k (C.int .i64 0))) [])⟩,
    ⟨some 2, none, .p (.mv (.t 40))⟩,
    ⟨some 3, none, .p (.mv (.k (.c (C.bool false))))⟩] [2, 3])
  .ret)
  .skip))
  (.seq (.regionD [⟨some 42, none, .p (.mv (.t 4))⟩,
    ⟨some 43, none, .p (.mv (.t 5))⟩,
    ⟨some 44, none, .p (.ixS 24 (.t 42) (.t 43))⟩,
    ⟨some 45, none, .h (.load 24 true (.t 44))⟩,
    ⟨some 46, none, .p (.fld 24 (.t 1))⟩,
    ⟨some 47, none, .h (.load 1 false (.t 46))⟩,
    ⟨some 48, none, .p (.mv (.t 5))⟩,
    ⟨some 49, none, .p (.ixS 2 (.t 47) (.t 48))⟩,
    ⟨some 50, none, .p (.ixA 2 1 (.t 49) (.k (.c (C.int .i64 0))))⟩,
    ⟨some 51, none, .h (.load 1 false (.t 50))⟩,
    ⟨some 52, none, .p (.fld 24 (.t 1))⟩,
    ⟨some 53, none, .h (.load 1 false (.t 52))⟩,
    ⟨some 54, none, .p (.mv (.t 5))⟩,
    ⟨some 55, none, .p (.ixS 2 (.t 53) (.t 54))⟩,
    ⟨some 56, none, .p (.ixA 2 1 (.t 55) (.k (.c (C.int .i64 1))))⟩,
    ⟨some 57, none, .h (.load 1 false (.t 56))⟩,
    ⟨some 58, none, .h (.call (.f 126) [.t 45, .t 51, .t 57])⟩,
    ⟨some 41, none, .p (.mv (.t 58))⟩,
    ⟨some 59, none, .p (.ext (.t 41) 0)⟩,
    ⟨some 60, none, .p (.ext (.t 41) 1)⟩,
    ⟨some 6, none, .p (.alloc (List.replicate 24 (.k (C.int .i64 0))))⟩,
    ⟨none, none, .h (.store 24 (.t 6) (.t 59))⟩,
    ⟨some 7, none, .p (.mv (.t 60))⟩] [1, 4, 5, 6] [])
  (.region [⟨some 61, none, .p (.mv (.t 4))⟩,
    ⟨some 62, none, .h (.load 24 true (.t 6))⟩,
    ⟨some 63, none, .p (.mksl 24 1 (List.replicate 24 (.k (C.int .i64 0))) [(0, 24, .t 62)])⟩,
    ⟨some 64, none, .h (.app 24 (.t 61) (.t 63))⟩,
    ⟨some 4, none, .p (.mv (.t 64))⟩] [1, 4, 5]))))
  (.region [⟨some 27, none, .p (.mv (.t 5))⟩,
    ⟨some 28, none, .p (.bin .add (.t 27) (.k (.c (C.int .i64 1))))⟩,
    ⟨some 5, none, .p (.mv (.t 28))⟩] [1, 4, 5]))) [1, 4, 5])))
  (.seq (.region [⟨some 65, none, .p (.mv (.t 4))⟩,
    ⟨some 2, none, .p (.mv (.t 65))⟩,
    ⟨some 3, none, .p (.mv (.k (.c (C.bool true))))⟩] [2, 3])
  .ret))))) }
theorem a111_ok : okFn Try.prog 111 a111 = true := by kernel_rfl
/-- loop.example/g01215/spec.l1In -/
def a112 : AFn := { np := 3, nt := 15, res := [.t 6], body :=
  (.seq (.region [⟨some 6, none, .p (.mv (.k (.c (C.bool false))))⟩] [0, 1, 2])
  (.seq (.region [⟨some 7, none, .p (.mv (.t 0))⟩,
    ⟨some 8, none, .p (.mv (.t 1))⟩,
    ⟨some 9, none, .p (.bin .geq (.t 7) (.t 8))⟩,
    ⟨some 10, none, .p (.mv (.t 9))⟩,
    ⟨some 11, some (10, true), .p (.mv (.t 0))⟩,
    ⟨some 12, some (10, true), .p (.mv (.t 2))⟩,
    ⟨some 13, some (10, true), .p (.bin .leq (.t 11) (.t 12))⟩,
    ⟨some 14, none, .p (.pick (.t 10) (.t 13) (.k (.c (C.bool false))))⟩,
    ⟨some 6, none, .p (.mv (.t 14))⟩] [6])
  .ret)) }
theorem a112_ok : okFn Try.prog 112 a112 = true := by kernel_rfl
def prA : Prog
  | 3 => some a3
  | 4 => some a4
  | 5 => some a5
  | 6 => some a6
  | 7 => some a7
  | 8 => some a8
  | 10 => some a10
  | 11 => some a11
  | 12 => some a12
  | 13 => some a13
  | 15 => some a15
  | 16 => some a16
  | 17 => some a17
  | 18 => some a18
  | 19 => some a19
  | 20 => some a20
  | 21 => some a21
  | 22 => some a22
  | 23 => some a23
  | 24 => some a24
  | 25 => some a25
  | 26 => some a26
  | 27 => some a27
  | 28 => some a28
  | 29 => some a29
  | 30 => some a30
  | 31 => some a31
  | 32 => some a32
  | 33 => some a33
  | 34 => some a34
  | 50 => some a50
  | 51 => some a51
  | 52 => some a52
  | 53 => some a53
  | 54 => some a54
  | 55 => some a55
  | 56 => some a56
  | 57 => some a57
  | 58 => some a58
  | 59 => some a59
  | 60 => some a60
  | 61 => some a61
  | 62 => some a62
  | 63 => some a63
  | 64 => some a64
  | 65 => some a65
  | 66 => some a66
  | 67 => some a67
  | 68 => some a68
  | 69 => some a69
  | 70 => some a70
  | 71 => some a71
  | 72 => some a72
  | 73 => some a73
  | 74 => some a74
  | 75 => some a75
  | 76 => some a76
  | 77 => some a77
  | 78 => some a78
  | 79 => some a79
  | 80 => some a80
  | 81 => some a81
  | 82 => some a82
  | 83 => some a83
  | 84 => some a84
  | 102 => some a102
  | 103 => some a103
  | 104 => some a104
  | 105 => some a105
  | 106 => some a106
  | 107 => some a107
  | 108 => some a108
  | 109 => some a109
  | 110 => some a110
  | 111 => some a111
  | 112 => some a112
  | _ => none
theorem prA_ok : ProgOK Try.prog prA := by
  intro f fn h
  unfold prA at h
  split at h
  · injection h with h; subst h; exact a3_ok
  · injection h with h; subst h; exact a4_ok
  · injection h with h; subst h; exact a5_ok
  · injection h with h; subst h; exact a6_ok
  · injection h with h; subst h; exact a7_ok
  · injection h with h; subst h; exact a8_ok
  · injection h with h; subst h; exact a10_ok
  · injection h with h; subst h; exact a11_ok
  · injection h with h; subst h; exact a12_ok
  · injection h with h; subst h; exact a13_ok
  · injection h with h; subst h; exact a15_ok
  · injection h with h; subst h; exact a16_ok
  · injection h with h; subst h; exact a17_ok
  · injection h with h; subst h; exact a18_ok
  · injection h with h; subst h; exact a19_ok
  · injection h with h; subst h; exact a20_ok
  · injection h with h; subst h; exact a21_ok
  · injection h with h; subst h; exact a22_ok
  · injection h with h; subst h; exact a23_ok
  · injection h with h; subst h; exact a24_ok
  · injection h with h; subst h; exact a25_ok
  · injection h with h; subst h; exact a26_ok
  · injection h with h; subst h; exact a27_ok
  · injection h with h; subst h; exact a28_ok
  · injection h with h; subst h; exact a29_ok
  · injection h with h; subst h; exact a30_ok
  · injection h with h; subst h; exact a31_ok
  · injection h with h; subst h; exact a32_ok
  · injection h with h; subst h; exact a33_ok
  · injection h with h; subst h; exact a34_ok
  · injection h with h; subst h; exact a50_ok
  · injection h with h; subst h; exact a51_ok
  · injection h with h; subst h; exact a52_ok
  · injection h with h; subst h; exact a53_ok
  · injection h with h; subst h; exact a54_ok
  · injection h with h; subst h; exact a55_ok
  · injection h with h; subst h; exact a56_ok
  · injection h with h; subst h; exact a57_ok
  · injection h with h; subst h; exact a58_ok
  · injection h with h; subst h; exact a59_ok
  · injection h with h; subst h; exact a60_ok
  · injection h with h; subst h; exact a61_ok
  · injection h with h; subst h; exact a62_ok
  · injection h with h; subst h; exact a63_ok
  · injection h with h; subst h; exact a64_ok
  · injection h with h; subst h; exact a65_ok
  · injection h with h; subst h; exact a66_ok
  · injection h with h; subst h; exact a67_ok
  · injection h with h; subst h; exact a68_ok
  · injection h with h; subst h; exact a69_ok
  · injection h with h; subst h; exact a70_ok
  · injection h with h; subst h; exact a71_ok
  · injection h with h; subst h; exact a72_ok
  · injection h with h; subst h; exact a73_ok
  · injection h with h; subst h; exact a74_ok
  · injection h with h; subst h; exact a75_ok
  · injection h with h; subst h; exact a76_ok
  · injection h with h; subst h; exact a77_ok
  · injection h with h; subst h; exact a78_ok
  · injection h with h; subst h; exact a79_ok
  · injection h with h; subst h; exact a80_ok
  · injection h with h; subst h; exact a81_ok
  · injection h with h; subst h; exact a82_ok
  · injection h with h; subst h; exact a83_ok
  · injection h with h; subst h; exact a84_ok
  · injection h with h; subst h; exact a102_ok
  · injection h with h; subst h; exact a103_ok
  · injection h with h; subst h; exact a104_ok
  · injection h with h; subst h; exact a105_ok
  · injection h with h; subst h; exact a106_ok
  · injection h with h; subst h; exact a107_ok
  · injection h with h; subst h; exact a108_ok
  · injection h with h; subst h; exact a109_ok
  · injection h with h; subst h; exact a110_ok
  · injection h with h; subst h; exact a111_ok
  · injection h with h; subst h; exact a112_ok
  · cases h
end Go.Proofs.Ytllabonhgkocfaa.AM
