/- the functions' code in the abstract machine: printed by a program (wip/tools/genparts.py) out of the loaded program -/
import Derived.Test.YtahfeigilhjgpaaDoorAmD
import Derived.Test.YtahfeigilhjgpaaDoorProg
import Derived.KernelRfl
namespace Go.Proofs.YtahfeigilhjgpaaDoor.AM
open Go
set_option maxRecDepth 100000
/-- loop.example/g01215/laws.FnExactParseReplay -/
def a3 : AFn := { np := 1, nt := 66, res := [.t 2], body :=
  (.seq (.region [⟨some 2, none, .p (.mv (.k (.c (C.bool false))))⟩] [0])
  (.seq (.seq (.region [⟨some 11, none, .p (.mv (.t 0))⟩,
    ⟨some 12, none, .p (.lenStr (.t 11))⟩,
    ⟨some 13, none, .p (.bin .gtr (.t 12) (.k (.c (C.int .i64 1048576))))⟩] [0, 13])
  (.cond (.t 13)
  (.seq (.region [⟨some 2, none, .p (.mv (.k (.c (C.bool true))))⟩] [2])
  .ret)
  .skip))
  (.seq (.region [⟨some 15, none, .p (.mv (.t 0))⟩,
    ⟨some 16, none, .h (.call (.f 7) [.t 15])⟩,
    ⟨some 14, none, .p (.mv (.t 16))⟩,
    ⟨some 17, none, .p (.ext (.t 14) 0)⟩,
    ⟨some 18, none, .p (.ext (.t 14) 1)⟩,
    ⟨some 3, none, .p (.alloc [.k (C.int .i64 0), .k (C.int .i64 0), .k (C.int .i64 0), .k (C.int .i64 0), .k (C.int .i64 0), .k (C.int .i64 0), .k (C.int .i64 0), .k (C.int .i64 0), .k (C.int .i64 0), .k (C.int .i64 0), .k (C.int .i64 0), .k (C.int .i64 0), .k (C.int .i64 0), .k (C.int .i64 0), .k (C.int .i64 0), .k (C.int .i64 0), .k (C.int .i64 0), .k (C.int .i64 0), .k (C.int .i64 0), .k (C.int .i64 0), .k (C.int .i64 0), .k (C.int .i64 0), .k (C.int .i64 0), .k (C.int .i64 0), .sl 2])⟩,
    ⟨none, none, .h (.store 25 (.t 3) (.t 17))⟩,
    ⟨some 4, none, .p (.mv (.t 18))⟩] [0, 3, 4])
  (.seq (.region [⟨some 20, none, .p (.mv (.t 0))⟩,
    ⟨some 21, none, .h (.call (.f 8) [.t 20])⟩,
    ⟨some 19, none, .p (.mv (.t 21))⟩,
    ⟨some 22, none, .p (.ext (.t 19) 0)⟩,
    ⟨some 23, none, .p (.ext (.t 19) 1)⟩,
    ⟨some 5, none, .p (.alloc [.k (C.int .i64 0), .k (C.int .i64 0), .k (C.int .i64 0), .k (C.int .i64 0), .k (C.int .i64 0), .k (C.int .i64 0), .k (C.int .i64 0), .k (C.int .i64 0), .k (C.int .i64 0), .k (C.int .i64 0), .k (C.int .i64 0), .k (C.int .i64 0), .k (C.int .i64 0), .k (C.int .i64 0), .k (C.int .i64 0), .k (C.int .i64 0), .k (C.int .i64 0), .k (C.int .i64 0), .k (C.int .i64 0), .k (C.int .i64 0), .k (C.int .i64 0), .k (C.int .i64 0), .k (C.int .i64 0), .k (C.int .i64 0), .sl 2])⟩,
    ⟨none, none, .h (.store 25 (.t 5) (.t 22))⟩,
    ⟨some 6, none, .p (.mv (.t 23))⟩] [0, 3, 4, 5, 6])
  (.seq (.seq (.region [⟨some 24, none, .h (.load 25 true (.t 5))⟩,
    ⟨some 25, none, .h (.load 25 true (.t 3))⟩,
    ⟨some 26, none, .h (.call (.f 9) [.t 24, .t 25])⟩,
    ⟨some 27, none, .p (.un .not (.t 26))⟩,
    ⟨some 28, none, .p (.mv (.t 27))⟩,
    ⟨some 29, some (28, false), .p (.mv (.t 6))⟩,
    ⟨some 30, some (28, false), .p (.mv (.t 4))⟩,
    ⟨some 31, some (28, false), .p (.eqb true (.t 29) (.t 30))⟩,
    ⟨some 32, none, .p (.pick (.t 28) (.k (.c (C.bool true))) (.t 31))⟩] [0, 3, 4, 5, 32])
  (.cond (.t 32)
  (.seq (.region [⟨some 2, none, .p (.mv (.k (.c (C.bool false))))⟩] [2])
  .ret)
  .skip))
  (.seq (.region [⟨some 7, none, .p (.mv (.k (.c (C.int .i64 1))))⟩] [0, 3, 4, 5, 7])
  (.seq (.region [⟨some 33, none, .h (.load 25 true (.t 5))⟩,
    ⟨some 34, none, .p (.mv (.t 7))⟩,
    ⟨some 35, none, .h (.call (.f 10) [.t 33, .t 34])⟩,
    ⟨some 7, none, .p (.mv (.t 35))⟩] [0, 3, 4, 5, 7])
  (.seq (.region [⟨some 8, none, .p (.mv (.k (.c (C.int .i64 1))))⟩] [0, 3, 4, 5, 7, 8])
  (.seq (.region [⟨some 36, none, .h (.load 25 true (.t 5))⟩,
    ⟨some 37, none, .p (.mv (.t 8))⟩,
    ⟨some 38, none, .h (.call (.f 11) [.t 36, .t 37])⟩,
    ⟨some 8, none, .p (.mv (.t 38))⟩] [0, 3, 4, 5, 7, 8])
  (.seq (.seq (.region [⟨some 39, none, .p (.mv (.t 8))⟩,
    ⟨some 40, none, .p (.bin .lss (.t 39) (.k (.c (C.int .i64 0))))⟩] [0, 3, 4, 5, 7, 8, 40])
  (.cond (.t 40)
  (.seq (.region [⟨some 2, none, .p (.mv (.k (.c (C.bool false))))⟩] [2])
  .ret)
  .skip))
  (.seq (.seq (.region [⟨some 41, none, .p (.mv (.t 8))⟩,
    ⟨some 42, none, .p (.mv (.t 7))⟩,
    ⟨some 43, none, .p (.bin .neq (.t 41) (.t 42))⟩] [0, 3, 4, 5, 7, 43])
  (.cond (.t 43)
  (.seq (.region [⟨some 2, none, .p (.mv (.k (.c (C.bool false))))⟩] [2])
  .ret)
  .skip))
  (.seq (.region [⟨some 45, none, .p (.mv (.t 0))⟩,
    ⟨some 46, none, .h (.call (.f 8) [.t 45])⟩,
    ⟨some 44, none, .p (.mv (.t 46))⟩,
    ⟨some 47, none, .p (.ext (.t 44) 0)⟩,
    ⟨some 48, none, .p (.ext (.t 44) 1)⟩,
    ⟨some 9, none, .p (.alloc [.k (C.int .i64 0), .k (C.int .i64 0), .k (C.int .i64 0), .k (C.int .i64 0), .k (C.int .i64 0), .k (C.int .i64 0), .k (C.int .i64 0), .k (C.int .i64 0), .k (C.int .i64 0), .k (C.int .i64 0), .k (C.int .i64 0), .k (C.int .i64 0), .k (C.int .i64 0), .k (C.int .i64 0), .k (C.int .i64 0), .k (C.int .i64 0), .k (C.int .i64 0), .k (C.int .i64 0), .k (C.int .i64 0), .k (C.int .i64 0), .k (C.int .i64 0), .k (C.int .i64 0), .k (C.int .i64 0), .k (C.int .i64 0), .sl 2])⟩,
    ⟨none, none, .h (.store 25 (.t 9) (.t 47))⟩,
    ⟨some 10, none, .p (.mv (.t 48))⟩] [3, 4, 5, 7, 9, 10])
  (.seq (.seq (.region [⟨some 49, none, .h (.load 25 true (.t 9))⟩,
    ⟨some 50, none, .h (.load 25 true (.t 3))⟩,
    ⟨some 51, none, .h (.call (.f 9) [.t 49, .t 50])⟩,
    ⟨some 52, none, .p (.un .not (.t 51))⟩,
    ⟨some 53, none, .p (.mv (.t 52))⟩,
    ⟨some 54, some (53, false), .p (.mv (.t 10))⟩,
    ⟨some 55, some (53, false), .p (.mv (.t 4))⟩,
    ⟨some 56, some (53, false), .p (.eqb true (.t 54) (.t 55))⟩,
    ⟨some 57, none, .p (.pick (.t 53) (.k (.c (C.bool true))) (.t 56))⟩] [5, 7, 57])
  (.cond (.t 57)
  (.seq (.region [⟨some 2, none, .p (.mv (.k (.c (C.bool false))))⟩] [2])
  .ret)
  .skip))
  (.seq (.region [⟨some 8, none, .p (.mv (.k (.c (C.int .i64 1))))⟩] [5, 7, 8])
  (.seq (.region [⟨some 58, none, .h (.load 25 true (.t 5))⟩,
    ⟨some 59, none, .p (.mv (.t 8))⟩,
    ⟨some 60, none, .h (.call (.f 11) [.t 58, .t 59])⟩,
    ⟨some 8, none, .p (.mv (.t 60))⟩] [7, 8])
  (.seq (.seq (.region [⟨some 61, none, .p (.mv (.t 8))⟩,
    ⟨some 62, none, .p (.bin .lss (.t 61) (.k (.c (C.int .i64 0))))⟩] [7, 8, 62])
  (.cond (.t 62)
  (.seq (.region [⟨some 2, none, .p (.mv (.k (.c (C.bool false))))⟩] [2])
  .ret)
  .skip))
  (.seq (.seq (.region [⟨some 63, none, .p (.mv (.t 8))⟩,
    ⟨some 64, none, .p (.mv (.t 7))⟩,
    ⟨some 65, none, .p (.bin .neq (.t 63) (.t 64))⟩] [65])
  (.cond (.t 65)
  (.seq (.region [⟨some 2, none, .p (.mv (.k (.c (C.bool false))))⟩] [2])
  .ret)
  .skip))
  (.seq (.region [⟨some 2, none, .p (.mv (.k (.c (C.bool true))))⟩] [2])
  .ret)))))))))))))))))) }
theorem a3_ok : okFn Tryd.prog 3 a3 = true := by kernel_rfl
/-- loop.example/g01215/laws.FnExactReplayText -/
def a4 : AFn := { np := 1, nt := 40, res := [.t 2], body :=
  (.seq (.region [⟨some 1, none, .p (.box 25 (.t 0))⟩,
    ⟨some 2, none, .p (.mv (.k (.c (C.bool false))))⟩] [1])
  (.seq (.region [⟨some 3, none, .p (.mv (.k (.c (C.int .i64 1048576))))⟩] [1, 3])
  (.seq (.region [⟨some 9, none, .h (.load 25 true (.t 1))⟩,
    ⟨some 10, none, .p (.mv (.t 3))⟩,
    ⟨some 11, none, .h (.call (.f 12) [.t 9, .t 10])⟩,
    ⟨some 3, none, .p (.mv (.t 11))⟩] [1, 3])
  (.seq (.seq (.region [⟨some 12, none, .p (.mv (.t 3))⟩,
    ⟨some 13, none, .p (.bin .lss (.t 12) (.k (.c (C.int .i64 0))))⟩] [1, 13])
  (.cond (.t 13)
  (.seq (.region [⟨some 2, none, .p (.mv (.k (.c (C.bool true))))⟩] [2])
  .ret)
  .skip))
  (.seq (.region [⟨some 15, none, .h (.load 25 true (.t 1))⟩,
    ⟨some 16, none, .h (.call (.f 14) [.t 15])⟩,
    ⟨some 17, none, .h (.call (.f 13) [.t 16])⟩,
    ⟨some 14, none, .p (.mv (.t 17))⟩,
    ⟨some 18, none, .p (.ext (.t 14) 0)⟩,
    ⟨some 19, none, .p (.ext (.t 14) 1)⟩,
    ⟨some 4, none, .p (.mv (.t 18))⟩,
    ⟨some 5, none, .p (.mv (.t 19))⟩] [1, 4, 5])
  (.seq (.region [⟨some 20, none, .h (.load 25 true (.t 1))⟩,
    ⟨some 21, none, .h (.call (.f 14) [.t 20])⟩,
    ⟨some 6, none, .p (.alloc [.k (C.int .i64 0), .k (C.int .i64 0), .k (C.int .i64 0), .k (C.int .i64 0), .k (C.int .i64 0), .k (C.int .i64 0), .k (C.int .i64 0), .k (C.int .i64 0), .k (C.int .i64 0), .k (C.int .i64 0), .k (C.int .i64 0), .k (C.int .i64 0), .k (C.int .i64 0), .k (C.int .i64 0), .k (C.int .i64 0), .k (C.int .i64 0), .k (C.int .i64 0), .k (C.int .i64 0), .k (C.int .i64 0), .k (C.int .i64 0), .k (C.int .i64 0), .k (C.int .i64 0), .k (C.int .i64 0), .k (C.int .i64 0), .sl 2])⟩,
    ⟨none, none, .h (.store 25 (.t 6) (.t 21))⟩] [1, 4, 5, 6])
  (.seq (.region [⟨some 23, none, .h (.load 25 true (.t 6))⟩,
    ⟨some 24, none, .h (.call (.f 15) [.t 23])⟩,
    ⟨some 22, none, .p (.mv (.t 24))⟩,
    ⟨some 25, none, .p (.ext (.t 22) 0)⟩,
    ⟨some 26, none, .p (.ext (.t 22) 1)⟩,
    ⟨some 7, none, .p (.mv (.t 25))⟩,
    ⟨some 8, none, .p (.mv (.t 26))⟩] [1, 4, 5, 6, 7, 8])
  (.seq (.seq (.region [⟨some 27, none, .p (.mv (.t 7))⟩,
    ⟨some 28, none, .p (.mv (.t 4))⟩,
    ⟨some 29, none, .p (.bin .neq (.t 27) (.t 28))⟩,
    ⟨some 30, none, .p (.mv (.t 29))⟩,
    ⟨some 31, some (30, false), .p (.mv (.t 8))⟩,
    ⟨some 32, some (30, false), .p (.mv (.t 5))⟩,
    ⟨some 33, some (30, false), .p (.eqb true (.t 31) (.t 32))⟩,
    ⟨some 34, none, .p (.pick (.t 30) (.k (.c (C.bool true))) (.t 33))⟩] [1, 6, 34])
  (.cond (.t 34)
  (.seq (.region [⟨some 2, none, .p (.mv (.k (.c (C.bool false))))⟩] [2])
  .ret)
  .skip))
  (.seq (.seq (.regionE [⟨some 35, none, .h (.load 25 true (.t 6))⟩,
    ⟨some 36, none, .h (.load 25 true (.t 1))⟩,
    ⟨some 37, none, .h (.call (.f 14) [.t 36])⟩,
    ⟨some 38, none, .h (.call (.f 9) [.t 35, .t 37])⟩,
    ⟨some 39, none, .p (.un .not (.t 38))⟩] [39] [] [[], [], [], [2]])
  (.cond (.t 39)
  (.seq (.region [⟨some 2, none, .p (.mv (.k (.c (C.bool false))))⟩] [2])
  .ret)
  .skip))
  (.seq (.region [⟨some 2, none, .p (.mv (.k (.c (C.bool true))))⟩] [2])
  .ret)))))))))) }
theorem a4_ok : okFn Tryd.prog 4 a4 = true := by kernel_rfl
/-- loop.example/g01215/laws.FnLogs -/
def a5 : AFn := { np := 1, nt := 192, res := [.t 2], body :=
  (.seq (.region [⟨some 2, none, .p (.mv (.k (.c (C.bool false))))⟩] [0])
  (.seq (.seq (.region [⟨some 29, none, .p (.mv (.t 0))⟩,
    ⟨some 30, none, .h (.call (.f 16) [.t 29])⟩] [0, 30])
  (.cond (.t 30)
  (.seq (.region [⟨some 2, none, .p (.mv (.k (.c (C.bool true))))⟩] [2])
  .ret)
  .skip))
  (.seq (.region [⟨some 31, none, .p (.mv (.t 0))⟩,
    ⟨some 32, none, .h (.call (.f 17) [.t 31])⟩,
    ⟨some 3, none, .p (.alloc [.k (C.str []), .k (C.str [])])⟩,
    ⟨none, none, .h (.store 2 (.t 3) (.t 32))⟩] [0, 3])
  (.seq (.region [⟨some 34, none, .p (.mv (.t 0))⟩,
    ⟨some 35, none, .h (.call (.f 19) [.t 34, .k (.c (C.int .i64 1))])⟩,
    ⟨some 36, none, .h (.call (.f 18) [.t 35])⟩,
    ⟨some 33, none, .p (.mv (.t 36))⟩,
    ⟨some 37, none, .p (.ext (.t 33) 0)⟩,
    ⟨some 38, none, .p (.ext (.t 33) 1)⟩,
    ⟨some 5, none, .p (.alloc [.k (C.str []), .k (C.str [])])⟩,
    ⟨some 4, none, .p (.mv (.t 37))⟩,
    ⟨none, none, .h (.store 2 (.t 5) (.t 38))⟩] [0, 3, 4, 5])
  (.seq (.region [⟨some 40, none, .p (.mv (.t 4))⟩,
    ⟨some 41, none, .h (.load 2 true (.t 5))⟩,
    ⟨some 42, none, .h (.call (.f 20) [.t 40, .t 41])⟩,
    ⟨some 39, none, .p (.mv (.t 42))⟩,
    ⟨some 43, none, .p (.ext (.t 39) 0)⟩,
    ⟨some 44, none, .p (.ext (.t 39) 1)⟩,
    ⟨some 6, none, .p (.mv (.t 43))⟩,
    ⟨some 7, none, .p (.mv (.t 44))⟩] [0, 3, 4, 5, 6, 7])
  (.seq (.region [⟨some 46, none, .p (.mv (.t 4))⟩,
    ⟨some 47, none, .h (.load 2 true (.t 5))⟩,
    ⟨some 48, none, .h (.call (.f 21) [.t 46, .t 47])⟩,
    ⟨some 45, none, .p (.mv (.t 48))⟩,
    ⟨some 49, none, .p (.ext (.t 45) 0)⟩,
    ⟨some 50, none, .p (.ext (.t 45) 1)⟩,
    ⟨some 8, none, .p (.mv (.t 49))⟩,
    ⟨some 9, none, .p (.mv (.t 50))⟩] [0, 3, 6, 7, 8, 9])
  (.seq (.region [⟨some 51, none, .p (.mv (.t 0))⟩,
    ⟨some 52, none, .h (.call (.f 19) [.t 51, .k (.c (C.int .i64 2))])⟩,
    ⟨some 53, none, .h (.call (.f 22) [.t 52])⟩,
    ⟨some 10, none, .p (.alloc [.k (C.str []), .k (C.str []), .k (C.int .i64 0)])⟩,
    ⟨none, none, .h (.store 3 (.t 10) (.t 53))⟩] [0, 3, 6, 7, 8, 9, 10])
  (.seq (.region [⟨some 55, none, .p (.mv (.t 0))⟩,
    ⟨some 56, none, .h (.call (.f 19) [.t 55, .k (.c (C.int .i64 3))])⟩,
    ⟨some 57, none, .h (.call (.f 23) [.t 56])⟩,
    ⟨some 54, none, .p (.mv (.t 57))⟩,
    ⟨some 58, none, .p (.ext (.t 54) 0)⟩,
    ⟨some 59, none, .p (.ext (.t 54) 1)⟩,
    ⟨some 11, none, .p (.alloc [.k (C.str []), .k (C.str []), .k (C.int .i64 0)])⟩,
    ⟨some 12, none, .p (.alloc [.k (C.str []), .k (C.str [])])⟩,
    ⟨none, none, .h (.store 3 (.t 11) (.t 58))⟩,
    ⟨none, none, .h (.store 2 (.t 12) (.t 59))⟩] [3, 6, 7, 8, 9, 10, 11, 12])
  (.seq (.region [⟨some 61, none, .h (.load 3 true (.t 11))⟩,
    ⟨some 62, none, .h (.load 2 true (.t 12))⟩,
    ⟨some 63, none, .h (.call (.f 24) [.t 61, .t 62])⟩,
    ⟨some 60, none, .p (.mv (.t 63))⟩,
    ⟨some 64, none, .p (.ext (.t 60) 0)⟩,
    ⟨some 65, none, .p (.ext (.t 60) 1)⟩,
    ⟨some 13, none, .p (.alloc [.k (C.str []), .k (C.str []), .k (C.int .i64 0)])⟩,
    ⟨none, none, .h (.store 3 (.t 13) (.t 64))⟩,
    ⟨some 14, none, .p (.mv (.t 65))⟩] [3, 6, 7, 8, 9, 10, 11, 12, 13, 14])
  (.seq (.region [⟨some 67, none, .h (.load 3 true (.t 11))⟩,
    ⟨some 68, none, .h (.load 2 true (.t 12))⟩,
    ⟨some 69, none, .h (.call (.f 25) [.t 67, .t 68])⟩,
    ⟨some 66, none, .p (.mv (.t 69))⟩,
    ⟨some 70, none, .p (.ext (.t 66) 0)⟩,
    ⟨some 71, none, .p (.ext (.t 66) 1)⟩,
    ⟨some 15, none, .p (.alloc [.k (C.str []), .k (C.str []), .k (C.int .i64 0)])⟩,
    ⟨none, none, .h (.store 3 (.t 15) (.t 70))⟩,
    ⟨some 16, none, .p (.mv (.t 71))⟩] [3, 6, 7, 8, 9, 10, 11, 12, 13, 14, 15, 16])
  (.seq (.seq (.regionD [⟨some 72, none, .h (.load 2 true (.t 3))⟩,
    ⟨some 73, none, .h (.call (.f 26) [.t 72])⟩,
    ⟨some 74, none, .h (.load 2 true (.t 3))⟩,
    ⟨some 75, none, .h (.call (.f 27) [.t 74])⟩,
    ⟨some 76, none, .p (.eqb true (.t 73) (.t 75))⟩,
    ⟨some 77, none, .p (.mv (.t 76))⟩,
    ⟨some 78, some (77, false), .p (.mv (.t 6))⟩,
    ⟨some 79, some (77, false), .p (.mv (.t 8))⟩,
    ⟨some 80, some (77, false), .p (.bin .neq (.t 78) (.t 79))⟩,
    ⟨some 81, none, .p (.pick (.t 77) (.k (.c (C.bool true))) (.t 80))⟩,
    ⟨some 82, none, .p (.mv (.t 81))⟩,
    ⟨some 83, some (82, false), .p (.mv (.t 7))⟩,
    ⟨some 84, some (82, false), .p (.mv (.t 9))⟩,
    ⟨some 85, some (82, false), .p (.eqb true (.t 83) (.t 84))⟩,
    ⟨some 86, none, .p (.pick (.t 82) (.k (.c (C.bool true))) (.t 85))⟩,
    ⟨some 87, none, .p (.mv (.t 86))⟩,
    ⟨some 88, some (87, false), .h (.load 3 true (.t 10))⟩,
    ⟨some 89, some (87, false), .h (.call (.f 28) [.t 88])⟩,
    ⟨some 90, some (87, false), .h (.load 3 true (.t 10))⟩,
    ⟨some 91, some (87, false), .h (.call (.f 29) [.t 90])⟩,
    ⟨some 92, some (87, false), .p (.eqb true (.t 89) (.t 91))⟩,
    ⟨some 93, none, .p (.pick (.t 87) (.k (.c (C.bool true))) (.t 92))⟩,
    ⟨some 94, none, .p (.mv (.t 93))⟩,
    ⟨some 95, some (94, false), .h (.load 3 true (.t 13))⟩,
    ⟨some 96, some (94, false), .h (.load 3 true (.t 15))⟩,
    ⟨some 97, some (94, false), .p (.eqv true [.str, .str, .int .i64] (.t 95) (.t 96))⟩,
    ⟨some 98, none, .p (.pick (.t 94) (.k (.c (C.bool true))) (.t 97))⟩,
    ⟨some 99, none, .p (.mv (.t 98))⟩,
    ⟨some 100, some (99, false), .p (.mv (.t 14))⟩,
    ⟨some 101, some (99, false), .p (.mv (.t 16))⟩,
    ⟨some 102, some (99, false), .p (.bin .neq (.t 100) (.t 101))⟩,
    ⟨some 103, none, .p (.pick (.t 99) (.k (.c (C.bool true))) (.t 102))⟩] [11, 12, 13, 14, 103] [])
  (.cond (.t 103)
  (.seq (.region [⟨some 2, none, .p (.mv (.k (.c (C.bool false))))⟩] [2])
  .ret)
  .skip))
  (.seq (.region [⟨some 105, none, .h (.load 3 true (.t 11))⟩,
    ⟨some 106, none, .h (.call (.f 30) [.t 105])⟩,
    ⟨some 104, none, .p (.mv (.t 106))⟩,
    ⟨some 107, none, .p (.ext (.t 104) 0)⟩,
    ⟨some 108, none, .p (.ext (.t 104) 1)⟩,
    ⟨some 17, none, .p (.alloc [.k (C.str []), .k (C.str []), .k (C.int .i64 0)])⟩,
    ⟨none, none, .h (.store 3 (.t 17) (.t 107))⟩,
    ⟨some 18, none, .p (.mv (.t 108))⟩] [11, 12, 13, 14, 17, 18])
  (.seq (.region [⟨some 110, none, .h (.load 3 true (.t 11))⟩,
    ⟨some 111, none, .h (.call (.f 31) [.t 110])⟩,
    ⟨some 109, none, .p (.mv (.t 111))⟩,
    ⟨some 112, none, .p (.ext (.t 109) 0)⟩,
    ⟨some 113, none, .p (.ext (.t 109) 1)⟩,
    ⟨some 19, none, .p (.alloc [.k (C.str []), .k (C.str []), .k (C.int .i64 0)])⟩,
    ⟨none, none, .h (.store 3 (.t 19) (.t 112))⟩,
    ⟨some 20, none, .p (.mv (.t 113))⟩] [11, 12, 13, 14, 17, 18, 19, 20])
  (.seq (.region [⟨some 115, none, .h (.load 3 true (.t 11))⟩,
    ⟨some 116, none, .h (.call (.f 32) [.t 115])⟩,
    ⟨some 114, none, .p (.mv (.t 116))⟩,
    ⟨some 117, none, .p (.ext (.t 114) 0)⟩,
    ⟨some 118, none, .p (.ext (.t 114) 1)⟩,
    ⟨some 21, none, .p (.mv (.t 117))⟩,
    ⟨some 22, none, .p (.mv (.t 118))⟩] [11, 12, 13, 14, 17, 18, 19, 20, 21, 22])
  (.seq (.region [⟨some 120, none, .h (.load 3 true (.t 11))⟩,
    ⟨some 121, none, .h (.call (.f 33) [.t 120])⟩,
    ⟨some 119, none, .p (.mv (.t 121))⟩,
    ⟨some 122, none, .p (.ext (.t 119) 0)⟩,
    ⟨some 123, none, .p (.ext (.t 119) 1)⟩,
    ⟨some 23, none, .p (.mv (.t 122))⟩,
    ⟨some 24, none, .p (.mv (.t 123))⟩] [11, 12, 13, 14, 17, 18, 19, 20, 21, 22, 23, 24])
  (.seq (.seq (.region [⟨some 124, none, .h (.load 3 true (.t 17))⟩,
    ⟨some 125, none, .h (.load 3 true (.t 19))⟩,
    ⟨some 126, none, .p (.eqv true [.str, .str, .int .i64] (.t 124) (.t 125))⟩,
    ⟨some 127, none, .p (.mv (.t 126))⟩,
    ⟨some 128, some (127, false), .p (.mv (.t 18))⟩,
    ⟨some 129, some (127, false), .p (.mv (.t 20))⟩,
    ⟨some 130, some (127, false), .p (.eqb true (.t 128) (.t 129))⟩,
    ⟨some 131, none, .p (.pick (.t 127) (.k (.c (C.bool true))) (.t 130))⟩,
    ⟨some 132, none, .p (.mv (.t 131))⟩,
    ⟨some 133, some (132, false), .p (.mv (.t 22))⟩,
    ⟨some 134, some (132, false), .p (.mv (.t 24))⟩,
    ⟨some 135, some (132, false), .p (.eqb true (.t 133) (.t 134))⟩,
    ⟨some 136, none, .p (.pick (.t 132) (.k (.c (C.bool true))) (.t 135))⟩,
    ⟨some 137, none, .p (.mv (.t 136))⟩,
    ⟨some 138, some (137, false), .p (.mv (.t 21))⟩,
    ⟨some 139, some (137, false), .p (.mv (.t 23))⟩,
    ⟨some 140, some (137, false), .h (.call (.f 34) [.t 138, .t 139])⟩,
    ⟨some 141, some (137, false), .p (.un .not (.t 140))⟩,
    ⟨some 142, none, .p (.pick (.t 137) (.k (.c (C.bool true))) (.t 141))⟩] [11, 12, 13, 14, 17, 18, 21, 142])
  (.cond (.t 142)
  (.seq (.region [⟨some 2, none, .p (.mv (.k (.c (C.bool false))))⟩] [2])
  .ret)
  .skip))
  (.seq (.region [⟨some 144, none, .h (.load 3 true (.t 17))⟩,
    ⟨some 145, none, .h (.call (.f 32) [.t 144])⟩,
    ⟨some 143, none, .p (.mv (.t 145))⟩,
    ⟨some 146, none, .p (.ext (.t 143) 0)⟩,
    ⟨some 147, none, .p (.ext (.t 143) 1)⟩,
    ⟨some 25, none, .p (.mv (.t 146))⟩,
    ⟨some 26, none, .p (.mv (.t 147))⟩] [11, 12, 13, 14, 18, 21, 25])
  (.seq (.seq (.region [⟨some 148, none, .p (.mv (.t 18))⟩,
    ⟨some 149, none, .p (.mv (.t 148))⟩,
    ⟨some 150, some (149, true), .p (.mv (.t 25))⟩,
    ⟨some 151, some (149, true), .p (.mv (.t 21))⟩,
    ⟨some 152, some (149, true), .h (.call (.f 34) [.t 150, .t 151])⟩,
    ⟨some 153, some (149, true), .p (.un .not (.t 152))⟩,
    ⟨some 154, none, .p (.pick (.t 149) (.t 153) (.k (.c (C.bool false))))⟩] [11, 12, 13, 14, 21, 154])
  (.cond (.t 154)
  (.seq (.region [⟨some 2, none, .p (.mv (.k (.c (C.bool false))))⟩] [2])
  .ret)
  .skip))
  (.seq (.seq (.region [⟨some 155, none, .p (.mv (.t 14))⟩,
    ⟨some 156, none, .p (.bin .neq (.t 155) (.k (.c (C.int .i64 0))))⟩] [11, 12, 13, 21, 156])
  (.cond (.t 156)
  (.seq (.region [⟨some 157, none, .h (.load 3 true (.t 13))⟩,
    ⟨some 158, none, .h (.load 3 true (.t 11))⟩,
    ⟨some 159, none, .p (.eqv false [.str, .str, .int .i64] (.t 157) (.t 158))⟩,
    ⟨some 2, none, .p (.mv (.t 159))⟩] [2])
  .ret)
  .skip))
  (.seq (.region [⟨some 161, none, .h (.load 3 true (.t 13))⟩,
    ⟨some 162, none, .h (.call (.f 32) [.t 161])⟩,
    ⟨some 160, none, .p (.mv (.t 162))⟩,
    ⟨some 163, none, .p (.ext (.t 160) 0)⟩,
    ⟨some 164, none, .p (.ext (.t 160) 1)⟩,
    ⟨some 27, none, .p (.mv (.t 163))⟩,
    ⟨some 28, none, .p (.mv (.t 164))⟩] [12, 13, 21, 27])
  (.seq (.regionD [⟨some 165, none, .h (.load 3 true (.t 13))⟩,
    ⟨some 166, none, .h (.call (.f 28) [.t 165])⟩,
    ⟨some 167, none, .p (.mv (.t 166))⟩,
    ⟨some 168, some (167, true), .p (.mv (.t 27))⟩,
    ⟨some 169, some (167, true), .p (.len (.t 168))⟩,
    ⟨some 170, some (167, true), .p (.mv (.t 21))⟩,
    ⟨some 171, some (167, true), .p (.len (.t 170))⟩,
    ⟨some 172, some (167, true), .p (.bin .add (.t 171) (.k (.c (C.int .i64 1))))⟩,
    ⟨some 173, some (167, true), .p (.bin .eql (.t 169) (.t 172))⟩,
    ⟨some 174, none, .p (.pick (.t 167) (.t 173) (.k (.c (C.bool false))))⟩,
    ⟨some 175, none, .p (.mv (.t 174))⟩,
    ⟨some 176, some (175, true), .p (.mv (.t 27))⟩,
    ⟨some 177, some (175, true), .p (.mv (.t 21))⟩,
    ⟨some 178, some (175, true), .p (.len (.t 177))⟩,
    ⟨some 179, some (175, true), .p (.slS 2 (.t 176) none (some (.t 178)))⟩,
    ⟨some 180, some (175, true), .p (.mv (.t 21))⟩,
    ⟨some 181, some (175, true), .h (.call (.f 34) [.t 179, .t 180])⟩,
    ⟨some 182, none, .p (.pick (.t 175) (.t 181) (.k (.c (C.bool false))))⟩,
    ⟨some 183, none, .p (.mv (.t 182))⟩,
    ⟨some 184, some (183, true), .p (.mv (.t 27))⟩,
    ⟨some 185, some (183, true), .p (.mv (.t 21))⟩,
    ⟨some 186, some (183, true), .p (.len (.t 185))⟩,
    ⟨some 187, some (183, true), .p (.ixS 2 (.t 184) (.t 186))⟩,
    ⟨some 188, some (183, true), .h (.load 2 true (.t 187))⟩,
    ⟨some 189, some (183, true), .h (.load 2 true (.t 12))⟩,
    ⟨some 190, some (183, true), .p (.eqv false [.str, .str] (.t 188) (.t 189))⟩,
    ⟨some 191, none, .p (.pick (.t 183) (.t 190) (.k (.c (C.bool false))))⟩,
    ⟨some 2, none, .p (.mv (.t 191))⟩] [2] [])
  .ret))))))))))))))))))))) }
theorem a5_ok : okFn Tryd.prog 5 a5 = true := by kernel_rfl
/-- loop.example/g01215/laws.FnCrashes -/
def a6 : AFn := { np := 1, nt := 153, res := [.t 2], body :=
  (.seq (.region [⟨some 2, none, .p (.mv (.k (.c (C.bool false))))⟩] [0])
  (.seq (.seq (.region [⟨some 24, none, .p (.mv (.t 0))⟩,
    ⟨some 25, none, .h (.call (.f 16) [.t 24])⟩] [0, 25])
  (.cond (.t 25)
  (.seq (.region [⟨some 2, none, .p (.mv (.k (.c (C.bool true))))⟩] [2])
  .ret)
  .skip))
  (.seq (.region [⟨some 27, none, .p (.mv (.t 0))⟩,
    ⟨some 28, none, .h (.call (.f 35) [.t 27])⟩,
    ⟨some 26, none, .p (.mv (.t 28))⟩,
    ⟨some 29, none, .p (.ext (.t 26) 0)⟩,
    ⟨some 30, none, .p (.ext (.t 26) 1)⟩,
    ⟨some 31, none, .p (.ext (.t 26) 2)⟩,
    ⟨some 3, none, .p (.alloc [.k (C.str []), .k (C.str []), .k (C.int .i64 0)])⟩,
    ⟨none, none, .h (.store 3 (.t 3) (.t 29))⟩,
    ⟨some 4, none, .p (.mv (.t 30))⟩,
    ⟨some 5, none, .p (.mv (.t 31))⟩] [0, 3, 4, 5])
  (.seq (.region [⟨some 33, none, .h (.load 3 true (.t 3))⟩,
    ⟨some 34, none, .p (.mv (.t 4))⟩,
    ⟨some 35, none, .p (.mv (.t 5))⟩,
    ⟨some 36, none, .h (.call (.f 36) [.t 33, .t 34, .t 35])⟩,
    ⟨some 32, none, .p (.mv (.t 36))⟩,
    ⟨some 37, none, .p (.ext (.t 32) 0)⟩,
    ⟨some 38, none, .p (.ext (.t 32) 1)⟩,
    ⟨some 6, none, .p (.mv (.t 37))⟩,
    ⟨some 7, none, .p (.mv (.t 38))⟩] [0, 3, 4, 5, 6, 7])
  (.seq (.region [⟨some 40, none, .h (.load 3 true (.t 3))⟩,
    ⟨some 41, none, .p (.mv (.t 4))⟩,
    ⟨some 42, none, .p (.mv (.t 5))⟩,
    ⟨some 43, none, .h (.call (.f 37) [.t 40, .t 41, .t 42])⟩,
    ⟨some 39, none, .p (.mv (.t 43))⟩,
    ⟨some 44, none, .p (.ext (.t 39) 0)⟩,
    ⟨some 45, none, .p (.ext (.t 39) 1)⟩,
    ⟨some 8, none, .p (.mv (.t 44))⟩,
    ⟨some 9, none, .p (.mv (.t 45))⟩] [0, 3, 4, 5, 6, 7, 8, 9])
  (.seq (.region [⟨some 46, none, .p (.mv (.t 0))⟩,
    ⟨some 47, none, .h (.call (.f 19) [.t 46, .k (.c (C.int .i64 1))])⟩,
    ⟨some 48, none, .h (.call (.f 38) [.t 47])⟩,
    ⟨some 10, none, .p (.mv (.t 48))⟩] [3, 4, 5, 6, 7, 8, 9, 10])
  (.seq (.region [⟨some 50, none, .p (.mv (.t 10))⟩,
    ⟨some 51, none, .h (.call (.f 39) [.t 50])⟩,
    ⟨some 49, none, .p (.mv (.t 51))⟩,
    ⟨some 52, none, .p (.ext (.t 49) 0)⟩,
    ⟨some 53, none, .p (.ext (.t 49) 1)⟩,
    ⟨some 54, none, .p (.ext (.t 49) 2)⟩,
    ⟨some 11, none, .p (.alloc [.k (C.str []), .k (C.str []), .k (C.int .i64 0)])⟩,
    ⟨none, none, .h (.store 3 (.t 11) (.t 52))⟩,
    ⟨some 12, none, .p (.mv (.t 53))⟩,
    ⟨some 13, none, .p (.mv (.t 54))⟩] [3, 4, 5, 6, 7, 8, 9, 10, 11, 12, 13])
  (.seq (.region [⟨some 56, none, .p (.mv (.t 10))⟩,
    ⟨some 57, none, .h (.call (.f 40) [.t 56])⟩,
    ⟨some 55, none, .p (.mv (.t 57))⟩,
    ⟨some 58, none, .p (.ext (.t 55) 0)⟩,
    ⟨some 59, none, .p (.ext (.t 55) 1)⟩,
    ⟨some 60, none, .p (.ext (.t 55) 2)⟩,
    ⟨some 14, none, .p (.alloc [.k (C.str []), .k (C.str []), .k (C.int .i64 0)])⟩,
    ⟨none, none, .h (.store 3 (.t 14) (.t 58))⟩,
    ⟨some 15, none, .p (.mv (.t 59))⟩,
    ⟨some 16, none, .p (.mv (.t 60))⟩] [3, 4, 5, 6, 7, 8, 9, 11, 12, 13, 14, 15, 16])
  (.seq (.seq (.region [⟨some 61, none, .p (.mv (.t 6))⟩,
    ⟨some 62, none, .p (.mv (.t 8))⟩,
    ⟨some 63, none, .p (.bin .neq (.t 61) (.t 62))⟩,
    ⟨some 64, none, .p (.mv (.t 63))⟩,
    ⟨some 65, some (64, false), .p (.mv (.t 7))⟩,
    ⟨some 66, some (64, false), .p (.mv (.t 9))⟩,
    ⟨some 67, some (64, false), .p (.eqb true (.t 65) (.t 66))⟩,
    ⟨some 68, none, .p (.pick (.t 64) (.k (.c (C.bool true))) (.t 67))⟩,
    ⟨some 69, none, .p (.mv (.t 68))⟩,
    ⟨some 70, some (69, false), .h (.load 3 true (.t 11))⟩,
    ⟨some 71, some (69, false), .h (.load 3 true (.t 14))⟩,
    ⟨some 72, some (69, false), .p (.eqv true [.str, .str, .int .i64] (.t 70) (.t 71))⟩,
    ⟨some 73, none, .p (.pick (.t 69) (.k (.c (C.bool true))) (.t 72))⟩,
    ⟨some 74, none, .p (.mv (.t 73))⟩,
    ⟨some 75, some (74, false), .p (.mv (.t 12))⟩,
    ⟨some 76, some (74, false), .p (.mv (.t 15))⟩,
    ⟨some 77, some (74, false), .p (.bin .neq (.t 75) (.t 76))⟩,
    ⟨some 78, none, .p (.pick (.t 74) (.k (.c (C.bool true))) (.t 77))⟩,
    ⟨some 79, none, .p (.mv (.t 78))⟩,
    ⟨some 80, some (79, false), .p (.mv (.t 13))⟩,
    ⟨some 81, some (79, false), .p (.mv (.t 16))⟩,
    ⟨some 82, some (79, false), .p (.eqb true (.t 80) (.t 81))⟩,
    ⟨some 83, none, .p (.pick (.t 79) (.k (.c (C.bool true))) (.t 82))⟩] [3, 4, 5, 6, 7, 83])
  (.cond (.t 83)
  (.seq (.region [⟨some 2, none, .p (.mv (.k (.c (C.bool false))))⟩] [2])
  .ret)
  .skip))
  (.seq (.seq (.region [⟨some 84, none, .p (.mv (.t 7))⟩,
    ⟨some 85, none, .p (.un .not (.t 84))⟩] [3, 4, 5, 6, 85])
  (.cond (.t 85)
  (.seq (.region [⟨some 2, none, .p (.mv (.k (.c (C.bool true))))⟩] [2])
  .ret)
  .skip))
  (.seq (.region [⟨some 87, none, .p (.mv (.t 6))⟩,
    ⟨some 88, none, .h (.call (.f 39) [.t 87])⟩,
    ⟨some 86, none, .p (.mv (.t 88))⟩,
    ⟨some 89, none, .p (.ext (.t 86) 0)⟩,
    ⟨some 90, none, .p (.ext (.t 86) 1)⟩,
    ⟨some 91, none, .p (.ext (.t 86) 2)⟩,
    ⟨some 17, none, .p (.alloc [.k (C.str []), .k (C.str []), .k (C.int .i64 0)])⟩,
    ⟨none, none, .h (.store 3 (.t 17) (.t 89))⟩,
    ⟨some 18, none, .p (.mv (.t 90))⟩,
    ⟨some 19, none, .p (.mv (.t 91))⟩] [3, 4, 5, 17, 18, 19])
  (.seq (.seq (.region [⟨some 92, none, .p (.mv (.t 19))⟩,
    ⟨some 93, none, .p (.un .not (.t 92))⟩,
    ⟨some 94, none, .p (.mv (.t 93))⟩,
    ⟨some 95, some (94, false), .h (.load 3 true (.t 17))⟩,
    ⟨some 96, some (94, false), .h (.call (.f 28) [.t 95])⟩,
    ⟨some 97, some (94, false), .p (.un .not (.t 96))⟩,
    ⟨some 98, none, .p (.pick (.t 94) (.k (.c (C.bool true))) (.t 97))⟩,
    ⟨some 99, none, .p (.mv (.t 98))⟩,
    ⟨some 100, some (99, false), .p (.mv (.t 18))⟩,
    ⟨some 101, some (99, false), .p (.fld 0 (.t 3))⟩,
    ⟨some 102, some (99, false), .h (.load 1 false (.t 101))⟩,
    ⟨some 103, some (99, false), .p (.lenStr (.t 102))⟩,
    ⟨some 104, some (99, false), .p (.bin .lss (.t 100) (.t 103))⟩,
    ⟨some 105, none, .p (.pick (.t 99) (.k (.c (C.bool true))) (.t 104))⟩,
    ⟨some 106, none, .p (.mv (.t 105))⟩,
    ⟨some 107, some (106, false), .p (.fld 0 (.t 17))⟩,
    ⟨some 108, some (106, false), .h (.load 1 false (.t 107))⟩,
    ⟨some 109, some (106, false), .p (.lenStr (.t 108))⟩,
    ⟨some 110, some (106, false), .p (.mv (.t 18))⟩,
    ⟨some 111, some (106, false), .p (.bin .neq (.t 109) (.t 110))⟩,
    ⟨some 112, none, .p (.pick (.t 106) (.k (.c (C.bool true))) (.t 111))⟩] [3, 4, 5, 17, 112])
  (.cond (.t 112)
  (.seq (.region [⟨some 2, none, .p (.mv (.k (.c (C.bool false))))⟩] [2])
  .ret)
  .skip))
  (.seq (.region [⟨some 114, none, .h (.load 3 true (.t 3))⟩,
    ⟨some 115, none, .h (.call (.f 32) [.t 114])⟩,
    ⟨some 113, none, .p (.mv (.t 115))⟩,
    ⟨some 116, none, .p (.ext (.t 113) 0)⟩,
    ⟨some 117, none, .p (.ext (.t 113) 1)⟩,
    ⟨some 20, none, .p (.mv (.t 116))⟩,
    ⟨some 21, none, .p (.mv (.t 117))⟩] [3, 4, 5, 17, 20])
  (.seq (.region [⟨some 119, none, .h (.load 3 true (.t 17))⟩,
    ⟨some 120, none, .h (.call (.f 32) [.t 119])⟩,
    ⟨some 118, none, .p (.mv (.t 120))⟩,
    ⟨some 121, none, .p (.ext (.t 118) 0)⟩,
    ⟨some 122, none, .p (.ext (.t 118) 1)⟩,
    ⟨some 22, none, .p (.mv (.t 121))⟩,
    ⟨some 23, none, .p (.mv (.t 122))⟩] [3, 4, 5, 20, 22])
  (.seq (.region [⟨some 123, none, .p (.mv (.t 22))⟩,
    ⟨some 124, none, .p (.len (.t 123))⟩,
    ⟨some 125, none, .p (.mv (.t 20))⟩,
    ⟨some 126, none, .p (.len (.t 125))⟩,
    ⟨some 127, none, .p (.bin .leq (.t 124) (.t 126))⟩,
    ⟨some 128, none, .p (.mv (.t 127))⟩,
    ⟨some 129, some (128, true), .p (.mv (.t 22))⟩,
    ⟨some 130, some (128, true), .p (.mv (.t 20))⟩,
    ⟨some 131, some (128, true), .p (.mv (.t 22))⟩,
    ⟨some 132, some (128, true), .p (.len (.t 131))⟩,
    ⟨some 133, some (128, true), .p (.slS 2 (.t 130) none (some (.t 132)))⟩,
    ⟨some 134, some (128, true), .h (.call (.f 34) [.t 129, .t 133])⟩,
    ⟨some 135, none, .p (.pick (.t 128) (.t 134) (.k (.c (C.bool false))))⟩,
    ⟨some 136, none, .p (.mv (.t 135))⟩,
    ⟨some 137, some (136, true), .p (.mv (.t 5))⟩,
    ⟨some 138, some (136, true), .p (.mv (.t 137))⟩,
    ⟨some 139, some (138, false), .p (.mv (.t 4))⟩,
    ⟨some 140, some (138, false), .p (.fld 1 (.t 3))⟩,
    ⟨some 141, some (138, false), .h (.load 1 false (.t 140))⟩,
    ⟨some 142, some (138, false), .p (.lenStr (.t 141))⟩,
    ⟨some 143, some (138, false), .p (.bin .lss (.t 139) (.t 142))⟩,
    ⟨some 144, some (136, true), .p (.pick (.t 138) (.k (.c (C.bool true))) (.t 143))⟩,
    ⟨some 145, some (136, true), .p (.mv (.t 144))⟩,
    ⟨some 146, some (145, false), .p (.mv (.t 22))⟩,
    ⟨some 147, some (145, false), .p (.len (.t 146))⟩,
    ⟨some 148, some (145, false), .p (.mv (.t 20))⟩,
    ⟨some 149, some (145, false), .p (.len (.t 148))⟩,
    ⟨some 150, some (145, false), .p (.bin .eql (.t 147) (.t 149))⟩,
    ⟨some 151, some (136, true), .p (.pick (.t 145) (.k (.c (C.bool true))) (.t 150))⟩,
    ⟨some 152, none, .p (.pick (.t 136) (.t 151) (.k (.c (C.bool false))))⟩,
    ⟨some 2, none, .p (.mv (.t 152))⟩] [2])
  .ret))))))))))))))) }
theorem a6_ok : okFn Tryd.prog 6 a6 = true := by kernel_rfl
/-- loop.example/g01215/spec.ParseReplay -/
def a7 : AFn := { np := 1, nt := 78, res := [.cell 2 25 true, .t 3], body :=
  (.seq (.region [⟨some 2, none, .p (.alloc [.k (C.int .i64 0), .k (C.int .i64 0), .k (C.int .i64 0), .k (C.int .i64 0), .k (C.int .i64 0), .k (C.int .i64 0), .k (C.int .i64 0), .k (C.int .i64 0), .k (C.int .i64 0), .k (C.int .i64 0), .k (C.int .i64 0), .k (C.int .i64 0), .k (C.int .i64 0), .k (C.int .i64 0), .k (C.int .i64 0), .k (C.int .i64 0), .k (C.int .i64 0), .k (C.int .i64 0), .k (C.int .i64 0), .k (C.int .i64 0), .k (C.int .i64 0), .k (C.int .i64 0), .k (C.int .i64 0), .k (C.int .i64 0), .sl 2])⟩,
    ⟨some 3, none, .p (.mv (.k (.c (C.bool false))))⟩] [0, 2])
  (.seq (.seq (.region [⟨some 10, none, .p (.mv (.t 0))⟩,
    ⟨some 11, none, .p (.lenStr (.t 10))⟩,
    ⟨some 12, none, .p (.bin .gtr (.t 11) (.k (.c (C.int .i64 209))))⟩] [0, 2, 12])
  (.cond (.t 12)
  (.seq (.region [⟨some 13, none, .p (.build [.k (C.int .i64 0), .k (C.int .i64 0), .k (C.int .i64 0), .k (C.int .i64 0), .k (C.int .i64 0), .k (C.int .i64 0), .k (C.int .i64 0), .k (C.int .i64 0), .k (C.int .i64 0), .k (C.int .i64 0), .k (C.int .i64 0), .k (C.int .i64 0), .k (C.int .i64 0), .k (C.int .i64 0), .k (C.int .i64 0), .k (C.int .i64 0), .k (C.int .i64 0), .k (C.int .i64 0), .k (C.int .i64 0), .k (C.int .i64 0), .k (C.int .i64 0), .k (C.int .i64 0), .k (C.int .i64 0), .k (C.int .i64 0), .sl 2] [])⟩,
    ⟨none, none, .h (.store 25 (.t 2) (.t 13))⟩,
    ⟨some 3, none, .p (.mv (.k (.c (C.bool false))))⟩] [2, 3])
  .ret)
  .skip))
  (.seq (.region [⟨some 14, none, .p (.mv (.t 0))⟩,
    ⟨some 15, none, .h (.call (.f 41) [.t 14, .k (.c (C.int .u8 32))])⟩,
    ⟨some 4, none, .p (.mv (.t 15))⟩] [2, 4])
  (.seq (.region [⟨some 17, none, .p (.mv (.t 4))⟩,
    ⟨some 18, none, .p (.ixS 1 (.t 17) (.k (.c (C.int .i64 0))))⟩,
    ⟨some 19, none, .h (.load 1 false (.t 18))⟩,
    ⟨some 20, none, .h (.call (.f 42) [.t 19])⟩,
    ⟨some 16, none, .p (.mv (.t 20))⟩,
    ⟨some 21, none, .p (.ext (.t 16) 0)⟩,
    ⟨some 22, none, .p (.ext (.t 16) 1)⟩,
    ⟨some 5, none, .p (.alloc (List.replicate 24 (.k (C.int .i64 0))))⟩,
    ⟨none, none, .h (.store 24 (.t 5) (.t 21))⟩,
    ⟨some 6, none, .p (.mv (.t 22))⟩] [2, 4, 5, 6])
  (.seq (.region [⟨some 23, none, .h (.load 24 true (.t 5))⟩,
    ⟨some 24, none, .p (.mksl 2 0 [.k (C.int .i64 0), .k (C.int .i64 0)] [])⟩,
    ⟨some 25, none, .p (.build [.k (C.int .i64 0), .k (C.int .i64 0), .k (C.int .i64 0), .k (C.int .i64 0), .k (C.int .i64 0), .k (C.int .i64 0), .k (C.int .i64 0), .k (C.int .i64 0), .k (C.int .i64 0), .k (C.int .i64 0), .k (C.int .i64 0), .k (C.int .i64 0), .k (C.int .i64 0), .k (C.int .i64 0), .k (C.int .i64 0), .k (C.int .i64 0), .k (C.int .i64 0), .k (C.int .i64 0), .k (C.int .i64 0), .k (C.int .i64 0), .k (C.int .i64 0), .k (C.int .i64 0), .k (C.int .i64 0), .k (C.int .i64 0), .sl 2] [(0, 24, .t 23), (24, 1, .t 24)])⟩,
    ⟨some 7, none, .p (.alloc [.k (C.int .i64 0), .k (C.int .i64 0), .k (C.int .i64 0), .k (C.int .i64 0), .k (C.int .i64 0), .k (C.int .i64 0), .k (C.int .i64 0), .k (C.int .i64 0), .k (C.int .i64 0), .k (C.int .i64 0), .k (C.int .i64 0), .k (C.int .i64 0), .k (C.int .i64 0), .k (C.int .i64 0), .k (C.int .i64 0), .k (C.int .i64 0), .k (C.int .i64 0), .k (C.int .i64 0), .k (C.int .i64 0), .k (C.int .i64 0), .k (C.int .i64 0), .k (C.int .i64 0), .k (C.int .i64 0), .k (C.int .i64 0), .sl 2])⟩,
    ⟨none, none, .h (.store 25 (.t 7) (.t 25))⟩] [2, 4, 6, 7])
  (.seq (.seq (.region [⟨some 8, none, .p (.mv (.k (.c (C.int .i64 1))))⟩] [2, 4, 6, 7, 8])
  (.block 0 (.loop (.seq (.seq (.region [⟨some 26, none, .p (.mv (.t 8))⟩,
    ⟨some 27, none, .p (.mv (.t 4))⟩,
    ⟨some 28, none, .p (.len (.t 27))⟩,
    ⟨some 29, none, .p (.bin .lss (.t 26) (.t 28))⟩,
    ⟨some 30, none, .p (.mv (.t 29))⟩,
    ⟨some 31, some (30, true), .p (.mv (.t 6))⟩,
    ⟨some 32, none, .p (.pick (.t 30) (.t 31) (.k (.c (C.bool false))))⟩] [2, 4, 6, 7, 8, 32])
  (.cond (.t 32)
  .skip
  (.exit 0)))
  (.seq (.block 1 (.seq (.region [⟨some 35, none, .p (.mv (.t 4))⟩,
    ⟨some 36, none, .p (.mv (.t 8))⟩,
    ⟨some 37, none, .p (.ixS 1 (.t 35) (.t 36))⟩,
    ⟨some 38, none, .h (.load 1 false (.t 37))⟩,
    ⟨some 9, none, .p (.mv (.t 38))⟩] [2, 4, 7, 8, 9])
  (.seq (.region [⟨some 39, none, .p (.mv (.t 9))⟩,
    ⟨some 40, none, .p (.lenStr (.t 39))⟩,
    ⟨some 41, none, .p (.bin .eql (.t 40) (.k (.c (C.int .i64 2))))⟩,
    ⟨some 42, none, .p (.mv (.t 41))⟩,
    ⟨some 43, some (42, true), .p (.mv (.t 9))⟩,
    ⟨some 44, some (42, true), .p (.ixStr (.t 43) (.k (.c (C.int .i64 0))))⟩,
    ⟨some 45, some (42, true), .p (.conv .i64 (.t 44))⟩,
    ⟨some 46, some (42, true), .h (.call (.f 43) [.t 45, .k (.c (C.int .i64 48)), .k (.c (C.int .i64 53))])⟩,
    ⟨some 47, none, .p (.pick (.t 42) (.t 46) (.k (.c (C.bool false))))⟩,
    ⟨some 48, none, .p (.mv (.t 47))⟩,
    ⟨some 49, some (48, true), .p (.mv (.t 9))⟩,
    ⟨some 50, some (48, true), .p (.ixStr (.t 49) (.k (.c (C.int .i64 1))))⟩,
    ⟨some 51, some (48, true), .p (.conv .i64 (.t 50))⟩,
    ⟨some 52, some (48, true), .h (.call (.f 43) [.t 51, .k (.c (C.int .i64 48)), .k (.c (C.int .i64 53))])⟩,
    ⟨some 53, none, .p (.pick (.t 48) (.t 52) (.k (.c (C.bool false))))⟩,
    ⟨some 6, none, .p (.mv (.t 53))⟩] [2, 4, 6, 7, 8, 9])
  (.seq (.region [⟨some 54, none, .p (.mv (.t 6))⟩] [2, 4, 6, 7, 8, 9, 54])
  (.cond (.t 54)
  (.regionD [⟨some 55, none, .p (.fld 24 (.t 7))⟩,
    ⟨some 56, none, .h (.load 1 false (.t 55))⟩,
    ⟨some 57, none, .p (.mv (.t 9))⟩,
    ⟨some 58, none, .p (.ixStr (.t 57) (.k (.c (C.int .i64 0))))⟩,
    ⟨some 59, none, .p (.bin .sub (.t 58) (.k (.c (C.int .u8 48))))⟩,
    ⟨some 60, none, .p (.conv .i64 (.t 59))⟩,
    ⟨some 61, none, .p (.mv (.t 9))⟩,
    ⟨some 62, none, .p (.ixStr (.t 61) (.k (.c (C.int .i64 1))))⟩,
    ⟨some 63, none, .p (.bin .sub (.t 62) (.k (.c (C.int .u8 48))))⟩,
    ⟨some 64, none, .p (.conv .i64 (.t 63))⟩,
    ⟨some 65, none, .p (.build [.k (C.int .i64 0), .k (C.int .i64 0)] [(0, 1, .t 60), (1, 1, .t 64)])⟩,
    ⟨some 66, none, .p (.mksl 2 1 [.k (C.int .i64 0), .k (C.int .i64 0)] [(0, 2, .t 65)])⟩,
    ⟨some 67, none, .h (.app 2 (.t 56) (.t 66))⟩,
    ⟨some 68, none, .p (.fld 24 (.t 7))⟩,
    ⟨none, none, .h (.store 1 (.t 68) (.t 67))⟩] [2, 4, 6, 7, 8] [])
  .skip)))))
  (.region [⟨some 33, none, .p (.mv (.t 8))⟩,
    ⟨some 34, none, .p (.bin .add (.t 33) (.k (.c (C.int .i64 1))))⟩,
    ⟨some 8, none, .p (.mv (.t 34))⟩] [2, 4, 6, 7, 8]))) [2, 4, 6, 7, 8])))
  (.seq (.seq (.region [⟨some 69, none, .p (.mv (.t 6))⟩,
    ⟨some 70, none, .p (.un .not (.t 69))⟩,
    ⟨some 71, none, .p (.mv (.t 70))⟩,
    ⟨some 72, some (71, false), .h (.load 25 true (.t 7))⟩,
    ⟨some 73, some (71, false), .h (.call (.f 44) [.t 72])⟩,
    ⟨some 74, some (71, false), .p (.un .not (.t 73))⟩,
    ⟨some 75, none, .p (.pick (.t 71) (.k (.c (C.bool true))) (.t 74))⟩] [2, 7, 75])
  (.cond (.t 75)
  (.seq (.region [⟨some 76, none, .p (.build [.k (C.int .i64 0), .k (C.int .i64 0), .k (C.int .i64 0), .k (C.int .i64 0), .k (C.int .i64 0), .k (C.int .i64 0), .k (C.int .i64 0), .k (C.int .i64 0), .k (C.int .i64 0), .k (C.int .i64 0), .k (C.int .i64 0), .k (C.int .i64 0), .k (C.int .i64 0), .k (C.int .i64 0), .k (C.int .i64 0), .k (C.int .i64 0), .k (C.int .i64 0), .k (C.int .i64 0), .k (C.int .i64 0), .k (C.int .i64 0), .k (C.int .i64 0), .k (C.int .i64 0), .k (C.int .i64 0), .k (C.int .i64 0), .sl 2] [])⟩,
    ⟨none, none, .h (.store 25 (.t 2) (.t 76))⟩,
    ⟨some 3, none, .p (.mv (.k (.c (C.bool false))))⟩] [2, 3])
  .ret)
  .skip))
  (.seq (.region [⟨some 77, none, .h (.load 25 true (.t 7))⟩,
    ⟨none, none, .h (.store 25 (.t 2) (.t 77))⟩,
    ⟨some 3, none, .p (.mv (.k (.c (C.bool true))))⟩] [2, 3])
  .ret)))))))) }
theorem a7_ok : okFn Tryd.prog 7 a7 = true := by kernel_rfl
/-- loop.example/g01215/impl.ParseReplay -/
def a8 : AFn := { np := 1, nt := 60, res := [.cell 2 25 true, .t 3], body :=
  (.seq (.region [⟨some 2, none, .p (.alloc [.k (C.int .i64 0), .k (C.int .i64 0), .k (C.int .i64 0), .k (C.int .i64 0), .k (C.int .i64 0), .k (C.int .i64 0), .k (C.int .i64 0), .k (C.int .i64 0), .k (C.int .i64 0), .k (C.int .i64 0), .k (C.int .i64 0), .k (C.int .i64 0), .k (C.int .i64 0), .k (C.int .i64 0), .k (C.int .i64 0), .k (C.int .i64 0), .k (C.int .i64 0), .k (C.int .i64 0), .k (C.int .i64 0), .k (C.int .i64 0), .k (C.int .i64 0), .k (C.int .i64 0), .k (C.int .i64 0), .k (C.int .i64 0), .sl 2])⟩,
    ⟨some 3, none, .p (.mv (.k (.c (C.bool false))))⟩] [0, 2])
  (.seq (.region [⟨some 10, none, .p (.mv (.t 0))⟩,
    ⟨some 11, none, .h (.call (.f 45) [.t 10, .k (.c (C.str [32]))])⟩,
    ⟨some 4, none, .p (.mv (.t 11))⟩] [2, 4])
  (.seq (.region [⟨some 13, none, .p (.mv (.t 4))⟩,
    ⟨some 14, none, .p (.ixS 1 (.t 13) (.k (.c (C.int .i64 0))))⟩,
    ⟨some 15, none, .h (.load 1 false (.t 14))⟩,
    ⟨some 16, none, .h (.call (.f 46) [.t 15])⟩,
    ⟨some 12, none, .p (.mv (.t 16))⟩,
    ⟨some 17, none, .p (.ext (.t 12) 0)⟩,
    ⟨some 18, none, .p (.ext (.t 12) 1)⟩,
    ⟨some 5, none, .p (.alloc (List.replicate 24 (.k (C.int .i64 0))))⟩,
    ⟨none, none, .h (.store 24 (.t 5) (.t 17))⟩,
    ⟨some 6, none, .p (.mv (.t 18))⟩] [2, 4, 5, 6])
  (.seq (.seq (.region [⟨some 19, none, .p (.mv (.t 6))⟩,
    ⟨some 20, none, .p (.un .not (.t 19))⟩,
    ⟨some 21, none, .p (.mv (.t 20))⟩,
    ⟨some 22, some (21, false), .p (.mv (.t 4))⟩,
    ⟨some 23, some (21, false), .p (.len (.t 22))⟩,
    ⟨some 24, some (21, false), .p (.bin .gtr (.t 23) (.k (.c (C.int .i64 61))))⟩,
    ⟨some 25, none, .p (.pick (.t 21) (.k (.c (C.bool true))) (.t 24))⟩] [2, 4, 5, 25])
  (.cond (.t 25)
  (.seq (.region [⟨some 26, none, .p (.build [.k (C.int .i64 0), .k (C.int .i64 0), .k (C.int .i64 0), .k (C.int .i64 0), .k (C.int .i64 0), .k (C.int .i64 0), .k (C.int .i64 0), .k (C.int .i64 0), .k (C.int .i64 0), .k (C.int .i64 0), .k (C.int .i64 0), .k (C.int .i64 0), .k (C.int .i64 0), .k (C.int .i64 0), .k (C.int .i64 0), .k (C.int .i64 0), .k (C.int .i64 0), .k (C.int .i64 0), .k (C.int .i64 0), .k (C.int .i64 0), .k (C.int .i64 0), .k (C.int .i64 0), .k (C.int .i64 0), .k (C.int .i64 0), .sl 2] [])⟩,
    ⟨none, none, .h (.store 25 (.t 2) (.t 26))⟩,
    ⟨some 3, none, .p (.mv (.k (.c (C.bool false))))⟩] [2, 3])
  .ret)
  .skip))
  (.seq (.region [⟨some 27, none, .h (.load 24 true (.t 5))⟩,
    ⟨some 28, none, .p (.build [.k (C.int .i64 0), .k (C.int .i64 0), .k (C.int .i64 0), .k (C.int .i64 0), .k (C.int .i64 0), .k (C.int .i64 0), .k (C.int .i64 0), .k (C.int .i64 0), .k (C.int .i64 0), .k (C.int .i64 0), .k (C.int .i64 0), .k (C.int .i64 0), .k (C.int .i64 0), .k (C.int .i64 0), .k (C.int .i64 0), .k (C.int .i64 0), .k (C.int .i64 0), .k (C.int .i64 0), .k (C.int .i64 0), .k (C.int .i64 0), .k (C.int .i64 0), .k (C.int .i64 0), .k (C.int .i64 0), .k (C.int .i64 0), .sl 2] [(0, 24, .t 27)])⟩,
    ⟨some 7, none, .p (.alloc [.k (C.int .i64 0), .k (C.int .i64 0), .k (C.int .i64 0), .k (C.int .i64 0), .k (C.int .i64 0), .k (C.int .i64 0), .k (C.int .i64 0), .k (C.int .i64 0), .k (C.int .i64 0), .k (C.int .i64 0), .k (C.int .i64 0), .k (C.int .i64 0), .k (C.int .i64 0), .k (C.int .i64 0), .k (C.int .i64 0), .k (C.int .i64 0), .k (C.int .i64 0), .k (C.int .i64 0), .k (C.int .i64 0), .k (C.int .i64 0), .k (C.int .i64 0), .k (C.int .i64 0), .k (C.int .i64 0), .k (C.int .i64 0), .sl 2])⟩,
    ⟨none, none, .h (.store 25 (.t 7) (.t 28))⟩] [2, 4, 7])
  (.seq (.seq (.region [⟨some 29, none, .p (.mv (.t 4))⟩,
    ⟨some 30, none, .p (.slS 1 (.t 29) (some (.k (.c (C.int .i64 1)))) none)⟩,
    ⟨some 31, none, .p (.len (.t 30))⟩,
    ⟨some 32, none, .p (.mv (.k (.c (C.int .i64 0))))⟩] [2, 7, 30, 31, 32])
  (.block 0 (.loop (.seq (.region [⟨some 33, none, .p (.bin .lss (.t 32) (.t 31))⟩] [2, 7, 30, 31, 32, 33])
  (.seq (.cond (.t 33)
  .skip
  (.exit 0))
  (.seq (.block 1 (.seq (.region [⟨some 34, none, .p (.ixS 1 (.t 30) (.t 32))⟩,
    ⟨some 35, none, .h (.load 1 false (.t 34))⟩,
    ⟨some 9, none, .p (.mv (.t 35))⟩] [2, 7, 9, 30, 31, 32])
  (.seq (.seq (.region [⟨some 36, none, .p (.mv (.t 9))⟩,
    ⟨some 37, none, .p (.lenStr (.t 36))⟩,
    ⟨some 38, none, .p (.bin .neq (.t 37) (.k (.c (C.int .i64 2))))⟩] [2, 7, 9, 30, 31, 32, 38])
  (.cond (.t 38)
  (.seq (.region [⟨some 39, none, .p (.build [.k (C.int .i64 0), .k (C.int .i64 0), .k (C.int .i64 0), .k (C.int .i64 0), .k (C.int .i64 0), .k (C.int .i64 0), .k (C.int .i64 0), .k (C.int .i64 0), .k (C.int .i64 0), .k (C.int .i64 0), .k (C.int .i64 0), .k (C.int .i64 0), .k (C.int .i64 0), .k (C.int .i64 0), .k (C.int .i64 0), .k (C.int .i64 0), .k (C.int .i64 0), .k (C.int .i64 0), .k (C.int .i64 0), .k (C.int .i64 0), .k (C.int .i64 0), .k (C.int .i64 0), .k (C.int .i64 0), .k (C.int .i64 0), .sl 2] [])⟩,
    ⟨none, none, .h (.store 25 (.t 2) (.t 39))⟩,
    ⟨some 3, none, .p (.mv (.k (.c (C.bool false))))⟩] [2, 3])
  .ret)
  .skip))
  (.regionD [⟨some 40, none, .p (.fld 24 (.t 7))⟩,
    ⟨some 41, none, .h (.load 1 false (.t 40))⟩,
    ⟨some 42, none, .p (.mv (.t 9))⟩,
    ⟨some 43, none, .p (.ixStr (.t 42) (.k (.c (C.int .i64 0))))⟩,
    ⟨some 44, none, .p (.conv .i64 (.t 43))⟩,
    ⟨some 45, none, .p (.bin .sub (.t 44) (.k (.c (C.int .i64 48))))⟩,
    ⟨some 46, none, .p (.mv (.t 9))⟩,
    ⟨some 47, none, .p (.ixStr (.t 46) (.k (.c (C.int .i64 1))))⟩,
    ⟨some 48, none, .p (.conv .i64 (.t 47))⟩,
    ⟨some 49, none, .p (.bin .sub (.t 48) (.k (.c (C.int .i64 48))))⟩,
    ⟨some 50, none, .p (.build [.k (C.int .i64 0), .k (C.int .i64 0)] [(0, 1, .t 45), (1, 1, .t 49)])⟩,
    ⟨some 51, none, .p (.mksl 2 1 [.k (C.int .i64 0), .k (C.int .i64 0)] [(0, 2, .t 50)])⟩,
    ⟨some 52, none, .h (.app 2 (.t 41) (.t 51))⟩,
    ⟨some 53, none, .p (.fld 24 (.t 7))⟩,
    ⟨none, none, .h (.store 1 (.t 53) (.t 52))⟩] [2, 7, 30, 31, 32] []))))
  (.region [⟨some 54, none, .p (.bin .add (.t 32) (.k (.c (C.int .i64 1))))⟩,
    ⟨some 32, none, .p (.mv (.t 54))⟩] [2, 7, 30, 31, 32])))) [2, 7, 30, 31, 32])))
  (.seq (.seq (.region [⟨some 55, none, .h (.load 25 true (.t 7))⟩,
    ⟨some 56, none, .h (.call (.f 47) [.t 55])⟩,
    ⟨some 57, none, .p (.un .not (.t 56))⟩] [2, 7, 57])
  (.cond (.t 57)
  (.seq (.region [⟨some 58, none, .p (.build [.k (C.int .i64 0), .k (C.int .i64 0), .k (C.int .i64 0), .k (C.int .i64 0), .k (C.int .i64 0), .k (C.int .i64 0), .k (C.int .i64 0), .k (C.int .i64 0), .k (C.int .i64 0), .k (C.int .i64 0), .k (C.int .i64 0), .k (C.int .i64 0), .k (C.int .i64 0), .k (C.int .i64 0), .k (C.int .i64 0), .k (C.int .i64 0), .k (C.int .i64 0), .k (C.int .i64 0), .k (C.int .i64 0), .k (C.int .i64 0), .k (C.int .i64 0), .k (C.int .i64 0), .k (C.int .i64 0), .k (C.int .i64 0), .sl 2] [])⟩,
    ⟨none, none, .h (.store 25 (.t 2) (.t 58))⟩,
    ⟨some 3, none, .p (.mv (.k (.c (C.bool false))))⟩] [2, 3])
  .ret)
  .skip))
  (.seq (.region [⟨some 59, none, .h (.load 25 true (.t 7))⟩,
    ⟨none, none, .h (.store 25 (.t 2) (.t 59))⟩,
    ⟨some 3, none, .p (.mv (.k (.c (C.bool true))))⟩] [2, 3])
  .ret)))))))) }
theorem a8_ok : okFn Tryd.prog 8 a8 = true := by kernel_rfl
/-- loop.example/g01215/laws.eqReplay -/
def a9 : AFn := { np := 2, nt := 17, res := [.t 4], body :=
  (.seq (.region [⟨some 2, none, .p (.box 25 (.t 0))⟩,
    ⟨some 3, none, .p (.box 25 (.t 1))⟩,
    ⟨some 4, none, .p (.mv (.k (.c (C.bool false))))⟩] [2, 3])
  (.seq (.seq (.region [⟨some 5, none, .p (.fld 0 (.t 2))⟩,
    ⟨some 6, none, .h (.load 24 true (.t 5))⟩,
    ⟨some 7, none, .p (.fld 0 (.t 3))⟩,
    ⟨some 8, none, .h (.load 24 true (.t 7))⟩,
    ⟨some 9, none, .h (.call (.f 48) [.t 6, .t 8])⟩,
    ⟨some 10, none, .p (.un .not (.t 9))⟩] [2, 3, 10])
  (.cond (.t 10)
  (.seq (.region [⟨some 4, none, .p (.mv (.k (.c (C.bool false))))⟩] [4])
  .ret)
  .skip))
  (.seq (.seq (.region [⟨some 11, none, .p (.fld 24 (.t 2))⟩,
    ⟨some 12, none, .h (.load 1 false (.t 11))⟩,
    ⟨some 13, none, .p (.fld 24 (.t 3))⟩,
    ⟨some 14, none, .h (.load 1 false (.t 13))⟩,
    ⟨some 15, none, .h (.call (.f 49) [.t 12, .t 14])⟩,
    ⟨some 16, none, .p (.un .not (.t 15))⟩] [16])
  (.cond (.t 16)
  (.seq (.region [⟨some 4, none, .p (.mv (.k (.c (C.bool false))))⟩] [4])
  .ret)
  .skip))
  (.seq (.region [⟨some 4, none, .p (.mv (.k (.c (C.bool true))))⟩] [4])
  .ret)))) }
theorem a9_ok : okFn Tryd.prog 9 a9 = true := by kernel_rfl
/-- loop.example/g01215/laws.markReplay -/
def a10 : AFn := { np := 2, nt := 10, res := [.t 4], body :=
  (.seq (.region [⟨some 2, none, .p (.box 25 (.t 0))⟩,
    ⟨some 4, none, .p (.mv (.k (.c (C.int .i64 0))))⟩] [1, 2])
  (.seq (.region [⟨some 5, none, .p (.fld 24 (.t 2))⟩,
    ⟨some 6, none, .h (.load 1 false (.t 5))⟩,
    ⟨some 7, none, .p (.mv (.t 1))⟩,
    ⟨some 8, none, .h (.call (.f 50) [.t 6, .t 7])⟩,
    ⟨some 1, none, .p (.mv (.t 8))⟩] [1])
  (.seq (.region [⟨some 9, none, .p (.mv (.t 1))⟩,
    ⟨some 4, none, .p (.mv (.t 9))⟩] [4])
  .ret))) }
theorem a10_ok : okFn Tryd.prog 10 a10 = true := by kernel_rfl
/-- loop.example/g01215/laws.heldReplay -/
def a11 : AFn := { np := 2, nt := 12, res := [.t 4], body :=
  (.seq (.region [⟨some 2, none, .p (.box 25 (.t 0))⟩,
    ⟨some 4, none, .p (.mv (.k (.c (C.int .i64 0))))⟩] [1, 2])
  (.seq (.region [⟨some 5, none, .p (.fld 24 (.t 2))⟩,
    ⟨some 6, none, .h (.load 1 false (.t 5))⟩,
    ⟨some 7, none, .p (.mv (.t 1))⟩,
    ⟨some 8, none, .h (.call (.f 51) [.t 6, .t 7])⟩,
    ⟨some 1, none, .p (.mv (.t 8))⟩] [1])
  (.seq (.seq (.region [⟨some 9, none, .p (.mv (.t 1))⟩,
    ⟨some 10, none, .p (.bin .lss (.t 9) (.k (.c (C.int .i64 0))))⟩] [1, 10])
  (.cond (.t 10)
  (.seq (.region [⟨some 4, none, .p (.mv (.k (.c (C.int .i64 (-1)))))⟩] [4])
  .ret)
  .skip))
  (.seq (.region [⟨some 11, none, .p (.mv (.t 1))⟩,
    ⟨some 4, none, .p (.mv (.t 11))⟩] [4])
  .ret)))) }
theorem a11_ok : okFn Tryd.prog 11 a11 = true := by kernel_rfl
/-- loop.example/g01215/laws.szReplay -/
def a12 : AFn := { np := 2, nt := 12, res := [.t 4], body :=
  (.seq (.region [⟨some 2, none, .p (.box 25 (.t 0))⟩,
    ⟨some 4, none, .p (.mv (.k (.c (C.int .i64 0))))⟩] [1, 2])
  (.seq (.region [⟨some 5, none, .p (.fld 24 (.t 2))⟩,
    ⟨some 6, none, .h (.load 1 false (.t 5))⟩,
    ⟨some 7, none, .p (.mv (.t 1))⟩,
    ⟨some 8, none, .h (.call (.f 52) [.t 6, .t 7])⟩,
    ⟨some 1, none, .p (.mv (.t 8))⟩] [1])
  (.seq (.seq (.region [⟨some 9, none, .p (.mv (.t 1))⟩,
    ⟨some 10, none, .p (.bin .lss (.t 9) (.k (.c (C.int .i64 0))))⟩] [1, 10])
  (.cond (.t 10)
  (.seq (.region [⟨some 4, none, .p (.mv (.k (.c (C.int .i64 (-1)))))⟩] [4])
  .ret)
  .skip))
  (.seq (.region [⟨some 11, none, .p (.mv (.t 1))⟩,
    ⟨some 4, none, .p (.mv (.t 11))⟩] [4])
  .ret)))) }
theorem a12_ok : okFn Tryd.prog 12 a12 = true := by kernel_rfl
/-- loop.example/g01215/spec.ReplayText -/
def a13 : AFn := { np := 1, nt := 9, res := [.t 2, .t 3], body :=
  (.seq (.region [⟨some 1, none, .p (.box 25 (.t 0))⟩,
    ⟨some 2, none, .p (.mv (.k (.c (C.str []))))⟩,
    ⟨some 3, none, .p (.mv (.k (.c (C.bool false))))⟩] [1])
  (.seq (.seq (.region [⟨some 4, none, .h (.load 25 true (.t 1))⟩,
    ⟨some 5, none, .h (.call (.f 44) [.t 4])⟩,
    ⟨some 6, none, .p (.un .not (.t 5))⟩] [1, 6])
  (.cond (.t 6)
  (.seq (.region [⟨some 2, none, .p (.mv (.k (.c (C.str []))))⟩,
    ⟨some 3, none, .p (.mv (.k (.c (C.bool false))))⟩] [2, 3])
  .ret)
  .skip))
  (.seq (.region [⟨some 7, none, .h (.load 25 true (.t 1))⟩,
    ⟨some 8, none, .h (.call (.f 53) [.t 7])⟩,
    ⟨some 2, none, .p (.mv (.t 8))⟩,
    ⟨some 3, none, .p (.mv (.k (.c (C.bool true))))⟩] [2, 3])
  .ret))) }
theorem a13_ok : okFn Tryd.prog 13 a13 = true := by kernel_rfl
/-- loop.example/g01215/laws.toReplay -/
def a14 : AFn := { np := 1, nt := 13, res := [.cell 2 25 true], body :=
  (.seq (.region [⟨some 1, none, .p (.box 25 (.t 0))⟩,
    ⟨some 2, none, .p (.alloc [.k (C.int .i64 0), .k (C.int .i64 0), .k (C.int .i64 0), .k (C.int .i64 0), .k (C.int .i64 0), .k (C.int .i64 0), .k (C.int .i64 0), .k (C.int .i64 0), .k (C.int .i64 0), .k (C.int .i64 0), .k (C.int .i64 0), .k (C.int .i64 0), .k (C.int .i64 0), .k (C.int .i64 0), .k (C.int .i64 0), .k (C.int .i64 0), .k (C.int .i64 0), .k (C.int .i64 0), .k (C.int .i64 0), .k (C.int .i64 0), .k (C.int .i64 0), .k (C.int .i64 0), .k (C.int .i64 0), .k (C.int .i64 0), .sl 2])⟩] [1, 2])
  (.seq (.region [⟨some 3, none, .p (.alloc [.k (C.int .i64 0), .k (C.int .i64 0), .k (C.int .i64 0), .k (C.int .i64 0), .k (C.int .i64 0), .k (C.int .i64 0), .k (C.int .i64 0), .k (C.int .i64 0), .k (C.int .i64 0), .k (C.int .i64 0), .k (C.int .i64 0), .k (C.int .i64 0), .k (C.int .i64 0), .k (C.int .i64 0), .k (C.int .i64 0), .k (C.int .i64 0), .k (C.int .i64 0), .k (C.int .i64 0), .k (C.int .i64 0), .k (C.int .i64 0), .k (C.int .i64 0), .k (C.int .i64 0), .k (C.int .i64 0), .k (C.int .i64 0), .sl 2])⟩] [1, 2, 3])
  (.seq (.region [⟨some 4, none, .p (.fld 0 (.t 1))⟩,
    ⟨some 5, none, .h (.load 24 true (.t 4))⟩,
    ⟨some 6, none, .h (.call (.f 54) [.t 5])⟩,
    ⟨some 7, none, .p (.fld 0 (.t 3))⟩,
    ⟨none, none, .h (.store 24 (.t 7) (.t 6))⟩] [1, 2, 3])
  (.seq (.region [⟨some 8, none, .p (.fld 24 (.t 1))⟩,
    ⟨some 9, none, .h (.load 1 false (.t 8))⟩,
    ⟨some 10, none, .h (.call (.f 55) [.t 9])⟩,
    ⟨some 11, none, .p (.fld 24 (.t 3))⟩,
    ⟨none, none, .h (.store 1 (.t 11) (.t 10))⟩] [2, 3])
  (.seq (.region [⟨some 12, none, .h (.load 25 true (.t 3))⟩,
    ⟨none, none, .h (.store 25 (.t 2) (.t 12))⟩] [2])
  .ret))))) }
theorem a14_ok : okFn Tryd.prog 14 a14 = true := by kernel_rfl
/-- loop.example/g01215/impl.ReplayText -/
def a15 : AFn := { np := 1, nt := 9, res := [.t 2, .t 3], body :=
  (.seq (.region [⟨some 1, none, .p (.box 25 (.t 0))⟩,
    ⟨some 2, none, .p (.mv (.k (.c (C.str []))))⟩,
    ⟨some 3, none, .p (.mv (.k (.c (C.bool false))))⟩] [1])
  (.seq (.seq (.region [⟨some 4, none, .h (.load 25 true (.t 1))⟩,
    ⟨some 5, none, .h (.call (.f 47) [.t 4])⟩,
    ⟨some 6, none, .p (.un .not (.t 5))⟩] [1, 6])
  (.cond (.t 6)
  (.seq (.region [⟨some 2, none, .p (.mv (.k (.c (C.str []))))⟩,
    ⟨some 3, none, .p (.mv (.k (.c (C.bool false))))⟩] [2, 3])
  .ret)
  .skip))
  (.seq (.region [⟨some 7, none, .h (.load 25 true (.t 1))⟩,
    ⟨some 8, none, .h (.call (.f 56) [.t 7])⟩,
    ⟨some 2, none, .p (.mv (.t 8))⟩,
    ⟨some 3, none, .p (.mv (.k (.c (C.bool true))))⟩] [2, 3])
  .ret))) }
theorem a15_ok : okFn Tryd.prog 15 a15 = true := by kernel_rfl
/-- loop.example/g01215/laws.vBig -/
def a16 : AFn := { np := 1, nt := 6, res := [.t 2], body :=
  (.seq (.region [⟨some 2, none, .p (.mv (.k (.c (C.bool false))))⟩] [0])
  (.seq (.region [⟨some 3, none, .p (.mv (.t 0))⟩,
    ⟨some 4, none, .p (.len (.t 3))⟩,
    ⟨some 5, none, .p (.bin .gtr (.t 4) (.k (.c (C.int .i64 65536))))⟩,
    ⟨some 2, none, .p (.mv (.t 5))⟩] [2])
  .ret)) }
theorem a16_ok : okFn Tryd.prog 16 a16 = true := by kernel_rfl
/-- loop.example/g01215/spec.DrawIsValidRecord -/
def a17 : AFn := { np := 1, nt := 9, res := [.cell 2 2 true], body :=
  (.seq (.region [⟨some 2, none, .p (.alloc [.k (C.str []), .k (C.str [])])⟩] [0, 2])
  (.seq (.region [⟨some 4, none, .p (.mv (.t 0))⟩,
    ⟨some 5, none, .p (.build [.sl 1, .k (C.int .i64 0), .k (C.int .u64 0)] [(0, 1, .t 4)])⟩,
    ⟨some 6, none, .p (.box 3 (.t 5))⟩,
    ⟨some 3, none, .p (.mv (.t 6))⟩] [2, 3])
  (.seq (.region [⟨some 7, none, .p (.mv (.t 3))⟩,
    ⟨some 8, none, .h (.call (.f 57) [.t 7])⟩,
    ⟨none, none, .h (.store 2 (.t 2) (.t 8))⟩] [2])
  .ret))) }
theorem a17_ok : okFn Tryd.prog 17 a17 = true := by kernel_rfl
/-- loop.example/g01215/spec.DrawEncodeRecord -/
def a18 : AFn := { np := 1, nt := 15, res := [.t 2, .cell 3 2 true], body :=
  (.seq (.region [⟨some 2, none, .p (.mv (.k (.c (C.int .i64 0))))⟩,
    ⟨some 3, none, .p (.alloc [.k (C.str []), .k (C.str [])])⟩] [0, 3])
  (.seq (.region [⟨some 6, none, .p (.mv (.t 0))⟩,
    ⟨some 7, none, .p (.build [.sl 1, .k (C.int .i64 0), .k (C.int .u64 0)] [(0, 1, .t 6)])⟩,
    ⟨some 8, none, .p (.box 3 (.t 7))⟩,
    ⟨some 4, none, .p (.mv (.t 8))⟩] [3, 4])
  (.seq (.region [⟨some 9, none, .p (.mv (.t 4))⟩,
    ⟨some 10, none, .p (.mksl 1 6 [.k (C.int .i64 0)] [(0, 1, .k (.c (C.int .i64 0))), (1, 1, .k (.c (C.int .i64 1))), (2, 1, .k (.c (C.int .i64 12))), (3, 1, .k (.c (C.int .i64 59))), (4, 1, .k (.c (C.int .i64 60))), (5, 1, .k (.c (C.int .i64 (-1))))])⟩,
    ⟨some 11, none, .h (.call (.f 58) [.t 9, .t 10])⟩,
    ⟨some 5, none, .p (.mv (.t 11))⟩] [3, 4, 5])
  (.seq (.region [⟨some 12, none, .p (.mv (.t 5))⟩,
    ⟨some 13, none, .p (.mv (.t 4))⟩,
    ⟨some 14, none, .h (.call (.f 57) [.t 13])⟩,
    ⟨some 2, none, .p (.mv (.t 12))⟩,
    ⟨none, none, .h (.store 2 (.t 3) (.t 14))⟩] [2, 3])
  .ret)))) }
theorem a18_ok : okFn Tryd.prog 18 a18 = true := by kernel_rfl
/-- loop.example/g01215/laws.vCut -/
def a19 : AFn := { np := 2, nt := 20, res := [.t 4], body :=
  (.seq (.region [⟨some 4, none, .p (.nilsl 1)⟩] [0, 1])
  (.seq (.seq (.region [⟨some 5, none, .p (.mv (.t 1))⟩,
    ⟨some 6, none, .p (.mv (.t 0))⟩,
    ⟨some 7, none, .p (.len (.t 6))⟩,
    ⟨some 8, none, .p (.bin .gtr (.t 5) (.t 7))⟩] [0, 1, 8])
  (.cond (.t 8)
  (.region [⟨some 9, none, .p (.mv (.t 0))⟩,
    ⟨some 10, none, .p (.len (.t 9))⟩,
    ⟨some 1, none, .p (.mv (.t 10))⟩] [0, 1])
  .skip))
  (.seq (.region [⟨some 11, none, .p (.mksl 1 0 [.k (C.int .u8 0)] [])⟩,
    ⟨some 12, none, .p (.mv (.t 0))⟩,
    ⟨some 13, none, .p (.mv (.t 1))⟩,
    ⟨some 14, none, .p (.slS 1 (.t 12) (some (.t 13)) none)⟩,
    ⟨some 15, none, .h (.app 1 (.t 11) (.t 14))⟩,
    ⟨some 16, none, .p (.mv (.t 1))⟩,
    ⟨some 17, none, .p (.conv .u8 (.t 16))⟩,
    ⟨some 18, none, .p (.mksl 1 1 [.k (C.int .u8 0)] [(0, 1, .t 17)])⟩,
    ⟨some 19, none, .h (.app 1 (.t 15) (.t 18))⟩,
    ⟨some 4, none, .p (.mv (.t 19))⟩] [4])
  .ret))) }
theorem a19_ok : okFn Tryd.prog 19 a19 = true := by kernel_rfl
/-- loop.example/g01215/impl.EncodeRecord -/
def a20 : AFn := { np := 2, nt := 33, res := [.t 4, .t 5], body :=
  (.seq (.region [⟨some 3, none, .p (.box 2 (.t 1))⟩,
    ⟨some 4, none, .p (.mv (.k (.c (C.str []))))⟩,
    ⟨some 5, none, .p (.mv (.k (.c (C.bool false))))⟩] [0, 3])
  (.seq (.seq (.region [⟨some 8, none, .p (.mv (.t 0))⟩,
    ⟨some 9, none, .h (.call (.f 59) [.t 8, .k (.c (C.int .i64 0)), .k (.c (C.int .i64 59))])⟩,
    ⟨some 10, none, .p (.un .not (.t 9))⟩,
    ⟨some 11, none, .p (.mv (.t 10))⟩,
    ⟨some 12, some (11, false), .h (.load 2 true (.t 3))⟩,
    ⟨some 13, some (11, false), .h (.call (.f 26) [.t 12])⟩,
    ⟨some 14, some (11, false), .p (.un .not (.t 13))⟩,
    ⟨some 15, none, .p (.pick (.t 11) (.k (.c (C.bool true))) (.t 14))⟩] [0, 3, 15])
  (.cond (.t 15)
  (.seq (.region [⟨some 4, none, .p (.mv (.k (.c (C.str []))))⟩,
    ⟨some 5, none, .p (.mv (.k (.c (C.bool false))))⟩] [4, 5])
  .ret)
  .skip))
  (.seq (.regionD [⟨some 17, none, .p (.mv (.t 0))⟩,
    ⟨some 18, none, .h (.call (.f 61) [.t 17])⟩,
    ⟨some 19, none, .p (.bin .add (.t 18) (.k (.c (C.str [32]))))⟩,
    ⟨some 20, none, .p (.fld 0 (.t 3))⟩,
    ⟨some 21, none, .h (.load 1 false (.t 20))⟩,
    ⟨some 22, none, .p (.bin .add (.t 19) (.t 21))⟩,
    ⟨some 23, none, .p (.bin .add (.t 22) (.k (.c (C.str [64]))))⟩,
    ⟨some 24, none, .p (.fld 1 (.t 3))⟩,
    ⟨some 25, none, .h (.load 1 false (.t 24))⟩,
    ⟨some 26, none, .p (.bin .add (.t 23) (.t 25))⟩,
    ⟨some 27, none, .h (.call (.f 60) [.t 26])⟩,
    ⟨some 16, none, .p (.mv (.t 27))⟩,
    ⟨some 28, none, .p (.ext (.t 16) 0)⟩,
    ⟨some 29, none, .p (.ext (.t 16) 1)⟩,
    ⟨some 6, none, .p (.mv (.t 28))⟩,
    ⟨some 7, none, .p (.mv (.t 29))⟩] [6, 7] [])
  (.seq (.region [⟨some 30, none, .p (.mv (.t 6))⟩,
    ⟨some 31, none, .p (.bin .add (.t 30) (.k (.c (C.str [10]))))⟩,
    ⟨some 32, none, .p (.mv (.t 7))⟩,
    ⟨some 4, none, .p (.mv (.t 31))⟩,
    ⟨some 5, none, .p (.mv (.t 32))⟩] [4, 5])
  .ret)))) }
theorem a20_ok : okFn Tryd.prog 20 a20 = true := by kernel_rfl
/-- loop.example/g01215/spec.EncodeRecord -/
def a21 : AFn := { np := 2, nt := 17, res := [.t 4, .t 5], body :=
  (.seq (.region [⟨some 3, none, .p (.box 2 (.t 1))⟩,
    ⟨some 4, none, .p (.mv (.k (.c (C.str []))))⟩,
    ⟨some 5, none, .p (.mv (.k (.c (C.bool false))))⟩] [0, 3])
  (.seq (.seq (.region [⟨some 6, none, .p (.mv (.t 0))⟩,
    ⟨some 7, none, .h (.call (.f 43) [.t 6, .k (.c (C.int .i64 0)), .k (.c (C.int .i64 59))])⟩,
    ⟨some 8, none, .p (.un .not (.t 7))⟩,
    ⟨some 9, none, .p (.mv (.t 8))⟩,
    ⟨some 10, some (9, false), .h (.load 2 true (.t 3))⟩,
    ⟨some 11, some (9, false), .h (.call (.f 62) [.t 10])⟩,
    ⟨some 12, some (9, false), .p (.un .not (.t 11))⟩,
    ⟨some 13, none, .p (.pick (.t 9) (.k (.c (C.bool true))) (.t 12))⟩] [0, 3, 13])
  (.cond (.t 13)
  (.seq (.region [⟨some 4, none, .p (.mv (.k (.c (C.str []))))⟩,
    ⟨some 5, none, .p (.mv (.k (.c (C.bool false))))⟩] [4, 5])
  .ret)
  .skip))
  (.seq (.region [⟨some 14, none, .p (.mv (.t 0))⟩,
    ⟨some 15, none, .h (.load 2 true (.t 3))⟩,
    ⟨some 16, none, .h (.call (.f 63) [.t 14, .t 15])⟩,
    ⟨some 4, none, .p (.mv (.t 16))⟩,
    ⟨some 5, none, .p (.mv (.k (.c (C.bool true))))⟩] [4, 5])
  .ret))) }
theorem a21_ok : okFn Tryd.prog 21 a21 = true := by kernel_rfl
/-- loop.example/g01215/spec.DrawIsValidLog -/
def a22 : AFn := { np := 1, nt := 9, res := [.cell 2 3 true], body :=
  (.seq (.region [⟨some 2, none, .p (.alloc [.k (C.str []), .k (C.str []), .k (C.int .i64 0)])⟩] [0, 2])
  (.seq (.region [⟨some 4, none, .p (.mv (.t 0))⟩,
    ⟨some 5, none, .p (.build [.sl 1, .k (C.int .i64 0), .k (C.int .u64 0)] [(0, 1, .t 4)])⟩,
    ⟨some 6, none, .p (.box 3 (.t 5))⟩,
    ⟨some 3, none, .p (.mv (.t 6))⟩] [2, 3])
  (.seq (.region [⟨some 7, none, .p (.mv (.t 3))⟩,
    ⟨some 8, none, .h (.call (.f 64) [.t 7])⟩,
    ⟨none, none, .h (.store 3 (.t 2) (.t 8))⟩] [2])
  .ret))) }
theorem a22_ok : okFn Tryd.prog 22 a22 = true := by kernel_rfl
/-- loop.example/g01215/spec.DrawAppendRecord -/
def a23 : AFn := { np := 1, nt := 31, res := [.cell 2 3 true, .cell 3 2 true], body :=
  (.seq (.region [⟨some 2, none, .p (.alloc [.k (C.str []), .k (C.str []), .k (C.int .i64 0)])⟩,
    ⟨some 3, none, .p (.alloc [.k (C.str []), .k (C.str [])])⟩] [0, 2, 3])
  (.seq (.region [⟨some 7, none, .p (.mv (.t 0))⟩,
    ⟨some 8, none, .p (.build [.sl 1, .k (C.int .i64 0), .k (C.int .u64 0)] [(0, 1, .t 7)])⟩,
    ⟨some 9, none, .p (.box 3 (.t 8))⟩,
    ⟨some 4, none, .p (.mv (.t 9))⟩] [2, 3, 4])
  (.seq (.region [⟨some 10, none, .p (.mv (.t 4))⟩,
    ⟨some 11, none, .h (.call (.f 64) [.t 10])⟩,
    ⟨some 5, none, .p (.alloc [.k (C.str []), .k (C.str []), .k (C.int .i64 0)])⟩,
    ⟨none, none, .h (.store 3 (.t 5) (.t 11))⟩] [2, 3, 4, 5])
  (.seq (.seq (.region [⟨some 12, none, .p (.mv (.t 4))⟩,
    ⟨some 13, none, .h (.call (.f 65) [.t 12, .k (.c (C.int .i64 40))])⟩] [2, 3, 4, 5, 13])
  (.cond (.t 13)
  (.seq (.region [⟨some 14, none, .p (.build [.k (C.str []), .k (C.str []), .k (C.int .i64 0)] [])⟩,
    ⟨none, none, .h (.store 3 (.t 5) (.t 14))⟩] [2, 3, 4, 5])
  (.seq (.region [⟨some 15, none, .p (.mv (.t 4))⟩,
    ⟨some 16, none, .h (.call (.f 66) [.t 15, .k (.c (C.int .i64 2))])⟩,
    ⟨some 17, none, .p (.bin .add (.k (.c (C.int .i64 59))) (.t 16))⟩,
    ⟨some 6, none, .p (.mv (.t 17))⟩] [2, 3, 4, 5, 6])
  (.block 0 (.loop (.seq (.seq (.region [⟨some 18, none, .p (.mv (.t 6))⟩,
    ⟨some 19, none, .p (.bin .gtr (.t 18) (.k (.c (C.int .i64 0))))⟩] [2, 3, 4, 5, 6, 19])
  (.cond (.t 19)
  .skip
  (.exit 0)))
  (.seq (.block 1 (.region [⟨some 23, none, .h (.load 3 true (.t 5))⟩,
    ⟨some 24, none, .p (.build [.k (C.str []), .k (C.str [])] [(0, 1, .k (.c (C.str [120])))])⟩,
    ⟨some 25, none, .h (.call (.f 25) [.t 23, .t 24])⟩,
    ⟨some 22, none, .p (.mv (.t 25))⟩,
    ⟨some 26, none, .p (.ext (.t 22) 0)⟩,
    ⟨some 27, none, .p (.ext (.t 22) 1)⟩,
    ⟨none, none, .h (.store 3 (.t 5) (.t 26))⟩] [2, 3, 4, 5, 6]))
  (.region [⟨some 20, none, .p (.mv (.t 6))⟩,
    ⟨some 21, none, .p (.bin .sub (.t 20) (.k (.c (C.int .i64 1))))⟩,
    ⟨some 6, none, .p (.mv (.t 21))⟩] [2, 3, 4, 5, 6]))) [2, 3, 4, 5, 6]))))
  .skip))
  (.seq (.regionE [⟨some 28, none, .h (.load 3 true (.t 5))⟩,
    ⟨some 29, none, .p (.mv (.t 4))⟩,
    ⟨some 30, none, .h (.call (.f 57) [.t 29])⟩,
    ⟨none, none, .h (.store 3 (.t 2) (.t 28))⟩,
    ⟨none, none, .h (.store 2 (.t 3) (.t 30))⟩] [2, 3] [] [[], [], [2, 1000005]])
  .ret))))) }
theorem a23_ok : okFn Tryd.prog 23 a23 = true := by kernel_rfl
/-- loop.example/g01215/impl.AppendRecord -/
def a24 : AFn := { np := 2, nt := 40, res := [.cell 4 3 true, .t 5], body :=
  (.seq (.region [⟨some 2, none, .p (.box 3 (.t 0))⟩,
    ⟨some 3, none, .p (.box 2 (.t 1))⟩,
    ⟨some 4, none, .p (.alloc [.k (C.str []), .k (C.str []), .k (C.int .i64 0)])⟩,
    ⟨some 5, none, .p (.mv (.k (.c (C.int .i64 0))))⟩] [2, 3, 4])
  (.seq (.block 0 (.seq (.region [⟨some 9, none, .h (.load 3 true (.t 2))⟩,
    ⟨some 10, none, .h (.call (.f 28) [.t 9])⟩,
    ⟨some 11, none, .p (.un .not (.t 10))⟩,
    ⟨some 12, none, .p (.mv (.t 11))⟩,
    ⟨some 13, some (12, false), .h (.load 2 true (.t 3))⟩,
    ⟨some 14, some (12, false), .h (.call (.f 26) [.t 13])⟩,
    ⟨some 15, some (12, false), .p (.un .not (.t 14))⟩,
    ⟨some 16, none, .p (.pick (.t 12) (.k (.c (C.bool true))) (.t 15))⟩,
    ⟨some 8, none, .p (.mv (.t 16))⟩] [2, 3, 4, 8])
  (.cond (.t 8)
  (.seq (.region [⟨some 17, none, .h (.load 3 true (.t 2))⟩,
    ⟨none, none, .h (.store 3 (.t 4) (.t 17))⟩,
    ⟨some 5, none, .p (.mv (.k (.c (C.int .i64 1))))⟩] [4, 5])
  .ret)
  (.seq (.region [⟨some 19, none, .p (.fld 2 (.t 2))⟩,
    ⟨some 20, none, .h (.load 1 false (.t 19))⟩,
    ⟨some 21, none, .p (.bin .eql (.t 20) (.k (.c (C.int .i64 60))))⟩,
    ⟨some 18, none, .p (.mv (.t 21))⟩] [2, 3, 4, 18])
  (.cond (.t 18)
  (.seq (.region [⟨some 22, none, .h (.load 3 true (.t 2))⟩,
    ⟨none, none, .h (.store 3 (.t 4) (.t 22))⟩,
    ⟨some 5, none, .p (.mv (.k (.c (C.int .i64 2))))⟩] [4, 5])
  .ret)
  .skip)))))
  (.seq (.region [⟨some 24, none, .p (.fld 2 (.t 2))⟩,
    ⟨some 25, none, .h (.load 1 false (.t 24))⟩,
    ⟨some 26, none, .h (.load 2 true (.t 3))⟩,
    ⟨some 27, none, .h (.call (.f 20) [.t 25, .t 26])⟩,
    ⟨some 23, none, .p (.mv (.t 27))⟩,
    ⟨some 28, none, .p (.ext (.t 23) 0)⟩,
    ⟨some 29, none, .p (.ext (.t 23) 1)⟩,
    ⟨some 6, none, .p (.mv (.t 28))⟩,
    ⟨some 7, none, .p (.mv (.t 29))⟩] [2, 4, 6])
  (.seq (.region [⟨some 30, none, .p (.fld 0 (.t 2))⟩,
    ⟨some 31, none, .h (.load 1 false (.t 30))⟩,
    ⟨some 32, none, .p (.fld 1 (.t 2))⟩,
    ⟨some 33, none, .h (.load 1 false (.t 32))⟩,
    ⟨some 34, none, .p (.mv (.t 6))⟩,
    ⟨some 35, none, .p (.bin .add (.t 33) (.t 34))⟩,
    ⟨some 36, none, .p (.fld 2 (.t 2))⟩,
    ⟨some 37, none, .h (.load 1 false (.t 36))⟩,
    ⟨some 38, none, .p (.bin .add (.t 37) (.k (.c (C.int .i64 1))))⟩,
    ⟨some 39, none, .p (.build [.k (C.str []), .k (C.str []), .k (C.int .i64 0)] [(0, 1, .t 31), (1, 1, .t 35), (2, 1, .t 38)])⟩,
    ⟨none, none, .h (.store 3 (.t 4) (.t 39))⟩,
    ⟨some 5, none, .p (.mv (.k (.c (C.int .i64 0))))⟩] [4, 5])
  .ret)))) }
theorem a24_ok : okFn Tryd.prog 24 a24 = true := by kernel_rfl
/-- loop.example/g01215/spec.AppendRecord -/
def a25 : AFn := { np := 2, nt := 32, res := [.cell 4 3 true, .t 5], body :=
  (.seq (.region [⟨some 2, none, .p (.box 3 (.t 0))⟩,
    ⟨some 3, none, .p (.box 2 (.t 1))⟩,
    ⟨some 4, none, .p (.alloc [.k (C.str []), .k (C.str []), .k (C.int .i64 0)])⟩,
    ⟨some 5, none, .p (.mv (.k (.c (C.int .i64 0))))⟩] [2, 3, 4])
  (.seq (.seq (.region [⟨some 6, none, .h (.load 3 true (.t 2))⟩,
    ⟨some 7, none, .h (.call (.f 67) [.t 6])⟩,
    ⟨some 8, none, .p (.un .not (.t 7))⟩,
    ⟨some 9, none, .p (.mv (.t 8))⟩,
    ⟨some 10, some (9, false), .h (.load 2 true (.t 3))⟩,
    ⟨some 11, some (9, false), .h (.call (.f 62) [.t 10])⟩,
    ⟨some 12, some (9, false), .p (.un .not (.t 11))⟩,
    ⟨some 13, none, .p (.pick (.t 9) (.k (.c (C.bool true))) (.t 12))⟩] [2, 3, 4, 13])
  (.cond (.t 13)
  (.seq (.region [⟨some 14, none, .h (.load 3 true (.t 2))⟩,
    ⟨none, none, .h (.store 3 (.t 4) (.t 14))⟩,
    ⟨some 5, none, .p (.mv (.k (.c (C.int .i64 1))))⟩] [4, 5])
  .ret)
  .skip))
  (.seq (.seq (.region [⟨some 15, none, .p (.fld 2 (.t 2))⟩,
    ⟨some 16, none, .h (.load 1 false (.t 15))⟩,
    ⟨some 17, none, .p (.bin .eql (.t 16) (.k (.c (C.int .i64 60))))⟩] [2, 3, 4, 17])
  (.cond (.t 17)
  (.seq (.region [⟨some 18, none, .h (.load 3 true (.t 2))⟩,
    ⟨none, none, .h (.store 3 (.t 4) (.t 18))⟩,
    ⟨some 5, none, .p (.mv (.k (.c (C.int .i64 2))))⟩] [4, 5])
  .ret)
  .skip))
  (.seq (.regionD [⟨some 19, none, .p (.fld 1 (.t 2))⟩,
    ⟨some 20, none, .h (.load 1 false (.t 19))⟩,
    ⟨some 21, none, .p (.fld 2 (.t 2))⟩,
    ⟨some 22, none, .h (.load 1 false (.t 21))⟩,
    ⟨some 23, none, .h (.load 2 true (.t 3))⟩,
    ⟨some 24, none, .h (.call (.f 63) [.t 22, .t 23])⟩,
    ⟨some 25, none, .p (.bin .add (.t 20) (.t 24))⟩,
    ⟨some 26, none, .p (.fld 1 (.t 2))⟩,
    ⟨none, none, .h (.store 1 (.t 26) (.t 25))⟩] [2, 4] [])
  (.seq (.region [⟨some 27, none, .p (.fld 2 (.t 2))⟩,
    ⟨some 28, none, .h (.load 1 false (.t 27))⟩,
    ⟨some 29, none, .p (.bin .add (.t 28) (.k (.c (C.int .i64 1))))⟩,
    ⟨some 30, none, .p (.fld 2 (.t 2))⟩,
    ⟨none, none, .h (.store 1 (.t 30) (.t 29))⟩] [2, 4])
  (.seq (.region [⟨some 31, none, .h (.load 3 true (.t 2))⟩,
    ⟨none, none, .h (.store 3 (.t 4) (.t 31))⟩,
    ⟨some 5, none, .p (.mv (.k (.c (C.int .i64 0))))⟩] [4, 5])
  .ret)))))) }
theorem a25_ok : okFn Tryd.prog 25 a25 = true := by kernel_rfl
/-- loop.example/g01215/impl.IsValidRecord -/
def a26 : AFn := { np := 1, nt := 17, res := [.t 2], body :=
  (.seq (.region [⟨some 1, none, .p (.box 2 (.t 0))⟩,
    ⟨some 2, none, .p (.mv (.k (.c (C.bool false))))⟩] [1])
  (.seq (.region [⟨some 3, none, .p (.fld 0 (.t 1))⟩,
    ⟨some 4, none, .h (.load 1 false (.t 3))⟩,
    ⟨some 5, none, .h (.call (.f 68) [.t 4])⟩,
    ⟨some 6, none, .p (.mv (.t 5))⟩,
    ⟨some 7, some (6, true), .p (.fld 1 (.t 1))⟩,
    ⟨some 8, some (6, true), .h (.load 1 false (.t 7))⟩,
    ⟨some 9, some (6, true), .p (.lenStr (.t 8))⟩,
    ⟨some 10, some (6, true), .p (.bin .leq (.t 9) (.k (.c (C.int .i64 250))))⟩,
    ⟨some 11, none, .p (.pick (.t 6) (.t 10) (.k (.c (C.bool false))))⟩,
    ⟨some 12, none, .p (.mv (.t 11))⟩,
    ⟨some 13, some (12, true), .p (.fld 1 (.t 1))⟩,
    ⟨some 14, some (12, true), .h (.load 1 false (.t 13))⟩,
    ⟨some 15, some (12, true), .h (.call (.f 69) [.t 14])⟩,
    ⟨some 16, none, .p (.pick (.t 12) (.t 15) (.k (.c (C.bool false))))⟩,
    ⟨some 2, none, .p (.mv (.t 16))⟩] [2])
  .ret)) }
theorem a26_ok : okFn Tryd.prog 26 a26 = true := by kernel_rfl
/-- loop.example/g01215/spec.IsValidRecord -/
def a27 : AFn := { np := 1, nt := 5, res := [.t 2], body :=
  (.seq (.region [⟨some 1, none, .p (.box 2 (.t 0))⟩,
    ⟨some 2, none, .p (.mv (.k (.c (C.bool false))))⟩] [1])
  (.seq (.region [⟨some 3, none, .h (.load 2 true (.t 1))⟩,
    ⟨some 4, none, .h (.call (.f 62) [.t 3])⟩,
    ⟨some 2, none, .p (.mv (.t 4))⟩] [2])
  .ret)) }
theorem a27_ok : okFn Tryd.prog 27 a27 = true := by kernel_rfl
/-- loop.example/g01215/impl.IsValidLog -/
def a28 : AFn := { np := 1, nt := 11, res := [.t 2], body :=
  (.seq (.region [⟨some 1, none, .p (.box 3 (.t 0))⟩,
    ⟨some 2, none, .p (.mv (.k (.c (C.bool false))))⟩] [1])
  (.seq (.region [⟨some 6, none, .h (.load 3 true (.t 1))⟩,
    ⟨some 7, none, .h (.call (.f 70) [.t 6])⟩,
    ⟨some 5, none, .p (.mv (.t 7))⟩,
    ⟨some 8, none, .p (.ext (.t 5) 0)⟩,
    ⟨some 9, none, .p (.ext (.t 5) 1)⟩,
    ⟨some 3, none, .p (.mv (.t 8))⟩,
    ⟨some 4, none, .p (.mv (.t 9))⟩] [4])
  (.seq (.region [⟨some 10, none, .p (.mv (.t 4))⟩,
    ⟨some 2, none, .p (.mv (.t 10))⟩] [2])
  .ret))) }
theorem a28_ok : okFn Tryd.prog 28 a28 = true := by kernel_rfl
/-- loop.example/g01215/spec.IsValidLog -/
def a29 : AFn := { np := 1, nt := 5, res := [.t 2], body :=
  (.seq (.region [⟨some 1, none, .p (.box 3 (.t 0))⟩,
    ⟨some 2, none, .p (.mv (.k (.c (C.bool false))))⟩] [1])
  (.seq (.region [⟨some 3, none, .h (.load 3 true (.t 1))⟩,
    ⟨some 4, none, .h (.call (.f 67) [.t 3])⟩,
    ⟨some 2, none, .p (.mv (.t 4))⟩] [2])
  .ret)) }
theorem a29_ok : okFn Tryd.prog 29 a29 = true := by kernel_rfl
/-- loop.example/g01215/impl.SyncLog -/
def a30 : AFn := { np := 1, nt := 16, res := [.cell 2 3 true, .t 3], body :=
  (.seq (.region [⟨some 1, none, .p (.box 3 (.t 0))⟩,
    ⟨some 2, none, .p (.alloc [.k (C.str []), .k (C.str []), .k (C.int .i64 0)])⟩,
    ⟨some 3, none, .p (.mv (.k (.c (C.bool false))))⟩] [1, 2])
  (.seq (.seq (.region [⟨some 4, none, .h (.load 3 true (.t 1))⟩,
    ⟨some 5, none, .h (.call (.f 28) [.t 4])⟩,
    ⟨some 6, none, .p (.un .not (.t 5))⟩] [1, 2, 6])
  (.cond (.t 6)
  (.seq (.region [⟨some 7, none, .p (.build [.k (C.str []), .k (C.str []), .k (C.int .i64 0)] [])⟩,
    ⟨none, none, .h (.store 3 (.t 2) (.t 7))⟩,
    ⟨some 3, none, .p (.mv (.k (.c (C.bool false))))⟩] [2, 3])
  .ret)
  .skip))
  (.seq (.region [⟨some 8, none, .p (.fld 0 (.t 1))⟩,
    ⟨some 9, none, .h (.load 1 false (.t 8))⟩,
    ⟨some 10, none, .p (.fld 1 (.t 1))⟩,
    ⟨some 11, none, .h (.load 1 false (.t 10))⟩,
    ⟨some 12, none, .p (.bin .add (.t 9) (.t 11))⟩,
    ⟨some 13, none, .p (.fld 2 (.t 1))⟩,
    ⟨some 14, none, .h (.load 1 false (.t 13))⟩,
    ⟨some 15, none, .p (.build [.k (C.str []), .k (C.str []), .k (C.int .i64 0)] [(0, 1, .t 12), (1, 1, .k (.c (C.str []))), (2, 1, .t 14)])⟩,
    ⟨none, none, .h (.store 3 (.t 2) (.t 15))⟩,
    ⟨some 3, none, .p (.mv (.k (.c (C.bool true))))⟩] [2, 3])
  .ret))) }
theorem a30_ok : okFn Tryd.prog 30 a30 = true := by kernel_rfl
/-- loop.example/g01215/spec.SyncLog -/
def a31 : AFn := { np := 1, nt := 16, res := [.cell 2 3 true, .t 3], body :=
  (.seq (.region [⟨some 1, none, .p (.box 3 (.t 0))⟩,
    ⟨some 2, none, .p (.alloc [.k (C.str []), .k (C.str []), .k (C.int .i64 0)])⟩,
    ⟨some 3, none, .p (.mv (.k (.c (C.bool false))))⟩] [1, 2])
  (.seq (.seq (.region [⟨some 4, none, .h (.load 3 true (.t 1))⟩,
    ⟨some 5, none, .h (.call (.f 67) [.t 4])⟩,
    ⟨some 6, none, .p (.un .not (.t 5))⟩] [1, 2, 6])
  (.cond (.t 6)
  (.seq (.region [⟨some 7, none, .p (.build [.k (C.str []), .k (C.str []), .k (C.int .i64 0)] [])⟩,
    ⟨none, none, .h (.store 3 (.t 2) (.t 7))⟩,
    ⟨some 3, none, .p (.mv (.k (.c (C.bool false))))⟩] [2, 3])
  .ret)
  .skip))
  (.seq (.region [⟨some 8, none, .p (.fld 0 (.t 1))⟩,
    ⟨some 9, none, .h (.load 1 false (.t 8))⟩,
    ⟨some 10, none, .p (.fld 1 (.t 1))⟩,
    ⟨some 11, none, .h (.load 1 false (.t 10))⟩,
    ⟨some 12, none, .p (.bin .add (.t 9) (.t 11))⟩,
    ⟨some 13, none, .p (.fld 2 (.t 1))⟩,
    ⟨some 14, none, .h (.load 1 false (.t 13))⟩,
    ⟨some 15, none, .p (.build [.k (C.str []), .k (C.str []), .k (C.int .i64 0)] [(0, 1, .t 12), (2, 1, .t 14)])⟩,
    ⟨none, none, .h (.store 3 (.t 2) (.t 15))⟩,
    ⟨some 3, none, .p (.mv (.k (.c (C.bool true))))⟩] [2, 3])
  .ret))) }
theorem a31_ok : okFn Tryd.prog 31 a31 = true := by kernel_rfl
/-- loop.example/g01215/impl.LogRecords -/
def a32 : AFn := { np := 1, nt := 14, res := [.t 2, .t 3], body :=
  (.seq (.region [⟨some 1, none, .p (.box 3 (.t 0))⟩,
    ⟨some 2, none, .p (.nilsl 2)⟩,
    ⟨some 3, none, .p (.mv (.k (.c (C.bool false))))⟩] [1])
  (.seq (.region [⟨some 7, none, .h (.load 3 true (.t 1))⟩,
    ⟨some 8, none, .h (.call (.f 70) [.t 7])⟩,
    ⟨some 6, none, .p (.mv (.t 8))⟩,
    ⟨some 9, none, .p (.ext (.t 6) 0)⟩,
    ⟨some 10, none, .p (.ext (.t 6) 1)⟩,
    ⟨some 4, none, .p (.mv (.t 9))⟩,
    ⟨some 5, none, .p (.mv (.t 10))⟩] [4, 5])
  (.seq (.seq (.region [⟨some 11, none, .p (.mv (.t 5))⟩,
    ⟨some 12, none, .p (.un .not (.t 11))⟩] [4, 12])
  (.cond (.t 12)
  (.seq (.region [⟨some 2, none, .p (.nilsl 2)⟩,
    ⟨some 3, none, .p (.mv (.k (.c (C.bool false))))⟩] [2, 3])
  .ret)
  .skip))
  (.seq (.region [⟨some 13, none, .p (.mv (.t 4))⟩,
    ⟨some 2, none, .p (.mv (.t 13))⟩,
    ⟨some 3, none, .p (.mv (.k (.c (C.bool true))))⟩] [2, 3])
  .ret)))) }
theorem a32_ok : okFn Tryd.prog 32 a32 = true := by kernel_rfl
/-- loop.example/g01215/spec.LogRecords -/
def a33 : AFn := { np := 1, nt := 20, res := [.t 2, .t 3], body :=
  (.seq (.region [⟨some 1, none, .p (.box 3 (.t 0))⟩,
    ⟨some 2, none, .p (.nilsl 2)⟩,
    ⟨some 3, none, .p (.mv (.k (.c (C.bool false))))⟩] [1])
  (.seq (.seq (.region [⟨some 6, none, .h (.load 3 true (.t 1))⟩,
    ⟨some 7, none, .h (.call (.f 67) [.t 6])⟩,
    ⟨some 8, none, .p (.un .not (.t 7))⟩] [1, 8])
  (.cond (.t 8)
  (.seq (.region [⟨some 9, none, .p (.mksl 2 0 [.k (C.str []), .k (C.str [])] [])⟩,
    ⟨some 2, none, .p (.mv (.t 9))⟩,
    ⟨some 3, none, .p (.mv (.k (.c (C.bool false))))⟩] [2, 3])
  .ret)
  .skip))
  (.seq (.region [⟨some 11, none, .p (.fld 0 (.t 1))⟩,
    ⟨some 12, none, .h (.load 1 false (.t 11))⟩,
    ⟨some 13, none, .p (.fld 1 (.t 1))⟩,
    ⟨some 14, none, .h (.load 1 false (.t 13))⟩,
    ⟨some 15, none, .p (.bin .add (.t 12) (.t 14))⟩,
    ⟨some 16, none, .h (.call (.f 71) [.t 15])⟩,
    ⟨some 10, none, .p (.mv (.t 16))⟩,
    ⟨some 17, none, .p (.ext (.t 10) 0)⟩,
    ⟨some 18, none, .p (.ext (.t 10) 1)⟩,
    ⟨some 4, none, .p (.mv (.t 17))⟩,
    ⟨some 5, none, .p (.mv (.t 18))⟩] [4])
  (.seq (.region [⟨some 19, none, .p (.mv (.t 4))⟩,
    ⟨some 2, none, .p (.mv (.t 19))⟩,
    ⟨some 3, none, .p (.mv (.k (.c (C.bool true))))⟩] [2, 3])
  .ret)))) }
theorem a33_ok : okFn Tryd.prog 33 a33 = true := by kernel_rfl
/-- loop.example/g01215/laws.vRecords -/
def a34 : AFn := { np := 2, nt := 26, res := [.t 4], body :=
  (.seq (.region [⟨some 4, none, .p (.mv (.k (.c (C.bool false))))⟩] [0, 1])
  (.seq (.seq (.region [⟨some 6, none, .p (.mv (.t 0))⟩,
    ⟨some 7, none, .p (.len (.t 6))⟩,
    ⟨some 8, none, .p (.mv (.t 1))⟩,
    ⟨some 9, none, .p (.len (.t 8))⟩,
    ⟨some 10, none, .p (.bin .neq (.t 7) (.t 9))⟩] [0, 1, 10])
  (.cond (.t 10)
  (.seq (.region [⟨some 4, none, .p (.mv (.k (.c (C.bool false))))⟩] [4])
  .ret)
  .skip))
  (.seq (.seq (.region [⟨some 5, none, .p (.mv (.k (.c (C.int .i64 0))))⟩] [0, 1, 5])
  (.block 0 (.loop (.seq (.seq (.region [⟨some 11, none, .p (.mv (.t 5))⟩,
    ⟨some 12, none, .p (.mv (.t 0))⟩,
    ⟨some 13, none, .p (.len (.t 12))⟩,
    ⟨some 14, none, .p (.bin .lss (.t 11) (.t 13))⟩] [0, 1, 5, 14])
  (.cond (.t 14)
  .skip
  (.exit 0)))
  (.seq (.block 1 (.seq (.regionD [⟨some 17, none, .p (.mv (.t 0))⟩,
    ⟨some 18, none, .p (.mv (.t 5))⟩,
    ⟨some 19, none, .p (.ixS 2 (.t 17) (.t 18))⟩,
    ⟨some 20, none, .h (.load 2 true (.t 19))⟩,
    ⟨some 21, none, .p (.mv (.t 1))⟩,
    ⟨some 22, none, .p (.mv (.t 5))⟩,
    ⟨some 23, none, .p (.ixS 2 (.t 21) (.t 22))⟩,
    ⟨some 24, none, .h (.load 2 true (.t 23))⟩,
    ⟨some 25, none, .p (.eqv true [.str, .str] (.t 20) (.t 24))⟩] [0, 1, 5, 25] [])
  (.cond (.t 25)
  (.seq (.region [⟨some 4, none, .p (.mv (.k (.c (C.bool false))))⟩] [4])
  .ret)
  .skip)))
  (.region [⟨some 15, none, .p (.mv (.t 5))⟩,
    ⟨some 16, none, .p (.bin .add (.t 15) (.k (.c (C.int .i64 1))))⟩,
    ⟨some 5, none, .p (.mv (.t 16))⟩] [0, 1, 5]))) [0, 1, 5])))
  (.seq (.region [⟨some 4, none, .p (.mv (.k (.c (C.bool true))))⟩] [4])
  .ret)))) }
theorem a34_ok : okFn Tryd.prog 34 a34 = true := by kernel_rfl
/-- loop.example/g01215/spec.DrawCrashLog -/
def a35 : AFn := { np := 1, nt := 24, res := [.cell 2 3 true, .t 3, .t 4], body :=
  (.seq (.region [⟨some 2, none, .p (.alloc [.k (C.str []), .k (C.str []), .k (C.int .i64 0)])⟩,
    ⟨some 3, none, .p (.mv (.k (.c (C.int .i64 0))))⟩,
    ⟨some 4, none, .p (.mv (.k (.c (C.bool false))))⟩] [0, 2])
  (.seq (.region [⟨some 8, none, .p (.mv (.t 0))⟩,
    ⟨some 9, none, .p (.build [.sl 1, .k (C.int .i64 0), .k (C.int .u64 0)] [(0, 1, .t 8)])⟩,
    ⟨some 10, none, .p (.box 3 (.t 9))⟩,
    ⟨some 5, none, .p (.mv (.t 10))⟩] [2, 5])
  (.seq (.region [⟨some 11, none, .p (.mv (.t 5))⟩,
    ⟨some 12, none, .h (.call (.f 64) [.t 11])⟩,
    ⟨some 6, none, .p (.alloc [.k (C.str []), .k (C.str []), .k (C.int .i64 0)])⟩,
    ⟨none, none, .h (.store 3 (.t 6) (.t 12))⟩] [2, 5, 6])
  (.seq (.region [⟨some 13, none, .p (.mv (.t 5))⟩,
    ⟨some 14, none, .p (.fld 1 (.t 6))⟩,
    ⟨some 15, none, .h (.load 1 false (.t 14))⟩,
    ⟨some 16, none, .p (.lenStr (.t 15))⟩,
    ⟨some 17, none, .p (.bin .add (.t 16) (.k (.c (C.int .i64 3))))⟩,
    ⟨some 18, none, .h (.call (.f 66) [.t 13, .t 17])⟩,
    ⟨some 19, none, .p (.bin .sub (.t 18) (.k (.c (C.int .i64 1))))⟩,
    ⟨some 7, none, .p (.mv (.t 19))⟩] [2, 5, 6, 7])
  (.seq (.regionE [⟨some 20, none, .h (.load 3 true (.t 6))⟩,
    ⟨some 21, none, .p (.mv (.t 7))⟩,
    ⟨some 22, none, .p (.mv (.t 5))⟩,
    ⟨some 23, none, .h (.call (.f 65) [.t 22, .k (.c (C.int .i64 2))])⟩,
    ⟨none, none, .h (.store 3 (.t 2) (.t 20))⟩,
    ⟨some 3, none, .p (.mv (.t 21))⟩,
    ⟨some 4, none, .p (.mv (.t 23))⟩] [2, 3, 4] [] [[], [], [], [3, 1000006]])
  .ret))))) }
theorem a35_ok : okFn Tryd.prog 35 a35 = true := by kernel_rfl
/-- loop.example/g01215/impl.CrashLog -/
def a36 : AFn := { np := 3, nt := 47, res := [.t 6, .t 7], body :=
  (.seq (.region [⟨some 3, none, .p (.box 3 (.t 0))⟩,
    ⟨some 6, none, .p (.mv (.k (.c (C.str []))))⟩,
    ⟨some 7, none, .p (.mv (.k (.c (C.bool false))))⟩] [1, 2, 3])
  (.seq (.seq (.region [⟨some 9, none, .h (.load 3 true (.t 3))⟩,
    ⟨some 10, none, .h (.call (.f 28) [.t 9])⟩,
    ⟨some 11, none, .p (.un .not (.t 10))⟩,
    ⟨some 12, none, .p (.mv (.t 11))⟩,
    ⟨some 13, some (12, false), .p (.mv (.t 1))⟩,
    ⟨some 14, some (12, false), .p (.fld 1 (.t 3))⟩,
    ⟨some 15, some (12, false), .h (.load 1 false (.t 14))⟩,
    ⟨some 16, some (12, false), .p (.lenStr (.t 15))⟩,
    ⟨some 17, some (12, false), .h (.call (.f 59) [.t 13, .k (.c (C.int .i64 0)), .t 16])⟩,
    ⟨some 18, some (12, false), .p (.un .not (.t 17))⟩,
    ⟨some 19, none, .p (.pick (.t 12) (.k (.c (C.bool true))) (.t 18))⟩] [1, 2, 3, 19])
  (.cond (.t 19)
  (.seq (.region [⟨some 6, none, .p (.mv (.k (.c (C.str []))))⟩,
    ⟨some 7, none, .p (.mv (.k (.c (C.bool false))))⟩] [6, 7])
  .ret)
  .skip))
  (.seq (.regionD [⟨some 20, none, .p (.fld 0 (.t 3))⟩,
    ⟨some 21, none, .h (.load 1 false (.t 20))⟩,
    ⟨some 22, none, .p (.fld 1 (.t 3))⟩,
    ⟨some 23, none, .h (.load 1 false (.t 22))⟩,
    ⟨some 24, none, .p (.mv (.t 1))⟩,
    ⟨some 25, none, .p (.slStr (.t 23) none (some (.t 24)))⟩,
    ⟨some 26, none, .p (.bin .add (.t 21) (.t 25))⟩,
    ⟨some 27, none, .h (.s2b (.t 26))⟩,
    ⟨some 8, none, .p (.mv (.t 27))⟩] [1, 2, 8] [])
  (.seq (.seq (.region [⟨some 28, none, .p (.mv (.t 2))⟩,
    ⟨some 29, none, .p (.mv (.t 28))⟩,
    ⟨some 30, some (29, true), .p (.mv (.t 1))⟩,
    ⟨some 31, some (29, true), .p (.bin .gtr (.t 30) (.k (.c (C.int .i64 0))))⟩,
    ⟨some 32, none, .p (.pick (.t 29) (.t 31) (.k (.c (C.bool false))))⟩] [8, 32])
  (.cond (.t 32)
  (.region [⟨some 33, none, .p (.mv (.t 8))⟩,
    ⟨some 34, none, .p (.mv (.t 8))⟩,
    ⟨some 35, none, .p (.len (.t 34))⟩,
    ⟨some 36, none, .p (.bin .sub (.t 35) (.k (.c (C.int .i64 1))))⟩,
    ⟨some 37, none, .p (.mv (.t 8))⟩,
    ⟨some 38, none, .p (.mv (.t 8))⟩,
    ⟨some 39, none, .p (.len (.t 38))⟩,
    ⟨some 40, none, .p (.bin .sub (.t 39) (.k (.c (C.int .i64 1))))⟩,
    ⟨some 41, none, .p (.ixS 1 (.t 37) (.t 40))⟩,
    ⟨some 42, none, .h (.load 1 false (.t 41))⟩,
    ⟨some 43, none, .p (.bin .sub (.k (.c (C.int .u8 255))) (.t 42))⟩,
    ⟨some 44, none, .p (.ixS 1 (.t 33) (.t 36))⟩,
    ⟨none, none, .h (.store 1 (.t 44) (.t 43))⟩] [8])
  .skip))
  (.seq (.region [⟨some 45, none, .p (.mv (.t 8))⟩,
    ⟨some 46, none, .h (.b2s (.t 45))⟩,
    ⟨some 6, none, .p (.mv (.t 46))⟩,
    ⟨some 7, none, .p (.mv (.k (.c (C.bool true))))⟩] [6, 7])
  .ret))))) }
theorem a36_ok : okFn Tryd.prog 36 a36 = true := by kernel_rfl
/-- loop.example/g01215/spec.CrashLog -/
def a37 : AFn := { np := 3, nt := 45, res := [.t 6, .t 7], body :=
  (.seq (.region [⟨some 3, none, .p (.box 3 (.t 0))⟩,
    ⟨some 6, none, .p (.mv (.k (.c (C.str []))))⟩,
    ⟨some 7, none, .p (.mv (.k (.c (C.bool false))))⟩] [1, 2, 3])
  (.seq (.seq (.region [⟨some 9, none, .h (.load 3 true (.t 3))⟩,
    ⟨some 10, none, .h (.call (.f 67) [.t 9])⟩,
    ⟨some 11, none, .p (.un .not (.t 10))⟩,
    ⟨some 12, none, .p (.mv (.t 11))⟩,
    ⟨some 13, some (12, false), .p (.mv (.t 1))⟩,
    ⟨some 14, some (12, false), .p (.fld 1 (.t 3))⟩,
    ⟨some 15, some (12, false), .h (.load 1 false (.t 14))⟩,
    ⟨some 16, some (12, false), .p (.lenStr (.t 15))⟩,
    ⟨some 17, some (12, false), .h (.call (.f 43) [.t 13, .k (.c (C.int .i64 0)), .t 16])⟩,
    ⟨some 18, some (12, false), .p (.un .not (.t 17))⟩,
    ⟨some 19, none, .p (.pick (.t 12) (.k (.c (C.bool true))) (.t 18))⟩] [1, 2, 3, 19])
  (.cond (.t 19)
  (.seq (.region [⟨some 6, none, .p (.mv (.k (.c (C.str []))))⟩,
    ⟨some 7, none, .p (.mv (.k (.c (C.bool false))))⟩] [6, 7])
  .ret)
  .skip))
  (.seq (.region [⟨some 20, none, .p (.fld 1 (.t 3))⟩,
    ⟨some 21, none, .h (.load 1 false (.t 20))⟩,
    ⟨some 22, none, .p (.mv (.t 1))⟩,
    ⟨some 23, none, .p (.slStr (.t 21) none (some (.t 22)))⟩,
    ⟨some 24, none, .h (.s2b (.t 23))⟩,
    ⟨some 8, none, .p (.mv (.t 24))⟩] [1, 2, 3, 8])
  (.seq (.seq (.region [⟨some 25, none, .p (.mv (.t 2))⟩,
    ⟨some 26, none, .p (.mv (.t 25))⟩,
    ⟨some 27, some (26, true), .p (.mv (.t 1))⟩,
    ⟨some 28, some (26, true), .p (.bin .gtr (.t 27) (.k (.c (C.int .i64 0))))⟩,
    ⟨some 29, none, .p (.pick (.t 26) (.t 28) (.k (.c (C.bool false))))⟩] [1, 3, 8, 29])
  (.cond (.t 29)
  (.region [⟨some 30, none, .p (.mv (.t 8))⟩,
    ⟨some 31, none, .p (.mv (.t 1))⟩,
    ⟨some 32, none, .p (.bin .sub (.t 31) (.k (.c (C.int .i64 1))))⟩,
    ⟨some 33, none, .p (.mv (.t 8))⟩,
    ⟨some 34, none, .p (.mv (.t 1))⟩,
    ⟨some 35, none, .p (.bin .sub (.t 34) (.k (.c (C.int .i64 1))))⟩,
    ⟨some 36, none, .p (.ixS 1 (.t 33) (.t 35))⟩,
    ⟨some 37, none, .h (.load 1 false (.t 36))⟩,
    ⟨some 38, none, .p (.bin .sub (.k (.c (C.int .u8 255))) (.t 37))⟩,
    ⟨some 39, none, .p (.ixS 1 (.t 30) (.t 32))⟩,
    ⟨none, none, .h (.store 1 (.t 39) (.t 38))⟩] [3, 8])
  .skip))
  (.seq (.region [⟨some 40, none, .p (.fld 0 (.t 3))⟩,
    ⟨some 41, none, .h (.load 1 false (.t 40))⟩,
    ⟨some 42, none, .p (.mv (.t 8))⟩,
    ⟨some 43, none, .h (.b2s (.t 42))⟩,
    ⟨some 44, none, .p (.bin .add (.t 41) (.t 43))⟩,
    ⟨some 6, none, .p (.mv (.t 44))⟩,
    ⟨some 7, none, .p (.mv (.k (.c (C.bool true))))⟩] [6, 7])
  .ret))))) }
theorem a37_ok : okFn Tryd.prog 37 a37 = true := by kernel_rfl
/-- loop.example/g01215/spec.DrawRecoverLog -/
def a38 : AFn := { np := 1, nt := 49, res := [.t 2], body :=
  (.seq (.region [⟨some 2, none, .p (.mv (.k (.c (C.str []))))⟩] [0])
  (.seq (.region [⟨some 6, none, .p (.mv (.t 0))⟩,
    ⟨some 7, none, .p (.build [.sl 1, .k (C.int .i64 0), .k (C.int .u64 0)] [(0, 1, .t 6)])⟩,
    ⟨some 8, none, .p (.box 3 (.t 7))⟩,
    ⟨some 3, none, .p (.mv (.t 8))⟩] [3])
  (.seq (.region [⟨some 9, none, .p (.mv (.t 3))⟩,
    ⟨some 10, none, .h (.call (.f 72) [.t 9])⟩,
    ⟨some 4, none, .p (.alloc [.k (C.str []), .k (C.str []), .k (C.int .i64 0)])⟩,
    ⟨none, none, .h (.store 3 (.t 4) (.t 10))⟩] [3, 4])
  (.seq (.region [⟨some 11, none, .p (.fld 0 (.t 4))⟩,
    ⟨some 12, none, .h (.load 1 false (.t 11))⟩,
    ⟨some 13, none, .p (.fld 1 (.t 4))⟩,
    ⟨some 14, none, .h (.load 1 false (.t 13))⟩,
    ⟨some 15, none, .p (.bin .add (.t 12) (.t 14))⟩,
    ⟨some 5, none, .p (.mv (.t 15))⟩] [3, 5])
  (.seq (.seq (.region [⟨some 16, none, .p (.mv (.t 3))⟩,
    ⟨some 17, none, .h (.call (.f 66) [.t 16, .k (.c (C.int .i64 4))])⟩] [3, 5, 17])
  (.block 0 (.seq (.region [⟨some 19, none, .p (.bin .eql (.t 17) (.k (.c (C.int .i64 0))))⟩,
    ⟨some 18, none, .p (.mv (.t 19))⟩] [3, 5, 17, 18])
  (.cond (.t 18)
  (.region [⟨some 20, none, .p (.mv (.t 3))⟩,
    ⟨some 21, none, .p (.mv (.t 5))⟩,
    ⟨some 22, none, .h (.call (.f 73) [.t 20, .t 21, .k (.c (C.str [35, 64, 10, 48, 49]))])⟩,
    ⟨some 5, none, .p (.mv (.t 22))⟩] [3, 5])
  (.seq (.region [⟨some 24, none, .p (.bin .eql (.t 17) (.k (.c (C.int .i64 1))))⟩,
    ⟨some 23, none, .p (.mv (.t 24))⟩] [3, 5, 17, 23])
  (.cond (.t 23)
  (.region [⟨some 25, none, .p (.mv (.t 5))⟩,
    ⟨some 26, none, .p (.mv (.t 3))⟩,
    ⟨some 27, none, .p (.mv (.t 5))⟩,
    ⟨some 28, none, .p (.lenStr (.t 27))⟩,
    ⟨some 29, none, .p (.bin .add (.t 28) (.k (.c (C.int .i64 1))))⟩,
    ⟨some 30, none, .h (.call (.f 66) [.t 26, .t 29])⟩,
    ⟨some 31, none, .p (.slStr (.t 25) none (some (.t 30)))⟩,
    ⟨some 5, none, .p (.mv (.t 31))⟩] [3, 5])
  (.seq (.region [⟨some 33, none, .p (.bin .eql (.t 17) (.k (.c (C.int .i64 2))))⟩,
    ⟨some 32, none, .p (.mv (.t 33))⟩] [3, 5, 32])
  (.cond (.t 32)
  (.region [⟨some 34, none, .p (.mv (.t 5))⟩,
    ⟨some 35, none, .p (.mv (.t 3))⟩,
    ⟨some 36, none, .h (.call (.f 66) [.t 35, .k (.c (C.int .i64 4))])⟩,
    ⟨some 37, none, .p (.mv (.t 3))⟩,
    ⟨some 38, none, .h (.call (.f 57) [.t 37])⟩,
    ⟨some 39, none, .h (.call (.f 63) [.t 36, .t 38])⟩,
    ⟨some 40, none, .p (.bin .add (.t 34) (.t 39))⟩,
    ⟨some 5, none, .p (.mv (.t 40))⟩] [3, 5])
  .skip))))))))
  (.seq (.seq (.region [⟨some 41, none, .p (.mv (.t 3))⟩,
    ⟨some 42, none, .h (.call (.f 65) [.t 41, .k (.c (C.int .i64 40))])⟩] [3, 5, 42])
  (.cond (.t 42)
  (.region [⟨some 43, none, .p (.mv (.t 3))⟩,
    ⟨some 44, none, .h (.call (.f 66) [.t 43, .k (.c (C.int .i64 2))])⟩,
    ⟨some 45, none, .p (.bin .add (.k (.c (C.int .i64 30000))) (.t 44))⟩,
    ⟨some 46, none, .p (.mkslice 1 [.k (C.int .u8 0)] (.t 45) (.t 45))⟩,
    ⟨some 47, none, .h (.b2s (.t 46))⟩,
    ⟨some 5, none, .p (.mv (.t 47))⟩] [5])
  .skip))
  (.seq (.region [⟨some 48, none, .p (.mv (.t 5))⟩,
    ⟨some 2, none, .p (.mv (.t 48))⟩] [2])
  .ret))))))) }
theorem a38_ok : okFn Tryd.prog 38 a38 = true := by kernel_rfl
/-- loop.example/g01215/impl.RecoverLog -/
def a39 : AFn := { np := 1, nt := 23, res := [.cell 2 3 true, .t 3, .t 4], body :=
  (.seq (.region [⟨some 2, none, .p (.alloc [.k (C.str []), .k (C.str []), .k (C.int .i64 0)])⟩,
    ⟨some 3, none, .p (.mv (.k (.c (C.int .i64 0))))⟩,
    ⟨some 4, none, .p (.mv (.k (.c (C.bool false))))⟩] [0, 2])
  (.seq (.seq (.region [⟨some 7, none, .p (.mv (.t 0))⟩,
    ⟨some 8, none, .p (.lenStr (.t 7))⟩,
    ⟨some 9, none, .p (.bin .gtr (.t 8) (.k (.c (C.int .i64 30000))))⟩] [0, 2, 9])
  (.cond (.t 9)
  (.seq (.region [⟨some 10, none, .p (.build [.k (C.str []), .k (C.str []), .k (C.int .i64 0)] [])⟩,
    ⟨none, none, .h (.store 3 (.t 2) (.t 10))⟩,
    ⟨some 3, none, .p (.mv (.k (.c (C.int .i64 0))))⟩,
    ⟨some 4, none, .p (.mv (.k (.c (C.bool false))))⟩] [2, 3, 4])
  .ret)
  .skip))
  (.seq (.region [⟨some 12, none, .p (.mv (.t 0))⟩,
    ⟨some 13, none, .h (.call (.f 74) [.t 12])⟩,
    ⟨some 11, none, .p (.mv (.t 13))⟩,
    ⟨some 14, none, .p (.ext (.t 11) 0)⟩,
    ⟨some 15, none, .p (.ext (.t 11) 1)⟩,
    ⟨some 5, none, .p (.mv (.t 14))⟩,
    ⟨some 6, none, .p (.mv (.t 15))⟩] [0, 2, 5, 6])
  (.seq (.region [⟨some 16, none, .p (.mv (.t 0))⟩,
    ⟨some 17, none, .p (.mv (.t 6))⟩,
    ⟨some 18, none, .p (.slStr (.t 16) none (some (.t 17)))⟩,
    ⟨some 19, none, .p (.mv (.t 5))⟩,
    ⟨some 20, none, .p (.len (.t 19))⟩,
    ⟨some 21, none, .p (.build [.k (C.str []), .k (C.str []), .k (C.int .i64 0)] [(0, 1, .t 18), (1, 1, .k (.c (C.str []))), (2, 1, .t 20)])⟩,
    ⟨some 22, none, .p (.mv (.t 6))⟩,
    ⟨none, none, .h (.store 3 (.t 2) (.t 21))⟩,
    ⟨some 3, none, .p (.mv (.t 22))⟩,
    ⟨some 4, none, .p (.mv (.k (.c (C.bool true))))⟩] [2, 3, 4])
  .ret)))) }
theorem a39_ok : okFn Tryd.prog 39 a39 = true := by kernel_rfl
/-- loop.example/g01215/spec.RecoverLog -/
def a40 : AFn := { np := 1, nt := 23, res := [.cell 2 3 true, .t 3, .t 4], body :=
  (.seq (.region [⟨some 2, none, .p (.alloc [.k (C.str []), .k (C.str []), .k (C.int .i64 0)])⟩,
    ⟨some 3, none, .p (.mv (.k (.c (C.int .i64 0))))⟩,
    ⟨some 4, none, .p (.mv (.k (.c (C.bool false))))⟩] [0, 2])
  (.seq (.seq (.region [⟨some 7, none, .p (.mv (.t 0))⟩,
    ⟨some 8, none, .p (.lenStr (.t 7))⟩,
    ⟨some 9, none, .p (.bin .gtr (.t 8) (.k (.c (C.int .i64 30000))))⟩] [0, 2, 9])
  (.cond (.t 9)
  (.seq (.region [⟨some 10, none, .p (.build [.k (C.str []), .k (C.str []), .k (C.int .i64 0)] [])⟩,
    ⟨none, none, .h (.store 3 (.t 2) (.t 10))⟩,
    ⟨some 3, none, .p (.mv (.k (.c (C.int .i64 0))))⟩,
    ⟨some 4, none, .p (.mv (.k (.c (C.bool false))))⟩] [2, 3, 4])
  .ret)
  .skip))
  (.seq (.region [⟨some 12, none, .p (.mv (.t 0))⟩,
    ⟨some 13, none, .h (.call (.f 71) [.t 12])⟩,
    ⟨some 11, none, .p (.mv (.t 13))⟩,
    ⟨some 14, none, .p (.ext (.t 11) 0)⟩,
    ⟨some 15, none, .p (.ext (.t 11) 1)⟩,
    ⟨some 5, none, .p (.mv (.t 14))⟩,
    ⟨some 6, none, .p (.mv (.t 15))⟩] [0, 2, 5, 6])
  (.seq (.region [⟨some 16, none, .p (.mv (.t 0))⟩,
    ⟨some 17, none, .p (.mv (.t 6))⟩,
    ⟨some 18, none, .p (.slStr (.t 16) none (some (.t 17)))⟩,
    ⟨some 19, none, .p (.mv (.t 5))⟩,
    ⟨some 20, none, .p (.len (.t 19))⟩,
    ⟨some 21, none, .p (.build [.k (C.str []), .k (C.str []), .k (C.int .i64 0)] [(0, 1, .t 18), (2, 1, .t 20)])⟩,
    ⟨some 22, none, .p (.mv (.t 6))⟩,
    ⟨none, none, .h (.store 3 (.t 2) (.t 21))⟩,
    ⟨some 3, none, .p (.mv (.t 22))⟩,
    ⟨some 4, none, .p (.mv (.k (.c (C.bool true))))⟩] [2, 3, 4])
  .ret)))) }
theorem a40_ok : okFn Tryd.prog 40 a40 = true := by kernel_rfl
/-- loop.example/g01215/spec.l1Split -/
def a41 : AFn := { np := 2, nt := 35, res := [.t 4], body :=
  (.seq (.region [⟨some 4, none, .p (.nilsl 1)⟩] [0, 1])
  (.seq (.region [⟨some 8, none, .p (.mksl 1 0 [.k (C.str [])] [])⟩,
    ⟨some 5, none, .p (.mv (.t 8))⟩] [0, 1, 5])
  (.seq (.region [⟨some 6, none, .p (.mv (.k (.c (C.int .i64 0))))⟩] [0, 1, 5, 6])
  (.seq (.seq (.region [⟨some 7, none, .p (.mv (.k (.c (C.int .i64 0))))⟩] [0, 1, 5, 6, 7])
  (.block 0 (.loop (.seq (.seq (.region [⟨some 9, none, .p (.mv (.t 7))⟩,
    ⟨some 10, none, .p (.mv (.t 0))⟩,
    ⟨some 11, none, .p (.lenStr (.t 10))⟩,
    ⟨some 12, none, .p (.bin .lss (.t 9) (.t 11))⟩] [0, 1, 5, 6, 7, 12])
  (.cond (.t 12)
  .skip
  (.exit 0)))
  (.seq (.block 1 (.seq (.region [⟨some 15, none, .p (.mv (.t 0))⟩,
    ⟨some 16, none, .p (.mv (.t 7))⟩,
    ⟨some 17, none, .p (.ixStr (.t 15) (.t 16))⟩,
    ⟨some 18, none, .p (.mv (.t 1))⟩,
    ⟨some 19, none, .p (.bin .eql (.t 17) (.t 18))⟩] [0, 1, 5, 6, 7, 19])
  (.cond (.t 19)
  (.seq (.region [⟨some 20, none, .p (.mv (.t 5))⟩,
    ⟨some 21, none, .p (.mv (.t 0))⟩,
    ⟨some 22, none, .p (.mv (.t 6))⟩,
    ⟨some 23, none, .p (.mv (.t 7))⟩,
    ⟨some 24, none, .p (.slStr (.t 21) (some (.t 22)) (some (.t 23)))⟩,
    ⟨some 25, none, .p (.mksl 1 1 [.k (C.str [])] [(0, 1, .t 24)])⟩,
    ⟨some 26, none, .h (.app 1 (.t 20) (.t 25))⟩,
    ⟨some 5, none, .p (.mv (.t 26))⟩] [0, 1, 5, 7])
  (.region [⟨some 27, none, .p (.mv (.t 7))⟩,
    ⟨some 28, none, .p (.bin .add (.t 27) (.k (.c (C.int .i64 1))))⟩,
    ⟨some 6, none, .p (.mv (.t 28))⟩] [0, 1, 5, 6, 7]))
  .skip)))
  (.region [⟨some 13, none, .p (.mv (.t 7))⟩,
    ⟨some 14, none, .p (.bin .add (.t 13) (.k (.c (C.int .i64 1))))⟩,
    ⟨some 7, none, .p (.mv (.t 14))⟩] [0, 1, 5, 6, 7]))) [0, 1, 5, 6, 7])))
  (.seq (.region [⟨some 29, none, .p (.mv (.t 5))⟩,
    ⟨some 30, none, .p (.mv (.t 0))⟩,
    ⟨some 31, none, .p (.mv (.t 6))⟩,
    ⟨some 32, none, .p (.slStr (.t 30) (some (.t 31)) none)⟩,
    ⟨some 33, none, .p (.mksl 1 1 [.k (C.str [])] [(0, 1, .t 32)])⟩,
    ⟨some 34, none, .h (.app 1 (.t 29) (.t 33))⟩,
    ⟨some 4, none, .p (.mv (.t 34))⟩] [4])
  .ret))))) }
theorem a41_ok : okFn Tryd.prog 41 a41 = true := by kernel_rfl
/-- loop.example/g01215/spec.l2Parse -/
def a42 : AFn := { np := 1, nt := 55, res := [.cell 2 24 true, .t 3], body :=
  (.seq (.region [⟨some 2, none, .p (.alloc (List.replicate 24 (.k (C.int .i64 0))))⟩,
    ⟨some 3, none, .p (.mv (.k (.c (C.bool false))))⟩] [0, 2])
  (.seq (.region [⟨some 7, none, .p (.build (List.replicate 24 (.k (C.int .i64 0))) [])⟩,
    ⟨some 4, none, .p (.alloc (List.replicate 24 (.k (C.int .i64 0))))⟩,
    ⟨none, none, .h (.store 24 (.t 4) (.t 7))⟩] [0, 2, 4])
  (.seq (.seq (.region [⟨some 8, none, .p (.mv (.t 0))⟩,
    ⟨some 9, none, .p (.lenStr (.t 8))⟩,
    ⟨some 10, none, .p (.bin .neq (.t 9) (.k (.c (C.int .i64 29))))⟩] [0, 2, 4, 10])
  (.cond (.t 10)
  (.seq (.region [⟨some 11, none, .p (.build (List.replicate 24 (.k (C.int .i64 0))) [])⟩,
    ⟨none, none, .h (.store 24 (.t 2) (.t 11))⟩,
    ⟨some 3, none, .p (.mv (.k (.c (C.bool false))))⟩] [2, 3])
  .ret)
  .skip))
  (.seq (.seq (.region [⟨some 5, none, .p (.mv (.k (.c (C.int .i64 0))))⟩] [0, 2, 4, 5])
  (.block 0 (.loop (.seq (.seq (.region [⟨some 12, none, .p (.mv (.t 5))⟩,
    ⟨some 13, none, .p (.bin .lss (.t 12) (.k (.c (C.int .i64 29))))⟩] [0, 2, 4, 5, 13])
  (.cond (.t 13)
  .skip
  (.exit 0)))
  (.seq (.block 1 (.seq (.region [⟨some 16, none, .p (.mv (.t 0))⟩,
    ⟨some 17, none, .p (.mv (.t 5))⟩,
    ⟨some 18, none, .p (.ixStr (.t 16) (.t 17))⟩,
    ⟨some 19, none, .h (.call (.f 75) [.t 18])⟩,
    ⟨some 6, none, .p (.mv (.t 19))⟩] [0, 2, 4, 5, 6])
  (.seq (.seq (.region [⟨some 20, none, .p (.mv (.t 5))⟩,
    ⟨some 21, none, .p (.bin .rem (.t 20) (.k (.c (C.int .i64 5))))⟩,
    ⟨some 22, none, .p (.bin .eql (.t 21) (.k (.c (C.int .i64 4))))⟩,
    ⟨some 23, none, .p (.mv (.t 22))⟩,
    ⟨some 24, some (23, true), .p (.mv (.t 0))⟩,
    ⟨some 25, some (23, true), .p (.mv (.t 5))⟩,
    ⟨some 26, some (23, true), .p (.ixStr (.t 24) (.t 25))⟩,
    ⟨some 27, some (23, true), .p (.bin .neq (.t 26) (.k (.c (C.int .u8 47))))⟩,
    ⟨some 28, none, .p (.pick (.t 23) (.t 27) (.k (.c (C.bool false))))⟩,
    ⟨some 29, none, .p (.mv (.t 28))⟩,
    ⟨some 30, some (29, false), .p (.mv (.t 5))⟩,
    ⟨some 31, some (29, false), .p (.bin .rem (.t 30) (.k (.c (C.int .i64 5))))⟩,
    ⟨some 32, some (29, false), .p (.bin .lss (.t 31) (.k (.c (C.int .i64 4))))⟩,
    ⟨some 33, some (29, false), .p (.mv (.t 32))⟩,
    ⟨some 34, some (33, true), .p (.mv (.t 6))⟩,
    ⟨some 35, some (33, true), .p (.bin .lss (.t 34) (.k (.c (C.int .i64 0))))⟩,
    ⟨some 36, some (29, false), .p (.pick (.t 33) (.t 35) (.k (.c (C.bool false))))⟩,
    ⟨some 37, none, .p (.pick (.t 29) (.k (.c (C.bool true))) (.t 36))⟩] [0, 2, 4, 5, 6, 37])
  (.cond (.t 37)
  (.seq (.region [⟨some 38, none, .p (.build (List.replicate 24 (.k (C.int .i64 0))) [])⟩,
    ⟨none, none, .h (.store 24 (.t 2) (.t 38))⟩,
    ⟨some 3, none, .p (.mv (.k (.c (C.bool false))))⟩] [2, 3])
  .ret)
  .skip))
  (.seq (.region [⟨some 39, none, .p (.mv (.t 5))⟩,
    ⟨some 40, none, .p (.bin .rem (.t 39) (.k (.c (C.int .i64 5))))⟩,
    ⟨some 41, none, .p (.bin .lss (.t 40) (.k (.c (C.int .i64 4))))⟩] [0, 2, 4, 5, 6, 41])
  (.cond (.t 41)
  (.region [⟨some 42, none, .p (.mv (.t 5))⟩,
    ⟨some 43, none, .p (.bin .quo (.t 42) (.k (.c (C.int .i64 5))))⟩,
    ⟨some 44, none, .p (.mv (.t 5))⟩,
    ⟨some 45, none, .p (.bin .rem (.t 44) (.k (.c (C.int .i64 5))))⟩,
    ⟨some 46, none, .p (.mv (.t 6))⟩,
    ⟨some 47, none, .p (.fld 0 (.t 4))⟩,
    ⟨some 48, none, .p (.ixA 6 4 (.t 47) (.t 43))⟩,
    ⟨some 49, none, .p (.ixA 4 1 (.t 48) (.t 45))⟩,
    ⟨none, none, .h (.store 1 (.t 49) (.t 46))⟩] [0, 2, 4, 5])
  .skip)))))
  (.region [⟨some 14, none, .p (.mv (.t 5))⟩,
    ⟨some 15, none, .p (.bin .add (.t 14) (.k (.c (C.int .i64 1))))⟩,
    ⟨some 5, none, .p (.mv (.t 15))⟩] [0, 2, 4, 5]))) [0, 2, 4, 5])))
  (.seq (.seq (.region [⟨some 50, none, .h (.load 24 true (.t 4))⟩,
    ⟨some 51, none, .h (.call (.f 76) [.t 50])⟩,
    ⟨some 52, none, .p (.un .not (.t 51))⟩] [2, 4, 52])
  (.cond (.t 52)
  (.seq (.region [⟨some 53, none, .p (.build (List.replicate 24 (.k (C.int .i64 0))) [])⟩,
    ⟨none, none, .h (.store 24 (.t 2) (.t 53))⟩,
    ⟨some 3, none, .p (.mv (.k (.c (C.bool false))))⟩] [2, 3])
  .ret)
  .skip))
  (.seq (.region [⟨some 54, none, .h (.load 24 true (.t 4))⟩,
    ⟨none, none, .h (.store 24 (.t 2) (.t 54))⟩,
    ⟨some 3, none, .p (.mv (.k (.c (C.bool true))))⟩] [2, 3])
  .ret)))))) }
theorem a42_ok : okFn Tryd.prog 42 a42 = true := by kernel_rfl
/-- loop.example/g01215/spec.l1In -/
def a43 : AFn := { np := 3, nt := 15, res := [.t 6], body :=
  (.seq (.region [⟨some 6, none, .p (.mv (.k (.c (C.bool false))))⟩] [0, 1, 2])
  (.seq (.region [⟨some 7, none, .p (.mv (.t 0))⟩,
    ⟨some 8, none, .p (.mv (.t 1))⟩,
    ⟨some 9, none, .p (.bin .geq (.t 7) (.t 8))⟩,
    ⟨some 10, none, .p (.mv (.t 9))⟩,
    ⟨some 11, some (10, true), .p (.mv (.t 0))⟩,
    ⟨some 12, some (10, true), .p (.mv (.t 2))⟩,
    ⟨some 13, some (10, true), .p (.bin .leq (.t 11) (.t 12))⟩,
    ⟨some 14, none, .p (.pick (.t 10) (.t 13) (.k (.c (C.bool false))))⟩,
    ⟨some 6, none, .p (.mv (.t 14))⟩] [6])
  .ret)) }
theorem a43_ok : okFn Tryd.prog 43 a43 = true := by kernel_rfl
/-- loop.example/g01215/spec.IsReplay -/
def a44 : AFn := { np := 1, nt := 11, res := [.t 2], body :=
  (.seq (.region [⟨some 1, none, .p (.box 25 (.t 0))⟩,
    ⟨some 2, none, .p (.mv (.k (.c (C.bool false))))⟩] [1])
  (.seq (.region [⟨some 6, none, .h (.load 25 true (.t 1))⟩,
    ⟨some 7, none, .h (.call (.f 77) [.t 6])⟩,
    ⟨some 5, none, .p (.mv (.t 7))⟩,
    ⟨some 8, none, .p (.ext (.t 5) 0)⟩,
    ⟨some 9, none, .p (.ext (.t 5) 1)⟩,
    ⟨some 3, none, .p (.mv (.t 8))⟩,
    ⟨some 4, none, .p (.mv (.t 9))⟩] [4])
  (.seq (.region [⟨some 10, none, .p (.mv (.t 4))⟩,
    ⟨some 2, none, .p (.mv (.t 10))⟩] [2])
  .ret))) }
theorem a44_ok : okFn Tryd.prog 44 a44 = true := by kernel_rfl
/-- loop.example/g01215/impl.parseRack -/
def a46 : AFn := { np := 1, nt := 62, res := [.cell 2 24 true, .t 3], body :=
  (.seq (.region [⟨some 2, none, .p (.alloc (List.replicate 24 (.k (C.int .i64 0))))⟩,
    ⟨some 3, none, .p (.mv (.k (.c (C.bool false))))⟩] [0, 2])
  (.seq (.region [⟨some 10, none, .p (.mv (.t 0))⟩,
    ⟨some 11, none, .h (.call (.f 45) [.t 10, .k (.c (C.str [47]))])⟩,
    ⟨some 4, none, .p (.mv (.t 11))⟩] [2, 4])
  (.seq (.seq (.region [⟨some 12, none, .p (.mv (.t 4))⟩,
    ⟨some 13, none, .p (.len (.t 12))⟩,
    ⟨some 14, none, .p (.bin .neq (.t 13) (.k (.c (C.int .i64 6))))⟩] [2, 4, 14])
  (.cond (.t 14)
  (.seq (.region [⟨some 15, none, .p (.build (List.replicate 24 (.k (C.int .i64 0))) [])⟩,
    ⟨none, none, .h (.store 24 (.t 2) (.t 15))⟩,
    ⟨some 3, none, .p (.mv (.k (.c (C.bool false))))⟩] [2, 3])
  .ret)
  .skip))
  (.seq (.region [⟨some 5, none, .p (.alloc (List.replicate 24 (.k (C.int .i64 0))))⟩] [2, 4, 5])
  (.seq (.seq (.region [⟨some 16, none, .p (.mv (.t 4))⟩,
    ⟨some 17, none, .p (.len (.t 16))⟩,
    ⟨some 18, none, .p (.mv (.k (.c (C.int .i64 0))))⟩] [2, 5, 16, 17, 18])
  (.block 0 (.loop (.seq (.region [⟨some 19, none, .p (.bin .lss (.t 18) (.t 17))⟩] [2, 5, 16, 17, 18, 19])
  (.seq (.cond (.t 19)
  .skip
  (.exit 0))
  (.seq (.block 1 (.seq (.region [⟨some 20, none, .p (.mv (.t 18))⟩,
    ⟨some 21, none, .p (.ixS 1 (.t 16) (.t 18))⟩,
    ⟨some 22, none, .h (.load 1 false (.t 21))⟩,
    ⟨some 6, none, .p (.mv (.t 20))⟩,
    ⟨some 7, none, .p (.mv (.t 22))⟩] [2, 5, 6, 7, 16, 17, 18])
  (.seq (.seq (.region [⟨some 23, none, .p (.mv (.t 7))⟩,
    ⟨some 24, none, .p (.lenStr (.t 23))⟩,
    ⟨some 25, none, .p (.bin .neq (.t 24) (.k (.c (C.int .i64 4))))⟩] [2, 5, 6, 7, 16, 17, 18, 25])
  (.cond (.t 25)
  (.seq (.region [⟨some 26, none, .p (.build (List.replicate 24 (.k (C.int .i64 0))) [])⟩,
    ⟨none, none, .h (.store 24 (.t 2) (.t 26))⟩,
    ⟨some 3, none, .p (.mv (.k (.c (C.bool false))))⟩] [2, 3])
  .ret)
  .skip))
  (.seq (.region [⟨some 27, none, .p (.mv (.t 7))⟩,
    ⟨some 28, none, .h (.s2b (.t 27))⟩,
    ⟨some 29, none, .p (.len (.t 28))⟩,
    ⟨some 30, none, .p (.mv (.k (.c (C.int .i64 0))))⟩] [2, 5, 6, 16, 17, 18, 28, 29, 30])
  (.block 2 (.loop (.seq (.region [⟨some 31, none, .p (.bin .lss (.t 30) (.t 29))⟩] [2, 5, 6, 16, 17, 18, 28, 29, 30, 31])
  (.seq (.cond (.t 31)
  .skip
  (.exit 2))
  (.seq (.block 3 (.seq (.region [⟨some 32, none, .p (.mv (.t 30))⟩,
    ⟨some 33, none, .p (.ixS 1 (.t 28) (.t 30))⟩,
    ⟨some 34, none, .h (.load 1 false (.t 33))⟩,
    ⟨some 8, none, .p (.mv (.t 32))⟩,
    ⟨some 9, none, .p (.mv (.t 34))⟩] [2, 5, 6, 8, 9, 16, 17, 18, 28, 29, 30])
  (.block 4 (.seq (.region [⟨some 36, none, .p (.mv (.t 9))⟩,
    ⟨some 37, none, .p (.bin .geq (.t 36) (.k (.c (C.int .u8 97))))⟩,
    ⟨some 38, none, .p (.mv (.t 37))⟩,
    ⟨some 39, some (38, true), .p (.mv (.t 9))⟩,
    ⟨some 40, some (38, true), .p (.bin .lss (.t 39) (.k (.c (C.int .u8 102))))⟩,
    ⟨some 41, none, .p (.pick (.t 38) (.t 40) (.k (.c (C.bool false))))⟩,
    ⟨some 35, none, .p (.mv (.t 41))⟩] [2, 5, 6, 8, 9, 16, 17, 18, 28, 29, 30, 35])
  (.cond (.t 35)
  (.region [⟨some 42, none, .p (.mv (.t 6))⟩,
    ⟨some 43, none, .p (.mv (.t 8))⟩,
    ⟨some 44, none, .p (.mv (.t 9))⟩,
    ⟨some 45, none, .p (.bin .sub (.t 44) (.k (.c (C.int .u8 97))))⟩,
    ⟨some 46, none, .p (.conv .i64 (.t 45))⟩,
    ⟨some 47, none, .p (.bin .add (.t 46) (.k (.c (C.int .i64 1))))⟩,
    ⟨some 48, none, .p (.fld 0 (.t 5))⟩,
    ⟨some 49, none, .p (.ixA 6 4 (.t 48) (.t 42))⟩,
    ⟨some 50, none, .p (.ixA 4 1 (.t 49) (.t 43))⟩,
    ⟨none, none, .h (.store 1 (.t 50) (.t 47))⟩] [2, 5, 6, 16, 17, 18, 28, 29, 30])
  (.seq (.region [⟨some 52, none, .p (.mv (.t 9))⟩,
    ⟨some 53, none, .p (.bin .neq (.t 52) (.k (.c (C.int .u8 46))))⟩,
    ⟨some 51, none, .p (.mv (.t 53))⟩] [2, 5, 6, 16, 17, 18, 28, 29, 30, 51])
  (.cond (.t 51)
  (.seq (.region [⟨some 54, none, .p (.build (List.replicate 24 (.k (C.int .i64 0))) [])⟩,
    ⟨none, none, .h (.store 24 (.t 2) (.t 54))⟩,
    ⟨some 3, none, .p (.mv (.k (.c (C.bool false))))⟩] [2, 3])
  .ret)
  .skip)))))))
  (.region [⟨some 55, none, .p (.bin .add (.t 30) (.k (.c (C.int .i64 1))))⟩,
    ⟨some 30, none, .p (.mv (.t 55))⟩] [2, 5, 6, 16, 17, 18, 28, 29, 30])))) [2, 5, 6, 16, 17, 18, 28, 29, 30]))))))
  (.region [⟨some 56, none, .p (.bin .add (.t 18) (.k (.c (C.int .i64 1))))⟩,
    ⟨some 18, none, .p (.mv (.t 56))⟩] [2, 5, 16, 17, 18])))) [2, 5, 16, 17, 18])))
  (.seq (.seq (.region [⟨some 57, none, .h (.load 24 true (.t 5))⟩,
    ⟨some 58, none, .h (.call (.f 79) [.t 57])⟩,
    ⟨some 59, none, .p (.un .not (.t 58))⟩] [2, 5, 59])
  (.cond (.t 59)
  (.seq (.region [⟨some 60, none, .p (.build (List.replicate 24 (.k (C.int .i64 0))) [])⟩,
    ⟨none, none, .h (.store 24 (.t 2) (.t 60))⟩,
    ⟨some 3, none, .p (.mv (.k (.c (C.bool false))))⟩] [2, 3])
  .ret)
  .skip))
  (.seq (.region [⟨some 61, none, .h (.load 24 true (.t 5))⟩,
    ⟨none, none, .h (.store 24 (.t 2) (.t 61))⟩,
    ⟨some 3, none, .p (.mv (.k (.c (C.bool true))))⟩] [2, 3])
  .ret))))))) }
theorem a46_ok : okFn Tryd.prog 46 a46 = true := by kernel_rfl
/-- loop.example/g01215/impl.IsReplay -/
def a47 : AFn := { np := 1, nt := 11, res := [.t 2], body :=
  (.seq (.region [⟨some 1, none, .p (.box 25 (.t 0))⟩,
    ⟨some 2, none, .p (.mv (.k (.c (C.bool false))))⟩] [1])
  (.seq (.region [⟨some 6, none, .h (.load 25 true (.t 1))⟩,
    ⟨some 7, none, .h (.call (.f 80) [.t 6])⟩,
    ⟨some 5, none, .p (.mv (.t 7))⟩,
    ⟨some 8, none, .p (.ext (.t 5) 0)⟩,
    ⟨some 9, none, .p (.ext (.t 5) 1)⟩,
    ⟨some 3, none, .p (.mv (.t 8))⟩,
    ⟨some 4, none, .p (.mv (.t 9))⟩] [4])
  (.seq (.region [⟨some 10, none, .p (.mv (.t 4))⟩,
    ⟨some 2, none, .p (.mv (.t 10))⟩] [2])
  .ret))) }
theorem a47_ok : okFn Tryd.prog 47 a47 = true := by kernel_rfl
/-- loop.example/g01215/laws.eqRack -/
def a48 : AFn := { np := 2, nt := 11, res := [.t 4], body :=
  (.seq (.region [⟨some 2, none, .p (.box 24 (.t 0))⟩,
    ⟨some 3, none, .p (.box 24 (.t 1))⟩,
    ⟨some 4, none, .p (.mv (.k (.c (C.bool false))))⟩] [2, 3])
  (.seq (.seq (.region [⟨some 5, none, .p (.fld 0 (.t 2))⟩,
    ⟨some 6, none, .h (.load 24 true (.t 5))⟩,
    ⟨some 7, none, .p (.fld 0 (.t 3))⟩,
    ⟨some 8, none, .h (.load 24 true (.t 7))⟩,
    ⟨some 9, none, .h (.call (.f 81) [.t 6, .t 8])⟩,
    ⟨some 10, none, .p (.un .not (.t 9))⟩] [10])
  (.cond (.t 10)
  (.seq (.region [⟨some 4, none, .p (.mv (.k (.c (C.bool false))))⟩] [4])
  .ret)
  .skip))
  (.seq (.region [⟨some 4, none, .p (.mv (.k (.c (C.bool true))))⟩] [4])
  .ret))) }
theorem a48_ok : okFn Tryd.prog 48 a48 = true := by kernel_rfl
/-- loop.example/g01215/laws.eqIntA2S -/
def a49 : AFn := { np := 2, nt := 27, res := [.t 4], body :=
  (.seq (.region [⟨some 4, none, .p (.mv (.k (.c (C.bool false))))⟩] [0, 1])
  (.seq (.seq (.region [⟨some 6, none, .p (.mv (.t 0))⟩,
    ⟨some 7, none, .p (.len (.t 6))⟩,
    ⟨some 8, none, .p (.mv (.t 1))⟩,
    ⟨some 9, none, .p (.len (.t 8))⟩,
    ⟨some 10, none, .p (.bin .neq (.t 7) (.t 9))⟩] [0, 1, 10])
  (.cond (.t 10)
  (.seq (.region [⟨some 4, none, .p (.mv (.k (.c (C.bool false))))⟩] [4])
  .ret)
  .skip))
  (.seq (.seq (.region [⟨some 5, none, .p (.mv (.k (.c (C.int .i64 0))))⟩] [0, 1, 5])
  (.block 0 (.loop (.seq (.seq (.region [⟨some 11, none, .p (.mv (.t 5))⟩,
    ⟨some 12, none, .p (.mv (.t 0))⟩,
    ⟨some 13, none, .p (.len (.t 12))⟩,
    ⟨some 14, none, .p (.bin .lss (.t 11) (.t 13))⟩] [0, 1, 5, 14])
  (.cond (.t 14)
  .skip
  (.exit 0)))
  (.seq (.block 1 (.seq (.regionD [⟨some 17, none, .p (.mv (.t 0))⟩,
    ⟨some 18, none, .p (.mv (.t 5))⟩,
    ⟨some 19, none, .p (.ixS 2 (.t 17) (.t 18))⟩,
    ⟨some 20, none, .h (.load 2 true (.t 19))⟩,
    ⟨some 21, none, .p (.mv (.t 1))⟩,
    ⟨some 22, none, .p (.mv (.t 5))⟩,
    ⟨some 23, none, .p (.ixS 2 (.t 21) (.t 22))⟩,
    ⟨some 24, none, .h (.load 2 true (.t 23))⟩,
    ⟨some 25, none, .h (.call (.f 82) [.t 20, .t 24])⟩,
    ⟨some 26, none, .p (.un .not (.t 25))⟩] [0, 1, 5, 26] [])
  (.cond (.t 26)
  (.seq (.region [⟨some 4, none, .p (.mv (.k (.c (C.bool false))))⟩] [4])
  .ret)
  .skip)))
  (.region [⟨some 15, none, .p (.mv (.t 5))⟩,
    ⟨some 16, none, .p (.bin .add (.t 15) (.k (.c (C.int .i64 1))))⟩,
    ⟨some 5, none, .p (.mv (.t 16))⟩] [0, 1, 5]))) [0, 1, 5])))
  (.seq (.region [⟨some 4, none, .p (.mv (.k (.c (C.bool true))))⟩] [4])
  .ret)))) }
theorem a49_ok : okFn Tryd.prog 49 a49 = true := by kernel_rfl
/-- loop.example/g01215/laws.markIntA2S -/
def a50 : AFn := { np := 2, nt := 26, res := [.t 4], body :=
  (.seq (.region [⟨some 4, none, .p (.mv (.k (.c (C.int .i64 0))))⟩] [0, 1])
  (.seq (.seq (.region [⟨some 5, none, .p (.mv (.k (.c (C.int .i64 0))))⟩] [0, 1, 5])
  (.block 0 (.loop (.seq (.seq (.region [⟨some 7, none, .p (.mv (.t 5))⟩,
    ⟨some 8, none, .p (.mv (.t 0))⟩,
    ⟨some 9, none, .p (.len (.t 8))⟩,
    ⟨some 10, none, .p (.bin .lss (.t 7) (.t 9))⟩] [0, 1, 5, 10])
  (.cond (.t 10)
  .skip
  (.exit 0)))
  (.seq (.block 1 (.seq (.region [⟨some 6, none, .p (.mv (.k (.c (C.int .i64 0))))⟩] [0, 1, 5, 6])
  (.block 2 (.loop (.seq (.seq (.region [⟨some 13, none, .p (.mv (.t 6))⟩,
    ⟨some 14, none, .p (.bin .lss (.t 13) (.k (.c (C.int .i64 2))))⟩] [0, 1, 5, 6, 14])
  (.cond (.t 14)
  .skip
  (.exit 2)))
  (.seq (.block 3 (.seq (.region [⟨some 17, none, .p (.mv (.t 0))⟩,
    ⟨some 18, none, .p (.mv (.t 5))⟩,
    ⟨some 19, none, .p (.mv (.t 6))⟩,
    ⟨some 20, none, .p (.mv (.t 1))⟩,
    ⟨some 21, none, .p (.ixS 2 (.t 17) (.t 18))⟩,
    ⟨some 22, none, .p (.ixA 2 1 (.t 21) (.t 19))⟩,
    ⟨none, none, .h (.store 1 (.t 22) (.t 20))⟩] [0, 1, 5, 6])
  (.region [⟨some 23, none, .p (.mv (.t 1))⟩,
    ⟨some 24, none, .p (.bin .add (.t 23) (.k (.c (C.int .i64 1))))⟩,
    ⟨some 1, none, .p (.mv (.t 24))⟩] [0, 1, 5, 6])))
  (.region [⟨some 15, none, .p (.mv (.t 6))⟩,
    ⟨some 16, none, .p (.bin .add (.t 15) (.k (.c (C.int .i64 1))))⟩,
    ⟨some 6, none, .p (.mv (.t 16))⟩] [0, 1, 5, 6]))) [0, 1, 5, 6]))))
  (.region [⟨some 11, none, .p (.mv (.t 5))⟩,
    ⟨some 12, none, .p (.bin .add (.t 11) (.k (.c (C.int .i64 1))))⟩,
    ⟨some 5, none, .p (.mv (.t 12))⟩] [0, 1, 5]))) [0, 1, 5])))
  (.seq (.region [⟨some 25, none, .p (.mv (.t 1))⟩,
    ⟨some 4, none, .p (.mv (.t 25))⟩] [4])
  .ret))) }
theorem a50_ok : okFn Tryd.prog 50 a50 = true := by kernel_rfl
/-- loop.example/g01215/laws.heldIntA2S -/
def a51 : AFn := { np := 2, nt := 28, res := [.t 4], body :=
  (.seq (.region [⟨some 4, none, .p (.mv (.k (.c (C.int .i64 0))))⟩] [0, 1])
  (.seq (.seq (.region [⟨some 5, none, .p (.mv (.k (.c (C.int .i64 0))))⟩] [0, 1, 5])
  (.block 0 (.loop (.seq (.seq (.region [⟨some 7, none, .p (.mv (.t 5))⟩,
    ⟨some 8, none, .p (.mv (.t 0))⟩,
    ⟨some 9, none, .p (.len (.t 8))⟩,
    ⟨some 10, none, .p (.bin .lss (.t 7) (.t 9))⟩] [0, 1, 5, 10])
  (.cond (.t 10)
  .skip
  (.exit 0)))
  (.seq (.block 1 (.seq (.region [⟨some 6, none, .p (.mv (.k (.c (C.int .i64 0))))⟩] [0, 1, 5, 6])
  (.block 2 (.loop (.seq (.seq (.region [⟨some 13, none, .p (.mv (.t 6))⟩,
    ⟨some 14, none, .p (.bin .lss (.t 13) (.k (.c (C.int .i64 2))))⟩] [0, 1, 5, 6, 14])
  (.cond (.t 14)
  .skip
  (.exit 2)))
  (.seq (.block 3 (.seq (.seq (.region [⟨some 17, none, .p (.mv (.t 0))⟩,
    ⟨some 18, none, .p (.mv (.t 5))⟩,
    ⟨some 19, none, .p (.mv (.t 6))⟩,
    ⟨some 20, none, .p (.ixS 2 (.t 17) (.t 18))⟩,
    ⟨some 21, none, .p (.ixA 2 1 (.t 20) (.t 19))⟩,
    ⟨some 22, none, .h (.load 1 false (.t 21))⟩,
    ⟨some 23, none, .p (.mv (.t 1))⟩,
    ⟨some 24, none, .p (.bin .neq (.t 22) (.t 23))⟩] [0, 1, 5, 6, 24])
  (.cond (.t 24)
  (.seq (.region [⟨some 4, none, .p (.mv (.k (.c (C.int .i64 (-1)))))⟩] [4])
  .ret)
  .skip))
  (.region [⟨some 25, none, .p (.mv (.t 1))⟩,
    ⟨some 26, none, .p (.bin .add (.t 25) (.k (.c (C.int .i64 1))))⟩,
    ⟨some 1, none, .p (.mv (.t 26))⟩] [0, 1, 5, 6])))
  (.region [⟨some 15, none, .p (.mv (.t 6))⟩,
    ⟨some 16, none, .p (.bin .add (.t 15) (.k (.c (C.int .i64 1))))⟩,
    ⟨some 6, none, .p (.mv (.t 16))⟩] [0, 1, 5, 6]))) [0, 1, 5, 6]))))
  (.region [⟨some 11, none, .p (.mv (.t 5))⟩,
    ⟨some 12, none, .p (.bin .add (.t 11) (.k (.c (C.int .i64 1))))⟩,
    ⟨some 5, none, .p (.mv (.t 12))⟩] [0, 1, 5]))) [0, 1, 5])))
  (.seq (.region [⟨some 27, none, .p (.mv (.t 1))⟩,
    ⟨some 4, none, .p (.mv (.t 27))⟩] [4])
  .ret))) }
theorem a51_ok : okFn Tryd.prog 51 a51 = true := by kernel_rfl
/-- loop.example/g01215/laws.szIntA2S -/
def a52 : AFn := { np := 2, nt := 12, res := [.t 4], body :=
  (.seq (.region [⟨some 4, none, .p (.mv (.k (.c (C.int .i64 0))))⟩] [0, 1])
  (.seq (.region [⟨some 5, none, .p (.mv (.t 1))⟩,
    ⟨some 6, none, .p (.mv (.t 0))⟩,
    ⟨some 7, none, .p (.len (.t 6))⟩,
    ⟨some 8, none, .p (.bin .sub (.t 5) (.t 7))⟩,
    ⟨some 1, none, .p (.mv (.t 8))⟩] [1])
  (.seq (.seq (.region [⟨some 9, none, .p (.mv (.t 1))⟩,
    ⟨some 10, none, .p (.bin .lss (.t 9) (.k (.c (C.int .i64 0))))⟩] [1, 10])
  (.cond (.t 10)
  (.seq (.region [⟨some 4, none, .p (.mv (.k (.c (C.int .i64 (-1)))))⟩] [4])
  .ret)
  .skip))
  (.seq (.region [⟨some 11, none, .p (.mv (.t 1))⟩,
    ⟨some 4, none, .p (.mv (.t 11))⟩] [4])
  .ret)))) }
theorem a52_ok : okFn Tryd.prog 52 a52 = true := by kernel_rfl
/-- loop.example/g01215/spec.l11Write -/
def a53 : AFn := { np := 1, nt := 34, res := [.t 2], body :=
  (.seq (.region [⟨some 1, none, .p (.box 25 (.t 0))⟩,
    ⟨some 2, none, .p (.mv (.k (.c (C.str []))))⟩] [1])
  (.seq (.region [⟨some 5, none, .p (.fld 0 (.t 1))⟩,
    ⟨some 6, none, .h (.load 24 true (.t 5))⟩,
    ⟨some 7, none, .h (.call (.f 83) [.t 6])⟩,
    ⟨some 3, none, .p (.mv (.t 7))⟩] [1, 3])
  (.seq (.seq (.region [⟨some 4, none, .p (.mv (.k (.c (C.int .i64 0))))⟩] [1, 3, 4])
  (.block 0 (.loop (.seq (.seq (.region [⟨some 8, none, .p (.mv (.t 4))⟩,
    ⟨some 9, none, .p (.fld 24 (.t 1))⟩,
    ⟨some 10, none, .h (.load 1 false (.t 9))⟩,
    ⟨some 11, none, .p (.len (.t 10))⟩,
    ⟨some 12, none, .p (.bin .lss (.t 8) (.t 11))⟩] [1, 3, 4, 12])
  (.cond (.t 12)
  .skip
  (.exit 0)))
  (.seq (.block 1 (.regionD [⟨some 15, none, .p (.mv (.t 3))⟩,
    ⟨some 16, none, .p (.bin .add (.t 15) (.k (.c (C.str [32]))))⟩,
    ⟨some 17, none, .p (.fld 24 (.t 1))⟩,
    ⟨some 18, none, .h (.load 1 false (.t 17))⟩,
    ⟨some 19, none, .p (.mv (.t 4))⟩,
    ⟨some 20, none, .p (.ixS 2 (.t 18) (.t 19))⟩,
    ⟨some 21, none, .p (.ixA 2 1 (.t 20) (.k (.c (C.int .i64 0))))⟩,
    ⟨some 22, none, .h (.load 1 false (.t 21))⟩,
    ⟨some 23, none, .h (.call (.f 84) [.t 22])⟩,
    ⟨some 24, none, .p (.bin .add (.t 16) (.t 23))⟩,
    ⟨some 25, none, .p (.fld 24 (.t 1))⟩,
    ⟨some 26, none, .h (.load 1 false (.t 25))⟩,
    ⟨some 27, none, .p (.mv (.t 4))⟩,
    ⟨some 28, none, .p (.ixS 2 (.t 26) (.t 27))⟩,
    ⟨some 29, none, .p (.ixA 2 1 (.t 28) (.k (.c (C.int .i64 1))))⟩,
    ⟨some 30, none, .h (.load 1 false (.t 29))⟩,
    ⟨some 31, none, .h (.call (.f 84) [.t 30])⟩,
    ⟨some 32, none, .p (.bin .add (.t 24) (.t 31))⟩,
    ⟨some 3, none, .p (.mv (.t 32))⟩] [1, 3, 4] []))
  (.region [⟨some 13, none, .p (.mv (.t 4))⟩,
    ⟨some 14, none, .p (.bin .add (.t 13) (.k (.c (C.int .i64 1))))⟩,
    ⟨some 4, none, .p (.mv (.t 14))⟩] [1, 3, 4]))) [1, 3, 4])))
  (.seq (.region [⟨some 33, none, .p (.mv (.t 3))⟩,
    ⟨some 2, none, .p (.mv (.t 33))⟩] [2])
  .ret)))) }
theorem a53_ok : okFn Tryd.prog 53 a53 = true := by kernel_rfl
/-- loop.example/g01215/laws.toRack -/
def a54 : AFn := { np := 1, nt := 9, res := [.cell 2 24 true], body :=
  (.seq (.region [⟨some 1, none, .p (.box 24 (.t 0))⟩,
    ⟨some 2, none, .p (.alloc (List.replicate 24 (.k (C.int .i64 0))))⟩] [1, 2])
  (.seq (.region [⟨some 3, none, .p (.alloc (List.replicate 24 (.k (C.int .i64 0))))⟩] [1, 2, 3])
  (.seq (.region [⟨some 4, none, .p (.fld 0 (.t 1))⟩,
    ⟨some 5, none, .h (.load 24 true (.t 4))⟩,
    ⟨some 6, none, .h (.call (.f 85) [.t 5])⟩,
    ⟨some 7, none, .p (.fld 0 (.t 3))⟩,
    ⟨none, none, .h (.store 24 (.t 7) (.t 6))⟩] [2, 3])
  (.seq (.region [⟨some 8, none, .h (.load 24 true (.t 3))⟩,
    ⟨none, none, .h (.store 24 (.t 2) (.t 8))⟩] [2])
  .ret)))) }
theorem a54_ok : okFn Tryd.prog 54 a54 = true := by kernel_rfl
/-- loop.example/g01215/laws.toIntA2S -/
def a55 : AFn := { np := 1, nt := 23, res := [.t 2], body :=
  (.seq (.region [⟨some 2, none, .p (.nilsl 2)⟩] [0])
  (.seq (.region [⟨some 5, none, .p (.mv (.t 0))⟩,
    ⟨some 6, none, .p (.len (.t 5))⟩,
    ⟨some 7, none, .p (.mkslice 2 [.k (C.int .i64 0), .k (C.int .i64 0)] (.t 6) (.t 6))⟩,
    ⟨some 3, none, .p (.mv (.t 7))⟩] [0, 3])
  (.seq (.seq (.region [⟨some 4, none, .p (.mv (.k (.c (C.int .i64 0))))⟩] [0, 3, 4])
  (.block 0 (.loop (.seq (.seq (.region [⟨some 8, none, .p (.mv (.t 4))⟩,
    ⟨some 9, none, .p (.mv (.t 0))⟩,
    ⟨some 10, none, .p (.len (.t 9))⟩,
    ⟨some 11, none, .p (.bin .lss (.t 8) (.t 10))⟩] [0, 3, 4, 11])
  (.cond (.t 11)
  .skip
  (.exit 0)))
  (.seq (.block 1 (.region [⟨some 14, none, .p (.mv (.t 3))⟩,
    ⟨some 15, none, .p (.mv (.t 4))⟩,
    ⟨some 16, none, .p (.mv (.t 0))⟩,
    ⟨some 17, none, .p (.mv (.t 4))⟩,
    ⟨some 18, none, .p (.ixS 2 (.t 16) (.t 17))⟩,
    ⟨some 19, none, .h (.load 2 true (.t 18))⟩,
    ⟨some 20, none, .h (.call (.f 86) [.t 19])⟩,
    ⟨some 21, none, .p (.ixS 2 (.t 14) (.t 15))⟩,
    ⟨none, none, .h (.store 2 (.t 21) (.t 20))⟩] [0, 3, 4]))
  (.region [⟨some 12, none, .p (.mv (.t 4))⟩,
    ⟨some 13, none, .p (.bin .add (.t 12) (.k (.c (C.int .i64 1))))⟩,
    ⟨some 4, none, .p (.mv (.t 13))⟩] [0, 3, 4]))) [0, 3, 4])))
  (.seq (.region [⟨some 22, none, .p (.mv (.t 3))⟩,
    ⟨some 2, none, .p (.mv (.t 22))⟩] [2])
  .ret)))) }
theorem a55_ok : okFn Tryd.prog 55 a55 = true := by kernel_rfl
/-- (loop.example/g01215/impl.Replay).text -/
def a56 : AFn := { np := 1, nt := 28, res := [.t 2], body :=
  (.seq (.region [⟨some 1, none, .p (.box 25 (.t 0))⟩,
    ⟨some 2, none, .p (.mv (.k (.c (C.str []))))⟩] [1])
  (.seq (.region [⟨some 6, none, .p (.fld 0 (.t 1))⟩,
    ⟨some 7, none, .h (.load 24 true (.t 6))⟩,
    ⟨some 8, none, .h (.call (.f 87) [.t 7])⟩,
    ⟨some 3, none, .p (.mv (.t 8))⟩] [1, 3])
  (.seq (.seq (.region [⟨some 9, none, .p (.fld 24 (.t 1))⟩,
    ⟨some 10, none, .h (.load 1 false (.t 9))⟩,
    ⟨some 11, none, .p (.len (.t 10))⟩,
    ⟨some 12, none, .p (.mv (.k (.c (C.int .i64 0))))⟩] [3, 10, 11, 12])
  (.block 0 (.loop (.seq (.region [⟨some 13, none, .p (.bin .lss (.t 12) (.t 11))⟩] [3, 10, 11, 12, 13])
  (.seq (.cond (.t 13)
  .skip
  (.exit 0))
  (.seq (.block 1 (.seq (.region [⟨some 14, none, .p (.ixS 2 (.t 10) (.t 12))⟩,
    ⟨some 15, none, .h (.load 2 true (.t 14))⟩,
    ⟨some 5, none, .p (.alloc [.k (C.int .i64 0), .k (C.int .i64 0)])⟩,
    ⟨none, none, .h (.store 2 (.t 5) (.t 15))⟩] [3, 5, 10, 11, 12])
  (.regionD [⟨some 16, none, .p (.mv (.t 3))⟩,
    ⟨some 17, none, .p (.ixA 2 1 (.t 5) (.k (.c (C.int .i64 0))))⟩,
    ⟨some 18, none, .h (.load 1 false (.t 17))⟩,
    ⟨some 19, none, .h (.call (.f 61) [.t 18])⟩,
    ⟨some 20, none, .p (.bin .add (.k (.c (C.str [32]))) (.t 19))⟩,
    ⟨some 21, none, .p (.ixA 2 1 (.t 5) (.k (.c (C.int .i64 1))))⟩,
    ⟨some 22, none, .h (.load 1 false (.t 21))⟩,
    ⟨some 23, none, .h (.call (.f 61) [.t 22])⟩,
    ⟨some 24, none, .p (.bin .add (.t 20) (.t 23))⟩,
    ⟨some 25, none, .p (.bin .add (.t 16) (.t 24))⟩,
    ⟨some 3, none, .p (.mv (.t 25))⟩] [3, 10, 11, 12] [])))
  (.region [⟨some 26, none, .p (.bin .add (.t 12) (.k (.c (C.int .i64 1))))⟩,
    ⟨some 12, none, .p (.mv (.t 26))⟩] [3, 10, 11, 12])))) [3, 10, 11, 12])))
  (.seq (.region [⟨some 27, none, .p (.mv (.t 3))⟩,
    ⟨some 2, none, .p (.mv (.t 27))⟩] [2])
  .ret)))) }
theorem a56_ok : okFn Tryd.prog 56 a56 = true := by kernel_rfl
/-- (*loop.example/g01215/spec.l1Cur).logRecord -/
def a57 : AFn := { np := 1, nt := 28, res := [.cell 2 2 true], body :=
  (.seq (.region [⟨some 2, none, .p (.alloc [.k (C.str []), .k (C.str [])])⟩] [0, 2])
  (.seq (.region [⟨some 4, none, .p (.mv (.t 0))⟩,
    ⟨some 5, none, .p (.mksl 1 5 [.k (C.str [])] [(0, 1, .k (.c (C.str [114, 97, 99, 107]))), (1, 1, .k (.c (C.str [112, 111, 117, 114, 32, 48, 32, 49]))), (2, 1, .k (.c (C.str [120]))), (3, 1, .k (.c (C.str [112, 117, 116, 32, 50, 32, 51]))), (4, 1, .k (.c (C.str [48, 32, 49])))])⟩,
    ⟨some 6, none, .h (.call (.f 88) [.t 4, .t 5])⟩,
    ⟨some 7, none, .p (.mv (.t 0))⟩,
    ⟨some 8, none, .p (.mksl 1 5 [.k (C.str [])] [(0, 1, .k (.c (C.str []))), (1, 1, .k (.c (C.str [51]))), (2, 1, .k (.c (C.str [63]))), (3, 1, .k (.c (C.str [97, 64, 98]))), (4, 1, .k (.c (C.str [51, 32, 49, 32, 50])))])⟩,
    ⟨some 9, none, .h (.call (.f 88) [.t 7, .t 8])⟩,
    ⟨some 10, none, .p (.build [.k (C.str []), .k (C.str [])] [(0, 1, .t 6), (1, 1, .t 9)])⟩,
    ⟨some 3, none, .p (.alloc [.k (C.str []), .k (C.str [])])⟩,
    ⟨none, none, .h (.store 2 (.t 3) (.t 10))⟩] [0, 2, 3])
  (.seq (.seq (.region [⟨some 11, none, .p (.mv (.t 0))⟩,
    ⟨some 12, none, .h (.call (.f 66) [.t 11, .k (.c (C.int .i64 24))])⟩] [0, 2, 3, 12])
  (.block 0 (.seq (.region [⟨some 14, none, .p (.bin .eql (.t 12) (.k (.c (C.int .i64 0))))⟩,
    ⟨some 13, none, .p (.mv (.t 14))⟩] [0, 2, 3, 12, 13])
  (.cond (.t 13)
  (.region [⟨some 15, none, .p (.mv (.t 0))⟩,
    ⟨some 16, none, .p (.mkslice 1 [.k (C.int .u8 0)] (.k (.c (C.int .i64 3))) (.k (.c (C.int .i64 3))))⟩,
    ⟨some 17, none, .h (.b2s (.t 16))⟩,
    ⟨some 18, none, .p (.mksl 1 5 [.k (C.str [])] [(0, 1, .k (.c (C.str []))), (1, 1, .k (.c (C.str [97, 64, 98]))), (2, 1, .k (.c (C.str [97, 35]))), (3, 1, .k (.c (C.str [10]))), (4, 1, .t 17)])⟩,
    ⟨some 19, none, .h (.call (.f 88) [.t 15, .t 18])⟩,
    ⟨some 20, none, .p (.fld 0 (.t 3))⟩,
    ⟨none, none, .h (.store 1 (.t 20) (.t 19))⟩] [2, 3])
  (.seq (.region [⟨some 22, none, .p (.bin .eql (.t 12) (.k (.c (C.int .i64 1))))⟩,
    ⟨some 21, none, .p (.mv (.t 22))⟩] [0, 2, 3, 21])
  (.cond (.t 21)
  (.region [⟨some 23, none, .p (.mv (.t 0))⟩,
    ⟨some 24, none, .p (.mksl 1 3 [.k (C.str [])] [(0, 1, .k (.c (C.str [35]))), (1, 1, .k (.c (C.str [10]))), (2, 1, .k (.c (C.str [127])))])⟩,
    ⟨some 25, none, .h (.call (.f 88) [.t 23, .t 24])⟩,
    ⟨some 26, none, .p (.fld 1 (.t 3))⟩,
    ⟨none, none, .h (.store 1 (.t 26) (.t 25))⟩] [2, 3])
  .skip))))))
  (.seq (.region [⟨some 27, none, .h (.load 2 true (.t 3))⟩,
    ⟨none, none, .h (.store 2 (.t 2) (.t 27))⟩] [2])
  .ret)))) }
theorem a57_ok : okFn Tryd.prog 57 a57 = true := by kernel_rfl
/-- (*loop.example/g01215/spec.l1Cur).among -/
def a58 : AFn := { np := 2, nt := 12, res := [.t 4], body :=
  (.seq (.region [⟨some 4, none, .p (.mv (.k (.c (C.int .i64 0))))⟩] [0, 1])
  (.seq (.region [⟨some 5, none, .p (.mv (.t 1))⟩,
    ⟨some 6, none, .p (.mv (.t 0))⟩,
    ⟨some 7, none, .p (.mv (.t 1))⟩,
    ⟨some 8, none, .p (.len (.t 7))⟩,
    ⟨some 9, none, .h (.call (.f 66) [.t 6, .t 8])⟩,
    ⟨some 10, none, .p (.ixS 1 (.t 5) (.t 9))⟩,
    ⟨some 11, none, .h (.load 1 false (.t 10))⟩,
    ⟨some 4, none, .p (.mv (.t 11))⟩] [4])
  .ret)) }
theorem a58_ok : okFn Tryd.prog 58 a58 = true := by kernel_rfl
/-- loop.example/g01215/impl.within -/
def a59 : AFn := { np := 3, nt := 15, res := [.t 6], body :=
  (.seq (.region [⟨some 6, none, .p (.mv (.k (.c (C.bool false))))⟩] [0, 1, 2])
  (.seq (.region [⟨some 7, none, .p (.mv (.t 1))⟩,
    ⟨some 8, none, .p (.mv (.t 0))⟩,
    ⟨some 9, none, .p (.bin .leq (.t 7) (.t 8))⟩,
    ⟨some 10, none, .p (.mv (.t 9))⟩,
    ⟨some 11, some (10, true), .p (.mv (.t 0))⟩,
    ⟨some 12, some (10, true), .p (.mv (.t 2))⟩,
    ⟨some 13, some (10, true), .p (.bin .leq (.t 11) (.t 12))⟩,
    ⟨some 14, none, .p (.pick (.t 10) (.t 13) (.k (.c (C.bool false))))⟩,
    ⟨some 6, none, .p (.mv (.t 14))⟩] [6])
  .ret)) }
theorem a59_ok : okFn Tryd.prog 59 a59 = true := by kernel_rfl
/-- loop.example/g01215/impl.AppendChecksum -/
def a60 : AFn := { np := 1, nt := 22, res := [.t 2, .t 3], body :=
  (.seq (.region [⟨some 2, none, .p (.mv (.k (.c (C.str []))))⟩,
    ⟨some 3, none, .p (.mv (.k (.c (C.bool false))))⟩] [0])
  (.seq (.seq (.region [⟨some 5, none, .p (.mv (.t 0))⟩,
    ⟨some 6, none, .p (.lenStr (.t 5))⟩,
    ⟨some 7, none, .p (.bin .gtr (.t 6) (.k (.c (C.int .i64 4000))))⟩,
    ⟨some 8, none, .p (.mv (.t 7))⟩,
    ⟨some 9, some (8, false), .p (.mv (.t 0))⟩,
    ⟨some 10, some (8, false), .h (.call (.f 89) [.t 9, .k (.c (C.str [35]))])⟩,
    ⟨some 11, none, .p (.pick (.t 8) (.k (.c (C.bool true))) (.t 10))⟩] [0, 11])
  (.cond (.t 11)
  (.seq (.region [⟨some 2, none, .p (.mv (.k (.c (C.str []))))⟩,
    ⟨some 3, none, .p (.mv (.k (.c (C.bool false))))⟩] [2, 3])
  .ret)
  .skip))
  (.seq (.region [⟨some 12, none, .p (.mv (.t 0))⟩,
    ⟨some 13, none, .p (.bin .add (.t 12) (.k (.c (C.str [35]))))⟩,
    ⟨some 14, none, .p (.mv (.t 0))⟩,
    ⟨some 15, none, .h (.call (.f 90) [.t 14])⟩,
    ⟨some 16, none, .h (.call (.f 61) [.t 15])⟩,
    ⟨some 17, none, .p (.bin .add (.t 13) (.t 16))⟩,
    ⟨some 4, none, .p (.mv (.t 17))⟩] [4])
  (.seq (.seq (.region [⟨some 18, none, .p (.mv (.t 4))⟩,
    ⟨some 19, none, .p (.lenStr (.t 18))⟩,
    ⟨some 20, none, .p (.bin .gtr (.t 19) (.k (.c (C.int .i64 4000))))⟩] [4, 20])
  (.cond (.t 20)
  (.seq (.region [⟨some 2, none, .p (.mv (.k (.c (C.str []))))⟩,
    ⟨some 3, none, .p (.mv (.k (.c (C.bool false))))⟩] [2, 3])
  .ret)
  .skip))
  (.seq (.region [⟨some 21, none, .p (.mv (.t 4))⟩,
    ⟨some 2, none, .p (.mv (.t 21))⟩,
    ⟨some 3, none, .p (.mv (.k (.c (C.bool true))))⟩] [2, 3])
  .ret))))) }
theorem a60_ok : okFn Tryd.prog 60 a60 = true := by kernel_rfl
/-- loop.example/g01215/spec.l12Record -/
def a62 : AFn := { np := 1, nt := 22, res := [.t 2], body :=
  (.seq (.region [⟨some 1, none, .p (.box 2 (.t 0))⟩,
    ⟨some 2, none, .p (.mv (.k (.c (C.bool false))))⟩] [1])
  (.seq (.region [⟨some 3, none, .p (.fld 0 (.t 1))⟩,
    ⟨some 4, none, .h (.load 1 false (.t 3))⟩,
    ⟨some 5, none, .p (.bin .neq (.t 4) (.k (.c (C.str []))))⟩,
    ⟨some 6, none, .p (.mv (.t 5))⟩,
    ⟨some 7, some (6, true), .p (.fld 0 (.t 1))⟩,
    ⟨some 8, some (6, true), .h (.load 1 false (.t 7))⟩,
    ⟨some 9, some (6, true), .h (.call (.f 92) [.t 8, .k (.c (C.int .i64 160))])⟩,
    ⟨some 10, none, .p (.pick (.t 6) (.t 9) (.k (.c (C.bool false))))⟩,
    ⟨some 11, none, .p (.mv (.t 10))⟩,
    ⟨some 12, some (11, true), .p (.fld 0 (.t 1))⟩,
    ⟨some 13, some (11, true), .h (.load 1 false (.t 12))⟩,
    ⟨some 14, some (11, true), .h (.call (.f 93) [.t 13, .k (.c (C.int .u8 64))])⟩,
    ⟨some 15, some (11, true), .p (.un .not (.t 14))⟩,
    ⟨some 16, none, .p (.pick (.t 11) (.t 15) (.k (.c (C.bool false))))⟩,
    ⟨some 17, none, .p (.mv (.t 16))⟩,
    ⟨some 18, some (17, true), .p (.fld 1 (.t 1))⟩,
    ⟨some 19, some (17, true), .h (.load 1 false (.t 18))⟩,
    ⟨some 20, some (17, true), .h (.call (.f 92) [.t 19, .k (.c (C.int .i64 250))])⟩,
    ⟨some 21, none, .p (.pick (.t 17) (.t 20) (.k (.c (C.bool false))))⟩,
    ⟨some 2, none, .p (.mv (.t 21))⟩] [2])
  .ret)) }
theorem a62_ok : okFn Tryd.prog 62 a62 = true := by kernel_rfl
/-- loop.example/g01215/spec.l12Line -/
def a63 : AFn := { np := 2, nt := 17, res := [.t 4], body :=
  (.seq (.region [⟨some 3, none, .p (.box 2 (.t 1))⟩,
    ⟨some 4, none, .p (.mv (.k (.c (C.str []))))⟩] [0, 3])
  (.seq (.regionD [⟨some 5, none, .p (.mv (.t 0))⟩,
    ⟨some 6, none, .h (.call (.f 84) [.t 5])⟩,
    ⟨some 7, none, .p (.bin .add (.t 6) (.k (.c (C.str [32]))))⟩,
    ⟨some 8, none, .p (.fld 0 (.t 3))⟩,
    ⟨some 9, none, .h (.load 1 false (.t 8))⟩,
    ⟨some 10, none, .p (.bin .add (.t 7) (.t 9))⟩,
    ⟨some 11, none, .p (.bin .add (.t 10) (.k (.c (C.str [64]))))⟩,
    ⟨some 12, none, .p (.fld 1 (.t 3))⟩,
    ⟨some 13, none, .h (.load 1 false (.t 12))⟩,
    ⟨some 14, none, .p (.bin .add (.t 11) (.t 13))⟩,
    ⟨some 15, none, .h (.call (.f 94) [.t 14])⟩,
    ⟨some 16, none, .p (.bin .add (.t 15) (.k (.c (C.str [10]))))⟩,
    ⟨some 4, none, .p (.mv (.t 16))⟩] [4] [])
  .ret)) }
theorem a63_ok : okFn Tryd.prog 63 a63 = true := by kernel_rfl
/-- (*loop.example/g01215/spec.l1Cur).anyLog -/
def a64 : AFn := { np := 1, nt := 30, res := [.cell 2 3 true], body :=
  (.seq (.region [⟨some 2, none, .p (.alloc [.k (C.str []), .k (C.str []), .k (C.int .i64 0)])⟩] [0, 2])
  (.seq (.region [⟨some 4, none, .p (.mv (.t 0))⟩,
    ⟨some 5, none, .h (.call (.f 72) [.t 4])⟩,
    ⟨some 3, none, .p (.alloc [.k (C.str []), .k (C.str []), .k (C.int .i64 0)])⟩,
    ⟨none, none, .h (.store 3 (.t 3) (.t 5))⟩] [0, 2, 3])
  (.seq (.seq (.region [⟨some 6, none, .p (.mv (.t 0))⟩,
    ⟨some 7, none, .h (.call (.f 66) [.t 6, .k (.c (C.int .i64 24))])⟩] [0, 2, 3, 7])
  (.block 0 (.seq (.region [⟨some 9, none, .p (.bin .eql (.t 7) (.k (.c (C.int .i64 0))))⟩,
    ⟨some 8, none, .p (.mv (.t 9))⟩] [0, 2, 3, 7, 8])
  (.cond (.t 8)
  (.region [⟨some 10, none, .p (.fld 2 (.t 3))⟩,
    ⟨some 11, none, .h (.load 1 false (.t 10))⟩,
    ⟨some 12, none, .p (.bin .add (.t 11) (.k (.c (C.int .i64 1))))⟩,
    ⟨some 13, none, .p (.fld 2 (.t 3))⟩,
    ⟨none, none, .h (.store 1 (.t 13) (.t 12))⟩] [2, 3])
  (.seq (.region [⟨some 15, none, .p (.bin .eql (.t 7) (.k (.c (C.int .i64 1))))⟩,
    ⟨some 14, none, .p (.mv (.t 15))⟩] [0, 2, 3, 7, 14])
  (.cond (.t 14)
  (.region [⟨some 16, none, .p (.mv (.t 0))⟩,
    ⟨some 17, none, .p (.fld 1 (.t 3))⟩,
    ⟨some 18, none, .h (.load 1 false (.t 17))⟩,
    ⟨some 19, none, .h (.call (.f 73) [.t 16, .t 18, .k (.c (C.str [35, 64, 10, 48, 49]))])⟩,
    ⟨some 20, none, .p (.fld 1 (.t 3))⟩,
    ⟨none, none, .h (.store 1 (.t 20) (.t 19))⟩] [2, 3])
  (.seq (.region [⟨some 22, none, .p (.bin .eql (.t 7) (.k (.c (C.int .i64 2))))⟩,
    ⟨some 21, none, .p (.mv (.t 22))⟩] [2, 3, 21])
  (.cond (.t 21)
  (.region [⟨some 23, none, .p (.fld 0 (.t 3))⟩,
    ⟨some 24, none, .h (.load 1 false (.t 23))⟩,
    ⟨some 25, none, .p (.fld 1 (.t 3))⟩,
    ⟨some 26, none, .h (.load 1 false (.t 25))⟩,
    ⟨some 27, none, .p (.bin .add (.t 24) (.t 26))⟩,
    ⟨some 28, none, .p (.fld 0 (.t 3))⟩,
    ⟨none, none, .h (.store 1 (.t 28) (.t 27))⟩] [2, 3])
  .skip))))))))
  (.seq (.region [⟨some 29, none, .h (.load 3 true (.t 3))⟩,
    ⟨none, none, .h (.store 3 (.t 2) (.t 29))⟩] [2])
  .ret)))) }
theorem a64_ok : okFn Tryd.prog 64 a64 = true := by kernel_rfl
/-- (*loop.example/g01215/spec.l1Cur).one -/
def a65 : AFn := { np := 2, nt := 9, res := [.t 4], body :=
  (.seq (.region [⟨some 4, none, .p (.mv (.k (.c (C.bool false))))⟩] [0, 1])
  (.seq (.region [⟨some 5, none, .p (.mv (.t 0))⟩,
    ⟨some 6, none, .p (.mv (.t 1))⟩,
    ⟨some 7, none, .h (.call (.f 66) [.t 5, .t 6])⟩,
    ⟨some 8, none, .p (.bin .eql (.t 7) (.k (.c (C.int .i64 0))))⟩,
    ⟨some 4, none, .p (.mv (.t 8))⟩] [4])
  .ret)) }
theorem a65_ok : okFn Tryd.prog 65 a65 = true := by kernel_rfl
/-- (*loop.example/g01215/spec.l1Cur).pick -/
def a66 : AFn := { np := 2, nt := 20, res := [.t 4], body :=
  (.seq (.region [⟨some 4, none, .p (.mv (.k (.c (C.int .i64 0))))⟩] [0, 1])
  (.seq (.seq (.region [⟨some 6, none, .p (.mv (.t 1))⟩,
    ⟨some 7, none, .p (.bin .leq (.t 6) (.k (.c (C.int .i64 1))))⟩] [0, 1, 7])
  (.cond (.t 7)
  (.seq (.region [⟨some 4, none, .p (.mv (.k (.c (C.int .i64 0))))⟩] [4])
  .ret)
  .skip))
  (.seq (.region [⟨some 8, none, .p (.mv (.t 0))⟩,
    ⟨some 9, none, .h (.call (.f 95) [.t 8])⟩,
    ⟨some 5, none, .p (.mv (.t 9))⟩] [0, 1, 5])
  (.seq (.seq (.region [⟨some 10, none, .p (.mv (.t 1))⟩,
    ⟨some 11, none, .p (.bin .gtr (.t 10) (.k (.c (C.int .i64 200))))⟩] [0, 1, 5, 11])
  (.cond (.t 11)
  (.region [⟨some 12, none, .p (.mv (.t 5))⟩,
    ⟨some 13, none, .p (.bin .mul (.t 12) (.k (.c (C.int .i64 256))))⟩,
    ⟨some 14, none, .p (.mv (.t 0))⟩,
    ⟨some 15, none, .h (.call (.f 95) [.t 14])⟩,
    ⟨some 16, none, .p (.bin .add (.t 13) (.t 15))⟩,
    ⟨some 5, none, .p (.mv (.t 16))⟩] [1, 5])
  .skip))
  (.seq (.region [⟨some 17, none, .p (.mv (.t 5))⟩,
    ⟨some 18, none, .p (.mv (.t 1))⟩,
    ⟨some 19, none, .p (.bin .rem (.t 17) (.t 18))⟩,
    ⟨some 4, none, .p (.mv (.t 19))⟩] [4])
  .ret))))) }
theorem a66_ok : okFn Tryd.prog 66 a66 = true := by kernel_rfl
/-- loop.example/g01215/spec.l12Valid -/
def a67 : AFn := { np := 1, nt := 53, res := [.t 2], body :=
  (.seq (.region [⟨some 1, none, .p (.box 3 (.t 0))⟩,
    ⟨some 2, none, .p (.mv (.k (.c (C.bool false))))⟩] [1])
  (.seq (.seq (.region [⟨some 7, none, .p (.fld 0 (.t 1))⟩,
    ⟨some 8, none, .h (.load 1 false (.t 7))⟩,
    ⟨some 9, none, .p (.lenStr (.t 8))⟩,
    ⟨some 10, none, .p (.fld 1 (.t 1))⟩,
    ⟨some 11, none, .h (.load 1 false (.t 10))⟩,
    ⟨some 12, none, .p (.lenStr (.t 11))⟩,
    ⟨some 13, none, .p (.bin .add (.t 9) (.t 12))⟩,
    ⟨some 14, none, .p (.bin .gtr (.t 13) (.k (.c (C.int .i64 30000))))⟩] [1, 14])
  (.cond (.t 14)
  (.seq (.region [⟨some 2, none, .p (.mv (.k (.c (C.bool false))))⟩] [2])
  .ret)
  .skip))
  (.seq (.region [⟨some 16, none, .p (.fld 0 (.t 1))⟩,
    ⟨some 17, none, .h (.load 1 false (.t 16))⟩,
    ⟨some 18, none, .p (.fld 1 (.t 1))⟩,
    ⟨some 19, none, .h (.load 1 false (.t 18))⟩,
    ⟨some 20, none, .p (.bin .add (.t 17) (.t 19))⟩,
    ⟨some 21, none, .h (.call (.f 71) [.t 20])⟩,
    ⟨some 15, none, .p (.mv (.t 21))⟩,
    ⟨some 22, none, .p (.ext (.t 15) 0)⟩,
    ⟨some 23, none, .p (.ext (.t 15) 1)⟩,
    ⟨some 3, none, .p (.mv (.t 22))⟩,
    ⟨some 4, none, .p (.mv (.t 23))⟩] [1, 3, 4])
  (.seq (.region [⟨some 25, none, .p (.fld 0 (.t 1))⟩,
    ⟨some 26, none, .h (.load 1 false (.t 25))⟩,
    ⟨some 27, none, .h (.call (.f 71) [.t 26])⟩,
    ⟨some 24, none, .p (.mv (.t 27))⟩,
    ⟨some 28, none, .p (.ext (.t 24) 0)⟩,
    ⟨some 29, none, .p (.ext (.t 24) 1)⟩,
    ⟨some 5, none, .p (.mv (.t 28))⟩,
    ⟨some 6, none, .p (.mv (.t 29))⟩] [1, 3, 4, 6])
  (.seq (.region [⟨some 30, none, .p (.mv (.t 4))⟩,
    ⟨some 31, none, .p (.fld 0 (.t 1))⟩,
    ⟨some 32, none, .h (.load 1 false (.t 31))⟩,
    ⟨some 33, none, .p (.lenStr (.t 32))⟩,
    ⟨some 34, none, .p (.fld 1 (.t 1))⟩,
    ⟨some 35, none, .h (.load 1 false (.t 34))⟩,
    ⟨some 36, none, .p (.lenStr (.t 35))⟩,
    ⟨some 37, none, .p (.bin .add (.t 33) (.t 36))⟩,
    ⟨some 38, none, .p (.bin .eql (.t 30) (.t 37))⟩,
    ⟨some 39, none, .p (.mv (.t 38))⟩,
    ⟨some 40, some (39, true), .p (.mv (.t 6))⟩,
    ⟨some 41, some (39, true), .p (.fld 0 (.t 1))⟩,
    ⟨some 42, some (39, true), .h (.load 1 false (.t 41))⟩,
    ⟨some 43, some (39, true), .p (.lenStr (.t 42))⟩,
    ⟨some 44, some (39, true), .p (.bin .eql (.t 40) (.t 43))⟩,
    ⟨some 45, none, .p (.pick (.t 39) (.t 44) (.k (.c (C.bool false))))⟩,
    ⟨some 46, none, .p (.mv (.t 45))⟩,
    ⟨some 47, some (46, true), .p (.mv (.t 3))⟩,
    ⟨some 48, some (46, true), .p (.len (.t 47))⟩,
    ⟨some 49, some (46, true), .p (.fld 2 (.t 1))⟩,
    ⟨some 50, some (46, true), .h (.load 1 false (.t 49))⟩,
    ⟨some 51, some (46, true), .p (.bin .eql (.t 48) (.t 50))⟩,
    ⟨some 52, none, .p (.pick (.t 46) (.t 51) (.k (.c (C.bool false))))⟩,
    ⟨some 2, none, .p (.mv (.t 52))⟩] [2])
  .ret))))) }
theorem a67_ok : okFn Tryd.prog 67 a67 = true := by kernel_rfl
/-- loop.example/g01215/impl.isCommand -/
def a68 : AFn := { np := 1, nt := 15, res := [.t 2], body :=
  (.seq (.region [⟨some 2, none, .p (.mv (.k (.c (C.bool false))))⟩] [0])
  (.seq (.region [⟨some 3, none, .p (.mv (.t 0))⟩,
    ⟨some 4, none, .p (.lenStr (.t 3))⟩,
    ⟨some 5, none, .h (.call (.f 59) [.t 4, .k (.c (C.int .i64 1)), .k (.c (C.int .i64 160))])⟩,
    ⟨some 6, none, .p (.mv (.t 5))⟩,
    ⟨some 7, some (6, true), .p (.mv (.t 0))⟩,
    ⟨some 8, some (6, true), .h (.call (.f 69) [.t 7])⟩,
    ⟨some 9, none, .p (.pick (.t 6) (.t 8) (.k (.c (C.bool false))))⟩,
    ⟨some 10, none, .p (.mv (.t 9))⟩,
    ⟨some 11, some (10, true), .p (.mv (.t 0))⟩,
    ⟨some 12, some (10, true), .h (.call (.f 89) [.t 11, .k (.c (C.str [64]))])⟩,
    ⟨some 13, some (10, true), .p (.un .not (.t 12))⟩,
    ⟨some 14, none, .p (.pick (.t 10) (.t 13) (.k (.c (C.bool false))))⟩,
    ⟨some 2, none, .p (.mv (.t 14))⟩] [2])
  .ret)) }
theorem a68_ok : okFn Tryd.prog 68 a68 = true := by kernel_rfl
/-- loop.example/g01215/impl.isPlainText -/
def a69 : AFn := { np := 1, nt := 11, res := [.t 2], body :=
  (.seq (.region [⟨some 2, none, .p (.mv (.k (.c (C.bool false))))⟩] [0])
  (.seq (.region [⟨some 3, none, .p (.mv (.t 0))⟩,
    ⟨some 4, none, .h (.s2b (.t 3))⟩,
    ⟨some 5, none, .h (.call (.f 96) [.t 4, .f 97])⟩,
    ⟨some 6, none, .p (.mv (.t 5))⟩,
    ⟨some 7, some (6, true), .p (.mv (.t 0))⟩,
    ⟨some 8, some (6, true), .h (.call (.f 89) [.t 7, .k (.c (C.str [35]))])⟩,
    ⟨some 9, some (6, true), .p (.un .not (.t 8))⟩,
    ⟨some 10, none, .p (.pick (.t 6) (.t 9) (.k (.c (C.bool false))))⟩,
    ⟨some 2, none, .p (.mv (.t 10))⟩] [2])
  .ret)) }
theorem a69_ok : okFn Tryd.prog 69 a69 = true := by kernel_rfl
/-- (loop.example/g01215/impl.Log).records -/
def a70 : AFn := { np := 1, nt := 43, res := [.t 2, .t 3], body :=
  (.seq (.region [⟨some 1, none, .p (.box 3 (.t 0))⟩,
    ⟨some 2, none, .p (.nilsl 2)⟩,
    ⟨some 3, none, .p (.mv (.k (.c (C.bool false))))⟩] [1])
  (.seq (.region [⟨some 7, none, .p (.fld 0 (.t 1))⟩,
    ⟨some 8, none, .h (.load 1 false (.t 7))⟩,
    ⟨some 9, none, .p (.fld 1 (.t 1))⟩,
    ⟨some 10, none, .h (.load 1 false (.t 9))⟩,
    ⟨some 11, none, .p (.bin .add (.t 8) (.t 10))⟩,
    ⟨some 4, none, .p (.mv (.t 11))⟩] [1, 4])
  (.seq (.seq (.region [⟨some 12, none, .p (.mv (.t 4))⟩,
    ⟨some 13, none, .p (.lenStr (.t 12))⟩,
    ⟨some 14, none, .p (.bin .gtr (.t 13) (.k (.c (C.int .i64 30000))))⟩,
    ⟨some 15, none, .p (.mv (.t 14))⟩,
    ⟨some 16, some (15, false), .p (.fld 0 (.t 1))⟩,
    ⟨some 17, some (15, false), .h (.load 1 false (.t 16))⟩,
    ⟨some 18, some (15, false), .p (.bin .neq (.t 17) (.k (.c (C.str []))))⟩,
    ⟨some 19, some (15, false), .p (.mv (.t 18))⟩,
    ⟨some 20, some (19, true), .p (.fld 0 (.t 1))⟩,
    ⟨some 21, some (19, true), .h (.load 1 false (.t 20))⟩,
    ⟨some 22, some (19, true), .h (.call (.f 98) [.t 21, .k (.c (C.str [10]))])⟩,
    ⟨some 23, some (19, true), .p (.un .not (.t 22))⟩,
    ⟨some 24, some (15, false), .p (.pick (.t 19) (.t 23) (.k (.c (C.bool false))))⟩,
    ⟨some 25, none, .p (.pick (.t 15) (.k (.c (C.bool true))) (.t 24))⟩] [1, 4, 25])
  (.cond (.t 25)
  (.seq (.region [⟨some 2, none, .p (.nilsl 2)⟩,
    ⟨some 3, none, .p (.mv (.k (.c (C.bool false))))⟩] [2, 3])
  .ret)
  .skip))
  (.seq (.region [⟨some 27, none, .p (.mv (.t 4))⟩,
    ⟨some 28, none, .h (.call (.f 74) [.t 27])⟩,
    ⟨some 26, none, .p (.mv (.t 28))⟩,
    ⟨some 29, none, .p (.ext (.t 26) 0)⟩,
    ⟨some 30, none, .p (.ext (.t 26) 1)⟩,
    ⟨some 5, none, .p (.mv (.t 29))⟩,
    ⟨some 6, none, .p (.mv (.t 30))⟩] [1, 4, 5, 6])
  (.seq (.regionD [⟨some 31, none, .p (.mv (.t 5))⟩,
    ⟨some 32, none, .p (.mv (.t 6))⟩,
    ⟨some 33, none, .p (.mv (.t 4))⟩,
    ⟨some 34, none, .p (.lenStr (.t 33))⟩,
    ⟨some 35, none, .p (.bin .eql (.t 32) (.t 34))⟩,
    ⟨some 36, none, .p (.mv (.t 35))⟩,
    ⟨some 37, some (36, true), .p (.fld 2 (.t 1))⟩,
    ⟨some 38, some (36, true), .h (.load 1 false (.t 37))⟩,
    ⟨some 39, some (36, true), .p (.mv (.t 5))⟩,
    ⟨some 40, some (36, true), .p (.len (.t 39))⟩,
    ⟨some 41, some (36, true), .p (.bin .eql (.t 38) (.t 40))⟩,
    ⟨some 42, none, .p (.pick (.t 36) (.t 41) (.k (.c (C.bool false))))⟩,
    ⟨some 2, none, .p (.mv (.t 31))⟩,
    ⟨some 3, none, .p (.mv (.t 42))⟩] [2, 3] [])
  .ret))))) }
theorem a70_ok : okFn Tryd.prog 70 a70 = true := by kernel_rfl
/-- loop.example/g01215/spec.l12Open -/
def a71 : AFn := { np := 1, nt := 52, res := [.t 2, .t 3], body :=
  (.seq (.region [⟨some 2, none, .p (.nilsl 2)⟩,
    ⟨some 3, none, .p (.mv (.k (.c (C.int .i64 0))))⟩] [0])
  (.seq (.region [⟨some 9, none, .p (.mksl 2 0 [.k (C.str []), .k (C.str [])] [])⟩,
    ⟨some 4, none, .p (.mv (.t 9))⟩] [0, 4])
  (.seq (.region [⟨some 5, none, .p (.mv (.k (.c (C.int .i64 0))))⟩] [0, 4, 5])
  (.seq (.block 0 (.loop (.seq (.seq (.region [⟨some 10, none, .p (.mv (.t 5))⟩,
    ⟨some 11, none, .p (.mv (.t 0))⟩,
    ⟨some 12, none, .p (.lenStr (.t 11))⟩,
    ⟨some 13, none, .p (.bin .lss (.t 10) (.t 12))⟩,
    ⟨some 14, none, .p (.mv (.t 13))⟩,
    ⟨some 15, some (14, true), .p (.mv (.t 4))⟩,
    ⟨some 16, some (14, true), .p (.len (.t 15))⟩,
    ⟨some 17, some (14, true), .p (.bin .lss (.t 16) (.k (.c (C.int .i64 60))))⟩,
    ⟨some 18, none, .p (.pick (.t 14) (.t 17) (.k (.c (C.bool false))))⟩] [0, 4, 5, 18])
  (.cond (.t 18)
  .skip
  (.exit 0)))
  (.block 1 (.seq (.region [⟨some 19, none, .p (.mv (.t 0))⟩,
    ⟨some 20, none, .p (.mv (.t 5))⟩,
    ⟨some 21, none, .p (.slStr (.t 19) (some (.t 20)) none)⟩,
    ⟨some 22, none, .h (.call (.f 41) [.t 21, .k (.c (C.int .u8 10))])⟩,
    ⟨some 6, none, .p (.mv (.t 22))⟩] [0, 4, 5, 6])
  (.seq (.region [⟨some 24, none, .p (.mv (.t 6))⟩,
    ⟨some 25, none, .p (.ixS 1 (.t 24) (.k (.c (C.int .i64 0))))⟩,
    ⟨some 26, none, .h (.load 1 false (.t 25))⟩,
    ⟨some 27, none, .p (.mv (.t 4))⟩,
    ⟨some 28, none, .p (.len (.t 27))⟩,
    ⟨some 29, none, .h (.call (.f 99) [.t 26, .t 28])⟩,
    ⟨some 23, none, .p (.mv (.t 29))⟩,
    ⟨some 30, none, .p (.ext (.t 23) 0)⟩,
    ⟨some 31, none, .p (.ext (.t 23) 1)⟩,
    ⟨some 7, none, .p (.alloc [.k (C.str []), .k (C.str [])])⟩,
    ⟨none, none, .h (.store 2 (.t 7) (.t 30))⟩,
    ⟨some 8, none, .p (.mv (.t 31))⟩] [0, 4, 5, 6, 7, 8])
  (.seq (.seq (.region [⟨some 32, none, .p (.mv (.t 6))⟩,
    ⟨some 33, none, .p (.len (.t 32))⟩,
    ⟨some 34, none, .p (.bin .lss (.t 33) (.k (.c (C.int .i64 2))))⟩,
    ⟨some 35, none, .p (.mv (.t 34))⟩,
    ⟨some 36, some (35, false), .p (.mv (.t 8))⟩,
    ⟨some 37, some (35, false), .p (.un .not (.t 36))⟩,
    ⟨some 38, none, .p (.pick (.t 35) (.k (.c (C.bool true))) (.t 37))⟩] [0, 4, 5, 6, 7, 38])
  (.cond (.t 38)
  (.exit 0)
  .skip))
  (.seq (.region [⟨some 39, none, .p (.mv (.t 4))⟩,
    ⟨some 40, none, .h (.load 2 true (.t 7))⟩,
    ⟨some 41, none, .p (.mksl 2 1 [.k (C.str []), .k (C.str [])] [(0, 2, .t 40)])⟩,
    ⟨some 42, none, .h (.app 2 (.t 39) (.t 41))⟩,
    ⟨some 4, none, .p (.mv (.t 42))⟩] [0, 4, 5, 6])
  (.region [⟨some 43, none, .p (.mv (.t 5))⟩,
    ⟨some 44, none, .p (.mv (.t 6))⟩,
    ⟨some 45, none, .p (.ixS 1 (.t 44) (.k (.c (C.int .i64 0))))⟩,
    ⟨some 46, none, .h (.load 1 false (.t 45))⟩,
    ⟨some 47, none, .p (.lenStr (.t 46))⟩,
    ⟨some 48, none, .p (.bin .add (.t 43) (.t 47))⟩,
    ⟨some 49, none, .p (.bin .add (.t 48) (.k (.c (C.int .i64 1))))⟩,
    ⟨some 5, none, .p (.mv (.t 49))⟩] [0, 4, 5]))))))) [0, 4, 5]))
  (.seq (.region [⟨some 50, none, .p (.mv (.t 4))⟩,
    ⟨some 51, none, .p (.mv (.t 5))⟩,
    ⟨some 2, none, .p (.mv (.t 50))⟩,
    ⟨some 3, none, .p (.mv (.t 51))⟩] [2, 3])
  .ret))))) }
theorem a71_ok : okFn Tryd.prog 71 a71 = true := by kernel_rfl
/-- (*loop.example/g01215/spec.l1Cur).log12 -/
def a72 : AFn := { np := 1, nt := 27, res := [.cell 2 3 true], body :=
  (.seq (.region [⟨some 2, none, .p (.alloc [.k (C.str []), .k (C.str []), .k (C.int .i64 0)])⟩] [0, 2])
  (.seq (.region [⟨some 5, none, .p (.build [.k (C.str []), .k (C.str []), .k (C.int .i64 0)] [])⟩,
    ⟨some 3, none, .p (.alloc [.k (C.str []), .k (C.str []), .k (C.int .i64 0)])⟩,
    ⟨none, none, .h (.store 3 (.t 3) (.t 5))⟩] [0, 2, 3])
  (.seq (.seq (.region [⟨some 6, none, .p (.mv (.t 0))⟩,
    ⟨some 7, none, .h (.call (.f 66) [.t 6, .k (.c (C.int .i64 7))])⟩,
    ⟨some 4, none, .p (.mv (.t 7))⟩] [0, 2, 3, 4])
  (.block 0 (.loop (.seq (.seq (.region [⟨some 8, none, .p (.mv (.t 4))⟩,
    ⟨some 9, none, .p (.bin .gtr (.t 8) (.k (.c (C.int .i64 0))))⟩] [0, 2, 3, 4, 9])
  (.cond (.t 9)
  .skip
  (.exit 0)))
  (.seq (.block 1 (.seq (.regionE [⟨some 13, none, .h (.load 3 true (.t 3))⟩,
    ⟨some 14, none, .p (.mv (.t 0))⟩,
    ⟨some 15, none, .h (.call (.f 57) [.t 14])⟩,
    ⟨some 16, none, .h (.call (.f 25) [.t 13, .t 15])⟩,
    ⟨some 12, none, .p (.mv (.t 16))⟩,
    ⟨some 17, none, .p (.ext (.t 12) 0)⟩,
    ⟨some 18, none, .p (.ext (.t 12) 1)⟩,
    ⟨none, none, .h (.store 3 (.t 3) (.t 17))⟩] [0, 2, 3, 4] [] [[], [], [2, 1000003], [2]])
  (.seq (.region [⟨some 19, none, .p (.mv (.t 0))⟩,
    ⟨some 20, none, .h (.call (.f 65) [.t 19, .k (.c (C.int .i64 4))])⟩] [0, 2, 3, 4, 20])
  (.cond (.t 20)
  (.region [⟨some 22, none, .h (.load 3 true (.t 3))⟩,
    ⟨some 23, none, .h (.call (.f 31) [.t 22])⟩,
    ⟨some 21, none, .p (.mv (.t 23))⟩,
    ⟨some 24, none, .p (.ext (.t 21) 0)⟩,
    ⟨some 25, none, .p (.ext (.t 21) 1)⟩,
    ⟨none, none, .h (.store 3 (.t 3) (.t 24))⟩] [0, 2, 3, 4])
  .skip))))
  (.region [⟨some 10, none, .p (.mv (.t 4))⟩,
    ⟨some 11, none, .p (.bin .sub (.t 10) (.k (.c (C.int .i64 1))))⟩,
    ⟨some 4, none, .p (.mv (.t 11))⟩] [0, 2, 3, 4]))) [0, 2, 3, 4])))
  (.seq (.region [⟨some 26, none, .h (.load 3 true (.t 3))⟩,
    ⟨none, none, .h (.store 3 (.t 2) (.t 26))⟩] [2])
  .ret)))) }
theorem a72_ok : okFn Tryd.prog 72 a72 = true := by kernel_rfl
/-- (*loop.example/g01215/spec.l1Cur).spoilt -/
def a73 : AFn := { np := 3, nt := 57, res := [.t 6], body :=
  (.seq (.region [⟨some 6, none, .p (.mv (.k (.c (C.str []))))⟩] [0, 1, 2])
  (.seq (.seq (.region [⟨some 9, none, .p (.mv (.t 1))⟩,
    ⟨some 10, none, .p (.bin .eql (.t 9) (.k (.c (C.str []))))⟩] [0, 1, 2, 10])
  (.cond (.t 10)
  (.seq (.region [⟨some 11, none, .p (.mv (.t 2))⟩,
    ⟨some 12, none, .p (.slStr (.t 11) none (some (.k (.c (C.int .i64 1)))))⟩,
    ⟨some 6, none, .p (.mv (.t 12))⟩] [6])
  .ret)
  .skip))
  (.seq (.region [⟨some 13, none, .p (.mv (.t 0))⟩,
    ⟨some 14, none, .p (.mv (.t 1))⟩,
    ⟨some 15, none, .p (.lenStr (.t 14))⟩,
    ⟨some 16, none, .h (.call (.f 66) [.t 13, .t 15])⟩,
    ⟨some 7, none, .p (.mv (.t 16))⟩] [0, 1, 2, 7])
  (.seq (.region [⟨some 17, none, .p (.mv (.t 2))⟩,
    ⟨some 18, none, .p (.mv (.t 0))⟩,
    ⟨some 19, none, .p (.mv (.t 2))⟩,
    ⟨some 20, none, .p (.lenStr (.t 19))⟩,
    ⟨some 21, none, .h (.call (.f 66) [.t 18, .t 20])⟩,
    ⟨some 22, none, .p (.slStr (.t 17) (some (.t 21)) none)⟩,
    ⟨some 23, none, .p (.slStr (.t 22) none (some (.k (.c (C.int .i64 1)))))⟩,
    ⟨some 8, none, .p (.mv (.t 23))⟩] [0, 1, 7, 8])
  (.seq (.seq (.region [⟨some 24, none, .p (.mv (.t 0))⟩,
    ⟨some 25, none, .h (.call (.f 66) [.t 24, .k (.c (C.int .i64 3))])⟩] [1, 7, 8, 25])
  (.block 0 (.seq (.region [⟨some 27, none, .p (.bin .eql (.t 25) (.k (.c (C.int .i64 0))))⟩,
    ⟨some 26, none, .p (.mv (.t 27))⟩] [1, 7, 8, 25, 26])
  (.cond (.t 26)
  (.seq (.regionD [⟨some 28, none, .p (.mv (.t 1))⟩,
    ⟨some 29, none, .p (.mv (.t 7))⟩,
    ⟨some 30, none, .p (.slStr (.t 28) none (some (.t 29)))⟩,
    ⟨some 31, none, .p (.mv (.t 8))⟩,
    ⟨some 32, none, .p (.bin .add (.t 30) (.t 31))⟩,
    ⟨some 33, none, .p (.mv (.t 1))⟩,
    ⟨some 34, none, .p (.mv (.t 7))⟩,
    ⟨some 35, none, .p (.slStr (.t 33) (some (.t 34)) none)⟩,
    ⟨some 36, none, .p (.bin .add (.t 32) (.t 35))⟩,
    ⟨some 6, none, .p (.mv (.t 36))⟩] [6] [])
  .ret)
  (.seq (.region [⟨some 38, none, .p (.bin .eql (.t 25) (.k (.c (C.int .i64 1))))⟩,
    ⟨some 37, none, .p (.mv (.t 38))⟩] [1, 7, 8, 37])
  (.cond (.t 37)
  (.seq (.regionD [⟨some 39, none, .p (.mv (.t 1))⟩,
    ⟨some 40, none, .p (.mv (.t 7))⟩,
    ⟨some 41, none, .p (.slStr (.t 39) none (some (.t 40)))⟩,
    ⟨some 42, none, .p (.mv (.t 8))⟩,
    ⟨some 43, none, .p (.bin .add (.t 41) (.t 42))⟩,
    ⟨some 44, none, .p (.mv (.t 1))⟩,
    ⟨some 45, none, .p (.mv (.t 7))⟩,
    ⟨some 46, none, .p (.bin .add (.t 45) (.k (.c (C.int .i64 1))))⟩,
    ⟨some 47, none, .p (.slStr (.t 44) (some (.t 46)) none)⟩,
    ⟨some 48, none, .p (.bin .add (.t 43) (.t 47))⟩,
    ⟨some 6, none, .p (.mv (.t 48))⟩] [6] [])
  .ret)
  .skip))))))
  (.seq (.regionD [⟨some 49, none, .p (.mv (.t 1))⟩,
    ⟨some 50, none, .p (.mv (.t 7))⟩,
    ⟨some 51, none, .p (.slStr (.t 49) none (some (.t 50)))⟩,
    ⟨some 52, none, .p (.mv (.t 1))⟩,
    ⟨some 53, none, .p (.mv (.t 7))⟩,
    ⟨some 54, none, .p (.bin .add (.t 53) (.k (.c (C.int .i64 1))))⟩,
    ⟨some 55, none, .p (.slStr (.t 52) (some (.t 54)) none)⟩,
    ⟨some 56, none, .p (.bin .add (.t 51) (.t 55))⟩,
    ⟨some 6, none, .p (.mv (.t 56))⟩] [6] [])
  .ret)))))) }
theorem a73_ok : okFn Tryd.prog 73 a73 = true := by kernel_rfl
/-- loop.example/g01215/impl.readRecords -/
def a74 : AFn := { np := 1, nt := 30, res := [.t 2, .t 3], body :=
  (.seq (.region [⟨some 2, none, .p (.nilsl 2)⟩,
    ⟨some 3, none, .p (.mv (.k (.c (C.int .i64 0))))⟩] [0])
  (.seq (.region [⟨some 4, none, .p (.nilsl 2)⟩] [0, 4])
  (.seq (.region [⟨some 5, none, .p (.mv (.k (.c (C.int .i64 0))))⟩] [0, 4, 5])
  (.block 0 (.loop (.block 1 (.seq (.region [⟨some 10, none, .p (.mv (.t 4))⟩,
    ⟨some 11, none, .p (.len (.t 10))⟩,
    ⟨some 12, none, .p (.mv (.t 0))⟩,
    ⟨some 13, none, .p (.mv (.t 5))⟩,
    ⟨some 14, none, .p (.slStr (.t 12) (some (.t 13)) none)⟩,
    ⟨some 15, none, .h (.call (.f 100) [.t 11, .t 14])⟩,
    ⟨some 9, none, .p (.mv (.t 15))⟩,
    ⟨some 16, none, .p (.ext (.t 9) 0)⟩,
    ⟨some 17, none, .p (.ext (.t 9) 1)⟩,
    ⟨some 18, none, .p (.ext (.t 9) 2)⟩,
    ⟨some 6, none, .p (.alloc [.k (C.str []), .k (C.str [])])⟩,
    ⟨none, none, .h (.store 2 (.t 6) (.t 16))⟩,
    ⟨some 7, none, .p (.mv (.t 17))⟩,
    ⟨some 8, none, .p (.mv (.t 18))⟩] [0, 4, 5, 6, 7, 8])
  (.seq (.seq (.region [⟨some 19, none, .p (.mv (.t 8))⟩,
    ⟨some 20, none, .p (.un .not (.t 19))⟩] [0, 4, 5, 6, 7, 20])
  (.cond (.t 20)
  (.seq (.region [⟨some 21, none, .p (.mv (.t 4))⟩,
    ⟨some 22, none, .p (.mv (.t 5))⟩,
    ⟨some 2, none, .p (.mv (.t 21))⟩,
    ⟨some 3, none, .p (.mv (.t 22))⟩] [2, 3])
  .ret)
  .skip))
  (.seq (.region [⟨some 23, none, .p (.mv (.t 4))⟩,
    ⟨some 24, none, .h (.load 2 true (.t 6))⟩,
    ⟨some 25, none, .p (.mksl 2 1 [.k (C.str []), .k (C.str [])] [(0, 2, .t 24)])⟩,
    ⟨some 26, none, .h (.app 2 (.t 23) (.t 25))⟩,
    ⟨some 4, none, .p (.mv (.t 26))⟩] [0, 4, 5, 7])
  (.region [⟨some 27, none, .p (.mv (.t 5))⟩,
    ⟨some 28, none, .p (.mv (.t 7))⟩,
    ⟨some 29, none, .p (.bin .add (.t 27) (.t 28))⟩,
    ⟨some 5, none, .p (.mv (.t 29))⟩] [0, 4, 5]))))) [0, 4, 5]))))) }
theorem a74_ok : okFn Tryd.prog 74 a74 = true := by kernel_rfl
/-- loop.example/g01215/spec.l2Sign -/
def a75 : AFn := { np := 1, nt := 13, res := [.t 2], body :=
  (.seq (.region [⟨some 2, none, .p (.mv (.k (.c (C.int .i64 0))))⟩] [0])
  (.seq (.seq (.region [⟨some 3, none, .p (.mv (.k (.c (C.int .i64 0))))⟩] [0, 3])
  (.block 0 (.loop (.seq (.seq (.region [⟨some 4, none, .p (.mv (.t 3))⟩,
    ⟨some 5, none, .p (.bin .leq (.t 4) (.k (.c (C.int .i64 5))))⟩] [0, 3, 5])
  (.cond (.t 5)
  .skip
  (.exit 0)))
  (.seq (.block 1 (.seq (.region [⟨some 8, none, .p (.mv (.t 3))⟩,
    ⟨some 9, none, .p (.ixStr (.k (.c (C.str [46, 97, 98, 99, 100, 101]))) (.t 8))⟩,
    ⟨some 10, none, .p (.mv (.t 0))⟩,
    ⟨some 11, none, .p (.bin .eql (.t 9) (.t 10))⟩] [0, 3, 11])
  (.cond (.t 11)
  (.seq (.region [⟨some 12, none, .p (.mv (.t 3))⟩,
    ⟨some 2, none, .p (.mv (.t 12))⟩] [2])
  .ret)
  .skip)))
  (.region [⟨some 6, none, .p (.mv (.t 3))⟩,
    ⟨some 7, none, .p (.bin .add (.t 6) (.k (.c (C.int .i64 1))))⟩,
    ⟨some 3, none, .p (.mv (.t 7))⟩] [0, 3]))) [0, 3])))
  (.seq (.region [⟨some 2, none, .p (.mv (.k (.c (C.int .i64 (-1)))))⟩] [2])
  .ret))) }
theorem a75_ok : okFn Tryd.prog 75 a75 = true := by kernel_rfl
/-- loop.example/g01215/spec.l2Rack -/
def a76 : AFn := { np := 1, nt := 44, res := [.t 2], body :=
  (.seq (.region [⟨some 1, none, .p (.box 24 (.t 0))⟩,
    ⟨some 2, none, .p (.mv (.k (.c (C.bool false))))⟩] [1])
  (.seq (.seq (.region [⟨some 3, none, .p (.mv (.k (.c (C.int .i64 0))))⟩] [1, 3])
  (.block 0 (.loop (.seq (.seq (.region [⟨some 5, none, .p (.mv (.t 3))⟩,
    ⟨some 6, none, .p (.bin .lss (.t 5) (.k (.c (C.int .i64 6))))⟩] [1, 3, 6])
  (.cond (.t 6)
  .skip
  (.exit 0)))
  (.seq (.block 1 (.seq (.region [⟨some 4, none, .p (.mv (.k (.c (C.int .i64 0))))⟩] [1, 3, 4])
  (.block 2 (.loop (.seq (.seq (.region [⟨some 9, none, .p (.mv (.t 4))⟩,
    ⟨some 10, none, .p (.bin .lss (.t 9) (.k (.c (C.int .i64 4))))⟩] [1, 3, 4, 10])
  (.cond (.t 10)
  .skip
  (.exit 2)))
  (.seq (.block 3 (.seq (.region [⟨some 13, none, .p (.mv (.t 3))⟩,
    ⟨some 14, none, .p (.mv (.t 4))⟩,
    ⟨some 15, none, .p (.fld 0 (.t 1))⟩,
    ⟨some 16, none, .p (.ixA 6 4 (.t 15) (.t 13))⟩,
    ⟨some 17, none, .p (.ixA 4 1 (.t 16) (.t 14))⟩,
    ⟨some 18, none, .h (.load 1 false (.t 17))⟩,
    ⟨some 19, none, .h (.call (.f 43) [.t 18, .k (.c (C.int .i64 0)), .k (.c (C.int .i64 5))])⟩,
    ⟨some 20, none, .p (.un .not (.t 19))⟩,
    ⟨some 21, none, .p (.mv (.t 20))⟩,
    ⟨some 22, some (21, false), .p (.mv (.t 4))⟩,
    ⟨some 23, some (21, false), .p (.bin .gtr (.t 22) (.k (.c (C.int .i64 0))))⟩,
    ⟨some 24, some (21, false), .p (.mv (.t 23))⟩,
    ⟨some 25, some (24, true), .p (.mv (.t 3))⟩,
    ⟨some 26, some (24, true), .p (.mv (.t 4))⟩,
    ⟨some 27, some (24, true), .p (.fld 0 (.t 1))⟩,
    ⟨some 28, some (24, true), .p (.ixA 6 4 (.t 27) (.t 25))⟩,
    ⟨some 29, some (24, true), .p (.ixA 4 1 (.t 28) (.t 26))⟩,
    ⟨some 30, some (24, true), .h (.load 1 false (.t 29))⟩,
    ⟨some 31, some (24, true), .p (.bin .gtr (.t 30) (.k (.c (C.int .i64 0))))⟩,
    ⟨some 32, some (21, false), .p (.pick (.t 24) (.t 31) (.k (.c (C.bool false))))⟩,
    ⟨some 33, some (21, false), .p (.mv (.t 32))⟩,
    ⟨some 34, some (33, true), .p (.mv (.t 3))⟩,
    ⟨some 35, some (33, true), .p (.mv (.t 4))⟩,
    ⟨some 36, some (33, true), .p (.bin .sub (.t 35) (.k (.c (C.int .i64 1))))⟩,
    ⟨some 37, some (33, true), .p (.fld 0 (.t 1))⟩,
    ⟨some 38, some (33, true), .p (.ixA 6 4 (.t 37) (.t 34))⟩,
    ⟨some 39, some (33, true), .p (.ixA 4 1 (.t 38) (.t 36))⟩,
    ⟨some 40, some (33, true), .h (.load 1 false (.t 39))⟩,
    ⟨some 41, some (33, true), .p (.bin .eql (.t 40) (.k (.c (C.int .i64 0))))⟩,
    ⟨some 42, some (21, false), .p (.pick (.t 33) (.t 41) (.k (.c (C.bool false))))⟩,
    ⟨some 43, none, .p (.pick (.t 21) (.k (.c (C.bool true))) (.t 42))⟩] [1, 3, 4, 43])
  (.cond (.t 43)
  (.seq (.region [⟨some 2, none, .p (.mv (.k (.c (C.bool false))))⟩] [2])
  .ret)
  .skip)))
  (.region [⟨some 11, none, .p (.mv (.t 4))⟩,
    ⟨some 12, none, .p (.bin .add (.t 11) (.k (.c (C.int .i64 1))))⟩,
    ⟨some 4, none, .p (.mv (.t 12))⟩] [1, 3, 4]))) [1, 3, 4]))))
  (.region [⟨some 7, none, .p (.mv (.t 3))⟩,
    ⟨some 8, none, .p (.bin .add (.t 7) (.k (.c (C.int .i64 1))))⟩,
    ⟨some 3, none, .p (.mv (.t 8))⟩] [1, 3]))) [1, 3])))
  (.seq (.region [⟨some 2, none, .p (.mv (.k (.c (C.bool true))))⟩] [2])
  .ret))) }
theorem a76_ok : okFn Tryd.prog 76 a76 = true := by kernel_rfl
/-- loop.example/g01215/spec.l11Racks -/
def a77 : AFn := { np := 1, nt := 66, res := [.t 2, .t 3], body :=
  (.seq (.region [⟨some 1, none, .p (.box 25 (.t 0))⟩,
    ⟨some 2, none, .p (.nilsl 24)⟩,
    ⟨some 3, none, .p (.mv (.k (.c (C.bool false))))⟩] [1])
  (.seq (.seq (.region [⟨some 8, none, .p (.fld 0 (.t 1))⟩,
    ⟨some 9, none, .h (.load 24 true (.t 8))⟩,
    ⟨some 10, none, .h (.call (.f 76) [.t 9])⟩,
    ⟨some 11, none, .p (.un .not (.t 10))⟩,
    ⟨some 12, none, .p (.mv (.t 11))⟩,
    ⟨some 13, some (12, false), .p (.fld 24 (.t 1))⟩,
    ⟨some 14, some (12, false), .h (.load 1 false (.t 13))⟩,
    ⟨some 15, some (12, false), .p (.len (.t 14))⟩,
    ⟨some 16, some (12, false), .p (.bin .gtr (.t 15) (.k (.c (C.int .i64 60))))⟩,
    ⟨some 17, none, .p (.pick (.t 12) (.k (.c (C.bool true))) (.t 16))⟩] [1, 17])
  (.cond (.t 17)
  (.seq (.region [⟨some 18, none, .p (.mksl 24 0 (List.replicate 24 (.k (C.int .i64 0))) [])⟩,
    ⟨some 2, none, .p (.mv (.t 18))⟩,
    ⟨some 3, none, .p (.mv (.k (.c (C.bool false))))⟩] [2, 3])
  .ret)
  .skip))
  (.seq (.region [⟨some 19, none, .p (.fld 0 (.t 1))⟩,
    ⟨some 20, none, .h (.load 24 true (.t 19))⟩,
    ⟨some 21, none, .p (.mksl 24 1 (List.replicate 24 (.k (C.int .i64 0))) [(0, 24, .t 20)])⟩,
    ⟨some 4, none, .p (.mv (.t 21))⟩] [1, 4])
  (.seq (.seq (.region [⟨some 5, none, .p (.mv (.k (.c (C.int .i64 0))))⟩] [1, 4, 5])
  (.block 0 (.loop (.seq (.seq (.region [⟨some 22, none, .p (.mv (.t 5))⟩,
    ⟨some 23, none, .p (.fld 24 (.t 1))⟩,
    ⟨some 24, none, .h (.load 1 false (.t 23))⟩,
    ⟨some 25, none, .p (.len (.t 24))⟩,
    ⟨some 26, none, .p (.bin .lss (.t 22) (.t 25))⟩] [1, 4, 5, 26])
  (.cond (.t 26)
  .skip
  (.exit 0)))
  (.seq (.block 1 (.seq (.seq (.regionD [⟨some 29, none, .p (.mv (.t 4))⟩,
    ⟨some 30, none, .p (.mv (.t 5))⟩,
    ⟨some 31, none, .p (.ixS 24 (.t 29) (.t 30))⟩,
    ⟨some 32, none, .h (.load 24 true (.t 31))⟩,
    ⟨some 33, none, .p (.fld 24 (.t 1))⟩,
    ⟨some 34, none, .h (.load 1 false (.t 33))⟩,
    ⟨some 35, none, .p (.mv (.t 5))⟩,
    ⟨some 36, none, .p (.ixS 2 (.t 34) (.t 35))⟩,
    ⟨some 37, none, .h (.load 2 true (.t 36))⟩,
    ⟨some 38, none, .h (.call (.f 101) [.t 32, .t 37])⟩,
    ⟨some 39, none, .p (.un .not (.t 38))⟩] [1, 4, 5, 39] [])
  (.cond (.t 39)
  (.seq (.region [⟨some 40, none, .p (.mksl 24 0 (List.replicate 24 (.k (C.int .i64 0))) [])⟩,
    ⟨some 2, none, .p (.mv (.t 40))⟩,
    ⟨some 3, none, .p (.mv (.k (.c (C.bool false))))⟩] [2, 3])
  .ret)
  .skip))
  (.seq (.regionD [⟨some 42, none, .p (.mv (.t 4))⟩,
    ⟨some 43, none, .p (.mv (.t 5))⟩,
    ⟨some 44, none, .p (.ixS 24 (.t 42) (.t 43))⟩,
    ⟨some 45, none, .h (.load 24 true (.t 44))⟩,
    ⟨some 46, none, .p (.fld 24 (.t 1))⟩,
    ⟨some 47, none, .h (.load 1 false (.t 46))⟩,
    ⟨some 48, none, .p (.mv (.t 5))⟩,
    ⟨some 49, none, .p (.ixS 2 (.t 47) (.t 48))⟩,
    ⟨some 50, none, .p (.ixA 2 1 (.t 49) (.k (.c (C.int .i64 0))))⟩,
    ⟨some 51, none, .h (.load 1 false (.t 50))⟩,
    ⟨some 52, none, .p (.fld 24 (.t 1))⟩,
    ⟨some 53, none, .h (.load 1 false (.t 52))⟩,
    ⟨some 54, none, .p (.mv (.t 5))⟩,
    ⟨some 55, none, .p (.ixS 2 (.t 53) (.t 54))⟩,
    ⟨some 56, none, .p (.ixA 2 1 (.t 55) (.k (.c (C.int .i64 1))))⟩,
    ⟨some 57, none, .h (.load 1 false (.t 56))⟩,
    ⟨some 58, none, .h (.call (.f 102) [.t 45, .t 51, .t 57])⟩,
    ⟨some 41, none, .p (.mv (.t 58))⟩,
    ⟨some 59, none, .p (.ext (.t 41) 0)⟩,
    ⟨some 60, none, .p (.ext (.t 41) 1)⟩,
    ⟨some 6, none, .p (.alloc (List.replicate 24 (.k (C.int .i64 0))))⟩,
    ⟨none, none, .h (.store 24 (.t 6) (.t 59))⟩,
    ⟨some 7, none, .p (.mv (.t 60))⟩] [1, 4, 5, 6] [])
  (.region [⟨some 61, none, .p (.mv (.t 4))⟩,
    ⟨some 62, none, .h (.load 24 true (.t 6))⟩,
    ⟨some 63, none, .p (.mksl 24 1 (List.replicate 24 (.k (C.int .i64 0))) [(0, 24, .t 62)])⟩,
    ⟨some 64, none, .h (.app 24 (.t 61) (.t 63))⟩,
    ⟨some 4, none, .p (.mv (.t 64))⟩] [1, 4, 5]))))
  (.region [⟨some 27, none, .p (.mv (.t 5))⟩,
    ⟨some 28, none, .p (.bin .add (.t 27) (.k (.c (C.int .i64 1))))⟩,
    ⟨some 5, none, .p (.mv (.t 28))⟩] [1, 4, 5]))) [1, 4, 5])))
  (.seq (.region [⟨some 65, none, .p (.mv (.t 4))⟩,
    ⟨some 2, none, .p (.mv (.t 65))⟩,
    ⟨some 3, none, .p (.mv (.k (.c (C.bool true))))⟩] [2, 3])
  .ret))))) }
theorem a77_ok : okFn Tryd.prog 77 a77 = true := by kernel_rfl
/-- loop.example/g01215/impl.IsRack -/
def a79 : AFn := { np := 1, nt := 6, res := [.t 2], body :=
  (.seq (.region [⟨some 1, none, .p (.box 24 (.t 0))⟩,
    ⟨some 2, none, .p (.mv (.k (.c (C.bool false))))⟩] [1])
  (.seq (.region [⟨some 3, none, .p (.fld 0 (.t 1))⟩,
    ⟨some 4, none, .h (.slA 6 4 (.t 3) none none)⟩,
    ⟨some 5, none, .h (.call (.f 106) [.t 4, .f 107])⟩,
    ⟨some 2, none, .p (.mv (.t 5))⟩] [2])
  .ret)) }
theorem a79_ok : okFn Tryd.prog 79 a79 = true := by kernel_rfl
/-- (loop.example/g01215/impl.Replay).racks -/
def a80 : AFn := { np := 1, nt := 55, res := [.t 2, .t 3], body :=
  (.seq (.region [⟨some 1, none, .p (.box 25 (.t 0))⟩,
    ⟨some 2, none, .p (.nilsl 24)⟩,
    ⟨some 3, none, .p (.mv (.k (.c (C.bool false))))⟩] [1])
  (.seq (.seq (.region [⟨some 9, none, .p (.fld 0 (.t 1))⟩,
    ⟨some 10, none, .h (.load 24 true (.t 9))⟩,
    ⟨some 11, none, .h (.call (.f 79) [.t 10])⟩,
    ⟨some 12, none, .p (.un .not (.t 11))⟩,
    ⟨some 13, none, .p (.mv (.t 12))⟩,
    ⟨some 14, some (13, false), .p (.fld 24 (.t 1))⟩,
    ⟨some 15, some (13, false), .h (.load 1 false (.t 14))⟩,
    ⟨some 16, some (13, false), .p (.len (.t 15))⟩,
    ⟨some 17, some (13, false), .p (.bin .gtr (.t 16) (.k (.c (C.int .i64 60))))⟩,
    ⟨some 18, none, .p (.pick (.t 13) (.k (.c (C.bool true))) (.t 17))⟩] [1, 18])
  (.cond (.t 18)
  (.seq (.region [⟨some 2, none, .p (.nilsl 24)⟩,
    ⟨some 3, none, .p (.mv (.k (.c (C.bool false))))⟩] [2, 3])
  .ret)
  .skip))
  (.seq (.region [⟨some 19, none, .p (.fld 0 (.t 1))⟩,
    ⟨some 20, none, .h (.load 24 true (.t 19))⟩,
    ⟨some 21, none, .p (.mksl 24 1 (List.replicate 24 (.k (C.int .i64 0))) [(0, 24, .t 20)])⟩,
    ⟨some 4, none, .p (.mv (.t 21))⟩] [1, 4])
  (.seq (.seq (.region [⟨some 22, none, .p (.fld 24 (.t 1))⟩,
    ⟨some 23, none, .h (.load 1 false (.t 22))⟩,
    ⟨some 24, none, .p (.len (.t 23))⟩,
    ⟨some 25, none, .p (.mv (.k (.c (C.int .i64 0))))⟩] [4, 23, 24, 25])
  (.block 0 (.loop (.seq (.region [⟨some 26, none, .p (.bin .lss (.t 25) (.t 24))⟩] [4, 23, 24, 25, 26])
  (.seq (.cond (.t 26)
  .skip
  (.exit 0))
  (.seq (.block 1 (.seq (.region [⟨some 27, none, .p (.mv (.t 25))⟩,
    ⟨some 28, none, .p (.ixS 2 (.t 23) (.t 25))⟩,
    ⟨some 29, none, .h (.load 2 true (.t 28))⟩,
    ⟨some 6, none, .p (.alloc [.k (C.int .i64 0), .k (C.int .i64 0)])⟩,
    ⟨some 5, none, .p (.mv (.t 27))⟩,
    ⟨none, none, .h (.store 2 (.t 6) (.t 29))⟩] [4, 5, 6, 23, 24, 25])
  (.seq (.seq (.regionD [⟨some 30, none, .p (.mv (.t 4))⟩,
    ⟨some 31, none, .p (.mv (.t 5))⟩,
    ⟨some 32, none, .p (.ixS 24 (.t 30) (.t 31))⟩,
    ⟨some 33, none, .h (.load 24 true (.t 32))⟩,
    ⟨some 34, none, .h (.load 2 true (.t 6))⟩,
    ⟨some 35, none, .h (.call (.f 108) [.t 33, .t 34])⟩,
    ⟨some 36, none, .p (.un .not (.t 35))⟩] [4, 5, 6, 23, 24, 25, 36] [])
  (.cond (.t 36)
  (.seq (.region [⟨some 2, none, .p (.nilsl 24)⟩,
    ⟨some 3, none, .p (.mv (.k (.c (C.bool false))))⟩] [2, 3])
  .ret)
  .skip))
  (.seq (.regionD [⟨some 38, none, .p (.mv (.t 4))⟩,
    ⟨some 39, none, .p (.mv (.t 5))⟩,
    ⟨some 40, none, .p (.ixS 24 (.t 38) (.t 39))⟩,
    ⟨some 41, none, .h (.load 24 true (.t 40))⟩,
    ⟨some 42, none, .p (.ixA 2 1 (.t 6) (.k (.c (C.int .i64 0))))⟩,
    ⟨some 43, none, .h (.load 1 false (.t 42))⟩,
    ⟨some 44, none, .p (.ixA 2 1 (.t 6) (.k (.c (C.int .i64 1))))⟩,
    ⟨some 45, none, .h (.load 1 false (.t 44))⟩,
    ⟨some 46, none, .h (.call (.f 109) [.t 41, .t 43, .t 45])⟩,
    ⟨some 37, none, .p (.mv (.t 46))⟩,
    ⟨some 47, none, .p (.ext (.t 37) 0)⟩,
    ⟨some 48, none, .p (.ext (.t 37) 1)⟩,
    ⟨some 7, none, .p (.alloc (List.replicate 24 (.k (C.int .i64 0))))⟩,
    ⟨none, none, .h (.store 24 (.t 7) (.t 47))⟩,
    ⟨some 8, none, .p (.mv (.t 48))⟩] [4, 7, 23, 24, 25] [])
  (.region [⟨some 49, none, .p (.mv (.t 4))⟩,
    ⟨some 50, none, .h (.load 24 true (.t 7))⟩,
    ⟨some 51, none, .p (.mksl 24 1 (List.replicate 24 (.k (C.int .i64 0))) [(0, 24, .t 50)])⟩,
    ⟨some 52, none, .h (.app 24 (.t 49) (.t 51))⟩,
    ⟨some 4, none, .p (.mv (.t 52))⟩] [4, 23, 24, 25])))))
  (.region [⟨some 53, none, .p (.bin .add (.t 25) (.k (.c (C.int .i64 1))))⟩,
    ⟨some 25, none, .p (.mv (.t 53))⟩] [4, 23, 24, 25])))) [4, 23, 24, 25])))
  (.seq (.region [⟨some 54, none, .p (.mv (.t 4))⟩,
    ⟨some 2, none, .p (.mv (.t 54))⟩,
    ⟨some 3, none, .p (.mv (.k (.c (C.bool true))))⟩] [2, 3])
  .ret))))) }
theorem a80_ok : okFn Tryd.prog 80 a80 = true := by kernel_rfl
/-- loop.example/g01215/laws.eqIntA4A6 -/
def a81 : AFn := { np := 2, nt := 18, res := [.t 4], body :=
  (.seq (.region [⟨some 2, none, .p (.box 24 (.t 0))⟩,
    ⟨some 3, none, .p (.box 24 (.t 1))⟩,
    ⟨some 4, none, .p (.mv (.k (.c (C.bool false))))⟩] [2, 3])
  (.seq (.seq (.region [⟨some 5, none, .p (.mv (.k (.c (C.int .i64 0))))⟩] [2, 3, 5])
  (.block 0 (.loop (.seq (.seq (.region [⟨some 6, none, .p (.mv (.t 5))⟩,
    ⟨some 7, none, .p (.bin .lss (.t 6) (.k (.c (C.int .i64 6))))⟩] [2, 3, 5, 7])
  (.cond (.t 7)
  .skip
  (.exit 0)))
  (.seq (.block 1 (.seq (.regionD [⟨some 10, none, .p (.mv (.t 5))⟩,
    ⟨some 11, none, .p (.ixA 6 4 (.t 2) (.t 10))⟩,
    ⟨some 12, none, .h (.load 4 true (.t 11))⟩,
    ⟨some 13, none, .p (.mv (.t 5))⟩,
    ⟨some 14, none, .p (.ixA 6 4 (.t 3) (.t 13))⟩,
    ⟨some 15, none, .h (.load 4 true (.t 14))⟩,
    ⟨some 16, none, .h (.call (.f 110) [.t 12, .t 15])⟩,
    ⟨some 17, none, .p (.un .not (.t 16))⟩] [2, 3, 5, 17] [])
  (.cond (.t 17)
  (.seq (.region [⟨some 4, none, .p (.mv (.k (.c (C.bool false))))⟩] [4])
  .ret)
  .skip)))
  (.region [⟨some 8, none, .p (.mv (.t 5))⟩,
    ⟨some 9, none, .p (.bin .add (.t 8) (.k (.c (C.int .i64 1))))⟩,
    ⟨some 5, none, .p (.mv (.t 9))⟩] [2, 3, 5]))) [2, 3, 5])))
  (.seq (.region [⟨some 4, none, .p (.mv (.k (.c (C.bool true))))⟩] [4])
  .ret))) }
theorem a81_ok : okFn Tryd.prog 81 a81 = true := by kernel_rfl
/-- loop.example/g01215/laws.eqIntA2 -/
def a82 : AFn := { np := 2, nt := 17, res := [.t 4], body :=
  (.seq (.region [⟨some 2, none, .p (.box 2 (.t 0))⟩,
    ⟨some 3, none, .p (.box 2 (.t 1))⟩,
    ⟨some 4, none, .p (.mv (.k (.c (C.bool false))))⟩] [2, 3])
  (.seq (.seq (.region [⟨some 5, none, .p (.mv (.k (.c (C.int .i64 0))))⟩] [2, 3, 5])
  (.block 0 (.loop (.seq (.seq (.region [⟨some 6, none, .p (.mv (.t 5))⟩,
    ⟨some 7, none, .p (.bin .lss (.t 6) (.k (.c (C.int .i64 2))))⟩] [2, 3, 5, 7])
  (.cond (.t 7)
  .skip
  (.exit 0)))
  (.seq (.block 1 (.seq (.regionD [⟨some 10, none, .p (.mv (.t 5))⟩,
    ⟨some 11, none, .p (.ixA 2 1 (.t 2) (.t 10))⟩,
    ⟨some 12, none, .h (.load 1 false (.t 11))⟩,
    ⟨some 13, none, .p (.mv (.t 5))⟩,
    ⟨some 14, none, .p (.ixA 2 1 (.t 3) (.t 13))⟩,
    ⟨some 15, none, .h (.load 1 false (.t 14))⟩,
    ⟨some 16, none, .p (.bin .neq (.t 12) (.t 15))⟩] [2, 3, 5, 16] [])
  (.cond (.t 16)
  (.seq (.region [⟨some 4, none, .p (.mv (.k (.c (C.bool false))))⟩] [4])
  .ret)
  .skip)))
  (.region [⟨some 8, none, .p (.mv (.t 5))⟩,
    ⟨some 9, none, .p (.bin .add (.t 8) (.k (.c (C.int .i64 1))))⟩,
    ⟨some 5, none, .p (.mv (.t 9))⟩] [2, 3, 5]))) [2, 3, 5])))
  (.seq (.region [⟨some 4, none, .p (.mv (.k (.c (C.bool true))))⟩] [4])
  .ret))) }
theorem a82_ok : okFn Tryd.prog 82 a82 = true := by kernel_rfl
/-- loop.example/g01215/spec.l2Text -/
def a83 : AFn := { np := 1, nt := 32, res := [.t 2], body :=
  (.seq (.region [⟨some 1, none, .p (.box 24 (.t 0))⟩,
    ⟨some 2, none, .p (.mv (.k (.c (C.str []))))⟩] [1])
  (.seq (.region [⟨some 3, none, .p (.mv (.k (.c (C.str []))))⟩] [1, 3])
  (.seq (.seq (.region [⟨some 4, none, .p (.mv (.k (.c (C.int .i64 0))))⟩] [1, 3, 4])
  (.block 0 (.loop (.seq (.seq (.region [⟨some 7, none, .p (.mv (.t 4))⟩,
    ⟨some 8, none, .p (.bin .lss (.t 7) (.k (.c (C.int .i64 6))))⟩] [1, 3, 4, 8])
  (.cond (.t 8)
  .skip
  (.exit 0)))
  (.seq (.block 1 (.seq (.seq (.region [⟨some 11, none, .p (.mv (.t 4))⟩,
    ⟨some 12, none, .p (.bin .gtr (.t 11) (.k (.c (C.int .i64 0))))⟩] [1, 3, 4, 12])
  (.cond (.t 12)
  (.region [⟨some 13, none, .p (.mv (.t 3))⟩,
    ⟨some 14, none, .p (.bin .add (.t 13) (.k (.c (C.str [47]))))⟩,
    ⟨some 3, none, .p (.mv (.t 14))⟩] [1, 3, 4])
  .skip))
  (.seq (.region [⟨some 5, none, .p (.mv (.k (.c (C.int .i64 0))))⟩] [1, 3, 4, 5])
  (.block 2 (.loop (.seq (.seq (.region [⟨some 15, none, .p (.mv (.t 5))⟩,
    ⟨some 16, none, .p (.bin .lss (.t 15) (.k (.c (C.int .i64 4))))⟩] [1, 3, 4, 5, 16])
  (.cond (.t 16)
  .skip
  (.exit 2)))
  (.seq (.block 3 (.seq (.region [⟨some 19, none, .p (.mv (.t 4))⟩,
    ⟨some 20, none, .p (.mv (.t 5))⟩,
    ⟨some 21, none, .p (.fld 0 (.t 1))⟩,
    ⟨some 22, none, .p (.ixA 6 4 (.t 21) (.t 19))⟩,
    ⟨some 23, none, .p (.ixA 4 1 (.t 22) (.t 20))⟩,
    ⟨some 24, none, .h (.load 1 false (.t 23))⟩,
    ⟨some 6, none, .p (.mv (.t 24))⟩] [1, 3, 4, 5, 6])
  (.region [⟨some 25, none, .p (.mv (.t 3))⟩,
    ⟨some 26, none, .p (.mv (.t 6))⟩,
    ⟨some 27, none, .p (.mv (.t 6))⟩,
    ⟨some 28, none, .p (.bin .add (.t 27) (.k (.c (C.int .i64 1))))⟩,
    ⟨some 29, none, .p (.slStr (.k (.c (C.str [46, 97, 98, 99, 100, 101]))) (some (.t 26)) (some (.t 28)))⟩,
    ⟨some 30, none, .p (.bin .add (.t 25) (.t 29))⟩,
    ⟨some 3, none, .p (.mv (.t 30))⟩] [1, 3, 4, 5])))
  (.region [⟨some 17, none, .p (.mv (.t 5))⟩,
    ⟨some 18, none, .p (.bin .add (.t 17) (.k (.c (C.int .i64 1))))⟩,
    ⟨some 5, none, .p (.mv (.t 18))⟩] [1, 3, 4, 5]))) [1, 3, 4, 5])))))
  (.region [⟨some 9, none, .p (.mv (.t 4))⟩,
    ⟨some 10, none, .p (.bin .add (.t 9) (.k (.c (C.int .i64 1))))⟩,
    ⟨some 4, none, .p (.mv (.t 10))⟩] [1, 3, 4]))) [1, 3, 4])))
  (.seq (.region [⟨some 31, none, .p (.mv (.t 3))⟩,
    ⟨some 2, none, .p (.mv (.t 31))⟩] [2])
  .ret)))) }
theorem a83_ok : okFn Tryd.prog 83 a83 = true := by kernel_rfl
/-- loop.example/g01215/spec.l1Num -/
def a84 : AFn := { np := 1, nt := 35, res := [.t 2], body :=
  (.seq (.region [⟨some 2, none, .p (.mv (.k (.c (C.str []))))⟩] [0])
  (.seq (.seq (.region [⟨some 3, none, .p (.mv (.t 0))⟩,
    ⟨some 4, none, .p (.bin .lss (.t 3) (.k (.c (C.int .i64 0))))⟩] [0, 4])
  (.cond (.t 4)
  (.seq (.seq (.region [⟨some 5, none, .p (.mv (.t 0))⟩,
    ⟨some 6, none, .p (.bin .gtr (.t 5) (.k (.c (C.int .i64 (-10)))))⟩] [0, 6])
  (.cond (.t 6)
  (.seq (.region [⟨some 7, none, .p (.mv (.t 0))⟩,
    ⟨some 8, none, .p (.un .neg (.t 7))⟩,
    ⟨some 9, none, .h (.call (.f 84) [.t 8])⟩,
    ⟨some 10, none, .p (.bin .add (.k (.c (C.str [45]))) (.t 9))⟩,
    ⟨some 2, none, .p (.mv (.t 10))⟩] [2])
  .ret)
  .skip))
  (.seq (.region [⟨some 11, none, .p (.mv (.t 0))⟩,
    ⟨some 12, none, .p (.bin .quo (.t 11) (.k (.c (C.int .i64 10))))⟩,
    ⟨some 13, none, .h (.call (.f 84) [.t 12])⟩,
    ⟨some 14, none, .p (.mv (.t 0))⟩,
    ⟨some 15, none, .p (.bin .rem (.t 14) (.k (.c (C.int .i64 10))))⟩,
    ⟨some 16, none, .p (.un .neg (.t 15))⟩,
    ⟨some 17, none, .h (.call (.f 84) [.t 16])⟩,
    ⟨some 18, none, .p (.bin .add (.t 13) (.t 17))⟩,
    ⟨some 2, none, .p (.mv (.t 18))⟩] [2])
  .ret))
  .skip))
  (.seq (.seq (.region [⟨some 19, none, .p (.mv (.t 0))⟩,
    ⟨some 20, none, .p (.bin .lss (.t 19) (.k (.c (C.int .i64 10))))⟩] [0, 20])
  (.cond (.t 20)
  (.seq (.region [⟨some 21, none, .p (.mv (.t 0))⟩,
    ⟨some 22, none, .p (.mv (.t 0))⟩,
    ⟨some 23, none, .p (.bin .add (.t 22) (.k (.c (C.int .i64 1))))⟩,
    ⟨some 24, none, .p (.slStr (.k (.c (C.str [48, 49, 50, 51, 52, 53, 54, 55, 56, 57]))) (some (.t 21)) (some (.t 23)))⟩,
    ⟨some 2, none, .p (.mv (.t 24))⟩] [2])
  .ret)
  .skip))
  (.seq (.regionD [⟨some 25, none, .p (.mv (.t 0))⟩,
    ⟨some 26, none, .p (.bin .quo (.t 25) (.k (.c (C.int .i64 10))))⟩,
    ⟨some 27, none, .h (.call (.f 84) [.t 26])⟩,
    ⟨some 28, none, .p (.mv (.t 0))⟩,
    ⟨some 29, none, .p (.bin .rem (.t 28) (.k (.c (C.int .i64 10))))⟩,
    ⟨some 30, none, .p (.mv (.t 0))⟩,
    ⟨some 31, none, .p (.bin .rem (.t 30) (.k (.c (C.int .i64 10))))⟩,
    ⟨some 32, none, .p (.bin .add (.t 31) (.k (.c (C.int .i64 1))))⟩,
    ⟨some 33, none, .p (.slStr (.k (.c (C.str [48, 49, 50, 51, 52, 53, 54, 55, 56, 57]))) (some (.t 29)) (some (.t 32)))⟩,
    ⟨some 34, none, .p (.bin .add (.t 27) (.t 33))⟩,
    ⟨some 2, none, .p (.mv (.t 34))⟩] [2] [])
  .ret)))) }
theorem a84_ok : okFn Tryd.prog 84 a84 = true := by kernel_rfl
/-- loop.example/g01215/laws.toIntA4A6 -/
def a85 : AFn := { np := 1, nt := 16, res := [.cell 2 24 true], body :=
  (.seq (.region [⟨some 1, none, .p (.box 24 (.t 0))⟩,
    ⟨some 2, none, .p (.alloc (List.replicate 24 (.k (C.int .i64 0))))⟩] [1, 2])
  (.seq (.region [⟨some 3, none, .p (.alloc (List.replicate 24 (.k (C.int .i64 0))))⟩] [1, 2, 3])
  (.seq (.seq (.region [⟨some 4, none, .p (.mv (.k (.c (C.int .i64 0))))⟩] [1, 2, 3, 4])
  (.block 0 (.loop (.seq (.seq (.region [⟨some 5, none, .p (.mv (.t 4))⟩,
    ⟨some 6, none, .p (.bin .lss (.t 5) (.k (.c (C.int .i64 6))))⟩] [1, 2, 3, 4, 6])
  (.cond (.t 6)
  .skip
  (.exit 0)))
  (.seq (.block 1 (.region [⟨some 9, none, .p (.mv (.t 4))⟩,
    ⟨some 10, none, .p (.mv (.t 4))⟩,
    ⟨some 11, none, .p (.ixA 6 4 (.t 1) (.t 10))⟩,
    ⟨some 12, none, .h (.load 4 true (.t 11))⟩,
    ⟨some 13, none, .h (.call (.f 111) [.t 12])⟩,
    ⟨some 14, none, .p (.ixA 6 4 (.t 3) (.t 9))⟩,
    ⟨none, none, .h (.store 4 (.t 14) (.t 13))⟩] [1, 2, 3, 4]))
  (.region [⟨some 7, none, .p (.mv (.t 4))⟩,
    ⟨some 8, none, .p (.bin .add (.t 7) (.k (.c (C.int .i64 1))))⟩,
    ⟨some 4, none, .p (.mv (.t 8))⟩] [1, 2, 3, 4]))) [1, 2, 3, 4])))
  (.seq (.region [⟨some 15, none, .h (.load 24 true (.t 3))⟩,
    ⟨none, none, .h (.store 24 (.t 2) (.t 15))⟩] [2])
  .ret)))) }
theorem a85_ok : okFn Tryd.prog 85 a85 = true := by kernel_rfl
/-- loop.example/g01215/laws.toIntA2 -/
def a86 : AFn := { np := 1, nt := 15, res := [.cell 2 2 true], body :=
  (.seq (.region [⟨some 1, none, .p (.box 2 (.t 0))⟩,
    ⟨some 2, none, .p (.alloc [.k (C.int .i64 0), .k (C.int .i64 0)])⟩] [1, 2])
  (.seq (.region [⟨some 3, none, .p (.alloc [.k (C.int .i64 0), .k (C.int .i64 0)])⟩] [1, 2, 3])
  (.seq (.seq (.region [⟨some 4, none, .p (.mv (.k (.c (C.int .i64 0))))⟩] [1, 2, 3, 4])
  (.block 0 (.loop (.seq (.seq (.region [⟨some 5, none, .p (.mv (.t 4))⟩,
    ⟨some 6, none, .p (.bin .lss (.t 5) (.k (.c (C.int .i64 2))))⟩] [1, 2, 3, 4, 6])
  (.cond (.t 6)
  .skip
  (.exit 0)))
  (.seq (.block 1 (.region [⟨some 9, none, .p (.mv (.t 4))⟩,
    ⟨some 10, none, .p (.mv (.t 4))⟩,
    ⟨some 11, none, .p (.ixA 2 1 (.t 1) (.t 10))⟩,
    ⟨some 12, none, .h (.load 1 false (.t 11))⟩,
    ⟨some 13, none, .p (.ixA 2 1 (.t 3) (.t 9))⟩,
    ⟨none, none, .h (.store 1 (.t 13) (.t 12))⟩] [1, 2, 3, 4]))
  (.region [⟨some 7, none, .p (.mv (.t 4))⟩,
    ⟨some 8, none, .p (.bin .add (.t 7) (.k (.c (C.int .i64 1))))⟩,
    ⟨some 4, none, .p (.mv (.t 8))⟩] [1, 2, 3, 4]))) [1, 2, 3, 4])))
  (.seq (.region [⟨some 14, none, .h (.load 2 true (.t 3))⟩,
    ⟨none, none, .h (.store 2 (.t 2) (.t 14))⟩] [2])
  .ret)))) }
theorem a86_ok : okFn Tryd.prog 86 a86 = true := by kernel_rfl
/-- loop.example/g01215/impl.rackText -/
def a87 : AFn := { np := 1, nt := 30, res := [.t 2], body :=
  (.seq (.region [⟨some 1, none, .p (.box 24 (.t 0))⟩,
    ⟨some 2, none, .p (.mv (.k (.c (C.str []))))⟩] [1])
  (.seq (.region [⟨some 3, none, .p (.nilsl 1)⟩] [1, 3])
  (.seq (.seq (.region [⟨some 9, none, .p (.fld 0 (.t 1))⟩,
    ⟨some 10, none, .h (.load 24 true (.t 9))⟩,
    ⟨some 11, none, .p (.mv (.k (.c (C.int .i64 0))))⟩] [3, 10, 11])
  (.block 0 (.loop (.seq (.region [⟨some 12, none, .p (.bin .lss (.t 11) (.k (.c (C.int .i64 6))))⟩] [3, 10, 11, 12])
  (.seq (.cond (.t 12)
  .skip
  (.exit 0))
  (.seq (.block 1 (.seq (.region [⟨some 13, none, .p (.ixV 6 4 true (.t 10) (.t 11))⟩,
    ⟨some 5, none, .p (.alloc [.k (C.int .i64 0), .k (C.int .i64 0), .k (C.int .i64 0), .k (C.int .i64 0)])⟩,
    ⟨none, none, .h (.store 4 (.t 5) (.t 13))⟩] [3, 5, 10, 11])
  (.seq (.region [⟨some 6, none, .p (.mv (.k (.c (C.str []))))⟩] [3, 5, 6, 10, 11])
  (.seq (.seq (.region [⟨some 14, none, .h (.load 4 true (.t 5))⟩,
    ⟨some 15, none, .p (.mv (.k (.c (C.int .i64 0))))⟩] [3, 6, 10, 11, 14, 15])
  (.block 2 (.loop (.seq (.region [⟨some 16, none, .p (.bin .lss (.t 15) (.k (.c (C.int .i64 4))))⟩] [3, 6, 10, 11, 14, 15, 16])
  (.seq (.cond (.t 16)
  .skip
  (.exit 2))
  (.seq (.block 3 (.seq (.region [⟨some 17, none, .p (.ixV 4 1 false (.t 14) (.t 15))⟩,
    ⟨some 8, none, .p (.mv (.t 17))⟩] [3, 6, 8, 10, 11, 14, 15])
  (.region [⟨some 18, none, .p (.mv (.t 6))⟩,
    ⟨some 19, none, .p (.mv (.t 8))⟩,
    ⟨some 20, none, .h (.call (.f 112) [.t 19])⟩,
    ⟨some 21, none, .p (.bin .add (.t 18) (.t 20))⟩,
    ⟨some 6, none, .p (.mv (.t 21))⟩] [3, 6, 10, 11, 14, 15])))
  (.region [⟨some 22, none, .p (.bin .add (.t 15) (.k (.c (C.int .i64 1))))⟩,
    ⟨some 15, none, .p (.mv (.t 22))⟩] [3, 6, 10, 11, 14, 15])))) [3, 6, 10, 11, 14, 15])))
  (.region [⟨some 23, none, .p (.mv (.t 3))⟩,
    ⟨some 24, none, .p (.mv (.t 6))⟩,
    ⟨some 25, none, .p (.mksl 1 1 [.k (C.str [])] [(0, 1, .t 24)])⟩,
    ⟨some 26, none, .h (.app 1 (.t 23) (.t 25))⟩,
    ⟨some 3, none, .p (.mv (.t 26))⟩] [3, 10, 11])))))
  (.region [⟨some 27, none, .p (.bin .add (.t 11) (.k (.c (C.int .i64 1))))⟩,
    ⟨some 11, none, .p (.mv (.t 27))⟩] [3, 10, 11])))) [3, 10, 11])))
  (.seq (.region [⟨some 28, none, .p (.mv (.t 3))⟩,
    ⟨some 29, none, .h (.call (.f 113) [.t 28, .k (.c (C.str [47]))])⟩,
    ⟨some 2, none, .p (.mv (.t 29))⟩] [2])
  .ret)))) }
theorem a87_ok : okFn Tryd.prog 87 a87 = true := by kernel_rfl
/-- (*loop.example/g01215/spec.l1Cur).of -/
def a88 : AFn := { np := 2, nt := 12, res := [.t 4], body :=
  (.seq (.region [⟨some 4, none, .p (.mv (.k (.c (C.str []))))⟩] [0, 1])
  (.seq (.region [⟨some 5, none, .p (.mv (.t 1))⟩,
    ⟨some 6, none, .p (.mv (.t 0))⟩,
    ⟨some 7, none, .p (.mv (.t 1))⟩,
    ⟨some 8, none, .p (.len (.t 7))⟩,
    ⟨some 9, none, .h (.call (.f 66) [.t 6, .t 8])⟩,
    ⟨some 10, none, .p (.ixS 1 (.t 5) (.t 9))⟩,
    ⟨some 11, none, .h (.load 1 false (.t 10))⟩,
    ⟨some 4, none, .p (.mv (.t 11))⟩] [4])
  .ret)) }
theorem a88_ok : okFn Tryd.prog 88 a88 = true := by kernel_rfl
/-- loop.example/g01215/impl.checksum -/
def a90 : AFn := { np := 1, nt := 22, res := [.t 2], body :=
  (.seq (.region [⟨some 2, none, .p (.mv (.k (.c (C.int .i64 0))))⟩] [0])
  (.seq (.region [⟨some 3, none, .p (.mv (.k (.c (C.int .i64 7))))⟩] [0, 3])
  (.seq (.seq (.region [⟨some 6, none, .p (.mv (.t 0))⟩,
    ⟨some 7, none, .h (.s2b (.t 6))⟩,
    ⟨some 8, none, .p (.len (.t 7))⟩,
    ⟨some 9, none, .p (.mv (.k (.c (C.int .i64 0))))⟩] [3, 7, 8, 9])
  (.block 0 (.loop (.seq (.region [⟨some 10, none, .p (.bin .lss (.t 9) (.t 8))⟩] [3, 7, 8, 9, 10])
  (.seq (.cond (.t 10)
  .skip
  (.exit 0))
  (.seq (.block 1 (.seq (.region [⟨some 11, none, .p (.ixS 1 (.t 7) (.t 9))⟩,
    ⟨some 12, none, .h (.load 1 false (.t 11))⟩,
    ⟨some 5, none, .p (.mv (.t 12))⟩] [3, 5, 7, 8, 9])
  (.region [⟨some 13, none, .p (.mv (.t 3))⟩,
    ⟨some 14, none, .p (.bin .mul (.k (.c (C.int .i64 41))) (.t 13))⟩,
    ⟨some 15, none, .p (.mv (.t 5))⟩,
    ⟨some 16, none, .p (.conv .i64 (.t 15))⟩,
    ⟨some 17, none, .p (.bin .add (.t 14) (.t 16))⟩,
    ⟨some 18, none, .p (.bin .add (.t 17) (.k (.c (C.int .i64 1))))⟩,
    ⟨some 19, none, .p (.bin .rem (.t 18) (.k (.c (C.int .i64 999979))))⟩,
    ⟨some 3, none, .p (.mv (.t 19))⟩] [3, 7, 8, 9])))
  (.region [⟨some 20, none, .p (.bin .add (.t 9) (.k (.c (C.int .i64 1))))⟩,
    ⟨some 9, none, .p (.mv (.t 20))⟩] [3, 7, 8, 9])))) [3, 7, 8, 9])))
  (.seq (.region [⟨some 21, none, .p (.mv (.t 3))⟩,
    ⟨some 2, none, .p (.mv (.t 21))⟩] [2])
  .ret)))) }
theorem a90_ok : okFn Tryd.prog 90 a90 = true := by kernel_rfl
/-- loop.example/g01215/spec.l12Bytes -/
def a92 : AFn := { np := 2, nt := 28, res := [.t 4], body :=
  (.seq (.region [⟨some 4, none, .p (.mv (.k (.c (C.bool false))))⟩] [0, 1])
  (.seq (.seq (.region [⟨some 5, none, .p (.mv (.k (.c (C.int .i64 0))))⟩] [0, 1, 5])
  (.block 0 (.loop (.seq (.seq (.region [⟨some 6, none, .p (.mv (.t 5))⟩,
    ⟨some 7, none, .p (.mv (.t 0))⟩,
    ⟨some 8, none, .p (.lenStr (.t 7))⟩,
    ⟨some 9, none, .p (.bin .lss (.t 6) (.t 8))⟩] [0, 1, 5, 9])
  (.cond (.t 9)
  .skip
  (.exit 0)))
  (.seq (.block 1 (.seq (.region [⟨some 12, none, .p (.mv (.t 0))⟩,
    ⟨some 13, none, .p (.mv (.t 5))⟩,
    ⟨some 14, none, .p (.ixStr (.t 12) (.t 13))⟩,
    ⟨some 15, none, .p (.conv .i64 (.t 14))⟩,
    ⟨some 16, none, .h (.call (.f 43) [.t 15, .k (.c (C.int .i64 32)), .k (.c (C.int .i64 126))])⟩,
    ⟨some 17, none, .p (.un .not (.t 16))⟩,
    ⟨some 18, none, .p (.mv (.t 17))⟩,
    ⟨some 19, some (18, false), .p (.mv (.t 0))⟩,
    ⟨some 20, some (18, false), .p (.mv (.t 5))⟩,
    ⟨some 21, some (18, false), .p (.ixStr (.t 19) (.t 20))⟩,
    ⟨some 22, some (18, false), .p (.bin .eql (.t 21) (.k (.c (C.int .u8 35))))⟩,
    ⟨some 23, none, .p (.pick (.t 18) (.k (.c (C.bool true))) (.t 22))⟩] [0, 1, 5, 23])
  (.cond (.t 23)
  (.seq (.region [⟨some 4, none, .p (.mv (.k (.c (C.bool false))))⟩] [4])
  .ret)
  .skip)))
  (.region [⟨some 10, none, .p (.mv (.t 5))⟩,
    ⟨some 11, none, .p (.bin .add (.t 10) (.k (.c (C.int .i64 1))))⟩,
    ⟨some 5, none, .p (.mv (.t 11))⟩] [0, 1, 5]))) [0, 1, 5])))
  (.seq (.region [⟨some 24, none, .p (.mv (.t 0))⟩,
    ⟨some 25, none, .p (.lenStr (.t 24))⟩,
    ⟨some 26, none, .p (.mv (.t 1))⟩,
    ⟨some 27, none, .p (.bin .leq (.t 25) (.t 26))⟩,
    ⟨some 4, none, .p (.mv (.t 27))⟩] [4])
  .ret))) }
theorem a92_ok : okFn Tryd.prog 92 a92 = true := by kernel_rfl
/-- loop.example/g01215/spec.l1Stands -/
def a93 : AFn := { np := 2, nt := 17, res := [.t 4], body :=
  (.seq (.region [⟨some 4, none, .p (.mv (.k (.c (C.bool false))))⟩] [0, 1])
  (.seq (.seq (.region [⟨some 5, none, .p (.mv (.k (.c (C.int .i64 0))))⟩] [0, 1, 5])
  (.block 0 (.loop (.seq (.seq (.region [⟨some 6, none, .p (.mv (.t 5))⟩,
    ⟨some 7, none, .p (.mv (.t 0))⟩,
    ⟨some 8, none, .p (.lenStr (.t 7))⟩,
    ⟨some 9, none, .p (.bin .lss (.t 6) (.t 8))⟩] [0, 1, 5, 9])
  (.cond (.t 9)
  .skip
  (.exit 0)))
  (.seq (.block 1 (.seq (.region [⟨some 12, none, .p (.mv (.t 0))⟩,
    ⟨some 13, none, .p (.mv (.t 5))⟩,
    ⟨some 14, none, .p (.ixStr (.t 12) (.t 13))⟩,
    ⟨some 15, none, .p (.mv (.t 1))⟩,
    ⟨some 16, none, .p (.bin .eql (.t 14) (.t 15))⟩] [0, 1, 5, 16])
  (.cond (.t 16)
  (.seq (.region [⟨some 4, none, .p (.mv (.k (.c (C.bool true))))⟩] [4])
  .ret)
  .skip)))
  (.region [⟨some 10, none, .p (.mv (.t 5))⟩,
    ⟨some 11, none, .p (.bin .add (.t 10) (.k (.c (C.int .i64 1))))⟩,
    ⟨some 5, none, .p (.mv (.t 11))⟩] [0, 1, 5]))) [0, 1, 5])))
  (.seq (.region [⟨some 4, none, .p (.mv (.k (.c (C.bool false))))⟩] [4])
  .ret))) }
theorem a93_ok : okFn Tryd.prog 93 a93 = true := by kernel_rfl
/-- loop.example/g01215/spec.l1Seal -/
def a94 : AFn := { np := 1, nt := 9, res := [.t 2], body :=
  (.seq (.region [⟨some 2, none, .p (.mv (.k (.c (C.str []))))⟩] [0])
  (.seq (.region [⟨some 3, none, .p (.mv (.t 0))⟩,
    ⟨some 4, none, .p (.bin .add (.t 3) (.k (.c (C.str [35]))))⟩,
    ⟨some 5, none, .p (.mv (.t 0))⟩,
    ⟨some 6, none, .h (.call (.f 115) [.t 5])⟩,
    ⟨some 7, none, .h (.call (.f 84) [.t 6])⟩,
    ⟨some 8, none, .p (.bin .add (.t 4) (.t 7))⟩,
    ⟨some 2, none, .p (.mv (.t 8))⟩] [2])
  .ret)) }
theorem a94_ok : okFn Tryd.prog 94 a94 = true := by kernel_rfl
/-- (*loop.example/g01215/spec.l1Cur).next -/
def a95 : AFn := { np := 1, nt := 62, res := [.t 2], body :=
  (.seq (.region [⟨some 2, none, .p (.mv (.k (.c (C.int .i64 0))))⟩] [0])
  (.seq (.region [⟨some 3, none, .p (.mv (.k (.c (C.int .i64 0))))⟩] [0, 3])
  (.seq (.seq (.regionD [⟨some 4, none, .p (.mv (.t 0))⟩,
    ⟨some 5, none, .p (.nn (.t 4))⟩,
    ⟨some 6, none, .p (.fld 1 (.t 5))⟩,
    ⟨some 7, none, .h (.load 1 false (.t 6))⟩,
    ⟨some 8, none, .p (.mv (.t 0))⟩,
    ⟨some 9, none, .p (.nn (.t 8))⟩,
    ⟨some 10, none, .p (.fld 0 (.t 9))⟩,
    ⟨some 11, none, .h (.load 1 false (.t 10))⟩,
    ⟨some 12, none, .p (.len (.t 11))⟩,
    ⟨some 13, none, .p (.bin .lss (.t 7) (.t 12))⟩] [0, 3, 13] [])
  (.cond (.t 13)
  (.regionD [⟨some 14, none, .p (.mv (.t 0))⟩,
    ⟨some 15, none, .p (.nn (.t 14))⟩,
    ⟨some 16, none, .p (.fld 0 (.t 15))⟩,
    ⟨some 17, none, .h (.load 1 false (.t 16))⟩,
    ⟨some 18, none, .p (.mv (.t 0))⟩,
    ⟨some 19, none, .p (.nn (.t 18))⟩,
    ⟨some 20, none, .p (.fld 1 (.t 19))⟩,
    ⟨some 21, none, .h (.load 1 false (.t 20))⟩,
    ⟨some 22, none, .p (.ixS 1 (.t 17) (.t 21))⟩,
    ⟨some 23, none, .h (.load 1 false (.t 22))⟩,
    ⟨some 24, none, .p (.conv .i64 (.t 23))⟩,
    ⟨some 3, none, .p (.mv (.t 24))⟩] [0, 3] [])
  .skip))
  (.seq (.region [⟨some 25, none, .p (.mv (.t 0))⟩,
    ⟨some 26, none, .p (.nn (.t 25))⟩,
    ⟨some 27, none, .p (.fld 1 (.t 26))⟩,
    ⟨some 28, none, .h (.load 1 false (.t 27))⟩,
    ⟨some 29, none, .p (.bin .add (.t 28) (.k (.c (C.int .i64 1))))⟩,
    ⟨some 30, none, .p (.nn (.t 25))⟩,
    ⟨some 31, none, .p (.fld 1 (.t 30))⟩,
    ⟨none, none, .h (.store 1 (.t 31) (.t 29))⟩] [0, 3])
  (.seq (.region [⟨some 32, none, .p (.mv (.t 0))⟩,
    ⟨some 33, none, .p (.mv (.t 0))⟩,
    ⟨some 34, none, .p (.nn (.t 33))⟩,
    ⟨some 35, none, .p (.fld 2 (.t 34))⟩,
    ⟨some 36, none, .h (.load 1 false (.t 35))⟩,
    ⟨some 37, none, .p (.bin .mul (.t 36) (.k (.c (C.int .u64 6364136223846793005))))⟩,
    ⟨some 38, none, .p (.mv (.t 3))⟩,
    ⟨some 39, none, .p (.conv .u64 (.t 38))⟩,
    ⟨some 40, none, .p (.bin .add (.t 37) (.t 39))⟩,
    ⟨some 41, none, .p (.bin .add (.t 40) (.k (.c (C.int .u64 462197))))⟩,
    ⟨some 42, none, .p (.nn (.t 32))⟩,
    ⟨some 43, none, .p (.fld 2 (.t 42))⟩,
    ⟨none, none, .h (.store 1 (.t 43) (.t 41))⟩] [0, 3])
  (.seq (.seq (.regionD [⟨some 44, none, .p (.mv (.t 0))⟩,
    ⟨some 45, none, .p (.nn (.t 44))⟩,
    ⟨some 46, none, .p (.fld 1 (.t 45))⟩,
    ⟨some 47, none, .h (.load 1 false (.t 46))⟩,
    ⟨some 48, none, .p (.mv (.t 0))⟩,
    ⟨some 49, none, .p (.nn (.t 48))⟩,
    ⟨some 50, none, .p (.fld 0 (.t 49))⟩,
    ⟨some 51, none, .h (.load 1 false (.t 50))⟩,
    ⟨some 52, none, .p (.len (.t 51))⟩,
    ⟨some 53, none, .p (.bin .leq (.t 47) (.t 52))⟩] [0, 3, 53] [])
  (.cond (.t 53)
  (.seq (.region [⟨some 54, none, .p (.mv (.t 3))⟩,
    ⟨some 2, none, .p (.mv (.t 54))⟩] [2])
  .ret)
  .skip))
  (.seq (.region [⟨some 55, none, .p (.mv (.t 0))⟩,
    ⟨some 56, none, .p (.nn (.t 55))⟩,
    ⟨some 57, none, .p (.fld 2 (.t 56))⟩,
    ⟨some 58, none, .h (.load 1 false (.t 57))⟩,
    ⟨some 59, none, .p (.bin .shr (.t 58) (.k (.c (C.int .u64 40))))⟩,
    ⟨some 60, none, .p (.bin .and (.t 59) (.k (.c (C.int .u64 255))))⟩,
    ⟨some 61, none, .p (.conv .i64 (.t 60))⟩,
    ⟨some 2, none, .p (.mv (.t 61))⟩] [2])
  .ret))))))) }
theorem a95_ok : okFn Tryd.prog 95 a95 = true := by kernel_rfl
/-- loop.example/g01215/impl.areAll[byte] -/
def a96 : AFn := { np := 2, nt := 9, res := [.t 4], body :=
  (.seq (.region [⟨some 3, none, .p (.box 1 (.t 1))⟩,
    ⟨some 4, none, .p (.mv (.k (.c (C.bool false))))⟩] [0, 3])
  (.seq (.region [⟨some 5, none, .p (.mv (.t 0))⟩,
    ⟨some 6, none, .p (.mkfn 117 [.t 3])⟩,
    ⟨some 7, none, .h (.call (.f 116) [.t 5, .t 6])⟩,
    ⟨some 8, none, .p (.un .not (.t 7))⟩,
    ⟨some 4, none, .p (.mv (.t 8))⟩] [4])
  .ret)) }
theorem a96_ok : okFn Tryd.prog 96 a96 = true := by kernel_rfl
/-- loop.example/g01215/impl.isPlainText$1 -/
def a97 : AFn := { np := 1, nt := 9, res := [.t 2], body :=
  (.seq (.region [⟨some 2, none, .p (.mv (.k (.c (C.bool false))))⟩] [0])
  (.seq (.region [⟨some 3, none, .p (.mv (.t 0))⟩,
    ⟨some 4, none, .p (.bin .geq (.t 3) (.k (.c (C.int .u8 32))))⟩,
    ⟨some 5, none, .p (.mv (.t 4))⟩,
    ⟨some 6, some (5, true), .p (.mv (.t 0))⟩,
    ⟨some 7, some (5, true), .p (.bin .leq (.t 6) (.k (.c (C.int .u8 126))))⟩,
    ⟨some 8, none, .p (.pick (.t 5) (.t 7) (.k (.c (C.bool false))))⟩,
    ⟨some 2, none, .p (.mv (.t 8))⟩] [2])
  .ret)) }
theorem a97_ok : okFn Tryd.prog 97 a97 = true := by kernel_rfl
/-- loop.example/g01215/spec.l12Decode -/
def a99 : AFn := { np := 2, nt := 64, res := [.cell 4 2 true, .t 5], body :=
  (.seq (.region [⟨some 4, none, .p (.alloc [.k (C.str []), .k (C.str [])])⟩,
    ⟨some 5, none, .p (.mv (.k (.c (C.bool false))))⟩] [0, 1, 4])
  (.seq (.region [⟨some 11, none, .p (.mv (.t 1))⟩,
    ⟨some 12, none, .h (.call (.f 84) [.t 11])⟩,
    ⟨some 13, none, .p (.bin .add (.t 12) (.k (.c (C.str [32]))))⟩,
    ⟨some 6, none, .p (.mv (.t 13))⟩] [0, 1, 4, 6])
  (.seq (.region [⟨some 14, none, .p (.mv (.t 0))⟩,
    ⟨some 15, none, .h (.call (.f 41) [.t 14, .k (.c (C.int .u8 35))])⟩,
    ⟨some 16, none, .p (.ixS 1 (.t 15) (.k (.c (C.int .i64 0))))⟩,
    ⟨some 17, none, .h (.load 1 false (.t 16))⟩,
    ⟨some 7, none, .p (.mv (.t 17))⟩] [0, 1, 4, 6, 7])
  (.seq (.seq (.region [⟨some 18, none, .p (.mv (.t 7))⟩,
    ⟨some 19, none, .p (.lenStr (.t 18))⟩,
    ⟨some 20, none, .p (.mv (.t 6))⟩,
    ⟨some 21, none, .p (.lenStr (.t 20))⟩,
    ⟨some 22, none, .p (.bin .lss (.t 19) (.t 21))⟩,
    ⟨some 23, none, .p (.mv (.t 22))⟩,
    ⟨some 24, some (23, false), .p (.mv (.t 7))⟩,
    ⟨some 25, some (23, false), .p (.mv (.t 6))⟩,
    ⟨some 26, some (23, false), .p (.lenStr (.t 25))⟩,
    ⟨some 27, some (23, false), .p (.slStr (.t 24) none (some (.t 26)))⟩,
    ⟨some 28, some (23, false), .p (.mv (.t 6))⟩,
    ⟨some 29, some (23, false), .p (.bin .neq (.t 27) (.t 28))⟩,
    ⟨some 30, none, .p (.pick (.t 23) (.k (.c (C.bool true))) (.t 29))⟩] [0, 1, 4, 6, 7, 30])
  (.cond (.t 30)
  (.seq (.region [⟨some 31, none, .p (.build [.k (C.str []), .k (C.str [])] [])⟩,
    ⟨none, none, .h (.store 2 (.t 4) (.t 31))⟩,
    ⟨some 5, none, .p (.mv (.k (.c (C.bool false))))⟩] [4, 5])
  .ret)
  .skip))
  (.seq (.region [⟨some 32, none, .p (.mv (.t 7))⟩,
    ⟨some 33, none, .p (.mv (.t 6))⟩,
    ⟨some 34, none, .p (.lenStr (.t 33))⟩,
    ⟨some 35, none, .p (.slStr (.t 32) (some (.t 34)) none)⟩,
    ⟨some 8, none, .p (.mv (.t 35))⟩] [0, 1, 4, 8])
  (.seq (.region [⟨some 36, none, .p (.mv (.t 8))⟩,
    ⟨some 37, none, .h (.call (.f 41) [.t 36, .k (.c (C.int .u8 64))])⟩,
    ⟨some 38, none, .p (.ixS 1 (.t 37) (.k (.c (C.int .i64 0))))⟩,
    ⟨some 39, none, .h (.load 1 false (.t 38))⟩,
    ⟨some 9, none, .p (.mv (.t 39))⟩] [0, 1, 4, 8, 9])
  (.seq (.seq (.region [⟨some 40, none, .p (.mv (.t 9))⟩,
    ⟨some 41, none, .p (.lenStr (.t 40))⟩,
    ⟨some 42, none, .p (.mv (.t 8))⟩,
    ⟨some 43, none, .p (.lenStr (.t 42))⟩,
    ⟨some 44, none, .p (.bin .eql (.t 41) (.t 43))⟩] [0, 1, 4, 8, 9, 44])
  (.cond (.t 44)
  (.seq (.region [⟨some 45, none, .p (.build [.k (C.str []), .k (C.str [])] [])⟩,
    ⟨none, none, .h (.store 2 (.t 4) (.t 45))⟩,
    ⟨some 5, none, .p (.mv (.k (.c (C.bool false))))⟩] [4, 5])
  .ret)
  .skip))
  (.seq (.region [⟨some 46, none, .p (.mv (.t 9))⟩,
    ⟨some 47, none, .p (.mv (.t 8))⟩,
    ⟨some 48, none, .p (.mv (.t 9))⟩,
    ⟨some 49, none, .p (.lenStr (.t 48))⟩,
    ⟨some 50, none, .p (.bin .add (.t 49) (.k (.c (C.int .i64 1))))⟩,
    ⟨some 51, none, .p (.slStr (.t 47) (some (.t 50)) none)⟩,
    ⟨some 52, none, .p (.build [.k (C.str []), .k (C.str [])] [(0, 1, .t 46), (1, 1, .t 51)])⟩,
    ⟨some 10, none, .p (.alloc [.k (C.str []), .k (C.str [])])⟩,
    ⟨none, none, .h (.store 2 (.t 10) (.t 52))⟩] [0, 1, 4, 10])
  (.seq (.regionD [⟨some 53, none, .h (.load 2 true (.t 10))⟩,
    ⟨some 54, none, .h (.load 2 true (.t 10))⟩,
    ⟨some 55, none, .h (.call (.f 62) [.t 54])⟩,
    ⟨some 56, none, .p (.mv (.t 55))⟩,
    ⟨some 57, some (56, true), .p (.mv (.t 1))⟩,
    ⟨some 58, some (56, true), .h (.load 2 true (.t 10))⟩,
    ⟨some 59, some (56, true), .h (.call (.f 63) [.t 57, .t 58])⟩,
    ⟨some 60, some (56, true), .p (.mv (.t 0))⟩,
    ⟨some 61, some (56, true), .p (.bin .add (.t 60) (.k (.c (C.str [10]))))⟩,
    ⟨some 62, some (56, true), .p (.bin .eql (.t 59) (.t 61))⟩,
    ⟨some 63, none, .p (.pick (.t 56) (.t 62) (.k (.c (C.bool false))))⟩,
    ⟨none, none, .h (.store 2 (.t 4) (.t 53))⟩,
    ⟨some 5, none, .p (.mv (.t 63))⟩] [4, 5] [])
  .ret))))))))) }
theorem a99_ok : okFn Tryd.prog 99 a99 = true := by kernel_rfl
/-- loop.example/g01215/impl.readRecord -/
def a100 : AFn := { np := 2, nt := 78, res := [.cell 4 2 true, .t 5, .t 6], body :=
  (.seq (.region [⟨some 4, none, .p (.alloc [.k (C.str []), .k (C.str [])])⟩,
    ⟨some 5, none, .p (.mv (.k (.c (C.int .i64 0))))⟩,
    ⟨some 6, none, .p (.mv (.k (.c (C.bool false))))⟩] [0, 1, 4])
  (.seq (.region [⟨some 21, none, .p (.mv (.t 1))⟩,
    ⟨some 22, none, .h (.call (.f 119) [.t 21, .k (.c (C.str [10]))])⟩,
    ⟨some 20, none, .p (.mv (.t 22))⟩,
    ⟨some 23, none, .p (.ext (.t 20) 0)⟩,
    ⟨some 24, none, .p (.ext (.t 20) 1)⟩,
    ⟨some 25, none, .p (.ext (.t 20) 2)⟩,
    ⟨some 7, none, .p (.mv (.t 23))⟩,
    ⟨some 8, none, .p (.mv (.t 24))⟩,
    ⟨some 9, none, .p (.mv (.t 25))⟩] [0, 4, 7, 9])
  (.seq (.seq (.region [⟨some 26, none, .p (.mv (.t 9))⟩,
    ⟨some 27, none, .p (.un .not (.t 26))⟩] [0, 4, 7, 27])
  (.cond (.t 27)
  (.seq (.region [⟨some 28, none, .p (.build [.k (C.str []), .k (C.str [])] [])⟩,
    ⟨none, none, .h (.store 2 (.t 4) (.t 28))⟩,
    ⟨some 5, none, .p (.mv (.k (.c (C.int .i64 0))))⟩,
    ⟨some 6, none, .p (.mv (.k (.c (C.bool false))))⟩] [4, 5, 6])
  .ret)
  .skip))
  (.seq (.region [⟨some 30, none, .p (.mv (.t 7))⟩,
    ⟨some 31, none, .h (.call (.f 120) [.t 30])⟩,
    ⟨some 29, none, .p (.mv (.t 31))⟩,
    ⟨some 32, none, .p (.ext (.t 29) 0)⟩,
    ⟨some 33, none, .p (.ext (.t 29) 1)⟩,
    ⟨some 10, none, .p (.mv (.t 32))⟩,
    ⟨some 11, none, .p (.mv (.t 33))⟩] [0, 4, 7, 10])
  (.seq (.region [⟨some 35, none, .p (.mv (.t 10))⟩,
    ⟨some 36, none, .p (.mv (.t 0))⟩,
    ⟨some 37, none, .h (.call (.f 61) [.t 36])⟩,
    ⟨some 38, none, .p (.bin .add (.t 37) (.k (.c (C.str [32]))))⟩,
    ⟨some 39, none, .h (.call (.f 121) [.t 35, .t 38])⟩,
    ⟨some 34, none, .p (.mv (.t 39))⟩,
    ⟨some 40, none, .p (.ext (.t 34) 0)⟩,
    ⟨some 41, none, .p (.ext (.t 34) 1)⟩,
    ⟨some 12, none, .p (.mv (.t 40))⟩,
    ⟨some 13, none, .p (.mv (.t 41))⟩] [0, 4, 7, 12, 13])
  (.seq (.region [⟨some 43, none, .p (.mv (.t 12))⟩,
    ⟨some 44, none, .h (.call (.f 119) [.t 43, .k (.c (C.str [64]))])⟩,
    ⟨some 42, none, .p (.mv (.t 44))⟩,
    ⟨some 45, none, .p (.ext (.t 42) 0)⟩,
    ⟨some 46, none, .p (.ext (.t 42) 1)⟩,
    ⟨some 47, none, .p (.ext (.t 42) 2)⟩,
    ⟨some 14, none, .p (.mv (.t 45))⟩,
    ⟨some 15, none, .p (.mv (.t 46))⟩,
    ⟨some 16, none, .p (.mv (.t 47))⟩] [0, 4, 7, 13, 14, 15, 16])
  (.seq (.region [⟨some 48, none, .p (.mv (.t 14))⟩,
    ⟨some 49, none, .p (.mv (.t 15))⟩,
    ⟨some 50, none, .p (.build [.k (C.str []), .k (C.str [])] [(0, 1, .t 48), (1, 1, .t 49)])⟩,
    ⟨some 17, none, .p (.alloc [.k (C.str []), .k (C.str [])])⟩,
    ⟨none, none, .h (.store 2 (.t 17) (.t 50))⟩] [0, 4, 7, 13, 16, 17])
  (.seq (.seq (.region [⟨some 52, none, .p (.mv (.t 0))⟩,
    ⟨some 53, none, .h (.load 2 true (.t 17))⟩,
    ⟨some 54, none, .h (.call (.f 20) [.t 52, .t 53])⟩,
    ⟨some 51, none, .p (.mv (.t 54))⟩,
    ⟨some 55, none, .p (.ext (.t 51) 0)⟩,
    ⟨some 56, none, .p (.ext (.t 51) 1)⟩,
    ⟨some 18, none, .p (.mv (.t 55))⟩,
    ⟨some 19, none, .p (.mv (.t 56))⟩] [4, 7, 13, 16, 17, 18, 19])
  (.seq (.region [⟨some 57, none, .p (.mv (.t 13))⟩,
    ⟨some 58, none, .p (.un .not (.t 57))⟩,
    ⟨some 59, none, .p (.mv (.t 58))⟩,
    ⟨some 60, some (59, false), .p (.mv (.t 16))⟩,
    ⟨some 61, some (59, false), .p (.un .not (.t 60))⟩,
    ⟨some 62, none, .p (.pick (.t 59) (.k (.c (C.bool true))) (.t 61))⟩,
    ⟨some 63, none, .p (.mv (.t 62))⟩,
    ⟨some 64, some (63, false), .p (.mv (.t 19))⟩,
    ⟨some 65, some (63, false), .p (.un .not (.t 64))⟩,
    ⟨some 66, none, .p (.pick (.t 63) (.k (.c (C.bool true))) (.t 65))⟩,
    ⟨some 67, none, .p (.mv (.t 66))⟩,
    ⟨some 68, some (67, false), .p (.mv (.t 18))⟩,
    ⟨some 69, some (67, false), .p (.mv (.t 7))⟩,
    ⟨some 70, some (67, false), .p (.bin .add (.t 69) (.k (.c (C.str [10]))))⟩,
    ⟨some 71, some (67, false), .p (.bin .neq (.t 68) (.t 70))⟩,
    ⟨some 72, none, .p (.pick (.t 67) (.k (.c (C.bool true))) (.t 71))⟩] [4, 7, 17, 72])
  (.cond (.t 72)
  (.seq (.region [⟨some 73, none, .p (.build [.k (C.str []), .k (C.str [])] [])⟩,
    ⟨none, none, .h (.store 2 (.t 4) (.t 73))⟩,
    ⟨some 5, none, .p (.mv (.k (.c (C.int .i64 0))))⟩,
    ⟨some 6, none, .p (.mv (.k (.c (C.bool false))))⟩] [4, 5, 6])
  .ret)
  .skip)))
  (.seq (.region [⟨some 74, none, .h (.load 2 true (.t 17))⟩,
    ⟨some 75, none, .p (.mv (.t 7))⟩,
    ⟨some 76, none, .p (.lenStr (.t 75))⟩,
    ⟨some 77, none, .p (.bin .add (.t 76) (.k (.c (C.int .i64 1))))⟩,
    ⟨none, none, .h (.store 2 (.t 4) (.t 74))⟩,
    ⟨some 5, none, .p (.mv (.t 77))⟩,
    ⟨some 6, none, .p (.mv (.k (.c (C.bool true))))⟩] [4, 5, 6])
  .ret))))))))) }
theorem a100_ok : okFn Tryd.prog 100 a100 = true := by kernel_rfl
/-- loop.example/g01215/spec.l6Can -/
def a101 : AFn := { np := 2, nt := 21, res := [.t 4], body :=
  (.seq (.region [⟨some 2, none, .p (.box 24 (.t 0))⟩,
    ⟨some 3, none, .p (.box 2 (.t 1))⟩,
    ⟨some 4, none, .p (.mv (.k (.c (C.bool false))))⟩] [2, 3])
  (.seq (.region [⟨some 5, none, .p (.ixA 2 1 (.t 3) (.k (.c (C.int .i64 0))))⟩,
    ⟨some 6, none, .h (.load 1 false (.t 5))⟩,
    ⟨some 7, none, .h (.call (.f 122) [.t 6])⟩,
    ⟨some 8, none, .p (.mv (.t 7))⟩,
    ⟨some 9, some (8, true), .p (.ixA 2 1 (.t 3) (.k (.c (C.int .i64 1))))⟩,
    ⟨some 10, some (8, true), .h (.load 1 false (.t 9))⟩,
    ⟨some 11, some (8, true), .h (.call (.f 122) [.t 10])⟩,
    ⟨some 12, none, .p (.pick (.t 8) (.t 11) (.k (.c (C.bool false))))⟩,
    ⟨some 13, none, .p (.mv (.t 12))⟩,
    ⟨some 14, some (13, true), .h (.load 24 true (.t 2))⟩,
    ⟨some 15, some (13, true), .p (.ixA 2 1 (.t 3) (.k (.c (C.int .i64 0))))⟩,
    ⟨some 16, some (13, true), .h (.load 1 false (.t 15))⟩,
    ⟨some 17, some (13, true), .p (.ixA 2 1 (.t 3) (.k (.c (C.int .i64 1))))⟩,
    ⟨some 18, some (13, true), .h (.load 1 false (.t 17))⟩,
    ⟨some 19, some (13, true), .h (.call (.f 123) [.t 14, .t 16, .t 18])⟩,
    ⟨some 20, none, .p (.pick (.t 13) (.t 19) (.k (.c (C.bool false))))⟩,
    ⟨some 4, none, .p (.mv (.t 20))⟩] [4])
  .ret)) }
theorem a101_ok : okFn Tryd.prog 101 a101 = true := by kernel_rfl
/-- loop.example/g01215/spec.l2Pour -/
def a102 : AFn := { np := 3, nt := 59, res := [.cell 6 24 true, .t 7], body :=
  (.seq (.region [⟨some 3, none, .p (.box 24 (.t 0))⟩,
    ⟨some 6, none, .p (.alloc (List.replicate 24 (.k (C.int .i64 0))))⟩,
    ⟨some 7, none, .p (.mv (.k (.c (C.int .i64 0))))⟩] [1, 2, 3, 6])
  (.seq (.region [⟨some 15, none, .p (.mv (.t 1))⟩,
    ⟨some 16, none, .p (.fld 0 (.t 3))⟩,
    ⟨some 17, none, .p (.ixA 6 4 (.t 16) (.t 15))⟩,
    ⟨some 18, none, .h (.load 4 true (.t 17))⟩,
    ⟨some 19, none, .h (.call (.f 124) [.t 18])⟩,
    ⟨some 14, none, .p (.mv (.t 19))⟩,
    ⟨some 20, none, .p (.ext (.t 14) 0)⟩,
    ⟨some 21, none, .p (.ext (.t 14) 1)⟩,
    ⟨some 8, none, .p (.mv (.t 20))⟩,
    ⟨some 9, none, .p (.mv (.t 21))⟩] [1, 2, 3, 6, 8, 9])
  (.seq (.regionD [⟨some 22, none, .p (.mv (.t 1))⟩,
    ⟨some 23, none, .p (.fld 0 (.t 3))⟩,
    ⟨some 24, none, .p (.ixA 6 4 (.t 23) (.t 22))⟩,
    ⟨some 25, none, .h (.load 4 true (.t 24))⟩,
    ⟨some 26, none, .h (.call (.f 125) [.t 25])⟩,
    ⟨some 27, none, .p (.mv (.t 2))⟩,
    ⟨some 28, none, .p (.fld 0 (.t 3))⟩,
    ⟨some 29, none, .p (.ixA 6 4 (.t 28) (.t 27))⟩,
    ⟨some 30, none, .h (.load 4 true (.t 29))⟩,
    ⟨some 31, none, .h (.call (.f 125) [.t 30])⟩,
    ⟨some 10, none, .p (.mv (.t 26))⟩,
    ⟨some 11, none, .p (.mv (.t 31))⟩] [1, 2, 3, 6, 8, 9, 10, 11] [])
  (.seq (.region [⟨some 32, none, .p (.mv (.t 9))⟩,
    ⟨some 33, none, .p (.mv (.t 11))⟩,
    ⟨some 34, none, .p (.bin .sub (.k (.c (C.int .i64 4))) (.t 33))⟩,
    ⟨some 35, none, .h (.call (.f 126) [.t 32, .t 34])⟩,
    ⟨some 12, none, .p (.mv (.t 35))⟩] [1, 2, 3, 6, 8, 10, 11, 12])
  (.seq (.seq (.region [⟨some 13, none, .p (.mv (.k (.c (C.int .i64 0))))⟩] [1, 2, 3, 6, 8, 10, 11, 12, 13])
  (.block 0 (.loop (.seq (.seq (.region [⟨some 36, none, .p (.mv (.t 13))⟩,
    ⟨some 37, none, .p (.mv (.t 12))⟩,
    ⟨some 38, none, .p (.bin .lss (.t 36) (.t 37))⟩] [1, 2, 3, 6, 8, 10, 11, 12, 13, 38])
  (.cond (.t 38)
  .skip
  (.exit 0)))
  (.seq (.block 1 (.seq (.region [⟨some 41, none, .p (.mv (.t 1))⟩,
    ⟨some 42, none, .p (.mv (.t 10))⟩,
    ⟨some 43, none, .p (.bin .sub (.t 42) (.k (.c (C.int .i64 1))))⟩,
    ⟨some 44, none, .p (.mv (.t 13))⟩,
    ⟨some 45, none, .p (.bin .sub (.t 43) (.t 44))⟩,
    ⟨some 46, none, .p (.fld 0 (.t 3))⟩,
    ⟨some 47, none, .p (.ixA 6 4 (.t 46) (.t 41))⟩,
    ⟨some 48, none, .p (.ixA 4 1 (.t 47) (.t 45))⟩,
    ⟨none, none, .h (.store 1 (.t 48) (.k (.c (C.int .i64 0))))⟩] [1, 2, 3, 6, 8, 10, 11, 12, 13])
  (.region [⟨some 49, none, .p (.mv (.t 2))⟩,
    ⟨some 50, none, .p (.mv (.t 11))⟩,
    ⟨some 51, none, .p (.mv (.t 13))⟩,
    ⟨some 52, none, .p (.bin .add (.t 50) (.t 51))⟩,
    ⟨some 53, none, .p (.mv (.t 8))⟩,
    ⟨some 54, none, .p (.fld 0 (.t 3))⟩,
    ⟨some 55, none, .p (.ixA 6 4 (.t 54) (.t 49))⟩,
    ⟨some 56, none, .p (.ixA 4 1 (.t 55) (.t 52))⟩,
    ⟨none, none, .h (.store 1 (.t 56) (.t 53))⟩] [1, 2, 3, 6, 8, 10, 11, 12, 13])))
  (.region [⟨some 39, none, .p (.mv (.t 13))⟩,
    ⟨some 40, none, .p (.bin .add (.t 39) (.k (.c (C.int .i64 1))))⟩,
    ⟨some 13, none, .p (.mv (.t 40))⟩] [1, 2, 3, 6, 8, 10, 11, 12, 13]))) [1, 2, 3, 6, 8, 10, 11, 12, 13])))
  (.seq (.region [⟨some 57, none, .h (.load 24 true (.t 3))⟩,
    ⟨some 58, none, .p (.mv (.t 12))⟩,
    ⟨none, none, .h (.store 24 (.t 6) (.t 57))⟩,
    ⟨some 7, none, .p (.mv (.t 58))⟩] [6, 7])
  .ret)))))) }
theorem a102_ok : okFn Tryd.prog 102 a102 = true := by kernel_rfl
/-- loop.example/g01215/impl.areAll[[4]int] -/
def a106 : AFn := { np := 2, nt := 9, res := [.t 4], body :=
  (.seq (.region [⟨some 3, none, .p (.box 1 (.t 1))⟩,
    ⟨some 4, none, .p (.mv (.k (.c (C.bool false))))⟩] [0, 3])
  (.seq (.region [⟨some 5, none, .p (.mv (.t 0))⟩,
    ⟨some 6, none, .p (.mkfn 132 [.t 3])⟩,
    ⟨some 7, none, .h (.call (.f 131) [.t 5, .t 6])⟩,
    ⟨some 8, none, .p (.un .not (.t 7))⟩,
    ⟨some 4, none, .p (.mv (.t 8))⟩] [4])
  .ret)) }
theorem a106_ok : okFn Tryd.prog 106 a106 = true := by kernel_rfl
/-- loop.example/g01215/impl.isTube -/
def a107 : AFn := { np := 1, nt := 14, res := [.t 2], body :=
  (.seq (.region [⟨some 1, none, .p (.box 4 (.t 0))⟩,
    ⟨some 2, none, .p (.mv (.k (.c (C.bool false))))⟩] [1])
  (.seq (.region [⟨some 4, none, .h (.load 4 true (.t 1))⟩,
    ⟨some 5, none, .h (.call (.f 133) [.t 4])⟩,
    ⟨some 3, none, .p (.mv (.t 5))⟩] [1, 3])
  (.seq (.region [⟨some 6, none, .p (.mv (.t 3))⟩,
    ⟨some 7, none, .h (.slA 4 1 (.t 1) none (some (.t 6)))⟩,
    ⟨some 8, none, .h (.call (.f 134) [.t 7, .f 135])⟩,
    ⟨some 9, none, .p (.mv (.t 8))⟩,
    ⟨some 10, some (9, true), .p (.mv (.t 3))⟩,
    ⟨some 11, some (9, true), .h (.slA 4 1 (.t 1) (some (.t 10)) none)⟩,
    ⟨some 12, some (9, true), .h (.call (.f 134) [.t 11, .f 136])⟩,
    ⟨some 13, none, .p (.pick (.t 9) (.t 12) (.k (.c (C.bool false))))⟩,
    ⟨some 2, none, .p (.mv (.t 13))⟩] [2])
  .ret))) }
theorem a107_ok : okFn Tryd.prog 107 a107 = true := by kernel_rfl
/-- loop.example/g01215/impl.canPourPath -/
def a108 : AFn := { np := 2, nt := 21, res := [.t 4], body :=
  (.seq (.region [⟨some 2, none, .p (.box 24 (.t 0))⟩,
    ⟨some 3, none, .p (.box 2 (.t 1))⟩,
    ⟨some 4, none, .p (.mv (.k (.c (C.bool false))))⟩] [2, 3])
  (.seq (.region [⟨some 5, none, .p (.ixA 2 1 (.t 3) (.k (.c (C.int .i64 0))))⟩,
    ⟨some 6, none, .h (.load 1 false (.t 5))⟩,
    ⟨some 7, none, .h (.call (.f 137) [.t 6])⟩,
    ⟨some 8, none, .p (.mv (.t 7))⟩,
    ⟨some 9, some (8, true), .p (.ixA 2 1 (.t 3) (.k (.c (C.int .i64 1))))⟩,
    ⟨some 10, some (8, true), .h (.load 1 false (.t 9))⟩,
    ⟨some 11, some (8, true), .h (.call (.f 137) [.t 10])⟩,
    ⟨some 12, none, .p (.pick (.t 8) (.t 11) (.k (.c (C.bool false))))⟩,
    ⟨some 13, none, .p (.mv (.t 12))⟩,
    ⟨some 14, some (13, true), .h (.load 24 true (.t 2))⟩,
    ⟨some 15, some (13, true), .p (.ixA 2 1 (.t 3) (.k (.c (C.int .i64 0))))⟩,
    ⟨some 16, some (13, true), .h (.load 1 false (.t 15))⟩,
    ⟨some 17, some (13, true), .p (.ixA 2 1 (.t 3) (.k (.c (C.int .i64 1))))⟩,
    ⟨some 18, some (13, true), .h (.load 1 false (.t 17))⟩,
    ⟨some 19, some (13, true), .h (.call (.f 138) [.t 14, .t 16, .t 18])⟩,
    ⟨some 20, none, .p (.pick (.t 13) (.t 19) (.k (.c (C.bool false))))⟩,
    ⟨some 4, none, .p (.mv (.t 20))⟩] [4])
  .ret)) }
theorem a108_ok : okFn Tryd.prog 108 a108 = true := by kernel_rfl
/-- loop.example/g01215/impl.pour -/
def a109 : AFn := { np := 3, nt := 58, res := [.cell 6 24 true, .t 7], body :=
  (.seq (.region [⟨some 3, none, .p (.box 24 (.t 0))⟩,
    ⟨some 6, none, .p (.alloc (List.replicate 24 (.k (C.int .i64 0))))⟩,
    ⟨some 7, none, .p (.mv (.k (.c (C.int .i64 0))))⟩] [1, 2, 3, 6])
  (.seq (.region [⟨some 14, none, .p (.mv (.t 1))⟩,
    ⟨some 15, none, .p (.fld 0 (.t 3))⟩,
    ⟨some 16, none, .p (.ixA 6 4 (.t 15) (.t 14))⟩,
    ⟨some 17, none, .h (.load 4 true (.t 16))⟩,
    ⟨some 18, none, .h (.call (.f 139) [.t 17])⟩,
    ⟨some 13, none, .p (.mv (.t 18))⟩,
    ⟨some 19, none, .p (.ext (.t 13) 0)⟩,
    ⟨some 20, none, .p (.ext (.t 13) 1)⟩,
    ⟨some 8, none, .p (.mv (.t 19))⟩,
    ⟨some 9, none, .p (.mv (.t 20))⟩] [1, 2, 3, 6, 8, 9])
  (.seq (.regionD [⟨some 21, none, .p (.mv (.t 1))⟩,
    ⟨some 22, none, .p (.fld 0 (.t 3))⟩,
    ⟨some 23, none, .p (.ixA 6 4 (.t 22) (.t 21))⟩,
    ⟨some 24, none, .h (.load 4 true (.t 23))⟩,
    ⟨some 25, none, .h (.call (.f 133) [.t 24])⟩,
    ⟨some 26, none, .p (.mv (.t 2))⟩,
    ⟨some 27, none, .p (.fld 0 (.t 3))⟩,
    ⟨some 28, none, .p (.ixA 6 4 (.t 27) (.t 26))⟩,
    ⟨some 29, none, .h (.load 4 true (.t 28))⟩,
    ⟨some 30, none, .h (.call (.f 133) [.t 29])⟩,
    ⟨some 10, none, .p (.mv (.t 25))⟩,
    ⟨some 11, none, .p (.mv (.t 30))⟩] [1, 2, 3, 6, 8, 9, 10, 11] [])
  (.seq (.region [⟨some 31, none, .p (.mv (.t 9))⟩,
    ⟨some 32, none, .p (.mv (.t 11))⟩,
    ⟨some 33, none, .p (.bin .sub (.k (.c (C.int .i64 4))) (.t 32))⟩,
    ⟨some 34, none, .p (.mnmx false [.t 31, .t 33])⟩,
    ⟨some 9, none, .p (.mv (.t 34))⟩] [1, 2, 3, 6, 8, 9, 10, 11])
  (.seq (.seq (.region [⟨some 35, none, .p (.mv (.t 9))⟩,
    ⟨some 36, none, .p (.mv (.k (.c (C.int .i64 0))))⟩] [1, 2, 3, 6, 8, 9, 10, 11, 35, 36])
  (.block 0 (.loop (.seq (.region [⟨some 37, none, .p (.bin .lss (.t 36) (.t 35))⟩] [1, 2, 3, 6, 8, 9, 10, 11, 35, 36, 37])
  (.seq (.cond (.t 37)
  .skip
  (.exit 0))
  (.seq (.block 1 (.seq (.region [⟨some 38, none, .p (.mv (.t 36))⟩,
    ⟨some 12, none, .p (.mv (.t 38))⟩] [1, 2, 3, 6, 8, 9, 10, 11, 12, 35, 36])
  (.seq (.region [⟨some 39, none, .p (.mv (.t 1))⟩,
    ⟨some 40, none, .p (.mv (.t 10))⟩,
    ⟨some 41, none, .p (.bin .sub (.t 40) (.k (.c (C.int .i64 1))))⟩,
    ⟨some 42, none, .p (.mv (.t 12))⟩,
    ⟨some 43, none, .p (.bin .sub (.t 41) (.t 42))⟩,
    ⟨some 44, none, .p (.fld 0 (.t 3))⟩,
    ⟨some 45, none, .p (.ixA 6 4 (.t 44) (.t 39))⟩,
    ⟨some 46, none, .p (.ixA 4 1 (.t 45) (.t 43))⟩,
    ⟨none, none, .h (.store 1 (.t 46) (.k (.c (C.int .i64 0))))⟩] [1, 2, 3, 6, 8, 9, 10, 11, 12, 35, 36])
  (.region [⟨some 47, none, .p (.mv (.t 2))⟩,
    ⟨some 48, none, .p (.mv (.t 11))⟩,
    ⟨some 49, none, .p (.mv (.t 12))⟩,
    ⟨some 50, none, .p (.bin .add (.t 48) (.t 49))⟩,
    ⟨some 51, none, .p (.mv (.t 8))⟩,
    ⟨some 52, none, .p (.fld 0 (.t 3))⟩,
    ⟨some 53, none, .p (.ixA 6 4 (.t 52) (.t 47))⟩,
    ⟨some 54, none, .p (.ixA 4 1 (.t 53) (.t 50))⟩,
    ⟨none, none, .h (.store 1 (.t 54) (.t 51))⟩] [1, 2, 3, 6, 8, 9, 10, 11, 35, 36]))))
  (.region [⟨some 55, none, .p (.bin .add (.t 36) (.k (.c (C.int .i64 1))))⟩,
    ⟨some 36, none, .p (.mv (.t 55))⟩] [1, 2, 3, 6, 8, 9, 10, 11, 35, 36])))) [1, 2, 3, 6, 8, 9, 10, 11, 35, 36])))
  (.seq (.region [⟨some 56, none, .h (.load 24 true (.t 3))⟩,
    ⟨some 57, none, .p (.mv (.t 9))⟩,
    ⟨none, none, .h (.store 24 (.t 6) (.t 56))⟩,
    ⟨some 7, none, .p (.mv (.t 57))⟩] [6, 7])
  .ret)))))) }
theorem a109_ok : okFn Tryd.prog 109 a109 = true := by kernel_rfl
/-- loop.example/g01215/laws.eqIntA4 -/
def a110 : AFn := { np := 2, nt := 17, res := [.t 4], body :=
  (.seq (.region [⟨some 2, none, .p (.box 4 (.t 0))⟩,
    ⟨some 3, none, .p (.box 4 (.t 1))⟩,
    ⟨some 4, none, .p (.mv (.k (.c (C.bool false))))⟩] [2, 3])
  (.seq (.seq (.region [⟨some 5, none, .p (.mv (.k (.c (C.int .i64 0))))⟩] [2, 3, 5])
  (.block 0 (.loop (.seq (.seq (.region [⟨some 6, none, .p (.mv (.t 5))⟩,
    ⟨some 7, none, .p (.bin .lss (.t 6) (.k (.c (C.int .i64 4))))⟩] [2, 3, 5, 7])
  (.cond (.t 7)
  .skip
  (.exit 0)))
  (.seq (.block 1 (.seq (.regionD [⟨some 10, none, .p (.mv (.t 5))⟩,
    ⟨some 11, none, .p (.ixA 4 1 (.t 2) (.t 10))⟩,
    ⟨some 12, none, .h (.load 1 false (.t 11))⟩,
    ⟨some 13, none, .p (.mv (.t 5))⟩,
    ⟨some 14, none, .p (.ixA 4 1 (.t 3) (.t 13))⟩,
    ⟨some 15, none, .h (.load 1 false (.t 14))⟩,
    ⟨some 16, none, .p (.bin .neq (.t 12) (.t 15))⟩] [2, 3, 5, 16] [])
  (.cond (.t 16)
  (.seq (.region [⟨some 4, none, .p (.mv (.k (.c (C.bool false))))⟩] [4])
  .ret)
  .skip)))
  (.region [⟨some 8, none, .p (.mv (.t 5))⟩,
    ⟨some 9, none, .p (.bin .add (.t 8) (.k (.c (C.int .i64 1))))⟩,
    ⟨some 5, none, .p (.mv (.t 9))⟩] [2, 3, 5]))) [2, 3, 5])))
  (.seq (.region [⟨some 4, none, .p (.mv (.k (.c (C.bool true))))⟩] [4])
  .ret))) }
theorem a110_ok : okFn Tryd.prog 110 a110 = true := by kernel_rfl
/-- loop.example/g01215/laws.toIntA4 -/
def a111 : AFn := { np := 1, nt := 15, res := [.cell 2 4 true], body :=
  (.seq (.region [⟨some 1, none, .p (.box 4 (.t 0))⟩,
    ⟨some 2, none, .p (.alloc [.k (C.int .i64 0), .k (C.int .i64 0), .k (C.int .i64 0), .k (C.int .i64 0)])⟩] [1, 2])
  (.seq (.region [⟨some 3, none, .p (.alloc [.k (C.int .i64 0), .k (C.int .i64 0), .k (C.int .i64 0), .k (C.int .i64 0)])⟩] [1, 2, 3])
  (.seq (.seq (.region [⟨some 4, none, .p (.mv (.k (.c (C.int .i64 0))))⟩] [1, 2, 3, 4])
  (.block 0 (.loop (.seq (.seq (.region [⟨some 5, none, .p (.mv (.t 4))⟩,
    ⟨some 6, none, .p (.bin .lss (.t 5) (.k (.c (C.int .i64 4))))⟩] [1, 2, 3, 4, 6])
  (.cond (.t 6)
  .skip
  (.exit 0)))
  (.seq (.block 1 (.region [⟨some 9, none, .p (.mv (.t 4))⟩,
    ⟨some 10, none, .p (.mv (.t 4))⟩,
    ⟨some 11, none, .p (.ixA 4 1 (.t 1) (.t 10))⟩,
    ⟨some 12, none, .h (.load 1 false (.t 11))⟩,
    ⟨some 13, none, .p (.ixA 4 1 (.t 3) (.t 9))⟩,
    ⟨none, none, .h (.store 1 (.t 13) (.t 12))⟩] [1, 2, 3, 4]))
  (.region [⟨some 7, none, .p (.mv (.t 4))⟩,
    ⟨some 8, none, .p (.bin .add (.t 7) (.k (.c (C.int .i64 1))))⟩,
    ⟨some 4, none, .p (.mv (.t 8))⟩] [1, 2, 3, 4]))) [1, 2, 3, 4])))
  (.seq (.region [⟨some 14, none, .h (.load 4 true (.t 3))⟩,
    ⟨none, none, .h (.store 4 (.t 2) (.t 14))⟩] [2])
  .ret)))) }
theorem a111_ok : okFn Tryd.prog 111 a111 = true := by kernel_rfl
/-- loop.example/g01215/impl.colorText -/
def a112 : AFn := { np := 1, nt := 11, res := [.t 2], body :=
  (.seq (.region [⟨some 2, none, .p (.mv (.k (.c (C.str []))))⟩] [0])
  (.seq (.seq (.region [⟨some 3, none, .p (.mv (.t 0))⟩,
    ⟨some 4, none, .p (.bin .eql (.t 3) (.k (.c (C.int .i64 0))))⟩] [0, 4])
  (.cond (.t 4)
  (.seq (.region [⟨some 2, none, .p (.mv (.k (.c (C.str [46]))))⟩] [2])
  .ret)
  .skip))
  (.seq (.region [⟨some 5, none, .p (.mv (.t 0))⟩,
    ⟨some 6, none, .p (.conv .u8 (.t 5))⟩,
    ⟨some 7, none, .p (.bin .add (.k (.c (C.int .u8 97))) (.t 6))⟩,
    ⟨some 8, none, .p (.bin .sub (.t 7) (.k (.c (C.int .u8 1))))⟩,
    ⟨some 9, none, .p (.mksl 1 1 [.k (C.int .u8 0)] [(0, 1, .t 8)])⟩,
    ⟨some 10, none, .h (.b2s (.t 9))⟩,
    ⟨some 2, none, .p (.mv (.t 10))⟩] [2])
  .ret))) }
theorem a112_ok : okFn Tryd.prog 112 a112 = true := by kernel_rfl
/-- loop.example/g01215/spec.l1Sum -/
def a115 : AFn := { np := 1, nt := 21, res := [.t 2], body :=
  (.seq (.region [⟨some 2, none, .p (.mv (.k (.c (C.int .i64 0))))⟩] [0])
  (.seq (.region [⟨some 3, none, .p (.mv (.k (.c (C.int .i64 7))))⟩] [0, 3])
  (.seq (.seq (.region [⟨some 4, none, .p (.mv (.k (.c (C.int .i64 0))))⟩] [0, 3, 4])
  (.block 0 (.loop (.seq (.seq (.region [⟨some 5, none, .p (.mv (.t 4))⟩,
    ⟨some 6, none, .p (.mv (.t 0))⟩,
    ⟨some 7, none, .p (.lenStr (.t 6))⟩,
    ⟨some 8, none, .p (.bin .lss (.t 5) (.t 7))⟩] [0, 3, 4, 8])
  (.cond (.t 8)
  .skip
  (.exit 0)))
  (.seq (.block 1 (.region [⟨some 11, none, .p (.mv (.t 3))⟩,
    ⟨some 12, none, .p (.bin .mul (.k (.c (C.int .i64 41))) (.t 11))⟩,
    ⟨some 13, none, .p (.mv (.t 0))⟩,
    ⟨some 14, none, .p (.mv (.t 4))⟩,
    ⟨some 15, none, .p (.ixStr (.t 13) (.t 14))⟩,
    ⟨some 16, none, .p (.conv .i64 (.t 15))⟩,
    ⟨some 17, none, .p (.bin .add (.t 12) (.t 16))⟩,
    ⟨some 18, none, .p (.bin .add (.t 17) (.k (.c (C.int .i64 1))))⟩,
    ⟨some 19, none, .p (.bin .rem (.t 18) (.k (.c (C.int .i64 999979))))⟩,
    ⟨some 3, none, .p (.mv (.t 19))⟩] [0, 3, 4]))
  (.region [⟨some 9, none, .p (.mv (.t 4))⟩,
    ⟨some 10, none, .p (.bin .add (.t 9) (.k (.c (C.int .i64 1))))⟩,
    ⟨some 4, none, .p (.mv (.t 10))⟩] [0, 3, 4]))) [0, 3, 4])))
  (.seq (.region [⟨some 20, none, .p (.mv (.t 3))⟩,
    ⟨some 2, none, .p (.mv (.t 20))⟩] [2])
  .ret)))) }
theorem a115_ok : okFn Tryd.prog 115 a115 = true := by kernel_rfl
/-- slices.ContainsFunc[[]byte,byte] -/
def a116 : AFn := { np := 2, nt := 9, res := [.t 4], body :=
  (.seq (.region [⟨some 4, none, .p (.mv (.k (.c (C.bool false))))⟩] [0, 1])
  (.seq (.region [⟨some 5, none, .p (.mv (.t 0))⟩,
    ⟨some 6, none, .p (.mv (.t 1))⟩,
    ⟨some 7, none, .h (.call (.f 147) [.t 5, .t 6])⟩,
    ⟨some 8, none, .p (.bin .geq (.t 7) (.k (.c (C.int .i64 0))))⟩,
    ⟨some 4, none, .p (.mv (.t 8))⟩] [4])
  .ret)) }
theorem a116_ok : okFn Tryd.prog 116 a116 = true := by kernel_rfl
/-- loop.example/g01215/impl.areAll[byte]$1 -/
def a117 : AFn := { np := 2, nt := 8, res := [.t 3], body :=
  (.seq (.region [⟨some 3, none, .p (.mv (.k (.c (C.bool false))))⟩] [0, 1])
  (.seq (.region [⟨some 4, none, .h (.load 1 false (.t 1))⟩,
    ⟨some 5, none, .p (.mv (.t 0))⟩,
    ⟨some 6, none, .h (.call (.t 4) [.t 5])⟩,
    ⟨some 7, none, .p (.un .not (.t 6))⟩,
    ⟨some 3, none, .p (.mv (.t 7))⟩] [3])
  .ret)) }
theorem a117_ok : okFn Tryd.prog 117 a117 = true := by kernel_rfl
/-- loop.example/g01215/impl.VerifyChecksum -/
def a120 : AFn := { np := 1, nt := 28, res := [.t 2, .t 3], body :=
  (.seq (.region [⟨some 2, none, .p (.mv (.k (.c (C.str []))))⟩,
    ⟨some 3, none, .p (.mv (.k (.c (C.bool false))))⟩] [0])
  (.seq (.region [⟨some 10, none, .p (.mv (.t 0))⟩,
    ⟨some 11, none, .h (.call (.f 119) [.t 10, .k (.c (C.str [35]))])⟩,
    ⟨some 9, none, .p (.mv (.t 11))⟩,
    ⟨some 12, none, .p (.ext (.t 9) 0)⟩,
    ⟨some 13, none, .p (.ext (.t 9) 1)⟩,
    ⟨some 14, none, .p (.ext (.t 9) 2)⟩,
    ⟨some 4, none, .p (.mv (.t 12))⟩,
    ⟨some 5, none, .p (.mv (.t 13))⟩,
    ⟨some 6, none, .p (.mv (.t 14))⟩] [0, 4])
  (.seq (.seq (.region [⟨some 16, none, .p (.mv (.t 4))⟩,
    ⟨some 17, none, .h (.call (.f 60) [.t 16])⟩,
    ⟨some 15, none, .p (.mv (.t 17))⟩,
    ⟨some 18, none, .p (.ext (.t 15) 0)⟩,
    ⟨some 19, none, .p (.ext (.t 15) 1)⟩,
    ⟨some 7, none, .p (.mv (.t 18))⟩,
    ⟨some 8, none, .p (.mv (.t 19))⟩] [0, 4, 7, 8])
  (.seq (.region [⟨some 20, none, .p (.mv (.t 8))⟩,
    ⟨some 21, none, .p (.un .not (.t 20))⟩,
    ⟨some 22, none, .p (.mv (.t 21))⟩,
    ⟨some 23, some (22, false), .p (.mv (.t 7))⟩,
    ⟨some 24, some (22, false), .p (.mv (.t 0))⟩,
    ⟨some 25, some (22, false), .p (.bin .neq (.t 23) (.t 24))⟩,
    ⟨some 26, none, .p (.pick (.t 22) (.k (.c (C.bool true))) (.t 25))⟩] [4, 26])
  (.cond (.t 26)
  (.seq (.region [⟨some 2, none, .p (.mv (.k (.c (C.str []))))⟩,
    ⟨some 3, none, .p (.mv (.k (.c (C.bool false))))⟩] [2, 3])
  .ret)
  .skip)))
  (.seq (.region [⟨some 27, none, .p (.mv (.t 4))⟩,
    ⟨some 2, none, .p (.mv (.t 27))⟩,
    ⟨some 3, none, .p (.mv (.k (.c (C.bool true))))⟩] [2, 3])
  .ret)))) }
theorem a120_ok : okFn Tryd.prog 120 a120 = true := by kernel_rfl
/-- loop.example/g01215/spec.l2Place -/
def a122 : AFn := { np := 1, nt := 5, res := [.t 2], body :=
  (.seq (.region [⟨some 2, none, .p (.mv (.k (.c (C.bool false))))⟩] [0])
  (.seq (.region [⟨some 3, none, .p (.mv (.t 0))⟩,
    ⟨some 4, none, .h (.call (.f 43) [.t 3, .k (.c (C.int .i64 0)), .k (.c (C.int .i64 5))])⟩,
    ⟨some 2, none, .p (.mv (.t 4))⟩] [2])
  .ret)) }
theorem a122_ok : okFn Tryd.prog 122 a122 = true := by kernel_rfl
/-- loop.example/g01215/spec.l2Can -/
def a123 : AFn := { np := 3, nt := 51, res := [.t 6], body :=
  (.seq (.region [⟨some 3, none, .p (.box 24 (.t 0))⟩,
    ⟨some 6, none, .p (.mv (.k (.c (C.bool false))))⟩] [1, 2, 3])
  (.seq (.region [⟨some 12, none, .p (.mv (.t 1))⟩,
    ⟨some 13, none, .p (.fld 0 (.t 3))⟩,
    ⟨some 14, none, .p (.ixA 6 4 (.t 13) (.t 12))⟩,
    ⟨some 15, none, .h (.load 4 true (.t 14))⟩,
    ⟨some 16, none, .h (.call (.f 124) [.t 15])⟩,
    ⟨some 11, none, .p (.mv (.t 16))⟩,
    ⟨some 17, none, .p (.ext (.t 11) 0)⟩,
    ⟨some 18, none, .p (.ext (.t 11) 1)⟩,
    ⟨some 7, none, .p (.mv (.t 17))⟩,
    ⟨some 8, none, .p (.mv (.t 18))⟩] [1, 2, 3, 7, 8])
  (.seq (.region [⟨some 20, none, .p (.mv (.t 2))⟩,
    ⟨some 21, none, .p (.fld 0 (.t 3))⟩,
    ⟨some 22, none, .p (.ixA 6 4 (.t 21) (.t 20))⟩,
    ⟨some 23, none, .h (.load 4 true (.t 22))⟩,
    ⟨some 24, none, .h (.call (.f 124) [.t 23])⟩,
    ⟨some 19, none, .p (.mv (.t 24))⟩,
    ⟨some 25, none, .p (.ext (.t 19) 0)⟩,
    ⟨some 26, none, .p (.ext (.t 19) 1)⟩,
    ⟨some 9, none, .p (.mv (.t 25))⟩,
    ⟨some 10, none, .p (.mv (.t 26))⟩] [1, 2, 3, 7, 8, 9])
  (.seq (.region [⟨some 27, none, .p (.mv (.t 1))⟩,
    ⟨some 28, none, .p (.mv (.t 2))⟩,
    ⟨some 29, none, .p (.bin .neq (.t 27) (.t 28))⟩,
    ⟨some 30, none, .p (.mv (.t 29))⟩,
    ⟨some 31, some (30, true), .p (.mv (.t 8))⟩,
    ⟨some 32, some (30, true), .p (.bin .gtr (.t 31) (.k (.c (C.int .i64 0))))⟩,
    ⟨some 33, none, .p (.pick (.t 30) (.t 32) (.k (.c (C.bool false))))⟩,
    ⟨some 34, none, .p (.mv (.t 33))⟩,
    ⟨some 35, some (34, true), .p (.mv (.t 2))⟩,
    ⟨some 36, some (34, true), .p (.fld 0 (.t 3))⟩,
    ⟨some 37, some (34, true), .p (.ixA 6 4 (.t 36) (.t 35))⟩,
    ⟨some 38, some (34, true), .h (.load 4 true (.t 37))⟩,
    ⟨some 39, some (34, true), .h (.call (.f 125) [.t 38])⟩,
    ⟨some 40, some (34, true), .p (.bin .lss (.t 39) (.k (.c (C.int .i64 4))))⟩,
    ⟨some 41, none, .p (.pick (.t 34) (.t 40) (.k (.c (C.bool false))))⟩,
    ⟨some 42, none, .p (.mv (.t 41))⟩,
    ⟨some 43, some (42, true), .p (.mv (.t 9))⟩,
    ⟨some 44, some (42, true), .p (.bin .eql (.t 43) (.k (.c (C.int .i64 0))))⟩,
    ⟨some 45, some (42, true), .p (.mv (.t 44))⟩,
    ⟨some 46, some (45, false), .p (.mv (.t 9))⟩,
    ⟨some 47, some (45, false), .p (.mv (.t 7))⟩,
    ⟨some 48, some (45, false), .p (.bin .eql (.t 46) (.t 47))⟩,
    ⟨some 49, some (42, true), .p (.pick (.t 45) (.k (.c (C.bool true))) (.t 48))⟩,
    ⟨some 50, none, .p (.pick (.t 42) (.t 49) (.k (.c (C.bool false))))⟩,
    ⟨some 6, none, .p (.mv (.t 50))⟩] [6])
  .ret)))) }
theorem a123_ok : okFn Tryd.prog 123 a123 = true := by kernel_rfl
/-- loop.example/g01215/spec.l2Top -/
def a124 : AFn := { np := 1, nt := 33, res := [.t 2, .t 3], body :=
  (.seq (.region [⟨some 1, none, .p (.box 4 (.t 0))⟩,
    ⟨some 2, none, .p (.mv (.k (.c (C.int .i64 0))))⟩,
    ⟨some 3, none, .p (.mv (.k (.c (C.int .i64 0))))⟩] [1])
  (.seq (.region [⟨some 6, none, .h (.load 4 true (.t 1))⟩,
    ⟨some 7, none, .h (.call (.f 125) [.t 6])⟩,
    ⟨some 4, none, .p (.mv (.t 7))⟩] [1, 4])
  (.seq (.seq (.region [⟨some 8, none, .p (.mv (.t 4))⟩,
    ⟨some 9, none, .p (.bin .eql (.t 8) (.k (.c (C.int .i64 0))))⟩] [1, 4, 9])
  (.cond (.t 9)
  (.seq (.region [⟨some 2, none, .p (.mv (.k (.c (C.int .i64 0))))⟩,
    ⟨some 3, none, .p (.mv (.k (.c (C.int .i64 0))))⟩] [2, 3])
  .ret)
  .skip))
  (.seq (.region [⟨some 5, none, .p (.mv (.k (.c (C.int .i64 0))))⟩] [1, 4, 5])
  (.seq (.block 0 (.loop (.seq (.seq (.regionD [⟨some 10, none, .p (.mv (.t 5))⟩,
    ⟨some 11, none, .p (.mv (.t 4))⟩,
    ⟨some 12, none, .p (.bin .lss (.t 10) (.t 11))⟩,
    ⟨some 13, none, .p (.mv (.t 12))⟩,
    ⟨some 14, some (13, true), .p (.mv (.t 4))⟩,
    ⟨some 15, some (13, true), .p (.bin .sub (.t 14) (.k (.c (C.int .i64 1))))⟩,
    ⟨some 16, some (13, true), .p (.mv (.t 5))⟩,
    ⟨some 17, some (13, true), .p (.bin .sub (.t 15) (.t 16))⟩,
    ⟨some 18, some (13, true), .p (.ixA 4 1 (.t 1) (.t 17))⟩,
    ⟨some 19, some (13, true), .h (.load 1 false (.t 18))⟩,
    ⟨some 20, some (13, true), .p (.mv (.t 4))⟩,
    ⟨some 21, some (13, true), .p (.bin .sub (.t 20) (.k (.c (C.int .i64 1))))⟩,
    ⟨some 22, some (13, true), .p (.ixA 4 1 (.t 1) (.t 21))⟩,
    ⟨some 23, some (13, true), .h (.load 1 false (.t 22))⟩,
    ⟨some 24, some (13, true), .p (.bin .eql (.t 19) (.t 23))⟩,
    ⟨some 25, none, .p (.pick (.t 13) (.t 24) (.k (.c (C.bool false))))⟩] [1, 4, 5, 25] [])
  (.cond (.t 25)
  .skip
  (.exit 0)))
  (.block 1 (.region [⟨some 26, none, .p (.mv (.t 5))⟩,
    ⟨some 27, none, .p (.bin .add (.t 26) (.k (.c (C.int .i64 1))))⟩,
    ⟨some 5, none, .p (.mv (.t 27))⟩] [1, 4, 5]))) [1, 4, 5]))
  (.seq (.region [⟨some 28, none, .p (.mv (.t 4))⟩,
    ⟨some 29, none, .p (.bin .sub (.t 28) (.k (.c (C.int .i64 1))))⟩,
    ⟨some 30, none, .p (.ixA 4 1 (.t 1) (.t 29))⟩,
    ⟨some 31, none, .h (.load 1 false (.t 30))⟩,
    ⟨some 32, none, .p (.mv (.t 5))⟩,
    ⟨some 2, none, .p (.mv (.t 31))⟩,
    ⟨some 3, none, .p (.mv (.t 32))⟩] [2, 3])
  .ret)))))) }
theorem a124_ok : okFn Tryd.prog 124 a124 = true := by kernel_rfl
/-- loop.example/g01215/spec.l2Many -/
def a125 : AFn := { np := 1, nt := 16, res := [.t 2], body :=
  (.seq (.region [⟨some 1, none, .p (.box 4 (.t 0))⟩,
    ⟨some 2, none, .p (.mv (.k (.c (C.int .i64 0))))⟩] [1])
  (.seq (.region [⟨some 3, none, .p (.mv (.k (.c (C.int .i64 0))))⟩] [1, 3])
  (.seq (.seq (.region [⟨some 4, none, .p (.mv (.k (.c (C.int .i64 0))))⟩] [1, 3, 4])
  (.block 0 (.loop (.seq (.seq (.region [⟨some 5, none, .p (.mv (.t 4))⟩,
    ⟨some 6, none, .p (.bin .lss (.t 5) (.k (.c (C.int .i64 4))))⟩] [1, 3, 4, 6])
  (.cond (.t 6)
  .skip
  (.exit 0)))
  (.seq (.block 1 (.seq (.region [⟨some 9, none, .p (.mv (.t 4))⟩,
    ⟨some 10, none, .p (.ixA 4 1 (.t 1) (.t 9))⟩,
    ⟨some 11, none, .h (.load 1 false (.t 10))⟩,
    ⟨some 12, none, .p (.bin .gtr (.t 11) (.k (.c (C.int .i64 0))))⟩] [1, 3, 4, 12])
  (.cond (.t 12)
  (.region [⟨some 13, none, .p (.mv (.t 3))⟩,
    ⟨some 14, none, .p (.bin .add (.t 13) (.k (.c (C.int .i64 1))))⟩,
    ⟨some 3, none, .p (.mv (.t 14))⟩] [1, 3, 4])
  .skip)))
  (.region [⟨some 7, none, .p (.mv (.t 4))⟩,
    ⟨some 8, none, .p (.bin .add (.t 7) (.k (.c (C.int .i64 1))))⟩,
    ⟨some 4, none, .p (.mv (.t 8))⟩] [1, 3, 4]))) [1, 3, 4])))
  (.seq (.region [⟨some 15, none, .p (.mv (.t 3))⟩,
    ⟨some 2, none, .p (.mv (.t 15))⟩] [2])
  .ret)))) }
theorem a125_ok : okFn Tryd.prog 125 a125 = true := by kernel_rfl
/-- loop.example/g01215/spec.l1Least -/
def a126 : AFn := { np := 2, nt := 10, res := [.t 4], body :=
  (.seq (.region [⟨some 4, none, .p (.mv (.k (.c (C.int .i64 0))))⟩] [0, 1])
  (.seq (.seq (.region [⟨some 5, none, .p (.mv (.t 0))⟩,
    ⟨some 6, none, .p (.mv (.t 1))⟩,
    ⟨some 7, none, .p (.bin .lss (.t 5) (.t 6))⟩] [0, 1, 7])
  (.cond (.t 7)
  (.seq (.region [⟨some 8, none, .p (.mv (.t 0))⟩,
    ⟨some 4, none, .p (.mv (.t 8))⟩] [4])
  .ret)
  .skip))
  (.seq (.region [⟨some 9, none, .p (.mv (.t 1))⟩,
    ⟨some 4, none, .p (.mv (.t 9))⟩] [4])
  .ret))) }
theorem a126_ok : okFn Tryd.prog 126 a126 = true := by kernel_rfl
/-- slices.ContainsFunc[[][4]int,[4]int] -/
def a131 : AFn := { np := 2, nt := 9, res := [.t 4], body :=
  (.seq (.region [⟨some 4, none, .p (.mv (.k (.c (C.bool false))))⟩] [0, 1])
  (.seq (.region [⟨some 5, none, .p (.mv (.t 0))⟩,
    ⟨some 6, none, .p (.mv (.t 1))⟩,
    ⟨some 7, none, .h (.call (.f 155) [.t 5, .t 6])⟩,
    ⟨some 8, none, .p (.bin .geq (.t 7) (.k (.c (C.int .i64 0))))⟩,
    ⟨some 4, none, .p (.mv (.t 8))⟩] [4])
  .ret)) }
theorem a131_ok : okFn Tryd.prog 131 a131 = true := by kernel_rfl
/-- loop.example/g01215/impl.areAll[[4]int]$1 -/
def a132 : AFn := { np := 2, nt := 8, res := [.t 3], body :=
  (.seq (.region [⟨some 2, none, .p (.box 4 (.t 0))⟩,
    ⟨some 3, none, .p (.mv (.k (.c (C.bool false))))⟩] [1, 2])
  (.seq (.region [⟨some 4, none, .h (.load 1 false (.t 1))⟩,
    ⟨some 5, none, .h (.load 4 true (.t 2))⟩,
    ⟨some 6, none, .h (.call (.t 4) [.t 5])⟩,
    ⟨some 7, none, .p (.un .not (.t 6))⟩,
    ⟨some 3, none, .p (.mv (.t 7))⟩] [3])
  .ret)) }
theorem a132_ok : okFn Tryd.prog 132 a132 = true := by kernel_rfl
/-- loop.example/g01215/impl.layers -/
def a133 : AFn := { np := 1, nt := 9, res := [.t 2], body :=
  (.seq (.region [⟨some 1, none, .p (.box 4 (.t 0))⟩,
    ⟨some 2, none, .p (.mv (.k (.c (C.int .i64 0))))⟩] [1])
  (.seq (.region [⟨some 4, none, .h (.slA 4 1 (.t 1) none none)⟩,
    ⟨some 5, none, .h (.call (.f 156) [.t 4, .k (.c (C.int .i64 0))])⟩,
    ⟨some 3, none, .p (.mv (.t 5))⟩] [3])
  (.seq (.seq (.region [⟨some 6, none, .p (.mv (.t 3))⟩,
    ⟨some 7, none, .p (.bin .lss (.t 6) (.k (.c (C.int .i64 0))))⟩] [3, 7])
  (.cond (.t 7)
  (.seq (.region [⟨some 2, none, .p (.mv (.k (.c (C.int .i64 4))))⟩] [2])
  .ret)
  .skip))
  (.seq (.region [⟨some 8, none, .p (.mv (.t 3))⟩,
    ⟨some 2, none, .p (.mv (.t 8))⟩] [2])
  .ret)))) }
theorem a133_ok : okFn Tryd.prog 133 a133 = true := by kernel_rfl
/-- loop.example/g01215/impl.areAll[int] -/
def a134 : AFn := { np := 2, nt := 9, res := [.t 4], body :=
  (.seq (.region [⟨some 3, none, .p (.box 1 (.t 1))⟩,
    ⟨some 4, none, .p (.mv (.k (.c (C.bool false))))⟩] [0, 3])
  (.seq (.region [⟨some 5, none, .p (.mv (.t 0))⟩,
    ⟨some 6, none, .p (.mkfn 158 [.t 3])⟩,
    ⟨some 7, none, .h (.call (.f 157) [.t 5, .t 6])⟩,
    ⟨some 8, none, .p (.un .not (.t 7))⟩,
    ⟨some 4, none, .p (.mv (.t 8))⟩] [4])
  .ret)) }
theorem a134_ok : okFn Tryd.prog 134 a134 = true := by kernel_rfl
/-- loop.example/g01215/impl.isColor -/
def a135 : AFn := { np := 1, nt := 5, res := [.t 2], body :=
  (.seq (.region [⟨some 2, none, .p (.mv (.k (.c (C.bool false))))⟩] [0])
  (.seq (.region [⟨some 3, none, .p (.mv (.t 0))⟩,
    ⟨some 4, none, .h (.call (.f 59) [.t 3, .k (.c (C.int .i64 1)), .k (.c (C.int .i64 5))])⟩,
    ⟨some 2, none, .p (.mv (.t 4))⟩] [2])
  .ret)) }
theorem a135_ok : okFn Tryd.prog 135 a135 = true := by kernel_rfl
/-- loop.example/g01215/impl.isTube$1 -/
def a136 : AFn := { np := 1, nt := 5, res := [.t 2], body :=
  (.seq (.region [⟨some 2, none, .p (.mv (.k (.c (C.bool false))))⟩] [0])
  (.seq (.region [⟨some 3, none, .p (.mv (.t 0))⟩,
    ⟨some 4, none, .p (.bin .eql (.t 3) (.k (.c (C.int .i64 0))))⟩,
    ⟨some 2, none, .p (.mv (.t 4))⟩] [2])
  .ret)) }
theorem a136_ok : okFn Tryd.prog 136 a136 = true := by kernel_rfl
def prA : Prog
  | 3 => some a3
  | 4 => some a4
  | 5 => some a5
  | 6 => some a6
  | 7 => some a7
  | 8 => some a8
  | 9 => some a9
  | 10 => some a10
  | 11 => some a11
  | 12 => some a12
  | 13 => some a13
  | 14 => some a14
  | 15 => some a15
  | 16 => some a16
  | 17 => some a17
  | 18 => some a18
  | 19 => some a19
  | 20 => some a20
  | 21 => some a21
  | 22 => some a22
  | 23 => some a23
  | 24 => some a24
  | 25 => some a25
  | 26 => some a26
  | 27 => some a27
  | 28 => some a28
  | 29 => some a29
  | 30 => some a30
  | 31 => some a31
  | 32 => some a32
  | 33 => some a33
  | 34 => some a34
  | 35 => some a35
  | 36 => some a36
  | 37 => some a37
  | 38 => some a38
  | 39 => some a39
  | 40 => some a40
  | 41 => some a41
  | 42 => some a42
  | 43 => some a43
  | 44 => some a44
  | 46 => some a46
  | 47 => some a47
  | 48 => some a48
  | 49 => some a49
  | 50 => some a50
  | 51 => some a51
  | 52 => some a52
  | 53 => some a53
  | 54 => some a54
  | 55 => some a55
  | 56 => some a56
  | 57 => some a57
  | 58 => some a58
  | 59 => some a59
  | 60 => some a60
  | 62 => some a62
  | 63 => some a63
  | 64 => some a64
  | 65 => some a65
  | 66 => some a66
  | 67 => some a67
  | 68 => some a68
  | 69 => some a69
  | 70 => some a70
  | 71 => some a71
  | 72 => some a72
  | 73 => some a73
  | 74 => some a74
  | 75 => some a75
  | 76 => some a76
  | 77 => some a77
  | 79 => some a79
  | 80 => some a80
  | 81 => some a81
  | 82 => some a82
  | 83 => some a83
  | 84 => some a84
  | 85 => some a85
  | 86 => some a86
  | 87 => some a87
  | 88 => some a88
  | 90 => some a90
  | 92 => some a92
  | 93 => some a93
  | 94 => some a94
  | 95 => some a95
  | 96 => some a96
  | 97 => some a97
  | 99 => some a99
  | 100 => some a100
  | 101 => some a101
  | 102 => some a102
  | 106 => some a106
  | 107 => some a107
  | 108 => some a108
  | 109 => some a109
  | 110 => some a110
  | 111 => some a111
  | 112 => some a112
  | 115 => some a115
  | 116 => some a116
  | 117 => some a117
  | 120 => some a120
  | 122 => some a122
  | 123 => some a123
  | 124 => some a124
  | 125 => some a125
  | 126 => some a126
  | 131 => some a131
  | 132 => some a132
  | 133 => some a133
  | 134 => some a134
  | 135 => some a135
  | 136 => some a136
  | _ => none
theorem prA_ok : ProgOK Tryd.prog prA := by
  intro f fn h
  unfold prA at h
  split at h
  · injection h with h; subst h; exact a3_ok
  · injection h with h; subst h; exact a4_ok
  · injection h with h; subst h; exact a5_ok
  · injection h with h; subst h; exact a6_ok
  · injection h with h; subst h; exact a7_ok
  · injection h with h; subst h; exact a8_ok
  · injection h with h; subst h; exact a9_ok
  · injection h with h; subst h; exact a10_ok
  · injection h with h; subst h; exact a11_ok
  · injection h with h; subst h; exact a12_ok
  · injection h with h; subst h; exact a13_ok
  · injection h with h; subst h; exact a14_ok
  · injection h with h; subst h; exact a15_ok
  · injection h with h; subst h; exact a16_ok
  · injection h with h; subst h; exact a17_ok
  · injection h with h; subst h; exact a18_ok
  · injection h with h; subst h; exact a19_ok
  · injection h with h; subst h; exact a20_ok
  · injection h with h; subst h; exact a21_ok
  · injection h with h; subst h; exact a22_ok
  · injection h with h; subst h; exact a23_ok
  · injection h with h; subst h; exact a24_ok
  · injection h with h; subst h; exact a25_ok
  · injection h with h; subst h; exact a26_ok
  · injection h with h; subst h; exact a27_ok
  · injection h with h; subst h; exact a28_ok
  · injection h with h; subst h; exact a29_ok
  · injection h with h; subst h; exact a30_ok
  · injection h with h; subst h; exact a31_ok
  · injection h with h; subst h; exact a32_ok
  · injection h with h; subst h; exact a33_ok
  · injection h with h; subst h; exact a34_ok
  · injection h with h; subst h; exact a35_ok
  · injection h with h; subst h; exact a36_ok
  · injection h with h; subst h; exact a37_ok
  · injection h with h; subst h; exact a38_ok
  · injection h with h; subst h; exact a39_ok
  · injection h with h; subst h; exact a40_ok
  · injection h with h; subst h; exact a41_ok
  · injection h with h; subst h; exact a42_ok
  · injection h with h; subst h; exact a43_ok
  · injection h with h; subst h; exact a44_ok
  · injection h with h; subst h; exact a46_ok
  · injection h with h; subst h; exact a47_ok
  · injection h with h; subst h; exact a48_ok
  · injection h with h; subst h; exact a49_ok
  · injection h with h; subst h; exact a50_ok
  · injection h with h; subst h; exact a51_ok
  · injection h with h; subst h; exact a52_ok
  · injection h with h; subst h; exact a53_ok
  · injection h with h; subst h; exact a54_ok
  · injection h with h; subst h; exact a55_ok
  · injection h with h; subst h; exact a56_ok
  · injection h with h; subst h; exact a57_ok
  · injection h with h; subst h; exact a58_ok
  · injection h with h; subst h; exact a59_ok
  · injection h with h; subst h; exact a60_ok
  · injection h with h; subst h; exact a62_ok
  · injection h with h; subst h; exact a63_ok
  · injection h with h; subst h; exact a64_ok
  · injection h with h; subst h; exact a65_ok
  · injection h with h; subst h; exact a66_ok
  · injection h with h; subst h; exact a67_ok
  · injection h with h; subst h; exact a68_ok
  · injection h with h; subst h; exact a69_ok
  · injection h with h; subst h; exact a70_ok
  · injection h with h; subst h; exact a71_ok
  · injection h with h; subst h; exact a72_ok
  · injection h with h; subst h; exact a73_ok
  · injection h with h; subst h; exact a74_ok
  · injection h with h; subst h; exact a75_ok
  · injection h with h; subst h; exact a76_ok
  · injection h with h; subst h; exact a77_ok
  · injection h with h; subst h; exact a79_ok
  · injection h with h; subst h; exact a80_ok
  · injection h with h; subst h; exact a81_ok
  · injection h with h; subst h; exact a82_ok
  · injection h with h; subst h; exact a83_ok
  · injection h with h; subst h; exact a84_ok
  · injection h with h; subst h; exact a85_ok
  · injection h with h; subst h; exact a86_ok
  · injection h with h; subst h; exact a87_ok
  · injection h with h; subst h; exact a88_ok
  · injection h with h; subst h; exact a90_ok
  · injection h with h; subst h; exact a92_ok
  · injection h with h; subst h; exact a93_ok
  · injection h with h; subst h; exact a94_ok
  · injection h with h; subst h; exact a95_ok
  · injection h with h; subst h; exact a96_ok
  · injection h with h; subst h; exact a97_ok
  · injection h with h; subst h; exact a99_ok
  · injection h with h; subst h; exact a100_ok
  · injection h with h; subst h; exact a101_ok
  · injection h with h; subst h; exact a102_ok
  · injection h with h; subst h; exact a106_ok
  · injection h with h; subst h; exact a107_ok
  · injection h with h; subst h; exact a108_ok
  · injection h with h; subst h; exact a109_ok
  · injection h with h; subst h; exact a110_ok
  · injection h with h; subst h; exact a111_ok
  · injection h with h; subst h; exact a112_ok
  · injection h with h; subst h; exact a115_ok
  · injection h with h; subst h; exact a116_ok
  · injection h with h; subst h; exact a117_ok
  · injection h with h; subst h; exact a120_ok
  · injection h with h; subst h; exact a122_ok
  · injection h with h; subst h; exact a123_ok
  · injection h with h; subst h; exact a124_ok
  · injection h with h; subst h; exact a125_ok
  · injection h with h; subst h; exact a126_ok
  · injection h with h; subst h; exact a131_ok
  · injection h with h; subst h; exact a132_ok
  · injection h with h; subst h; exact a133_ok
  · injection h with h; subst h; exact a134_ok
  · injection h with h; subst h; exact a135_ok
  · injection h with h; subst h; exact a136_ok
  · cases h
end Go.Proofs.YtahfeigilhjgpaaDoor.AM
