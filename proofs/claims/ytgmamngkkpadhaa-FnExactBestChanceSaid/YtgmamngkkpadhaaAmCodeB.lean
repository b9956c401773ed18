/- the functions' code in the abstract machine: printed by a program (wip/tools/genparts.py) out of the loaded program -/
import Derived.Test.YtgmamngkkpadhaaAmD
import Derived.Test.YtgmamngkkpadhaaProg
import Derived.KernelRfl
namespace Go.Proofs.Ytgmamngkkpadhaa.AM
open Go
set_option maxRecDepth 100000
/-- loop.example/g01215/impl.DropIdle -/
def a94 : AFn := { np := 1, nt := 50, res := [.cell 2 25 true, .t 3], body :=
  (.seq (.region [⟨some 1, none, .p (.box 25 (.t 0))⟩,
    ⟨some 2, none, .p (.alloc [.k (C.int .i64 0), .k (C.int .i64 0), .k (C.int .i64 0), .k (C.int .i64 0), .k (C.int .i64 0), .k (C.int .i64 0), .k (C.int .i64 0), .k (C.int .i64 0), .k (C.int .i64 0), .k (C.int .i64 0), .k (C.int .i64 0), .k (C.int .i64 0), .k (C.int .i64 0), .k (C.int .i64 0), .k (C.int .i64 0), .k (C.int .i64 0), .k (C.int .i64 0), .k (C.int .i64 0), .k (C.int .i64 0), .k (C.int .i64 0), .k (C.int .i64 0), .k (C.int .i64 0), .k (C.int .i64 0), .k (C.int .i64 0), .sl 2])⟩,
    ⟨some 3, none, .p (.mv (.k (.c (C.bool false))))⟩] [1, 2])
  (.seq (.seq (.region [⟨some 8, none, .h (.load 25 true (.t 1))⟩,
    ⟨some 9, none, .h (.call (.f 50) [.t 8])⟩,
    ⟨some 10, none, .p (.un .not (.t 9))⟩] [1, 2, 10])
  (.cond (.t 10)
  (.seq (.region [⟨some 11, none, .p (.build [.k (C.int .i64 0), .k (C.int .i64 0), .k (C.int .i64 0), .k (C.int .i64 0), .k (C.int .i64 0), .k (C.int .i64 0), .k (C.int .i64 0), .k (C.int .i64 0), .k (C.int .i64 0), .k (C.int .i64 0), .k (C.int .i64 0), .k (C.int .i64 0), .k (C.int .i64 0), .k (C.int .i64 0), .k (C.int .i64 0), .k (C.int .i64 0), .k (C.int .i64 0), .k (C.int .i64 0), .k (C.int .i64 0), .k (C.int .i64 0), .k (C.int .i64 0), .k (C.int .i64 0), .k (C.int .i64 0), .k (C.int .i64 0), .sl 2] [])⟩,
    ⟨none, none, .h (.store 25 (.t 2) (.t 11))⟩,
    ⟨some 3, none, .p (.mv (.k (.c (C.bool false))))⟩] [2, 3])
  .ret)
  .skip))
  (.seq (.regionD [⟨some 12, none, .p (.fld 0 (.t 1))⟩,
    ⟨some 13, none, .h (.load 24 true (.t 12))⟩,
    ⟨some 14, none, .p (.build [.k (C.int .i64 0), .k (C.int .i64 0), .k (C.int .i64 0), .k (C.int .i64 0), .k (C.int .i64 0), .k (C.int .i64 0), .k (C.int .i64 0), .k (C.int .i64 0), .k (C.int .i64 0), .k (C.int .i64 0), .k (C.int .i64 0), .k (C.int .i64 0), .k (C.int .i64 0), .k (C.int .i64 0), .k (C.int .i64 0), .k (C.int .i64 0), .k (C.int .i64 0), .k (C.int .i64 0), .k (C.int .i64 0), .k (C.int .i64 0), .k (C.int .i64 0), .k (C.int .i64 0), .k (C.int .i64 0), .k (C.int .i64 0), .sl 2] [(0, 24, .t 13)])⟩,
    ⟨some 15, none, .p (.fld 0 (.t 1))⟩,
    ⟨some 16, none, .h (.load 24 true (.t 15))⟩,
    ⟨some 4, none, .p (.alloc [.k (C.int .i64 0), .k (C.int .i64 0), .k (C.int .i64 0), .k (C.int .i64 0), .k (C.int .i64 0), .k (C.int .i64 0), .k (C.int .i64 0), .k (C.int .i64 0), .k (C.int .i64 0), .k (C.int .i64 0), .k (C.int .i64 0), .k (C.int .i64 0), .k (C.int .i64 0), .k (C.int .i64 0), .k (C.int .i64 0), .k (C.int .i64 0), .k (C.int .i64 0), .k (C.int .i64 0), .k (C.int .i64 0), .k (C.int .i64 0), .k (C.int .i64 0), .k (C.int .i64 0), .k (C.int .i64 0), .k (C.int .i64 0), .sl 2])⟩,
    ⟨some 5, none, .p (.alloc (List.replicate 24 (.k (C.int .i64 0))))⟩,
    ⟨none, none, .h (.store 25 (.t 4) (.t 14))⟩,
    ⟨none, none, .h (.store 24 (.t 5) (.t 16))⟩] [1, 2, 4, 5] [(.t 15, .t 4)])
  (.seq (.seq (.region [⟨some 17, none, .p (.fld 24 (.t 1))⟩,
    ⟨some 18, none, .h (.load 1 false (.t 17))⟩,
    ⟨some 19, none, .p (.len (.t 18))⟩,
    ⟨some 20, none, .p (.mv (.k (.c (C.int .i64 0))))⟩] [2, 4, 5, 18, 19, 20])
  (.block 0 (.loop (.seq (.region [⟨some 21, none, .p (.bin .lss (.t 20) (.t 19))⟩] [2, 4, 5, 18, 19, 20, 21])
  (.seq (.cond (.t 21)
  .skip
  (.exit 0))
  (.seq (.block 1 (.seq (.region [⟨some 22, none, .p (.ixS 2 (.t 18) (.t 20))⟩,
    ⟨some 23, none, .h (.load 2 true (.t 22))⟩,
    ⟨some 7, none, .p (.alloc [.k (C.int .i64 0), .k (C.int .i64 0)])⟩,
    ⟨none, none, .h (.store 2 (.t 7) (.t 23))⟩] [2, 4, 5, 7, 18, 19, 20])
  (.seq (.region [⟨some 24, none, .h (.load 24 true (.t 5))⟩,
    ⟨some 25, none, .h (.load 2 true (.t 7))⟩,
    ⟨some 26, none, .h (.call (.f 157) [.t 24, .t 25])⟩,
    ⟨some 27, none, .p (.mv (.t 26))⟩,
    ⟨some 28, some (27, true), .h (.load 24 true (.t 5))⟩,
    ⟨some 29, some (27, true), .h (.load 2 true (.t 7))⟩,
    ⟨some 30, some (27, true), .h (.call (.f 158) [.t 28, .t 29])⟩,
    ⟨some 31, some (27, true), .p (.un .not (.t 30))⟩,
    ⟨some 32, none, .p (.pick (.t 27) (.t 31) (.k (.c (C.bool false))))⟩] [2, 4, 5, 7, 18, 19, 20, 32])
  (.cond (.t 32)
  (.seq (.region [⟨some 33, none, .p (.fld 24 (.t 4))⟩,
    ⟨some 34, none, .h (.load 1 false (.t 33))⟩,
    ⟨some 35, none, .h (.load 2 true (.t 7))⟩,
    ⟨some 36, none, .p (.mksl 2 1 [.k (C.int .i64 0), .k (C.int .i64 0)] [(0, 2, .t 35)])⟩,
    ⟨some 37, none, .h (.app 2 (.t 34) (.t 36))⟩,
    ⟨some 38, none, .p (.fld 24 (.t 4))⟩,
    ⟨none, none, .h (.store 1 (.t 38) (.t 37))⟩] [2, 4, 5, 7, 18, 19, 20])
  (.region [⟨some 40, none, .h (.load 24 true (.t 5))⟩,
    ⟨some 41, none, .p (.ixA 2 1 (.t 7) (.k (.c (C.int .i64 0))))⟩,
    ⟨some 42, none, .h (.load 1 false (.t 41))⟩,
    ⟨some 43, none, .p (.ixA 2 1 (.t 7) (.k (.c (C.int .i64 1))))⟩,
    ⟨some 44, none, .h (.load 1 false (.t 43))⟩,
    ⟨some 45, none, .h (.call (.f 149) [.t 40, .t 42, .t 44])⟩,
    ⟨some 39, none, .p (.mv (.t 45))⟩,
    ⟨some 46, none, .p (.ext (.t 39) 0)⟩,
    ⟨some 47, none, .p (.ext (.t 39) 1)⟩,
    ⟨none, none, .h (.store 24 (.t 5) (.t 46))⟩] [2, 4, 5, 18, 19, 20]))
  .skip))))
  (.region [⟨some 48, none, .p (.bin .add (.t 20) (.k (.c (C.int .i64 1))))⟩,
    ⟨some 20, none, .p (.mv (.t 48))⟩] [2, 4, 5, 18, 19, 20])))) [2, 4, 5, 18, 19, 20])))
  (.seq (.region [⟨some 49, none, .h (.load 25 true (.t 4))⟩,
    ⟨none, none, .h (.store 25 (.t 2) (.t 49))⟩,
    ⟨some 3, none, .p (.mv (.k (.c (C.bool true))))⟩] [2, 3])
  .ret))))) }
theorem a94_ok : okFn Try.prog 94 a94 = true := by kernel_rfl
/-- loop.example/g01215/spec.BestParty -/
def a95 : AFn := { np := 2, nt := 52, res := [.t 4, .t 5], body :=
  (.seq (.region [⟨some 2, none, .p (.box 24 (.t 0))⟩,
    ⟨some 4, none, .p (.nilsl 2)⟩,
    ⟨some 5, none, .p (.mv (.k (.c (C.bool false))))⟩] [1, 2])
  (.seq (.region [⟨some 10, none, .p (.mksl 2 0 [.k (C.int .i64 0), .k (C.int .i64 0)] [])⟩,
    ⟨some 6, none, .p (.mv (.t 10))⟩] [1, 2, 6])
  (.seq (.seq (.region [⟨some 11, none, .h (.load 24 true (.t 2))⟩,
    ⟨some 12, none, .h (.call (.f 140) [.t 11])⟩,
    ⟨some 13, none, .p (.un .not (.t 12))⟩,
    ⟨some 14, none, .p (.mv (.t 13))⟩,
    ⟨some 15, some (14, false), .p (.mv (.t 1))⟩,
    ⟨some 16, some (14, false), .h (.call (.f 144) [.t 15, .k (.c (C.int .i64 0)), .k (.c (C.int .i64 3))])⟩,
    ⟨some 17, some (14, false), .p (.un .not (.t 16))⟩,
    ⟨some 18, none, .p (.pick (.t 14) (.k (.c (C.bool true))) (.t 17))⟩] [1, 2, 6, 18])
  (.cond (.t 18)
  (.seq (.region [⟨some 19, none, .p (.mv (.t 6))⟩,
    ⟨some 4, none, .p (.mv (.t 19))⟩,
    ⟨some 5, none, .p (.mv (.k (.c (C.bool false))))⟩] [4, 5])
  .ret)
  .skip))
  (.seq (.block 0 (.loop (.seq (.seq (.region [⟨some 20, none, .p (.mv (.t 1))⟩,
    ⟨some 21, none, .p (.bin .gtr (.t 20) (.k (.c (C.int .i64 0))))⟩] [1, 2, 6, 21])
  (.cond (.t 21)
  .skip
  (.exit 0)))
  (.seq (.block 1 (.seq (.region [⟨some 24, none, .h (.load 24 true (.t 2))⟩,
    ⟨some 25, none, .p (.mv (.t 1))⟩,
    ⟨some 26, none, .h (.call (.f 174) [.t 24, .t 25])⟩,
    ⟨some 7, none, .p (.mv (.t 26))⟩] [1, 2, 6, 7])
  (.seq (.seq (.region [⟨some 27, none, .p (.mv (.t 7))⟩,
    ⟨some 28, none, .p (.len (.t 27))⟩,
    ⟨some 29, none, .p (.bin .eql (.t 28) (.k (.c (C.int .i64 0))))⟩] [1, 2, 6, 7, 29])
  (.cond (.t 29)
  (.seq (.region [⟨some 30, none, .p (.mv (.t 6))⟩,
    ⟨some 4, none, .p (.mv (.t 30))⟩,
    ⟨some 5, none, .p (.mv (.k (.c (C.bool true))))⟩] [4, 5])
  .ret)
  .skip))
  (.seq (.regionD [⟨some 32, none, .h (.load 24 true (.t 2))⟩,
    ⟨some 33, none, .p (.mv (.t 7))⟩,
    ⟨some 34, none, .p (.ixS 2 (.t 33) (.k (.c (C.int .i64 0))))⟩,
    ⟨some 35, none, .p (.ixA 2 1 (.t 34) (.k (.c (C.int .i64 0))))⟩,
    ⟨some 36, none, .h (.load 1 false (.t 35))⟩,
    ⟨some 37, none, .p (.mv (.t 7))⟩,
    ⟨some 38, none, .p (.ixS 2 (.t 37) (.k (.c (C.int .i64 0))))⟩,
    ⟨some 39, none, .p (.ixA 2 1 (.t 38) (.k (.c (C.int .i64 1))))⟩,
    ⟨some 40, none, .h (.load 1 false (.t 39))⟩,
    ⟨some 41, none, .h (.call (.f 148) [.t 32, .t 36, .t 40])⟩,
    ⟨some 31, none, .p (.mv (.t 41))⟩,
    ⟨some 42, none, .p (.ext (.t 31) 0)⟩,
    ⟨some 43, none, .p (.ext (.t 31) 1)⟩,
    ⟨some 8, none, .p (.alloc (List.replicate 24 (.k (C.int .i64 0))))⟩,
    ⟨none, none, .h (.store 24 (.t 8) (.t 42))⟩,
    ⟨some 9, none, .p (.mv (.t 43))⟩] [1, 2, 6, 7, 8] [])
  (.seq (.region [⟨some 44, none, .p (.mv (.t 6))⟩,
    ⟨some 45, none, .p (.mv (.t 7))⟩,
    ⟨some 46, none, .p (.ixS 2 (.t 45) (.k (.c (C.int .i64 0))))⟩,
    ⟨some 47, none, .h (.load 2 true (.t 46))⟩,
    ⟨some 48, none, .p (.mksl 2 1 [.k (C.int .i64 0), .k (C.int .i64 0)] [(0, 2, .t 47)])⟩,
    ⟨some 49, none, .h (.app 2 (.t 44) (.t 48))⟩,
    ⟨some 6, none, .p (.mv (.t 49))⟩] [1, 2, 6, 8])
  (.region [⟨some 50, none, .h (.load 24 true (.t 8))⟩,
    ⟨none, none, .h (.store 24 (.t 2) (.t 50))⟩] [1, 2, 6]))))))
  (.region [⟨some 22, none, .p (.mv (.t 1))⟩,
    ⟨some 23, none, .p (.bin .sub (.t 22) (.k (.c (C.int .i64 1))))⟩,
    ⟨some 1, none, .p (.mv (.t 23))⟩] [1, 2, 6]))) [1, 2, 6]))
  (.seq (.region [⟨some 51, none, .p (.mv (.t 6))⟩,
    ⟨some 4, none, .p (.mv (.t 51))⟩,
    ⟨some 5, none, .p (.mv (.k (.c (C.bool true))))⟩] [4, 5])
  .ret))))) }
theorem a95_ok : okFn Try.prog 95 a95 = true := by kernel_rfl
/-- loop.example/g01215/impl.BestParty -/
def a96 : AFn := { np := 2, nt := 46, res := [.t 4, .t 5], body :=
  (.seq (.region [⟨some 2, none, .p (.box 24 (.t 0))⟩,
    ⟨some 4, none, .p (.nilsl 2)⟩,
    ⟨some 5, none, .p (.mv (.k (.c (C.bool false))))⟩] [1, 2])
  (.seq (.seq (.region [⟨some 9, none, .h (.load 24 true (.t 2))⟩,
    ⟨some 10, none, .p (.mv (.t 1))⟩,
    ⟨some 11, none, .h (.call (.f 146) [.t 9, .t 10, .k (.c (C.int .i64 0))])⟩,
    ⟨some 12, none, .p (.un .not (.t 11))⟩] [1, 2, 12])
  (.cond (.t 12)
  (.seq (.region [⟨some 4, none, .p (.nilsl 2)⟩,
    ⟨some 5, none, .p (.mv (.k (.c (C.bool false))))⟩] [4, 5])
  .ret)
  .skip))
  (.seq (.region [⟨some 6, none, .p (.nilsl 2)⟩] [1, 2, 6])
  (.seq (.block 0 (.loop (.seq (.seq (.region [⟨some 13, none, .p (.mv (.t 1))⟩,
    ⟨some 14, none, .p (.bin .gtr (.t 13) (.k (.c (C.int .i64 0))))⟩] [1, 2, 6, 14])
  (.cond (.t 14)
  .skip
  (.exit 0)))
  (.seq (.block 1 (.seq (.region [⟨some 18, none, .h (.load 24 true (.t 2))⟩,
    ⟨some 19, none, .p (.mv (.t 1))⟩,
    ⟨some 20, none, .h (.call (.f 161) [.t 18, .t 19])⟩,
    ⟨some 17, none, .p (.mv (.t 20))⟩,
    ⟨some 21, none, .p (.ext (.t 17) 0)⟩,
    ⟨some 22, none, .p (.ext (.t 17) 1)⟩,
    ⟨some 7, none, .p (.mv (.t 21))⟩,
    ⟨some 8, none, .p (.mv (.t 22))⟩] [1, 2, 6, 8])
  (.seq (.seq (.region [⟨some 23, none, .p (.mv (.t 8))⟩,
    ⟨some 24, none, .p (.len (.t 23))⟩,
    ⟨some 25, none, .p (.bin .eql (.t 24) (.k (.c (C.int .i64 0))))⟩] [1, 2, 6, 8, 25])
  (.cond (.t 25)
  (.exit 0)
  .skip))
  (.seq (.region [⟨some 26, none, .p (.mv (.t 6))⟩,
    ⟨some 27, none, .p (.mv (.t 8))⟩,
    ⟨some 28, none, .p (.ixS 2 (.t 27) (.k (.c (C.int .i64 0))))⟩,
    ⟨some 29, none, .h (.load 2 true (.t 28))⟩,
    ⟨some 30, none, .p (.mksl 2 1 [.k (C.int .i64 0), .k (C.int .i64 0)] [(0, 2, .t 29)])⟩,
    ⟨some 31, none, .h (.app 2 (.t 26) (.t 30))⟩,
    ⟨some 6, none, .p (.mv (.t 31))⟩] [1, 2, 6, 8])
  (.regionD [⟨some 33, none, .h (.load 24 true (.t 2))⟩,
    ⟨some 34, none, .p (.mv (.t 8))⟩,
    ⟨some 35, none, .p (.ixS 2 (.t 34) (.k (.c (C.int .i64 0))))⟩,
    ⟨some 36, none, .p (.ixA 2 1 (.t 35) (.k (.c (C.int .i64 0))))⟩,
    ⟨some 37, none, .h (.load 1 false (.t 36))⟩,
    ⟨some 38, none, .p (.mv (.t 8))⟩,
    ⟨some 39, none, .p (.ixS 2 (.t 38) (.k (.c (C.int .i64 0))))⟩,
    ⟨some 40, none, .p (.ixA 2 1 (.t 39) (.k (.c (C.int .i64 1))))⟩,
    ⟨some 41, none, .h (.load 1 false (.t 40))⟩,
    ⟨some 42, none, .h (.call (.f 149) [.t 33, .t 37, .t 41])⟩,
    ⟨some 32, none, .p (.mv (.t 42))⟩,
    ⟨some 43, none, .p (.ext (.t 32) 0)⟩,
    ⟨some 44, none, .p (.ext (.t 32) 1)⟩,
    ⟨none, none, .h (.store 24 (.t 2) (.t 43))⟩] [1, 2, 6] [])))))
  (.region [⟨some 15, none, .p (.mv (.t 1))⟩,
    ⟨some 16, none, .p (.bin .sub (.t 15) (.k (.c (C.int .i64 1))))⟩,
    ⟨some 1, none, .p (.mv (.t 16))⟩] [1, 2, 6]))) [1, 2, 6]))
  (.seq (.region [⟨some 45, none, .p (.mv (.t 6))⟩,
    ⟨some 4, none, .p (.mv (.t 45))⟩,
    ⟨some 5, none, .p (.mv (.k (.c (C.bool true))))⟩] [4, 5])
  .ret))))) }
theorem a96_ok : okFn Try.prog 96 a96 = true := by kernel_rfl
/-- loop.example/g01215/spec.BestChance -/
def a97 : AFn := { np := 2, nt := 78, res := [.cell 4 2 true, .cell 5 2 true, .t 6], body :=
  (.seq (.region [⟨some 2, none, .p (.box 24 (.t 0))⟩,
    ⟨some 4, none, .p (.alloc [.k (C.int .i64 0), .k (C.int .i64 0)])⟩,
    ⟨some 5, none, .p (.alloc [.k (C.int .i64 0), .k (C.int .i64 0)])⟩,
    ⟨some 6, none, .p (.mv (.k (.c (C.bool false))))⟩] [1, 2, 4, 5])
  (.seq (.seq (.region [⟨some 14, none, .h (.load 24 true (.t 2))⟩,
    ⟨some 15, none, .h (.call (.f 140) [.t 14])⟩,
    ⟨some 16, none, .p (.un .not (.t 15))⟩,
    ⟨some 17, none, .p (.mv (.t 16))⟩,
    ⟨some 18, some (17, false), .p (.mv (.t 1))⟩,
    ⟨some 19, some (17, false), .h (.call (.f 144) [.t 18, .k (.c (C.int .i64 0)), .k (.c (C.int .i64 1))])⟩,
    ⟨some 20, some (17, false), .p (.un .not (.t 19))⟩,
    ⟨some 21, none, .p (.pick (.t 17) (.k (.c (C.bool true))) (.t 20))⟩,
    ⟨some 22, none, .p (.mv (.t 21))⟩,
    ⟨some 23, some (22, false), .h (.load 24 true (.t 2))⟩,
    ⟨some 24, some (22, false), .h (.call (.f 183) [.t 23])⟩,
    ⟨some 25, some (22, false), .p (.len (.t 24))⟩,
    ⟨some 26, some (22, false), .p (.bin .eql (.t 25) (.k (.c (C.int .i64 0))))⟩,
    ⟨some 27, none, .p (.pick (.t 22) (.k (.c (C.bool true))) (.t 26))⟩] [1, 2, 4, 5, 27])
  (.cond (.t 27)
  (.seq (.region [⟨some 28, none, .p (.build [.k (C.int .i64 0), .k (C.int .i64 0)] [])⟩,
    ⟨some 29, none, .p (.build [.k (C.int .i64 0), .k (C.int .i64 0)] [])⟩,
    ⟨none, none, .h (.store 2 (.t 4) (.t 28))⟩,
    ⟨none, none, .h (.store 2 (.t 5) (.t 29))⟩,
    ⟨some 6, none, .p (.mv (.k (.c (C.bool false))))⟩] [4, 5, 6])
  .ret)
  .skip))
  (.seq (.region [⟨some 30, none, .h (.load 24 true (.t 2))⟩,
    ⟨some 31, none, .h (.call (.f 183) [.t 30])⟩,
    ⟨some 7, none, .p (.mv (.t 31))⟩] [1, 2, 4, 5, 7])
  (.seq (.region [⟨some 32, none, .p (.mv (.t 7))⟩,
    ⟨some 33, none, .p (.ixS 2 (.t 32) (.k (.c (C.int .i64 0))))⟩,
    ⟨some 34, none, .h (.load 2 true (.t 33))⟩,
    ⟨some 35, none, .p (.build [.k (C.int .i64 0), .k (C.int .i64 0)] [(0, 1, .k (.c (C.int .i64 (-1)))), (1, 1, .k (.c (C.int .i64 1)))])⟩,
    ⟨some 8, none, .p (.alloc [.k (C.int .i64 0), .k (C.int .i64 0)])⟩,
    ⟨some 9, none, .p (.alloc [.k (C.int .i64 0), .k (C.int .i64 0)])⟩,
    ⟨none, none, .h (.store 2 (.t 8) (.t 34))⟩,
    ⟨none, none, .h (.store 2 (.t 9) (.t 35))⟩] [1, 2, 4, 5, 7, 8, 9])
  (.seq (.seq (.region [⟨some 10, none, .p (.mv (.k (.c (C.int .i64 0))))⟩] [1, 2, 4, 5, 7, 8, 9, 10])
  (.block 0 (.loop (.seq (.seq (.region [⟨some 36, none, .p (.mv (.t 10))⟩,
    ⟨some 37, none, .p (.mv (.t 7))⟩,
    ⟨some 38, none, .p (.len (.t 37))⟩,
    ⟨some 39, none, .p (.bin .lss (.t 36) (.t 38))⟩] [1, 2, 4, 5, 7, 8, 9, 10, 39])
  (.cond (.t 39)
  .skip
  (.exit 0)))
  (.seq (.block 1 (.seq (.regionD [⟨some 43, none, .h (.load 24 true (.t 2))⟩,
    ⟨some 44, none, .p (.mv (.t 7))⟩,
    ⟨some 45, none, .p (.mv (.t 10))⟩,
    ⟨some 46, none, .p (.ixS 2 (.t 44) (.t 45))⟩,
    ⟨some 47, none, .p (.ixA 2 1 (.t 46) (.k (.c (C.int .i64 0))))⟩,
    ⟨some 48, none, .h (.load 1 false (.t 47))⟩,
    ⟨some 49, none, .p (.mv (.t 7))⟩,
    ⟨some 50, none, .p (.mv (.t 10))⟩,
    ⟨some 51, none, .p (.ixS 2 (.t 49) (.t 50))⟩,
    ⟨some 52, none, .p (.ixA 2 1 (.t 51) (.k (.c (C.int .i64 1))))⟩,
    ⟨some 53, none, .h (.load 1 false (.t 52))⟩,
    ⟨some 54, none, .h (.call (.f 148) [.t 43, .t 48, .t 53])⟩,
    ⟨some 42, none, .p (.mv (.t 54))⟩,
    ⟨some 55, none, .p (.ext (.t 42) 0)⟩,
    ⟨some 56, none, .p (.ext (.t 42) 1)⟩,
    ⟨some 11, none, .p (.alloc (List.replicate 24 (.k (C.int .i64 0))))⟩,
    ⟨none, none, .h (.store 24 (.t 11) (.t 55))⟩,
    ⟨some 12, none, .p (.mv (.t 56))⟩] [1, 2, 4, 5, 7, 8, 9, 10, 11] [])
  (.seq (.region [⟨some 57, none, .h (.load 24 true (.t 11))⟩,
    ⟨some 58, none, .p (.mv (.t 1))⟩,
    ⟨some 59, none, .h (.call (.f 176) [.t 57, .t 58, .k (.c (C.int .i64 1))])⟩,
    ⟨some 13, none, .p (.alloc [.k (C.int .i64 0), .k (C.int .i64 0)])⟩,
    ⟨none, none, .h (.store 2 (.t 13) (.t 59))⟩] [1, 2, 4, 5, 7, 8, 9, 10, 13])
  (.seq (.region [⟨some 60, none, .p (.ixA 2 1 (.t 9) (.k (.c (C.int .i64 0))))⟩,
    ⟨some 61, none, .h (.load 1 false (.t 60))⟩,
    ⟨some 62, none, .p (.ixA 2 1 (.t 13) (.k (.c (C.int .i64 1))))⟩,
    ⟨some 63, none, .h (.load 1 false (.t 62))⟩,
    ⟨some 64, none, .p (.bin .mul (.t 61) (.t 63))⟩,
    ⟨some 65, none, .p (.ixA 2 1 (.t 13) (.k (.c (C.int .i64 0))))⟩,
    ⟨some 66, none, .h (.load 1 false (.t 65))⟩,
    ⟨some 67, none, .p (.ixA 2 1 (.t 9) (.k (.c (C.int .i64 1))))⟩,
    ⟨some 68, none, .h (.load 1 false (.t 67))⟩,
    ⟨some 69, none, .p (.bin .mul (.t 66) (.t 68))⟩,
    ⟨some 70, none, .p (.bin .lss (.t 64) (.t 69))⟩] [1, 2, 4, 5, 7, 8, 9, 10, 13, 70])
  (.cond (.t 70)
  (.seq (.region [⟨some 71, none, .p (.mv (.t 7))⟩,
    ⟨some 72, none, .p (.mv (.t 10))⟩,
    ⟨some 73, none, .p (.ixS 2 (.t 71) (.t 72))⟩,
    ⟨some 74, none, .h (.load 2 true (.t 73))⟩,
    ⟨none, none, .h (.store 2 (.t 8) (.t 74))⟩] [1, 2, 4, 5, 7, 8, 9, 10, 13])
  (.region [⟨some 75, none, .h (.load 2 true (.t 13))⟩,
    ⟨none, none, .h (.store 2 (.t 9) (.t 75))⟩] [1, 2, 4, 5, 7, 8, 9, 10]))
  .skip)))))
  (.region [⟨some 40, none, .p (.mv (.t 10))⟩,
    ⟨some 41, none, .p (.bin .add (.t 40) (.k (.c (C.int .i64 1))))⟩,
    ⟨some 10, none, .p (.mv (.t 41))⟩] [1, 2, 4, 5, 7, 8, 9, 10]))) [1, 2, 4, 5, 7, 8, 9, 10])))
  (.seq (.regionD [⟨some 76, none, .h (.load 2 true (.t 8))⟩,
    ⟨some 77, none, .h (.load 2 true (.t 9))⟩,
    ⟨none, none, .h (.store 2 (.t 4) (.t 76))⟩,
    ⟨none, none, .h (.store 2 (.t 5) (.t 77))⟩,
    ⟨some 6, none, .p (.mv (.k (.c (C.bool true))))⟩] [4, 5, 6] [(.t 9, .t 4)])
  .ret)))))) }
theorem a97_ok : okFn Try.prog 97 a97 = true := by kernel_rfl
/-- loop.example/g01215/impl.BestChance -/
def a98 : AFn := { np := 2, nt := 60, res := [.cell 4 2 true, .cell 5 2 true, .t 6], body :=
  (.seq (.region [⟨some 2, none, .p (.box 24 (.t 0))⟩,
    ⟨some 4, none, .p (.alloc [.k (C.int .i64 0), .k (C.int .i64 0)])⟩,
    ⟨some 5, none, .p (.alloc [.k (C.int .i64 0), .k (C.int .i64 0)])⟩,
    ⟨some 6, none, .p (.mv (.k (.c (C.bool false))))⟩] [1, 2, 4, 5])
  (.seq (.seq (.region [⟨some 14, none, .h (.load 24 true (.t 2))⟩,
    ⟨some 15, none, .p (.mv (.t 1))⟩,
    ⟨some 16, none, .h (.call (.f 177) [.t 14, .t 15, .k (.c (C.int .i64 1))])⟩,
    ⟨some 17, none, .p (.un .not (.t 16))⟩,
    ⟨some 18, none, .p (.mv (.t 17))⟩,
    ⟨some 19, some (18, false), .h (.load 24 true (.t 2))⟩,
    ⟨some 20, some (18, false), .h (.call (.f 184) [.t 19])⟩,
    ⟨some 21, none, .p (.pick (.t 18) (.k (.c (C.bool true))) (.t 20))⟩] [1, 2, 4, 5, 21])
  (.cond (.t 21)
  (.seq (.region [⟨some 22, none, .p (.build [.k (C.int .i64 0), .k (C.int .i64 0)] [])⟩,
    ⟨some 23, none, .p (.build [.k (C.int .i64 0), .k (C.int .i64 0)] [])⟩,
    ⟨none, none, .h (.store 2 (.t 4) (.t 22))⟩,
    ⟨none, none, .h (.store 2 (.t 5) (.t 23))⟩,
    ⟨some 6, none, .p (.mv (.k (.c (C.bool false))))⟩] [4, 5, 6])
  .ret)
  .skip))
  (.seq (.region [⟨some 7, none, .p (.alloc [.k (C.int .i64 0), .k (C.int .i64 0)])⟩] [1, 2, 4, 5, 7])
  (.seq (.region [⟨some 24, none, .p (.build [.k (C.int .i64 0), .k (C.int .i64 0)] [(0, 1, .k (.c (C.int .i64 (-1)))), (1, 1, .k (.c (C.int .i64 1)))])⟩,
    ⟨some 8, none, .p (.alloc [.k (C.int .i64 0), .k (C.int .i64 0)])⟩,
    ⟨none, none, .h (.store 2 (.t 8) (.t 24))⟩] [1, 2, 4, 5, 7, 8])
  (.seq (.seq (.region [⟨some 25, none, .h (.load 24 true (.t 2))⟩,
    ⟨some 26, none, .h (.call (.f 143) [.t 25])⟩,
    ⟨some 27, none, .p (.len (.t 26))⟩,
    ⟨some 28, none, .p (.mv (.k (.c (C.int .i64 0))))⟩] [1, 2, 4, 5, 7, 8, 26, 27, 28])
  (.block 0 (.loop (.seq (.region [⟨some 29, none, .p (.bin .lss (.t 28) (.t 27))⟩] [1, 2, 4, 5, 7, 8, 26, 27, 28, 29])
  (.seq (.cond (.t 29)
  .skip
  (.exit 0))
  (.seq (.block 1 (.seq (.region [⟨some 30, none, .p (.ixS 2 (.t 26) (.t 28))⟩,
    ⟨some 31, none, .h (.load 2 true (.t 30))⟩,
    ⟨some 10, none, .p (.alloc [.k (C.int .i64 0), .k (C.int .i64 0)])⟩,
    ⟨none, none, .h (.store 2 (.t 10) (.t 31))⟩] [1, 2, 4, 5, 7, 8, 10, 26, 27, 28])
  (.seq (.region [⟨some 33, none, .h (.load 24 true (.t 2))⟩,
    ⟨some 34, none, .p (.ixA 2 1 (.t 10) (.k (.c (C.int .i64 0))))⟩,
    ⟨some 35, none, .h (.load 1 false (.t 34))⟩,
    ⟨some 36, none, .p (.ixA 2 1 (.t 10) (.k (.c (C.int .i64 1))))⟩,
    ⟨some 37, none, .h (.load 1 false (.t 36))⟩,
    ⟨some 38, none, .h (.call (.f 149) [.t 33, .t 35, .t 37])⟩,
    ⟨some 32, none, .p (.mv (.t 38))⟩,
    ⟨some 39, none, .p (.ext (.t 32) 0)⟩,
    ⟨some 40, none, .p (.ext (.t 32) 1)⟩,
    ⟨some 11, none, .p (.alloc (List.replicate 24 (.k (C.int .i64 0))))⟩,
    ⟨none, none, .h (.store 24 (.t 11) (.t 39))⟩,
    ⟨some 12, none, .p (.mv (.t 40))⟩] [1, 2, 4, 5, 7, 8, 10, 11, 26, 27, 28])
  (.seq (.region [⟨some 41, none, .h (.load 24 true (.t 11))⟩,
    ⟨some 42, none, .p (.mv (.t 1))⟩,
    ⟨some 43, none, .h (.call (.f 182) [.t 41, .t 42])⟩,
    ⟨some 13, none, .p (.alloc [.k (C.int .i64 0), .k (C.int .i64 0)])⟩,
    ⟨none, none, .h (.store 2 (.t 13) (.t 43))⟩] [1, 2, 4, 5, 7, 8, 10, 13, 26, 27, 28])
  (.seq (.region [⟨some 44, none, .p (.ixA 2 1 (.t 13) (.k (.c (C.int .i64 0))))⟩,
    ⟨some 45, none, .h (.load 1 false (.t 44))⟩,
    ⟨some 46, none, .p (.ixA 2 1 (.t 8) (.k (.c (C.int .i64 1))))⟩,
    ⟨some 47, none, .h (.load 1 false (.t 46))⟩,
    ⟨some 48, none, .p (.bin .mul (.t 45) (.t 47))⟩,
    ⟨some 49, none, .p (.ixA 2 1 (.t 8) (.k (.c (C.int .i64 0))))⟩,
    ⟨some 50, none, .h (.load 1 false (.t 49))⟩,
    ⟨some 51, none, .p (.ixA 2 1 (.t 13) (.k (.c (C.int .i64 1))))⟩,
    ⟨some 52, none, .h (.load 1 false (.t 51))⟩,
    ⟨some 53, none, .p (.bin .mul (.t 50) (.t 52))⟩,
    ⟨some 54, none, .p (.bin .gtr (.t 48) (.t 53))⟩] [1, 2, 4, 5, 7, 8, 10, 13, 26, 27, 28, 54])
  (.cond (.t 54)
  (.regionD [⟨some 55, none, .h (.load 2 true (.t 10))⟩,
    ⟨some 56, none, .h (.load 2 true (.t 13))⟩,
    ⟨none, none, .h (.store 2 (.t 7) (.t 55))⟩,
    ⟨none, none, .h (.store 2 (.t 8) (.t 56))⟩] [1, 2, 4, 5, 7, 8, 26, 27, 28] [(.t 13, .t 7)])
  .skip))))))
  (.region [⟨some 57, none, .p (.bin .add (.t 28) (.k (.c (C.int .i64 1))))⟩,
    ⟨some 28, none, .p (.mv (.t 57))⟩] [1, 2, 4, 5, 7, 8, 26, 27, 28])))) [1, 2, 4, 5, 7, 8, 26, 27, 28])))
  (.seq (.regionD [⟨some 58, none, .h (.load 2 true (.t 7))⟩,
    ⟨some 59, none, .h (.load 2 true (.t 8))⟩,
    ⟨none, none, .h (.store 2 (.t 4) (.t 58))⟩,
    ⟨none, none, .h (.store 2 (.t 5) (.t 59))⟩,
    ⟨some 6, none, .p (.mv (.k (.c (C.bool true))))⟩] [4, 5, 6] [(.t 8, .t 4)])
  .ret)))))) }
theorem a98_ok : okFn Try.prog 98 a98 = true := by kernel_rfl
/-- loop.example/g01215/spec.CertifyReplay -/
def a99 : AFn := { np := 1, nt := 30, res := [.t 2, .t 3], body :=
  (.seq (.region [⟨some 1, none, .p (.box 25 (.t 0))⟩,
    ⟨some 2, none, .p (.mv (.k (.c (C.int .i64 0))))⟩,
    ⟨some 3, none, .p (.mv (.k (.c (C.bool false))))⟩] [1])
  (.seq (.region [⟨some 7, none, .h (.load 25 true (.t 1))⟩,
    ⟨some 8, none, .h (.call (.f 150) [.t 7])⟩,
    ⟨some 6, none, .p (.mv (.t 8))⟩,
    ⟨some 9, none, .p (.ext (.t 6) 0)⟩,
    ⟨some 10, none, .p (.ext (.t 6) 1)⟩,
    ⟨some 4, none, .p (.mv (.t 9))⟩,
    ⟨some 5, none, .p (.mv (.t 10))⟩] [1, 4, 5])
  (.seq (.seq (.region [⟨some 11, none, .p (.mv (.t 5))⟩,
    ⟨some 12, none, .p (.un .not (.t 11))⟩,
    ⟨some 13, none, .p (.mv (.t 12))⟩,
    ⟨some 14, some (13, false), .p (.mv (.t 4))⟩,
    ⟨some 15, some (13, false), .p (.mv (.t 4))⟩,
    ⟨some 16, some (13, false), .p (.len (.t 15))⟩,
    ⟨some 17, some (13, false), .p (.bin .sub (.t 16) (.k (.c (C.int .i64 1))))⟩,
    ⟨some 18, some (13, false), .p (.ixS 24 (.t 14) (.t 17))⟩,
    ⟨some 19, some (13, false), .h (.load 24 true (.t 18))⟩,
    ⟨some 20, some (13, false), .h (.call (.f 172) [.t 19])⟩,
    ⟨some 21, some (13, false), .p (.un .not (.t 20))⟩,
    ⟨some 22, none, .p (.pick (.t 13) (.k (.c (C.bool true))) (.t 21))⟩] [1, 22])
  (.cond (.t 22)
  (.seq (.region [⟨some 2, none, .p (.mv (.k (.c (C.int .i64 0))))⟩,
    ⟨some 3, none, .p (.mv (.k (.c (C.bool false))))⟩] [2, 3])
  .ret)
  .skip))
  (.seq (.regionD [⟨some 23, none, .p (.fld 24 (.t 1))⟩,
    ⟨some 24, none, .h (.load 1 false (.t 23))⟩,
    ⟨some 25, none, .p (.len (.t 24))⟩,
    ⟨some 26, none, .p (.fld 0 (.t 1))⟩,
    ⟨some 27, none, .h (.load 24 true (.t 26))⟩,
    ⟨some 28, none, .h (.call (.f 185) [.t 27])⟩,
    ⟨some 29, none, .p (.bin .sub (.t 25) (.t 28))⟩,
    ⟨some 2, none, .p (.mv (.t 29))⟩,
    ⟨some 3, none, .p (.mv (.k (.c (C.bool true))))⟩] [2, 3] [])
  .ret)))) }
theorem a99_ok : okFn Try.prog 99 a99 = true := by kernel_rfl
/-- loop.example/g01215/impl.CertifyReplay -/
def a100 : AFn := { np := 1, nt := 14, res := [.t 2, .t 3], body :=
  (.seq (.region [⟨some 1, none, .p (.box 25 (.t 0))⟩,
    ⟨some 2, none, .p (.mv (.k (.c (C.int .i64 0))))⟩,
    ⟨some 3, none, .p (.mv (.k (.c (C.bool false))))⟩] [1])
  (.seq (.seq (.region [⟨some 4, none, .h (.load 25 true (.t 1))⟩,
    ⟨some 5, none, .h (.call (.f 173) [.t 4])⟩,
    ⟨some 6, none, .p (.un .not (.t 5))⟩] [1, 6])
  (.cond (.t 6)
  (.seq (.region [⟨some 2, none, .p (.mv (.k (.c (C.int .i64 0))))⟩,
    ⟨some 3, none, .p (.mv (.k (.c (C.bool false))))⟩] [2, 3])
  .ret)
  .skip))
  (.seq (.regionD [⟨some 7, none, .p (.fld 24 (.t 1))⟩,
    ⟨some 8, none, .h (.load 1 false (.t 7))⟩,
    ⟨some 9, none, .p (.len (.t 8))⟩,
    ⟨some 10, none, .p (.fld 0 (.t 1))⟩,
    ⟨some 11, none, .h (.load 24 true (.t 10))⟩,
    ⟨some 12, none, .h (.call (.f 186) [.t 11])⟩,
    ⟨some 13, none, .p (.bin .sub (.t 9) (.t 12))⟩,
    ⟨some 2, none, .p (.mv (.t 13))⟩,
    ⟨some 3, none, .p (.mv (.k (.c (C.bool true))))⟩] [2, 3] [])
  .ret))) }
theorem a100_ok : okFn Try.prog 100 a100 = true := by kernel_rfl
/-- loop.example/g01215/spec.CutLoops -/
def a101 : AFn := { np := 1, nt := 77, res := [.cell 2 25 true, .t 3], body :=
  (.seq (.region [⟨some 1, none, .p (.box 25 (.t 0))⟩,
    ⟨some 2, none, .p (.alloc [.k (C.int .i64 0), .k (C.int .i64 0), .k (C.int .i64 0), .k (C.int .i64 0), .k (C.int .i64 0), .k (C.int .i64 0), .k (C.int .i64 0), .k (C.int .i64 0), .k (C.int .i64 0), .k (C.int .i64 0), .k (C.int .i64 0), .k (C.int .i64 0), .k (C.int .i64 0), .k (C.int .i64 0), .k (C.int .i64 0), .k (C.int .i64 0), .k (C.int .i64 0), .k (C.int .i64 0), .k (C.int .i64 0), .k (C.int .i64 0), .k (C.int .i64 0), .k (C.int .i64 0), .k (C.int .i64 0), .k (C.int .i64 0), .sl 2])⟩,
    ⟨some 3, none, .p (.mv (.k (.c (C.bool false))))⟩] [1, 2])
  (.seq (.region [⟨some 12, none, .h (.load 25 true (.t 1))⟩,
    ⟨some 13, none, .h (.call (.f 150) [.t 12])⟩,
    ⟨some 11, none, .p (.mv (.t 13))⟩,
    ⟨some 14, none, .p (.ext (.t 11) 0)⟩,
    ⟨some 15, none, .p (.ext (.t 11) 1)⟩,
    ⟨some 4, none, .p (.mv (.t 14))⟩,
    ⟨some 5, none, .p (.mv (.t 15))⟩] [1, 2, 4, 5])
  (.seq (.seq (.region [⟨some 16, none, .p (.mv (.t 5))⟩,
    ⟨some 17, none, .p (.un .not (.t 16))⟩] [1, 2, 4, 17])
  (.cond (.t 17)
  (.seq (.region [⟨some 18, none, .p (.build [.k (C.int .i64 0), .k (C.int .i64 0), .k (C.int .i64 0), .k (C.int .i64 0), .k (C.int .i64 0), .k (C.int .i64 0), .k (C.int .i64 0), .k (C.int .i64 0), .k (C.int .i64 0), .k (C.int .i64 0), .k (C.int .i64 0), .k (C.int .i64 0), .k (C.int .i64 0), .k (C.int .i64 0), .k (C.int .i64 0), .k (C.int .i64 0), .k (C.int .i64 0), .k (C.int .i64 0), .k (C.int .i64 0), .k (C.int .i64 0), .k (C.int .i64 0), .k (C.int .i64 0), .k (C.int .i64 0), .k (C.int .i64 0), .sl 2] [])⟩,
    ⟨none, none, .h (.store 25 (.t 2) (.t 18))⟩,
    ⟨some 3, none, .p (.mv (.k (.c (C.bool false))))⟩] [2, 3])
  .ret)
  .skip))
  (.seq (.region [⟨some 19, none, .h (.load 25 true (.t 1))⟩,
    ⟨some 20, none, .p (.fld 24 (.t 1))⟩,
    ⟨some 21, none, .h (.load 1 false (.t 20))⟩,
    ⟨some 22, none, .p (.len (.t 21))⟩,
    ⟨some 23, none, .h (.call (.f 168) [.t 19, .t 22])⟩,
    ⟨some 6, none, .p (.alloc [.k (C.int .i64 0), .k (C.int .i64 0), .k (C.int .i64 0), .k (C.int .i64 0), .k (C.int .i64 0), .k (C.int .i64 0), .k (C.int .i64 0), .k (C.int .i64 0), .k (C.int .i64 0), .k (C.int .i64 0), .k (C.int .i64 0), .k (C.int .i64 0), .k (C.int .i64 0), .k (C.int .i64 0), .k (C.int .i64 0), .k (C.int .i64 0), .k (C.int .i64 0), .k (C.int .i64 0), .k (C.int .i64 0), .k (C.int .i64 0), .k (C.int .i64 0), .k (C.int .i64 0), .k (C.int .i64 0), .k (C.int .i64 0), .sl 2])⟩,
    ⟨none, none, .h (.store 25 (.t 6) (.t 23))⟩] [2, 4, 6])
  (.seq (.seq (.region [⟨some 24, none, .p (.mv (.t 4))⟩,
    ⟨some 25, none, .h (.call (.f 170) [.t 24])⟩,
    ⟨some 7, none, .p (.mv (.t 25))⟩] [2, 6, 7])
  (.block 0 (.loop (.seq (.seq (.region [⟨some 26, none, .p (.mv (.t 7))⟩,
    ⟨some 27, none, .p (.len (.t 26))⟩,
    ⟨some 28, none, .p (.bin .gtr (.t 27) (.k (.c (C.int .i64 0))))⟩] [2, 6, 7, 28])
  (.cond (.t 28)
  .skip
  (.exit 0)))
  (.seq (.block 1 (.seq (.regionD [⟨some 31, none, .p (.mv (.t 7))⟩,
    ⟨some 32, none, .p (.ixS 2 (.t 31) (.k (.c (C.int .i64 0))))⟩,
    ⟨some 33, none, .p (.ixA 2 1 (.t 32) (.k (.c (C.int .i64 0))))⟩,
    ⟨some 34, none, .h (.load 1 false (.t 33))⟩,
    ⟨some 35, none, .p (.mv (.t 7))⟩,
    ⟨some 36, none, .p (.ixS 2 (.t 35) (.k (.c (C.int .i64 0))))⟩,
    ⟨some 37, none, .p (.ixA 2 1 (.t 36) (.k (.c (C.int .i64 1))))⟩,
    ⟨some 38, none, .h (.load 1 false (.t 37))⟩,
    ⟨some 8, none, .p (.mv (.t 34))⟩,
    ⟨some 9, none, .p (.mv (.t 38))⟩] [2, 6, 7, 8, 9] [])
  (.seq (.seq (.region [⟨some 10, none, .p (.mv (.k (.c (C.int .i64 1))))⟩] [2, 6, 7, 8, 9, 10])
  (.block 2 (.loop (.seq (.seq (.region [⟨some 39, none, .p (.mv (.t 10))⟩,
    ⟨some 40, none, .p (.mv (.t 7))⟩,
    ⟨some 41, none, .p (.len (.t 40))⟩,
    ⟨some 42, none, .p (.bin .lss (.t 39) (.t 41))⟩,
    ⟨some 43, none, .p (.mv (.t 42))⟩,
    ⟨some 44, some (43, true), .p (.mv (.t 7))⟩,
    ⟨some 45, some (43, true), .p (.mv (.t 10))⟩,
    ⟨some 46, some (43, true), .p (.ixS 2 (.t 44) (.t 45))⟩,
    ⟨some 47, some (43, true), .p (.ixA 2 1 (.t 46) (.k (.c (C.int .i64 0))))⟩,
    ⟨some 48, some (43, true), .h (.load 1 false (.t 47))⟩,
    ⟨some 49, some (43, true), .p (.mv (.t 8))⟩,
    ⟨some 50, some (43, true), .p (.bin .eql (.t 48) (.t 49))⟩,
    ⟨some 51, none, .p (.pick (.t 43) (.t 50) (.k (.c (C.bool false))))⟩] [2, 6, 7, 8, 9, 10, 51])
  (.cond (.t 51)
  .skip
  (.exit 2)))
  (.seq (.block 3 (.region [⟨some 54, none, .p (.mv (.t 7))⟩,
    ⟨some 55, none, .p (.mv (.t 10))⟩,
    ⟨some 56, none, .p (.ixS 2 (.t 54) (.t 55))⟩,
    ⟨some 57, none, .p (.ixA 2 1 (.t 56) (.k (.c (C.int .i64 1))))⟩,
    ⟨some 58, none, .h (.load 1 false (.t 57))⟩,
    ⟨some 9, none, .p (.mv (.t 58))⟩] [2, 6, 7, 8, 9, 10]))
  (.region [⟨some 52, none, .p (.mv (.t 10))⟩,
    ⟨some 53, none, .p (.bin .add (.t 52) (.k (.c (C.int .i64 1))))⟩,
    ⟨some 10, none, .p (.mv (.t 53))⟩] [2, 6, 7, 8, 9, 10]))) [2, 6, 7, 8, 9, 10])))
  (.seq (.regionD [⟨some 59, none, .p (.mksl 2 0 [.k (C.int .i64 0), .k (C.int .i64 0)] [])⟩,
    ⟨some 60, none, .p (.fld 24 (.t 6))⟩,
    ⟨some 61, none, .h (.load 1 false (.t 60))⟩,
    ⟨some 62, none, .p (.mv (.t 8))⟩,
    ⟨some 63, none, .p (.slS 2 (.t 61) none (some (.t 62)))⟩,
    ⟨some 64, none, .h (.app 2 (.t 59) (.t 63))⟩,
    ⟨some 65, none, .p (.fld 24 (.t 6))⟩,
    ⟨some 66, none, .h (.load 1 false (.t 65))⟩,
    ⟨some 67, none, .p (.mv (.t 9))⟩,
    ⟨some 68, none, .p (.slS 2 (.t 66) (some (.t 67)) none)⟩,
    ⟨some 69, none, .h (.app 2 (.t 64) (.t 68))⟩,
    ⟨some 70, none, .p (.fld 24 (.t 6))⟩,
    ⟨none, none, .h (.store 1 (.t 70) (.t 69))⟩] [2, 6] [(.t 59, .t 65)])
  (.region [⟨some 72, none, .h (.load 25 true (.t 6))⟩,
    ⟨some 73, none, .h (.call (.f 150) [.t 72])⟩,
    ⟨some 71, none, .p (.mv (.t 73))⟩,
    ⟨some 74, none, .p (.ext (.t 71) 0)⟩,
    ⟨some 75, none, .p (.ext (.t 71) 1)⟩,
    ⟨some 4, none, .p (.mv (.t 74))⟩] [2, 4, 6])))))
  (.region [⟨some 29, none, .p (.mv (.t 4))⟩,
    ⟨some 30, none, .h (.call (.f 170) [.t 29])⟩,
    ⟨some 7, none, .p (.mv (.t 30))⟩] [2, 6, 7]))) [2, 6, 7])))
  (.seq (.region [⟨some 76, none, .h (.load 25 true (.t 6))⟩,
    ⟨none, none, .h (.store 25 (.t 2) (.t 76))⟩,
    ⟨some 3, none, .p (.mv (.k (.c (C.bool true))))⟩] [2, 3])
  .ret)))))) }
theorem a101_ok : okFn Try.prog 101 a101 = true := by kernel_rfl
/-- loop.example/g01215/impl.CutLoops -/
def a102 : AFn := { np := 1, nt := 55, res := [.cell 2 25 true, .t 3], body :=
  (.seq (.region [⟨some 1, none, .p (.box 25 (.t 0))⟩,
    ⟨some 2, none, .p (.alloc [.k (C.int .i64 0), .k (C.int .i64 0), .k (C.int .i64 0), .k (C.int .i64 0), .k (C.int .i64 0), .k (C.int .i64 0), .k (C.int .i64 0), .k (C.int .i64 0), .k (C.int .i64 0), .k (C.int .i64 0), .k (C.int .i64 0), .k (C.int .i64 0), .k (C.int .i64 0), .k (C.int .i64 0), .k (C.int .i64 0), .k (C.int .i64 0), .k (C.int .i64 0), .k (C.int .i64 0), .k (C.int .i64 0), .k (C.int .i64 0), .k (C.int .i64 0), .k (C.int .i64 0), .k (C.int .i64 0), .k (C.int .i64 0), .sl 2])⟩,
    ⟨some 3, none, .p (.mv (.k (.c (C.bool false))))⟩] [1, 2])
  (.seq (.seq (.region [⟨some 9, none, .h (.load 25 true (.t 1))⟩,
    ⟨some 10, none, .h (.call (.f 50) [.t 9])⟩,
    ⟨some 11, none, .p (.un .not (.t 10))⟩] [1, 2, 11])
  (.cond (.t 11)
  (.seq (.region [⟨some 12, none, .p (.build [.k (C.int .i64 0), .k (C.int .i64 0), .k (C.int .i64 0), .k (C.int .i64 0), .k (C.int .i64 0), .k (C.int .i64 0), .k (C.int .i64 0), .k (C.int .i64 0), .k (C.int .i64 0), .k (C.int .i64 0), .k (C.int .i64 0), .k (C.int .i64 0), .k (C.int .i64 0), .k (C.int .i64 0), .k (C.int .i64 0), .k (C.int .i64 0), .k (C.int .i64 0), .k (C.int .i64 0), .k (C.int .i64 0), .k (C.int .i64 0), .k (C.int .i64 0), .k (C.int .i64 0), .k (C.int .i64 0), .k (C.int .i64 0), .sl 2] [])⟩,
    ⟨none, none, .h (.store 25 (.t 2) (.t 12))⟩,
    ⟨some 3, none, .p (.mv (.k (.c (C.bool false))))⟩] [2, 3])
  .ret)
  .skip))
  (.seq (.region [⟨some 13, none, .h (.load 25 true (.t 1))⟩,
    ⟨some 14, none, .p (.fld 24 (.t 1))⟩,
    ⟨some 15, none, .h (.load 1 false (.t 14))⟩,
    ⟨some 16, none, .p (.mksl 1 1 [.sl 2] [(0, 1, .t 15)])⟩,
    ⟨some 17, none, .h (.call (.f 169) [.t 13, .t 16])⟩,
    ⟨some 4, none, .p (.alloc [.k (C.int .i64 0), .k (C.int .i64 0), .k (C.int .i64 0), .k (C.int .i64 0), .k (C.int .i64 0), .k (C.int .i64 0), .k (C.int .i64 0), .k (C.int .i64 0), .k (C.int .i64 0), .k (C.int .i64 0), .k (C.int .i64 0), .k (C.int .i64 0), .k (C.int .i64 0), .k (C.int .i64 0), .k (C.int .i64 0), .k (C.int .i64 0), .k (C.int .i64 0), .k (C.int .i64 0), .k (C.int .i64 0), .k (C.int .i64 0), .k (C.int .i64 0), .k (C.int .i64 0), .k (C.int .i64 0), .k (C.int .i64 0), .sl 2])⟩,
    ⟨none, none, .h (.store 25 (.t 4) (.t 17))⟩] [2, 4])
  (.seq (.seq (.region [⟨some 18, none, .h (.load 25 true (.t 4))⟩,
    ⟨some 19, none, .h (.call (.f 171) [.t 18])⟩,
    ⟨some 5, none, .p (.mv (.t 19))⟩] [2, 4, 5])
  (.block 0 (.loop (.seq (.seq (.region [⟨some 20, none, .p (.mv (.t 5))⟩,
    ⟨some 21, none, .p (.len (.t 20))⟩,
    ⟨some 22, none, .p (.bin .gtr (.t 21) (.k (.c (C.int .i64 0))))⟩] [2, 4, 5, 22])
  (.cond (.t 22)
  .skip
  (.exit 0)))
  (.seq (.block 1 (.seq (.region [⟨some 25, none, .p (.mv (.t 5))⟩,
    ⟨some 26, none, .p (.ixS 2 (.t 25) (.k (.c (C.int .i64 0))))⟩,
    ⟨some 27, none, .h (.load 2 true (.t 26))⟩,
    ⟨some 6, none, .p (.alloc [.k (C.int .i64 0), .k (C.int .i64 0)])⟩,
    ⟨none, none, .h (.store 2 (.t 6) (.t 27))⟩] [2, 4, 5, 6])
  (.seq (.seq (.region [⟨some 28, none, .p (.mv (.t 5))⟩,
    ⟨some 29, none, .p (.len (.t 28))⟩,
    ⟨some 30, none, .p (.mv (.k (.c (C.int .i64 0))))⟩] [2, 4, 6, 28, 29, 30])
  (.block 2 (.loop (.seq (.region [⟨some 31, none, .p (.bin .lss (.t 30) (.t 29))⟩] [2, 4, 6, 28, 29, 30, 31])
  (.seq (.cond (.t 31)
  .skip
  (.exit 2))
  (.seq (.block 3 (.seq (.region [⟨some 32, none, .p (.ixS 2 (.t 28) (.t 30))⟩,
    ⟨some 33, none, .h (.load 2 true (.t 32))⟩,
    ⟨some 8, none, .p (.alloc [.k (C.int .i64 0), .k (C.int .i64 0)])⟩,
    ⟨none, none, .h (.store 2 (.t 8) (.t 33))⟩] [2, 4, 6, 8, 28, 29, 30])
  (.seq (.region [⟨some 34, none, .p (.ixA 2 1 (.t 8) (.k (.c (C.int .i64 0))))⟩,
    ⟨some 35, none, .h (.load 1 false (.t 34))⟩,
    ⟨some 36, none, .p (.ixA 2 1 (.t 6) (.k (.c (C.int .i64 0))))⟩,
    ⟨some 37, none, .h (.load 1 false (.t 36))⟩,
    ⟨some 38, none, .p (.bin .eql (.t 35) (.t 37))⟩] [2, 4, 6, 8, 28, 29, 30, 38])
  (.cond (.t 38)
  (.region [⟨some 39, none, .h (.load 2 true (.t 8))⟩,
    ⟨none, none, .h (.store 2 (.t 6) (.t 39))⟩] [2, 4, 6, 28, 29, 30])
  .skip))))
  (.region [⟨some 40, none, .p (.bin .add (.t 30) (.k (.c (C.int .i64 1))))⟩,
    ⟨some 30, none, .p (.mv (.t 40))⟩] [2, 4, 6, 28, 29, 30])))) [2, 4, 6, 28, 29, 30])))
  (.regionD [⟨some 41, none, .h (.load 25 true (.t 4))⟩,
    ⟨some 42, none, .p (.fld 24 (.t 4))⟩,
    ⟨some 43, none, .h (.load 1 false (.t 42))⟩,
    ⟨some 44, none, .p (.ixA 2 1 (.t 6) (.k (.c (C.int .i64 0))))⟩,
    ⟨some 45, none, .h (.load 1 false (.t 44))⟩,
    ⟨some 46, none, .p (.slS 2 (.t 43) none (some (.t 45)))⟩,
    ⟨some 47, none, .p (.fld 24 (.t 4))⟩,
    ⟨some 48, none, .h (.load 1 false (.t 47))⟩,
    ⟨some 49, none, .p (.ixA 2 1 (.t 6) (.k (.c (C.int .i64 1))))⟩,
    ⟨some 50, none, .h (.load 1 false (.t 49))⟩,
    ⟨some 51, none, .p (.slS 2 (.t 48) (some (.t 50)) none)⟩,
    ⟨some 52, none, .p (.mksl 1 2 [.sl 2] [(0, 1, .t 46), (1, 1, .t 51)])⟩,
    ⟨some 53, none, .h (.call (.f 169) [.t 41, .t 52])⟩,
    ⟨none, none, .h (.store 25 (.t 4) (.t 53))⟩] [2, 4] []))))
  (.region [⟨some 23, none, .h (.load 25 true (.t 4))⟩,
    ⟨some 24, none, .h (.call (.f 171) [.t 23])⟩,
    ⟨some 5, none, .p (.mv (.t 24))⟩] [2, 4, 5]))) [2, 4, 5])))
  (.seq (.region [⟨some 54, none, .h (.load 25 true (.t 4))⟩,
    ⟨none, none, .h (.store 25 (.t 2) (.t 54))⟩,
    ⟨some 3, none, .p (.mv (.k (.c (C.bool true))))⟩] [2, 3])
  .ret))))) }
theorem a102_ok : okFn Try.prog 102 a102 = true := by kernel_rfl
/-- loop.example/g01215/impl.IsRack -/
def a121 : AFn := { np := 1, nt := 6, res := [.t 2], body :=
  (.seq (.region [⟨some 1, none, .p (.box 24 (.t 0))⟩,
    ⟨some 2, none, .p (.mv (.k (.c (C.bool false))))⟩] [1])
  (.seq (.region [⟨some 3, none, .p (.fld 0 (.t 1))⟩,
    ⟨some 4, none, .h (.slA 6 4 (.t 3) none none)⟩,
    ⟨some 5, none, .h (.call (.f 200) [.t 4, .f 201])⟩,
    ⟨some 2, none, .p (.mv (.t 5))⟩] [2])
  .ret)) }
theorem a121_ok : okFn Try.prog 121 a121 = true := by kernel_rfl
/-- loop.example/g01215/spec.l9Deal -/
def a132 : AFn := { np := 2, nt := 47, res := [.t 4, .t 5], body :=
  (.seq (.region [⟨some 2, none, .p (.box 6 (.t 0))⟩,
    ⟨some 3, none, .p (.box 6 (.t 1))⟩,
    ⟨some 4, none, .p (.mv (.k (.c (C.int .i64 0))))⟩,
    ⟨some 5, none, .p (.mv (.k (.c (C.bool false))))⟩] [2, 3])
  (.seq (.region [⟨some 6, none, .p (.mv (.k (.c (C.int .i64 0))))⟩,
    ⟨some 7, none, .p (.mv (.k (.c (C.int .i64 0))))⟩] [2, 3, 6, 7])
  (.seq (.seq (.region [⟨some 8, none, .p (.mv (.k (.c (C.int .i64 0))))⟩] [2, 3, 6, 7, 8])
  (.block 0 (.loop (.seq (.seq (.region [⟨some 10, none, .p (.mv (.t 8))⟩,
    ⟨some 11, none, .p (.bin .lss (.t 10) (.k (.c (C.int .i64 6))))⟩] [2, 3, 6, 7, 8, 11])
  (.cond (.t 11)
  .skip
  (.exit 0)))
  (.seq (.block 1 (.seq (.seq (.region [⟨some 14, none, .p (.mv (.t 8))⟩,
    ⟨some 15, none, .p (.ixA 6 1 (.t 2) (.t 14))⟩,
    ⟨some 16, none, .h (.load 1 false (.t 15))⟩,
    ⟨some 17, none, .h (.call (.f 144) [.t 16, .k (.c (C.int .i64 0)), .k (.c (C.int .i64 4))])⟩,
    ⟨some 18, none, .p (.un .not (.t 17))⟩] [2, 3, 6, 7, 8, 18])
  (.cond (.t 18)
  (.seq (.region [⟨some 4, none, .p (.mv (.k (.c (C.int .i64 0))))⟩,
    ⟨some 5, none, .p (.mv (.k (.c (C.bool false))))⟩] [4, 5])
  .ret)
  .skip))
  (.region [⟨some 19, none, .p (.mv (.t 6))⟩,
    ⟨some 20, none, .p (.mv (.t 8))⟩,
    ⟨some 21, none, .p (.ixA 6 1 (.t 2) (.t 20))⟩,
    ⟨some 22, none, .h (.load 1 false (.t 21))⟩,
    ⟨some 23, none, .p (.bin .add (.t 19) (.t 22))⟩,
    ⟨some 6, none, .p (.mv (.t 23))⟩] [2, 3, 6, 7, 8])))
  (.region [⟨some 12, none, .p (.mv (.t 8))⟩,
    ⟨some 13, none, .p (.bin .add (.t 12) (.k (.c (C.int .i64 1))))⟩,
    ⟨some 8, none, .p (.mv (.t 13))⟩] [2, 3, 6, 7, 8]))) [2, 3, 6, 7, 8])))
  (.seq (.seq (.region [⟨some 9, none, .p (.mv (.k (.c (C.int .i64 1))))⟩] [3, 6, 7, 9])
  (.block 2 (.loop (.seq (.seq (.region [⟨some 24, none, .p (.mv (.t 9))⟩,
    ⟨some 25, none, .p (.bin .leq (.t 24) (.k (.c (C.int .i64 5))))⟩] [3, 6, 7, 9, 25])
  (.cond (.t 25)
  .skip
  (.exit 2)))
  (.seq (.block 3 (.seq (.seq (.region [⟨some 28, none, .p (.mv (.t 9))⟩,
    ⟨some 29, none, .p (.ixA 6 1 (.t 3) (.t 28))⟩,
    ⟨some 30, none, .h (.load 1 false (.t 29))⟩,
    ⟨some 31, none, .h (.call (.f 144) [.t 30, .k (.c (C.int .i64 0)), .k (.c (C.int .i64 24))])⟩,
    ⟨some 32, none, .p (.un .not (.t 31))⟩] [3, 6, 7, 9, 32])
  (.cond (.t 32)
  (.seq (.region [⟨some 4, none, .p (.mv (.k (.c (C.int .i64 0))))⟩,
    ⟨some 5, none, .p (.mv (.k (.c (C.bool false))))⟩] [4, 5])
  .ret)
  .skip))
  (.region [⟨some 33, none, .p (.mv (.t 7))⟩,
    ⟨some 34, none, .p (.mv (.t 9))⟩,
    ⟨some 35, none, .p (.ixA 6 1 (.t 3) (.t 34))⟩,
    ⟨some 36, none, .h (.load 1 false (.t 35))⟩,
    ⟨some 37, none, .p (.bin .add (.t 33) (.t 36))⟩,
    ⟨some 7, none, .p (.mv (.t 37))⟩] [3, 6, 7, 9])))
  (.region [⟨some 26, none, .p (.mv (.t 9))⟩,
    ⟨some 27, none, .p (.bin .add (.t 26) (.k (.c (C.int .i64 1))))⟩,
    ⟨some 9, none, .p (.mv (.t 27))⟩] [3, 6, 7, 9]))) [3, 6, 7, 9])))
  (.seq (.region [⟨some 38, none, .p (.mv (.t 6))⟩,
    ⟨some 39, none, .p (.ixA 6 1 (.t 3) (.k (.c (C.int .i64 0))))⟩,
    ⟨some 40, none, .h (.load 1 false (.t 39))⟩,
    ⟨some 41, none, .p (.bin .eql (.t 40) (.k (.c (C.int .i64 0))))⟩,
    ⟨some 42, none, .p (.mv (.t 41))⟩,
    ⟨some 43, some (42, true), .p (.mv (.t 6))⟩,
    ⟨some 44, some (42, true), .p (.mv (.t 7))⟩,
    ⟨some 45, some (42, true), .p (.bin .eql (.t 43) (.t 44))⟩,
    ⟨some 46, none, .p (.pick (.t 42) (.t 45) (.k (.c (C.bool false))))⟩,
    ⟨some 4, none, .p (.mv (.t 38))⟩,
    ⟨some 5, none, .p (.mv (.t 46))⟩] [4, 5])
  .ret))))) }
theorem a132_ok : okFn Try.prog 132 a132 = true := by kernel_rfl
/-- loop.example/g01215/spec.l7Cut -/
def a133 : AFn := { np := 2, nt := 24, res := [.cell 4 2 true], body :=
  (.seq (.region [⟨some 4, none, .p (.alloc [.k (C.int .i64 0), .k (C.int .i64 0)])⟩] [0, 1, 4])
  (.seq (.region [⟨some 7, none, .p (.mv (.t 0))⟩,
    ⟨some 8, none, .p (.mv (.t 1))⟩,
    ⟨some 5, none, .p (.mv (.t 7))⟩,
    ⟨some 6, none, .p (.mv (.t 8))⟩] [0, 1, 4, 5, 6])
  (.seq (.block 0 (.loop (.seq (.seq (.region [⟨some 9, none, .p (.mv (.t 6))⟩,
    ⟨some 10, none, .p (.bin .gtr (.t 9) (.k (.c (C.int .i64 0))))⟩] [0, 1, 4, 5, 6, 10])
  (.cond (.t 10)
  .skip
  (.exit 0)))
  (.block 1 (.regionD [⟨some 11, none, .p (.mv (.t 6))⟩,
    ⟨some 12, none, .p (.mv (.t 5))⟩,
    ⟨some 13, none, .p (.mv (.t 6))⟩,
    ⟨some 14, none, .p (.bin .rem (.t 12) (.t 13))⟩,
    ⟨some 5, none, .p (.mv (.t 11))⟩,
    ⟨some 6, none, .p (.mv (.t 14))⟩] [0, 1, 4, 5, 6] []))) [0, 1, 4, 5, 6]))
  (.seq (.regionD [⟨some 15, none, .p (.mv (.t 0))⟩,
    ⟨some 16, none, .p (.mv (.t 5))⟩,
    ⟨some 17, none, .h (.call (.f 208) [.t 16, .k (.c (C.int .i64 1))])⟩,
    ⟨some 18, none, .p (.bin .quo (.t 15) (.t 17))⟩,
    ⟨some 19, none, .p (.mv (.t 1))⟩,
    ⟨some 20, none, .p (.mv (.t 5))⟩,
    ⟨some 21, none, .h (.call (.f 208) [.t 20, .k (.c (C.int .i64 1))])⟩,
    ⟨some 22, none, .p (.bin .quo (.t 19) (.t 21))⟩,
    ⟨some 23, none, .p (.build [.k (C.int .i64 0), .k (C.int .i64 0)] [(0, 1, .t 18), (1, 1, .t 22)])⟩,
    ⟨none, none, .h (.store 2 (.t 4) (.t 23))⟩] [4] [])
  .ret)))) }
theorem a133_ok : okFn Try.prog 133 a133 = true := by kernel_rfl
/-- loop.example/g01215/spec.l9Same -/
def a134 : AFn := { np := 3, nt := 50, res := [.t 6], body :=
  (.seq (.region [⟨some 3, none, .p (.box 6 (.t 0))⟩,
    ⟨some 4, none, .p (.box 6 (.t 1))⟩,
    ⟨some 6, none, .p (.mv (.k (.c (C.int .i64 0))))⟩] [2, 3, 4])
  (.seq (.seq (.region [⟨some 10, none, .p (.mv (.t 2))⟩,
    ⟨some 11, none, .p (.bin .eql (.t 10) (.k (.c (C.int .i64 6))))⟩] [2, 3, 4, 11])
  (.cond (.t 11)
  (.seq (.region [⟨some 6, none, .p (.mv (.k (.c (C.int .i64 1))))⟩] [6])
  .ret)
  .skip))
  (.seq (.seq (.region [⟨some 12, none, .p (.mv (.t 2))⟩,
    ⟨some 13, none, .p (.ixA 6 1 (.t 3) (.t 12))⟩,
    ⟨some 14, none, .h (.load 1 false (.t 13))⟩,
    ⟨some 15, none, .p (.bin .eql (.t 14) (.k (.c (C.int .i64 0))))⟩] [2, 3, 4, 15])
  (.cond (.t 15)
  (.seq (.region [⟨some 16, none, .h (.load 6 true (.t 3))⟩,
    ⟨some 17, none, .h (.load 6 true (.t 4))⟩,
    ⟨some 18, none, .p (.mv (.t 2))⟩,
    ⟨some 19, none, .p (.bin .add (.t 18) (.k (.c (C.int .i64 1))))⟩,
    ⟨some 20, none, .h (.call (.f 134) [.t 16, .t 17, .t 19])⟩,
    ⟨some 6, none, .p (.mv (.t 20))⟩] [6])
  .ret)
  .skip))
  (.seq (.region [⟨some 7, none, .p (.mv (.k (.c (C.int .i64 0))))⟩] [2, 3, 4, 7])
  (.seq (.seq (.region [⟨some 8, none, .p (.mv (.k (.c (C.int .i64 1))))⟩] [2, 3, 4, 7, 8])
  (.block 0 (.loop (.seq (.seq (.region [⟨some 21, none, .p (.mv (.t 8))⟩,
    ⟨some 22, none, .p (.bin .leq (.t 21) (.k (.c (C.int .i64 5))))⟩] [2, 3, 4, 7, 8, 22])
  (.cond (.t 22)
  .skip
  (.exit 0)))
  (.seq (.block 1 (.seq (.regionD [⟨some 25, none, .p (.mv (.t 8))⟩,
    ⟨some 26, none, .p (.ixA 6 1 (.t 4) (.t 25))⟩,
    ⟨some 27, none, .h (.load 1 false (.t 26))⟩,
    ⟨some 28, none, .p (.mv (.t 2))⟩,
    ⟨some 29, none, .p (.ixA 6 1 (.t 3) (.t 28))⟩,
    ⟨some 30, none, .h (.load 1 false (.t 29))⟩,
    ⟨some 31, none, .p (.bin .geq (.t 27) (.t 30))⟩] [2, 3, 4, 7, 8, 31] [])
  (.cond (.t 31)
  (.seq (.region [⟨some 32, none, .h (.load 6 true (.t 4))⟩,
    ⟨some 9, none, .p (.alloc [.k (C.int .i64 0), .k (C.int .i64 0), .k (C.int .i64 0), .k (C.int .i64 0), .k (C.int .i64 0), .k (C.int .i64 0)])⟩,
    ⟨none, none, .h (.store 6 (.t 9) (.t 32))⟩] [2, 3, 4, 7, 8, 9])
  (.seq (.regionD [⟨some 33, none, .p (.mv (.t 8))⟩,
    ⟨some 34, none, .p (.mv (.t 8))⟩,
    ⟨some 35, none, .p (.ixA 6 1 (.t 9) (.t 34))⟩,
    ⟨some 36, none, .h (.load 1 false (.t 35))⟩,
    ⟨some 37, none, .p (.mv (.t 2))⟩,
    ⟨some 38, none, .p (.ixA 6 1 (.t 3) (.t 37))⟩,
    ⟨some 39, none, .h (.load 1 false (.t 38))⟩,
    ⟨some 40, none, .p (.bin .sub (.t 36) (.t 39))⟩,
    ⟨some 41, none, .p (.ixA 6 1 (.t 9) (.t 33))⟩,
    ⟨none, none, .h (.store 1 (.t 41) (.t 40))⟩] [2, 3, 4, 7, 8, 9] [])
  (.region [⟨some 42, none, .p (.mv (.t 7))⟩,
    ⟨some 43, none, .h (.load 6 true (.t 3))⟩,
    ⟨some 44, none, .h (.load 6 true (.t 9))⟩,
    ⟨some 45, none, .p (.mv (.t 2))⟩,
    ⟨some 46, none, .p (.bin .add (.t 45) (.k (.c (C.int .i64 1))))⟩,
    ⟨some 47, none, .h (.call (.f 134) [.t 43, .t 44, .t 46])⟩,
    ⟨some 48, none, .p (.bin .add (.t 42) (.t 47))⟩,
    ⟨some 7, none, .p (.mv (.t 48))⟩] [2, 3, 4, 7, 8])))
  .skip)))
  (.region [⟨some 23, none, .p (.mv (.t 8))⟩,
    ⟨some 24, none, .p (.bin .add (.t 23) (.k (.c (C.int .i64 1))))⟩,
    ⟨some 8, none, .p (.mv (.t 24))⟩] [2, 3, 4, 7, 8]))) [2, 3, 4, 7, 8])))
  (.seq (.region [⟨some 49, none, .p (.mv (.t 7))⟩,
    ⟨some 6, none, .p (.mv (.t 49))⟩] [6])
  .ret)))))) }
theorem a134_ok : okFn Try.prog 134 a134 = true := by kernel_rfl
/-- loop.example/g01215/spec.l7Ways -/
def a135 : AFn := { np := 1, nt := 26, res := [.t 2], body :=
  (.seq (.region [⟨some 1, none, .p (.box 6 (.t 0))⟩,
    ⟨some 2, none, .p (.mv (.k (.c (C.int .i64 0))))⟩] [1])
  (.seq (.region [⟨some 3, none, .p (.mv (.k (.c (C.int .i64 1))))⟩,
    ⟨some 4, none, .p (.mv (.k (.c (C.int .i64 0))))⟩] [1, 3, 4])
  (.seq (.seq (.region [⟨some 5, none, .p (.mv (.k (.c (C.int .i64 1))))⟩] [1, 3, 4, 5])
  (.block 0 (.loop (.seq (.seq (.region [⟨some 7, none, .p (.mv (.t 5))⟩,
    ⟨some 8, none, .p (.bin .leq (.t 7) (.k (.c (C.int .i64 5))))⟩] [1, 3, 4, 5, 8])
  (.cond (.t 8)
  .skip
  (.exit 0)))
  (.seq (.block 1 (.seq (.region [⟨some 6, none, .p (.mv (.k (.c (C.int .i64 1))))⟩] [1, 3, 4, 5, 6])
  (.block 2 (.loop (.seq (.seq (.region [⟨some 11, none, .p (.mv (.t 6))⟩,
    ⟨some 12, none, .p (.mv (.t 5))⟩,
    ⟨some 13, none, .p (.ixA 6 1 (.t 1) (.t 12))⟩,
    ⟨some 14, none, .h (.load 1 false (.t 13))⟩,
    ⟨some 15, none, .p (.bin .leq (.t 11) (.t 14))⟩] [1, 3, 4, 5, 6, 15])
  (.cond (.t 15)
  .skip
  (.exit 2)))
  (.seq (.block 3 (.seq (.region [⟨some 18, none, .p (.mv (.t 4))⟩,
    ⟨some 19, none, .p (.bin .add (.t 18) (.k (.c (C.int .i64 1))))⟩,
    ⟨some 4, none, .p (.mv (.t 19))⟩] [1, 3, 4, 5, 6])
  (.region [⟨some 20, none, .p (.mv (.t 3))⟩,
    ⟨some 21, none, .p (.mv (.t 4))⟩,
    ⟨some 22, none, .p (.bin .mul (.t 20) (.t 21))⟩,
    ⟨some 23, none, .p (.mv (.t 6))⟩,
    ⟨some 24, none, .p (.bin .quo (.t 22) (.t 23))⟩,
    ⟨some 3, none, .p (.mv (.t 24))⟩] [1, 3, 4, 5, 6])))
  (.region [⟨some 16, none, .p (.mv (.t 6))⟩,
    ⟨some 17, none, .p (.bin .add (.t 16) (.k (.c (C.int .i64 1))))⟩,
    ⟨some 6, none, .p (.mv (.t 17))⟩] [1, 3, 4, 5, 6]))) [1, 3, 4, 5, 6]))))
  (.region [⟨some 9, none, .p (.mv (.t 5))⟩,
    ⟨some 10, none, .p (.bin .add (.t 9) (.k (.c (C.int .i64 1))))⟩,
    ⟨some 5, none, .p (.mv (.t 10))⟩] [1, 3, 4, 5]))) [1, 3, 4, 5])))
  (.seq (.region [⟨some 25, none, .p (.mv (.t 3))⟩,
    ⟨some 2, none, .p (.mv (.t 25))⟩] [2])
  .ret)))) }
theorem a135_ok : okFn Try.prog 135 a135 = true := by kernel_rfl
/-- loop.example/g01215/impl.isDeal -/
def a136 : AFn := { np := 2, nt := 23, res := [.t 4], body :=
  (.seq (.region [⟨some 2, none, .p (.box 6 (.t 0))⟩,
    ⟨some 3, none, .p (.box 6 (.t 1))⟩,
    ⟨some 4, none, .p (.mv (.k (.c (C.bool false))))⟩] [2, 3])
  (.seq (.regionD [⟨some 5, none, .p (.ixA 6 1 (.t 3) (.k (.c (C.int .i64 0))))⟩,
    ⟨some 6, none, .h (.load 1 false (.t 5))⟩,
    ⟨some 7, none, .p (.bin .eql (.t 6) (.k (.c (C.int .i64 0))))⟩,
    ⟨some 8, none, .p (.mv (.t 7))⟩,
    ⟨some 9, some (8, true), .h (.slA 6 1 (.t 2) none none)⟩,
    ⟨some 10, some (8, true), .h (.call (.f 209) [.t 9, .f 210])⟩,
    ⟨some 11, none, .p (.pick (.t 8) (.t 10) (.k (.c (C.bool false))))⟩,
    ⟨some 12, none, .p (.mv (.t 11))⟩,
    ⟨some 13, some (12, true), .h (.slA 6 1 (.t 3) none none)⟩,
    ⟨some 14, some (12, true), .h (.call (.f 209) [.t 13, .f 211])⟩,
    ⟨some 15, none, .p (.pick (.t 12) (.t 14) (.k (.c (C.bool false))))⟩,
    ⟨some 16, none, .p (.mv (.t 15))⟩,
    ⟨some 17, some (16, true), .h (.slA 6 1 (.t 2) none none)⟩,
    ⟨some 18, some (16, true), .h (.call (.f 196) [.t 17])⟩,
    ⟨some 19, some (16, true), .h (.slA 6 1 (.t 3) none none)⟩,
    ⟨some 20, some (16, true), .h (.call (.f 196) [.t 19])⟩,
    ⟨some 21, some (16, true), .p (.bin .eql (.t 18) (.t 20))⟩,
    ⟨some 22, none, .p (.pick (.t 16) (.t 21) (.k (.c (C.bool false))))⟩,
    ⟨some 4, none, .p (.mv (.t 22))⟩] [4] [])
  .ret)) }
theorem a136_ok : okFn Try.prog 136 a136 = true := by kernel_rfl
/-- loop.example/g01215/impl.fraction -/
def a137 : AFn := { np := 2, nt := 16, res := [.cell 4 2 true], body :=
  (.seq (.region [⟨some 4, none, .p (.alloc [.k (C.int .i64 0), .k (C.int .i64 0)])⟩] [0, 1, 4])
  (.seq (.region [⟨some 6, none, .p (.mv (.t 0))⟩,
    ⟨some 7, none, .p (.mv (.t 1))⟩,
    ⟨some 8, none, .h (.call (.f 212) [.t 6, .t 7])⟩,
    ⟨some 5, none, .p (.mv (.t 8))⟩] [0, 1, 4, 5])
  (.seq (.regionD [⟨some 9, none, .p (.mv (.t 0))⟩,
    ⟨some 10, none, .p (.mv (.t 5))⟩,
    ⟨some 11, none, .p (.bin .quo (.t 9) (.t 10))⟩,
    ⟨some 12, none, .p (.mv (.t 1))⟩,
    ⟨some 13, none, .p (.mv (.t 5))⟩,
    ⟨some 14, none, .p (.bin .quo (.t 12) (.t 13))⟩,
    ⟨some 15, none, .p (.build [.k (C.int .i64 0), .k (C.int .i64 0)] [(0, 1, .t 11), (1, 1, .t 14)])⟩,
    ⟨none, none, .h (.store 2 (.t 4) (.t 15))⟩] [4] [])
  .ret))) }
theorem a137_ok : okFn Try.prog 137 a137 = true := by kernel_rfl
/-- loop.example/g01215/impl.plain -/
def a138 : AFn := { np := 2, nt := 47, res := [.t 4], body :=
  (.seq (.region [⟨some 3, none, .p (.box 6 (.t 1))⟩,
    ⟨some 4, none, .p (.mv (.k (.c (C.int .i64 0))))⟩] [0, 3])
  (.seq (.seq (.region [⟨some 9, none, .p (.mv (.t 0))⟩,
    ⟨some 10, none, .p (.len (.t 9))⟩,
    ⟨some 11, none, .p (.bin .eql (.t 10) (.k (.c (C.int .i64 0))))⟩] [0, 3, 11])
  (.cond (.t 11)
  (.seq (.region [⟨some 4, none, .p (.mv (.k (.c (C.int .i64 1))))⟩] [4])
  .ret)
  .skip))
  (.seq (.seq (.region [⟨some 12, none, .p (.mv (.t 0))⟩,
    ⟨some 13, none, .p (.ixS 1 (.t 12) (.k (.c (C.int .i64 0))))⟩,
    ⟨some 14, none, .h (.load 1 false (.t 13))⟩,
    ⟨some 15, none, .p (.bin .eql (.t 14) (.k (.c (C.int .i64 0))))⟩] [0, 3, 15])
  (.cond (.t 15)
  (.seq (.regionD [⟨some 16, none, .p (.mv (.t 0))⟩,
    ⟨some 17, none, .p (.slS 1 (.t 16) (some (.k (.c (C.int .i64 1)))) none)⟩,
    ⟨some 18, none, .h (.load 6 true (.t 3))⟩,
    ⟨some 19, none, .h (.call (.f 138) [.t 17, .t 18])⟩,
    ⟨some 4, none, .p (.mv (.t 19))⟩] [4] [])
  .ret)
  .skip))
  (.seq (.region [⟨some 5, none, .p (.mv (.k (.c (C.int .i64 0))))⟩] [0, 3, 5])
  (.seq (.seq (.region [⟨some 20, none, .h (.load 6 true (.t 3))⟩,
    ⟨some 21, none, .p (.mv (.k (.c (C.int .i64 0))))⟩] [0, 3, 5, 20, 21])
  (.block 0 (.loop (.seq (.region [⟨some 22, none, .p (.bin .lss (.t 21) (.k (.c (C.int .i64 6))))⟩] [0, 3, 5, 20, 21, 22])
  (.seq (.cond (.t 22)
  .skip
  (.exit 0))
  (.seq (.block 1 (.seq (.region [⟨some 23, none, .p (.mv (.t 21))⟩,
    ⟨some 24, none, .p (.ixV 6 1 false (.t 20) (.t 21))⟩,
    ⟨some 6, none, .p (.mv (.t 23))⟩,
    ⟨some 7, none, .p (.mv (.t 24))⟩] [0, 3, 5, 6, 7, 20, 21])
  (.seq (.region [⟨some 25, none, .p (.mv (.t 7))⟩,
    ⟨some 26, none, .p (.mv (.t 0))⟩,
    ⟨some 27, none, .p (.ixS 1 (.t 26) (.k (.c (C.int .i64 0))))⟩,
    ⟨some 28, none, .h (.load 1 false (.t 27))⟩,
    ⟨some 29, none, .p (.bin .geq (.t 25) (.t 28))⟩] [0, 3, 5, 6, 20, 21, 29])
  (.cond (.t 29)
  (.seq (.region [⟨some 30, none, .h (.load 6 true (.t 3))⟩,
    ⟨some 8, none, .p (.alloc [.k (C.int .i64 0), .k (C.int .i64 0), .k (C.int .i64 0), .k (C.int .i64 0), .k (C.int .i64 0), .k (C.int .i64 0)])⟩,
    ⟨none, none, .h (.store 6 (.t 8) (.t 30))⟩] [0, 3, 5, 6, 8, 20, 21])
  (.seq (.regionD [⟨some 31, none, .p (.mv (.t 6))⟩,
    ⟨some 32, none, .p (.ixA 6 1 (.t 8) (.t 31))⟩,
    ⟨some 33, none, .h (.load 1 false (.t 32))⟩,
    ⟨some 34, none, .p (.mv (.t 0))⟩,
    ⟨some 35, none, .p (.ixS 1 (.t 34) (.k (.c (C.int .i64 0))))⟩,
    ⟨some 36, none, .h (.load 1 false (.t 35))⟩,
    ⟨some 37, none, .p (.bin .sub (.t 33) (.t 36))⟩,
    ⟨some 38, none, .p (.ixA 6 1 (.t 8) (.t 31))⟩,
    ⟨none, none, .h (.store 1 (.t 38) (.t 37))⟩] [0, 3, 5, 8, 20, 21] [])
  (.regionD [⟨some 39, none, .p (.mv (.t 5))⟩,
    ⟨some 40, none, .p (.mv (.t 0))⟩,
    ⟨some 41, none, .p (.slS 1 (.t 40) (some (.k (.c (C.int .i64 1)))) none)⟩,
    ⟨some 42, none, .h (.load 6 true (.t 8))⟩,
    ⟨some 43, none, .h (.call (.f 138) [.t 41, .t 42])⟩,
    ⟨some 44, none, .p (.bin .add (.t 39) (.t 43))⟩,
    ⟨some 5, none, .p (.mv (.t 44))⟩] [0, 3, 5, 20, 21] [])))
  .skip))))
  (.region [⟨some 45, none, .p (.bin .add (.t 21) (.k (.c (C.int .i64 1))))⟩,
    ⟨some 21, none, .p (.mv (.t 45))⟩] [0, 3, 5, 20, 21])))) [0, 3, 5, 20, 21])))
  (.seq (.region [⟨some 46, none, .p (.mv (.t 5))⟩,
    ⟨some 4, none, .p (.mv (.t 46))⟩] [4])
  .ret)))))) }
theorem a138_ok : okFn Try.prog 138 a138 = true := by kernel_rfl
/-- loop.example/g01215/impl.arrangements -/
def a139 : AFn := { np := 1, nt := 27, res := [.t 2], body :=
  (.seq (.region [⟨some 1, none, .p (.box 6 (.t 0))⟩,
    ⟨some 2, none, .p (.mv (.k (.c (C.int .i64 0))))⟩] [1])
  (.seq (.region [⟨some 3, none, .p (.mv (.k (.c (C.int .i64 1))))⟩,
    ⟨some 4, none, .p (.mv (.k (.c (C.int .i64 0))))⟩] [1, 3, 4])
  (.seq (.seq (.region [⟨some 8, none, .h (.load 6 true (.t 1))⟩,
    ⟨some 9, none, .p (.mv (.k (.c (C.int .i64 0))))⟩] [3, 4, 8, 9])
  (.block 0 (.loop (.seq (.region [⟨some 10, none, .p (.bin .lss (.t 9) (.k (.c (C.int .i64 6))))⟩] [3, 4, 8, 9, 10])
  (.seq (.cond (.t 10)
  .skip
  (.exit 0))
  (.seq (.block 1 (.seq (.region [⟨some 11, none, .p (.ixV 6 1 false (.t 8) (.t 9))⟩,
    ⟨some 6, none, .p (.mv (.t 11))⟩] [3, 4, 6, 8, 9])
  (.seq (.region [⟨some 12, none, .p (.mv (.t 6))⟩,
    ⟨some 13, none, .p (.mv (.k (.c (C.int .i64 0))))⟩] [3, 4, 8, 9, 12, 13])
  (.block 2 (.loop (.seq (.region [⟨some 14, none, .p (.bin .lss (.t 13) (.t 12))⟩] [3, 4, 8, 9, 12, 13, 14])
  (.seq (.cond (.t 14)
  .skip
  (.exit 2))
  (.seq (.block 3 (.seq (.region [⟨some 15, none, .p (.mv (.t 13))⟩,
    ⟨some 7, none, .p (.mv (.t 15))⟩] [3, 4, 7, 8, 9, 12, 13])
  (.seq (.region [⟨some 16, none, .p (.mv (.t 4))⟩,
    ⟨some 17, none, .p (.bin .add (.t 16) (.k (.c (C.int .i64 1))))⟩,
    ⟨some 4, none, .p (.mv (.t 17))⟩] [3, 4, 7, 8, 9, 12, 13])
  (.region [⟨some 18, none, .p (.mv (.t 3))⟩,
    ⟨some 19, none, .p (.mv (.t 4))⟩,
    ⟨some 20, none, .p (.bin .mul (.t 18) (.t 19))⟩,
    ⟨some 21, none, .p (.mv (.t 7))⟩,
    ⟨some 22, none, .p (.bin .add (.t 21) (.k (.c (C.int .i64 1))))⟩,
    ⟨some 23, none, .p (.bin .quo (.t 20) (.t 22))⟩,
    ⟨some 3, none, .p (.mv (.t 23))⟩] [3, 4, 8, 9, 12, 13]))))
  (.region [⟨some 24, none, .p (.bin .add (.t 13) (.k (.c (C.int .i64 1))))⟩,
    ⟨some 13, none, .p (.mv (.t 24))⟩] [3, 4, 8, 9, 12, 13])))) [3, 4, 8, 9, 12, 13])))))
  (.region [⟨some 25, none, .p (.bin .add (.t 9) (.k (.c (C.int .i64 1))))⟩,
    ⟨some 9, none, .p (.mv (.t 25))⟩] [3, 4, 8, 9])))) [3, 4, 8, 9])))
  (.seq (.region [⟨some 26, none, .p (.mv (.t 3))⟩,
    ⟨some 2, none, .p (.mv (.t 26))⟩] [2])
  .ret)))) }
theorem a139_ok : okFn Try.prog 139 a139 = true := by kernel_rfl
/-- loop.example/g01215/spec.l2Rack -/
def a140 : AFn := { np := 1, nt := 44, res := [.t 2], body :=
  (.seq (.region [⟨some 1, none, .p (.box 24 (.t 0))⟩,
    ⟨some 2, none, .p (.mv (.k (.c (C.bool false))))⟩] [1])
  (.seq (.seq (.region [⟨some 3, none, .p (.mv (.k (.c (C.int .i64 0))))⟩] [1, 3])
  (.block 0 (.loop (.seq (.seq (.region [⟨some 5, none, .p (.mv (.t 3))⟩,
    ⟨some 6, none, .p (.bin .lss (.t 5) (.k (.c (C.int .i64 6))))⟩] [1, 3, 6])
  (.cond (.t 6)
  .skip
  (.exit 0)))
  (.seq (.block 1 (.seq (.region [⟨some 4, none, .p (.mv (.k (.c (C.int .i64 0))))⟩] [1, 3, 4])
  (.block 2 (.loop (.seq (.seq (.region [⟨some 9, none, .p (.mv (.t 4))⟩,
    ⟨some 10, none, .p (.bin .lss (.t 9) (.k (.c (C.int .i64 4))))⟩] [1, 3, 4, 10])
  (.cond (.t 10)
  .skip
  (.exit 2)))
  (.seq (.block 3 (.seq (.region [⟨some 13, none, .p (.mv (.t 3))⟩,
    ⟨some 14, none, .p (.mv (.t 4))⟩,
    ⟨some 15, none, .p (.fld 0 (.t 1))⟩,
    ⟨some 16, none, .p (.ixA 6 4 (.t 15) (.t 13))⟩,
    ⟨some 17, none, .p (.ixA 4 1 (.t 16) (.t 14))⟩,
    ⟨some 18, none, .h (.load 1 false (.t 17))⟩,
    ⟨some 19, none, .h (.call (.f 144) [.t 18, .k (.c (C.int .i64 0)), .k (.c (C.int .i64 5))])⟩,
    ⟨some 20, none, .p (.un .not (.t 19))⟩,
    ⟨some 21, none, .p (.mv (.t 20))⟩,
    ⟨some 22, some (21, false), .p (.mv (.t 4))⟩,
    ⟨some 23, some (21, false), .p (.bin .gtr (.t 22) (.k (.c (C.int .i64 0))))⟩,
    ⟨some 24, some (21, false), .p (.mv (.t 23))⟩,
    ⟨some 25, some (24, true), .p (.mv (.t 3))⟩,
    ⟨some 26, some (24, true), .p (.mv (.t 4))⟩,
    ⟨some 27, some (24, true), .p (.fld 0 (.t 1))⟩,
    ⟨some 28, some (24, true), .p (.ixA 6 4 (.t 27) (.t 25))⟩,
    ⟨some 29, some (24, true), .p (.ixA 4 1 (.t 28) (.t 26))⟩,
    ⟨some 30, some (24, true), .h (.load 1 false (.t 29))⟩,
    ⟨some 31, some (24, true), .p (.bin .gtr (.t 30) (.k (.c (C.int .i64 0))))⟩,
    ⟨some 32, some (21, false), .p (.pick (.t 24) (.t 31) (.k (.c (C.bool false))))⟩,
    ⟨some 33, some (21, false), .p (.mv (.t 32))⟩,
    ⟨some 34, some (33, true), .p (.mv (.t 3))⟩,
    ⟨some 35, some (33, true), .p (.mv (.t 4))⟩,
    ⟨some 36, some (33, true), .p (.bin .sub (.t 35) (.k (.c (C.int .i64 1))))⟩,
    ⟨some 37, some (33, true), .p (.fld 0 (.t 1))⟩,
    ⟨some 38, some (33, true), .p (.ixA 6 4 (.t 37) (.t 34))⟩,
    ⟨some 39, some (33, true), .p (.ixA 4 1 (.t 38) (.t 36))⟩,
    ⟨some 40, some (33, true), .h (.load 1 false (.t 39))⟩,
    ⟨some 41, some (33, true), .p (.bin .eql (.t 40) (.k (.c (C.int .i64 0))))⟩,
    ⟨some 42, some (21, false), .p (.pick (.t 33) (.t 41) (.k (.c (C.bool false))))⟩,
    ⟨some 43, none, .p (.pick (.t 21) (.k (.c (C.bool true))) (.t 42))⟩] [1, 3, 4, 43])
  (.cond (.t 43)
  (.seq (.region [⟨some 2, none, .p (.mv (.k (.c (C.bool false))))⟩] [2])
  .ret)
  .skip)))
  (.region [⟨some 11, none, .p (.mv (.t 4))⟩,
    ⟨some 12, none, .p (.bin .add (.t 11) (.k (.c (C.int .i64 1))))⟩,
    ⟨some 4, none, .p (.mv (.t 12))⟩] [1, 3, 4]))) [1, 3, 4]))))
  (.region [⟨some 7, none, .p (.mv (.t 3))⟩,
    ⟨some 8, none, .p (.bin .add (.t 7) (.k (.c (C.int .i64 1))))⟩,
    ⟨some 3, none, .p (.mv (.t 8))⟩] [1, 3]))) [1, 3])))
  (.seq (.region [⟨some 2, none, .p (.mv (.k (.c (C.bool true))))⟩] [2])
  .ret))) }
theorem a140_ok : okFn Try.prog 140 a140 = true := by kernel_rfl
/-- loop.example/g01215/spec.l2Useful -/
def a141 : AFn := { np := 1, nt := 36, res := [.t 2], body :=
  (.seq (.region [⟨some 1, none, .p (.box 24 (.t 0))⟩,
    ⟨some 2, none, .p (.nilsl 2)⟩] [1])
  (.seq (.region [⟨some 6, none, .p (.mksl 2 0 [.k (C.int .i64 0), .k (C.int .i64 0)] [])⟩,
    ⟨some 7, none, .h (.load 24 true (.t 1))⟩,
    ⟨some 8, none, .h (.call (.f 213) [.t 7])⟩,
    ⟨some 3, none, .p (.mv (.t 6))⟩,
    ⟨some 4, none, .p (.mv (.t 8))⟩] [1, 3, 4])
  (.seq (.seq (.region [⟨some 5, none, .p (.mv (.k (.c (C.int .i64 0))))⟩] [1, 3, 4, 5])
  (.block 0 (.loop (.seq (.seq (.region [⟨some 9, none, .p (.mv (.t 5))⟩,
    ⟨some 10, none, .p (.mv (.t 4))⟩,
    ⟨some 11, none, .p (.len (.t 10))⟩,
    ⟨some 12, none, .p (.bin .lss (.t 9) (.t 11))⟩] [1, 3, 4, 5, 12])
  (.cond (.t 12)
  .skip
  (.exit 0)))
  (.seq (.block 1 (.seq (.regionD [⟨some 15, none, .h (.load 24 true (.t 1))⟩,
    ⟨some 16, none, .p (.mv (.t 4))⟩,
    ⟨some 17, none, .p (.mv (.t 5))⟩,
    ⟨some 18, none, .p (.ixS 2 (.t 16) (.t 17))⟩,
    ⟨some 19, none, .p (.ixA 2 1 (.t 18) (.k (.c (C.int .i64 0))))⟩,
    ⟨some 20, none, .h (.load 1 false (.t 19))⟩,
    ⟨some 21, none, .p (.mv (.t 4))⟩,
    ⟨some 22, none, .p (.mv (.t 5))⟩,
    ⟨some 23, none, .p (.ixS 2 (.t 21) (.t 22))⟩,
    ⟨some 24, none, .p (.ixA 2 1 (.t 23) (.k (.c (C.int .i64 1))))⟩,
    ⟨some 25, none, .h (.load 1 false (.t 24))⟩,
    ⟨some 26, none, .h (.call (.f 155) [.t 15, .t 20, .t 25])⟩,
    ⟨some 27, none, .p (.un .not (.t 26))⟩] [1, 3, 4, 5, 27] [])
  (.cond (.t 27)
  (.region [⟨some 28, none, .p (.mv (.t 3))⟩,
    ⟨some 29, none, .p (.mv (.t 4))⟩,
    ⟨some 30, none, .p (.mv (.t 5))⟩,
    ⟨some 31, none, .p (.ixS 2 (.t 29) (.t 30))⟩,
    ⟨some 32, none, .h (.load 2 true (.t 31))⟩,
    ⟨some 33, none, .p (.mksl 2 1 [.k (C.int .i64 0), .k (C.int .i64 0)] [(0, 2, .t 32)])⟩,
    ⟨some 34, none, .h (.app 2 (.t 28) (.t 33))⟩,
    ⟨some 3, none, .p (.mv (.t 34))⟩] [1, 3, 4, 5])
  .skip)))
  (.region [⟨some 13, none, .p (.mv (.t 5))⟩,
    ⟨some 14, none, .p (.bin .add (.t 13) (.k (.c (C.int .i64 1))))⟩,
    ⟨some 5, none, .p (.mv (.t 14))⟩] [1, 3, 4, 5]))) [1, 3, 4, 5])))
  (.seq (.region [⟨some 35, none, .p (.mv (.t 3))⟩,
    ⟨some 2, none, .p (.mv (.t 35))⟩] [2])
  .ret)))) }
theorem a141_ok : okFn Try.prog 141 a141 = true := by kernel_rfl
/-- loop.example/g01215/laws.toIntA4A6 -/
def a142 : AFn := { np := 1, nt := 16, res := [.cell 2 24 true], body :=
  (.seq (.region [⟨some 1, none, .p (.box 24 (.t 0))⟩,
    ⟨some 2, none, .p (.alloc (List.replicate 24 (.k (C.int .i64 0))))⟩] [1, 2])
  (.seq (.region [⟨some 3, none, .p (.alloc (List.replicate 24 (.k (C.int .i64 0))))⟩] [1, 2, 3])
  (.seq (.seq (.region [⟨some 4, none, .p (.mv (.k (.c (C.int .i64 0))))⟩] [1, 2, 3, 4])
  (.block 0 (.loop (.seq (.seq (.region [⟨some 5, none, .p (.mv (.t 4))⟩,
    ⟨some 6, none, .p (.bin .lss (.t 5) (.k (.c (C.int .i64 6))))⟩] [1, 2, 3, 4, 6])
  (.cond (.t 6)
  .skip
  (.exit 0)))
  (.seq (.block 1 (.region [⟨some 9, none, .p (.mv (.t 4))⟩,
    ⟨some 10, none, .p (.mv (.t 4))⟩,
    ⟨some 11, none, .p (.ixA 6 4 (.t 1) (.t 10))⟩,
    ⟨some 12, none, .h (.load 4 true (.t 11))⟩,
    ⟨some 13, none, .h (.call (.f 214) [.t 12])⟩,
    ⟨some 14, none, .p (.ixA 6 4 (.t 3) (.t 9))⟩,
    ⟨none, none, .h (.store 4 (.t 14) (.t 13))⟩] [1, 2, 3, 4]))
  (.region [⟨some 7, none, .p (.mv (.t 4))⟩,
    ⟨some 8, none, .p (.bin .add (.t 7) (.k (.c (C.int .i64 1))))⟩,
    ⟨some 4, none, .p (.mv (.t 8))⟩] [1, 2, 3, 4]))) [1, 2, 3, 4])))
  (.seq (.region [⟨some 15, none, .h (.load 24 true (.t 3))⟩,
    ⟨none, none, .h (.store 24 (.t 2) (.t 15))⟩] [2])
  .ret)))) }
theorem a142_ok : okFn Try.prog 142 a142 = true := by kernel_rfl
/-- loop.example/g01215/impl.useful -/
def a143 : AFn := { np := 1, nt := 7, res := [.t 2], body :=
  (.seq (.region [⟨some 1, none, .p (.box 24 (.t 0))⟩,
    ⟨some 2, none, .p (.nilsl 2)⟩] [1])
  (.seq (.region [⟨some 3, none, .h (.load 24 true (.t 1))⟩,
    ⟨some 4, none, .h (.call (.f 215) [.t 3])⟩,
    ⟨some 5, none, .p (.mkfn 216 [.t 1])⟩,
    ⟨some 6, none, .h (.call (.f 163) [.t 4, .t 5])⟩,
    ⟨some 2, none, .p (.mv (.t 6))⟩] [2])
  .ret)) }
theorem a143_ok : okFn Try.prog 143 a143 = true := by kernel_rfl
/-- loop.example/g01215/spec.l1In -/
def a144 : AFn := { np := 3, nt := 15, res := [.t 6], body :=
  (.seq (.region [⟨some 6, none, .p (.mv (.k (.c (C.bool false))))⟩] [0, 1, 2])
  (.seq (.region [⟨some 7, none, .p (.mv (.t 0))⟩,
    ⟨some 8, none, .p (.mv (.t 1))⟩,
    ⟨some 9, none, .p (.bin .geq (.t 7) (.t 8))⟩,
    ⟨some 10, none, .p (.mv (.t 9))⟩,
    ⟨some 11, some (10, true), .p (.mv (.t 0))⟩,
    ⟨some 12, some (10, true), .p (.mv (.t 2))⟩,
    ⟨some 13, some (10, true), .p (.bin .leq (.t 11) (.t 12))⟩,
    ⟨some 14, none, .p (.pick (.t 10) (.t 13) (.k (.c (C.bool false))))⟩,
    ⟨some 6, none, .p (.mv (.t 14))⟩] [6])
  .ret)) }
theorem a144_ok : okFn Try.prog 144 a144 = true := by kernel_rfl
/-- loop.example/g01215/spec.l10End -/
def a145 : AFn := { np := 2, nt := 47, res := [.t 4], body :=
  (.seq (.region [⟨some 2, none, .p (.box 24 (.t 0))⟩,
    ⟨some 4, none, .p (.mv (.k (.c (C.int .i64 0))))⟩] [1, 2])
  (.seq (.seq (.region [⟨some 10, none, .p (.mv (.t 1))⟩,
    ⟨some 11, none, .p (.bin .eql (.t 10) (.k (.c (C.int .i64 0))))⟩] [1, 2, 11])
  (.cond (.t 11)
  (.seq (.region [⟨some 4, none, .p (.mv (.k (.c (C.int .i64 0))))⟩] [4])
  .ret)
  .skip))
  (.seq (.region [⟨some 12, none, .h (.load 24 true (.t 2))⟩,
    ⟨some 13, none, .h (.call (.f 141) [.t 12])⟩,
    ⟨some 5, none, .p (.mv (.k (.c (C.int .i64 (-1)))))⟩,
    ⟨some 6, none, .p (.mv (.t 13))⟩] [1, 2, 5, 6])
  (.seq (.seq (.region [⟨some 7, none, .p (.mv (.k (.c (C.int .i64 0))))⟩] [1, 2, 5, 6, 7])
  (.block 0 (.loop (.seq (.seq (.region [⟨some 14, none, .p (.mv (.t 7))⟩,
    ⟨some 15, none, .p (.mv (.t 6))⟩,
    ⟨some 16, none, .p (.len (.t 15))⟩,
    ⟨some 17, none, .p (.bin .lss (.t 14) (.t 16))⟩,
    ⟨some 18, none, .p (.mv (.t 17))⟩,
    ⟨some 19, some (18, true), .p (.mv (.t 5))⟩,
    ⟨some 20, some (18, true), .p (.bin .lss (.t 19) (.k (.c (C.int .i64 1))))⟩,
    ⟨some 21, none, .p (.pick (.t 18) (.t 20) (.k (.c (C.bool false))))⟩] [1, 2, 5, 6, 7, 21])
  (.cond (.t 21)
  .skip
  (.exit 0)))
  (.seq (.block 1 (.seq (.regionD [⟨some 25, none, .h (.load 24 true (.t 2))⟩,
    ⟨some 26, none, .p (.mv (.t 6))⟩,
    ⟨some 27, none, .p (.mv (.t 7))⟩,
    ⟨some 28, none, .p (.ixS 2 (.t 26) (.t 27))⟩,
    ⟨some 29, none, .p (.ixA 2 1 (.t 28) (.k (.c (C.int .i64 0))))⟩,
    ⟨some 30, none, .h (.load 1 false (.t 29))⟩,
    ⟨some 31, none, .p (.mv (.t 6))⟩,
    ⟨some 32, none, .p (.mv (.t 7))⟩,
    ⟨some 33, none, .p (.ixS 2 (.t 31) (.t 32))⟩,
    ⟨some 34, none, .p (.ixA 2 1 (.t 33) (.k (.c (C.int .i64 1))))⟩,
    ⟨some 35, none, .h (.load 1 false (.t 34))⟩,
    ⟨some 36, none, .h (.call (.f 148) [.t 25, .t 30, .t 35])⟩,
    ⟨some 24, none, .p (.mv (.t 36))⟩,
    ⟨some 37, none, .p (.ext (.t 24) 0)⟩,
    ⟨some 38, none, .p (.ext (.t 24) 1)⟩,
    ⟨some 8, none, .p (.alloc (List.replicate 24 (.k (C.int .i64 0))))⟩,
    ⟨none, none, .h (.store 24 (.t 8) (.t 37))⟩,
    ⟨some 9, none, .p (.mv (.t 38))⟩] [1, 2, 5, 6, 7, 8] [])
  (.region [⟨some 39, none, .p (.mv (.t 5))⟩,
    ⟨some 40, none, .h (.load 24 true (.t 8))⟩,
    ⟨some 41, none, .p (.mv (.t 1))⟩,
    ⟨some 42, none, .p (.bin .sub (.t 41) (.k (.c (C.int .i64 1))))⟩,
    ⟨some 43, none, .h (.call (.f 145) [.t 40, .t 42])⟩,
    ⟨some 44, none, .p (.un .neg (.t 43))⟩,
    ⟨some 45, none, .h (.call (.f 208) [.t 39, .t 44])⟩,
    ⟨some 5, none, .p (.mv (.t 45))⟩] [1, 2, 5, 6, 7])))
  (.region [⟨some 22, none, .p (.mv (.t 7))⟩,
    ⟨some 23, none, .p (.bin .add (.t 22) (.k (.c (C.int .i64 1))))⟩,
    ⟨some 7, none, .p (.mv (.t 23))⟩] [1, 2, 5, 6, 7]))) [1, 2, 5, 6, 7])))
  (.seq (.region [⟨some 46, none, .p (.mv (.t 5))⟩,
    ⟨some 4, none, .p (.mv (.t 46))⟩] [4])
  .ret))))) }
theorem a145_ok : okFn Try.prog 145 a145 = true := by kernel_rfl
/-- loop.example/g01215/impl.isGame -/
def a146 : AFn := { np := 3, nt := 14, res := [.t 6], body :=
  (.seq (.region [⟨some 3, none, .p (.box 24 (.t 0))⟩,
    ⟨some 6, none, .p (.mv (.k (.c (C.bool false))))⟩] [1, 2, 3])
  (.seq (.region [⟨some 7, none, .h (.load 24 true (.t 3))⟩,
    ⟨some 8, none, .h (.call (.f 121) [.t 7])⟩,
    ⟨some 9, none, .p (.mv (.t 8))⟩,
    ⟨some 10, some (9, true), .p (.mv (.t 1))⟩,
    ⟨some 11, some (9, true), .p (.mv (.t 2))⟩,
    ⟨some 12, some (9, true), .h (.call (.f 152) [.t 10, .t 11, .k (.c (C.int .i64 3))])⟩,
    ⟨some 13, none, .p (.pick (.t 9) (.t 12) (.k (.c (C.bool false))))⟩,
    ⟨some 6, none, .p (.mv (.t 13))⟩] [6])
  .ret)) }
theorem a146_ok : okFn Try.prog 146 a146 = true := by kernel_rfl
/-- loop.example/g01215/impl.endValue -/
def a147 : AFn := { np := 2, nt := 37, res := [.t 4], body :=
  (.seq (.region [⟨some 2, none, .p (.box 24 (.t 0))⟩,
    ⟨some 4, none, .p (.mv (.k (.c (C.int .i64 0))))⟩] [1, 2])
  (.seq (.seq (.region [⟨some 10, none, .p (.mv (.t 1))⟩,
    ⟨some 11, none, .p (.bin .eql (.t 10) (.k (.c (C.int .i64 0))))⟩] [1, 2, 11])
  (.cond (.t 11)
  (.seq (.region [⟨some 4, none, .p (.mv (.k (.c (C.int .i64 0))))⟩] [4])
  .ret)
  .skip))
  (.seq (.region [⟨some 5, none, .p (.mv (.k (.c (C.int .i64 (-1)))))⟩] [1, 2, 5])
  (.seq (.seq (.region [⟨some 12, none, .h (.load 24 true (.t 2))⟩,
    ⟨some 13, none, .h (.call (.f 143) [.t 12])⟩,
    ⟨some 14, none, .p (.len (.t 13))⟩,
    ⟨some 15, none, .p (.mv (.k (.c (C.int .i64 0))))⟩] [1, 2, 5, 13, 14, 15])
  (.block 0 (.loop (.seq (.region [⟨some 16, none, .p (.bin .lss (.t 15) (.t 14))⟩] [1, 2, 5, 13, 14, 15, 16])
  (.seq (.cond (.t 16)
  .skip
  (.exit 0))
  (.seq (.block 1 (.seq (.region [⟨some 17, none, .p (.ixS 2 (.t 13) (.t 15))⟩,
    ⟨some 18, none, .h (.load 2 true (.t 17))⟩,
    ⟨some 7, none, .p (.alloc [.k (C.int .i64 0), .k (C.int .i64 0)])⟩,
    ⟨none, none, .h (.store 2 (.t 7) (.t 18))⟩] [1, 2, 5, 7, 13, 14, 15])
  (.seq (.region [⟨some 20, none, .h (.load 24 true (.t 2))⟩,
    ⟨some 21, none, .p (.ixA 2 1 (.t 7) (.k (.c (C.int .i64 0))))⟩,
    ⟨some 22, none, .h (.load 1 false (.t 21))⟩,
    ⟨some 23, none, .p (.ixA 2 1 (.t 7) (.k (.c (C.int .i64 1))))⟩,
    ⟨some 24, none, .h (.load 1 false (.t 23))⟩,
    ⟨some 25, none, .h (.call (.f 149) [.t 20, .t 22, .t 24])⟩,
    ⟨some 19, none, .p (.mv (.t 25))⟩,
    ⟨some 26, none, .p (.ext (.t 19) 0)⟩,
    ⟨some 27, none, .p (.ext (.t 19) 1)⟩,
    ⟨some 8, none, .p (.alloc (List.replicate 24 (.k (C.int .i64 0))))⟩,
    ⟨none, none, .h (.store 24 (.t 8) (.t 26))⟩,
    ⟨some 9, none, .p (.mv (.t 27))⟩] [1, 2, 5, 8, 13, 14, 15])
  (.region [⟨some 28, none, .p (.mv (.t 5))⟩,
    ⟨some 29, none, .h (.load 24 true (.t 8))⟩,
    ⟨some 30, none, .p (.mv (.t 1))⟩,
    ⟨some 31, none, .p (.bin .sub (.t 30) (.k (.c (C.int .i64 1))))⟩,
    ⟨some 32, none, .h (.call (.f 147) [.t 29, .t 31])⟩,
    ⟨some 33, none, .p (.un .neg (.t 32))⟩,
    ⟨some 34, none, .p (.mnmx true [.t 28, .t 33])⟩,
    ⟨some 5, none, .p (.mv (.t 34))⟩] [1, 2, 5, 13, 14, 15]))))
  (.region [⟨some 35, none, .p (.bin .add (.t 15) (.k (.c (C.int .i64 1))))⟩,
    ⟨some 15, none, .p (.mv (.t 35))⟩] [1, 2, 5, 13, 14, 15])))) [1, 2, 5, 13, 14, 15])))
  (.seq (.region [⟨some 36, none, .p (.mv (.t 5))⟩,
    ⟨some 4, none, .p (.mv (.t 36))⟩] [4])
  .ret))))) }
theorem a147_ok : okFn Try.prog 147 a147 = true := by kernel_rfl
/-- loop.example/g01215/spec.l2Pour -/
def a148 : AFn := { np := 3, nt := 59, res := [.cell 6 24 true, .t 7], body :=
  (.seq (.region [⟨some 3, none, .p (.box 24 (.t 0))⟩,
    ⟨some 6, none, .p (.alloc (List.replicate 24 (.k (C.int .i64 0))))⟩,
    ⟨some 7, none, .p (.mv (.k (.c (C.int .i64 0))))⟩] [1, 2, 3, 6])
  (.seq (.region [⟨some 15, none, .p (.mv (.t 1))⟩,
    ⟨some 16, none, .p (.fld 0 (.t 3))⟩,
    ⟨some 17, none, .p (.ixA 6 4 (.t 16) (.t 15))⟩,
    ⟨some 18, none, .h (.load 4 true (.t 17))⟩,
    ⟨some 19, none, .h (.call (.f 217) [.t 18])⟩,
    ⟨some 14, none, .p (.mv (.t 19))⟩,
    ⟨some 20, none, .p (.ext (.t 14) 0)⟩,
    ⟨some 21, none, .p (.ext (.t 14) 1)⟩,
    ⟨some 8, none, .p (.mv (.t 20))⟩,
    ⟨some 9, none, .p (.mv (.t 21))⟩] [1, 2, 3, 6, 8, 9])
  (.seq (.regionD [⟨some 22, none, .p (.mv (.t 1))⟩,
    ⟨some 23, none, .p (.fld 0 (.t 3))⟩,
    ⟨some 24, none, .p (.ixA 6 4 (.t 23) (.t 22))⟩,
    ⟨some 25, none, .h (.load 4 true (.t 24))⟩,
    ⟨some 26, none, .h (.call (.f 218) [.t 25])⟩,
    ⟨some 27, none, .p (.mv (.t 2))⟩,
    ⟨some 28, none, .p (.fld 0 (.t 3))⟩,
    ⟨some 29, none, .p (.ixA 6 4 (.t 28) (.t 27))⟩,
    ⟨some 30, none, .h (.load 4 true (.t 29))⟩,
    ⟨some 31, none, .h (.call (.f 218) [.t 30])⟩,
    ⟨some 10, none, .p (.mv (.t 26))⟩,
    ⟨some 11, none, .p (.mv (.t 31))⟩] [1, 2, 3, 6, 8, 9, 10, 11] [])
  (.seq (.region [⟨some 32, none, .p (.mv (.t 9))⟩,
    ⟨some 33, none, .p (.mv (.t 11))⟩,
    ⟨some 34, none, .p (.bin .sub (.k (.c (C.int .i64 4))) (.t 33))⟩,
    ⟨some 35, none, .h (.call (.f 219) [.t 32, .t 34])⟩,
    ⟨some 12, none, .p (.mv (.t 35))⟩] [1, 2, 3, 6, 8, 10, 11, 12])
  (.seq (.seq (.region [⟨some 13, none, .p (.mv (.k (.c (C.int .i64 0))))⟩] [1, 2, 3, 6, 8, 10, 11, 12, 13])
  (.block 0 (.loop (.seq (.seq (.region [⟨some 36, none, .p (.mv (.t 13))⟩,
    ⟨some 37, none, .p (.mv (.t 12))⟩,
    ⟨some 38, none, .p (.bin .lss (.t 36) (.t 37))⟩] [1, 2, 3, 6, 8, 10, 11, 12, 13, 38])
  (.cond (.t 38)
  .skip
  (.exit 0)))
  (.seq (.block 1 (.seq (.region [⟨some 41, none, .p (.mv (.t 1))⟩,
    ⟨some 42, none, .p (.mv (.t 10))⟩,
    ⟨some 43, none, .p (.bin .sub (.t 42) (.k (.c (C.int .i64 1))))⟩,
    ⟨some 44, none, .p (.mv (.t 13))⟩,
    ⟨some 45, none, .p (.bin .sub (.t 43) (.t 44))⟩,
    ⟨some 46, none, .p (.fld 0 (.t 3))⟩,
    ⟨some 47, none, .p (.ixA 6 4 (.t 46) (.t 41))⟩,
    ⟨some 48, none, .p (.ixA 4 1 (.t 47) (.t 45))⟩,
    ⟨none, none, .h (.store 1 (.t 48) (.k (.c (C.int .i64 0))))⟩] [1, 2, 3, 6, 8, 10, 11, 12, 13])
  (.region [⟨some 49, none, .p (.mv (.t 2))⟩,
    ⟨some 50, none, .p (.mv (.t 11))⟩,
    ⟨some 51, none, .p (.mv (.t 13))⟩,
    ⟨some 52, none, .p (.bin .add (.t 50) (.t 51))⟩,
    ⟨some 53, none, .p (.mv (.t 8))⟩,
    ⟨some 54, none, .p (.fld 0 (.t 3))⟩,
    ⟨some 55, none, .p (.ixA 6 4 (.t 54) (.t 49))⟩,
    ⟨some 56, none, .p (.ixA 4 1 (.t 55) (.t 52))⟩,
    ⟨none, none, .h (.store 1 (.t 56) (.t 53))⟩] [1, 2, 3, 6, 8, 10, 11, 12, 13])))
  (.region [⟨some 39, none, .p (.mv (.t 13))⟩,
    ⟨some 40, none, .p (.bin .add (.t 39) (.k (.c (C.int .i64 1))))⟩,
    ⟨some 13, none, .p (.mv (.t 40))⟩] [1, 2, 3, 6, 8, 10, 11, 12, 13]))) [1, 2, 3, 6, 8, 10, 11, 12, 13])))
  (.seq (.region [⟨some 57, none, .h (.load 24 true (.t 3))⟩,
    ⟨some 58, none, .p (.mv (.t 12))⟩,
    ⟨none, none, .h (.store 24 (.t 6) (.t 57))⟩,
    ⟨some 7, none, .p (.mv (.t 58))⟩] [6, 7])
  .ret)))))) }
theorem a148_ok : okFn Try.prog 148 a148 = true := by kernel_rfl
/-- loop.example/g01215/impl.pour -/
def a149 : AFn := { np := 3, nt := 58, res := [.cell 6 24 true, .t 7], body :=
  (.seq (.region [⟨some 3, none, .p (.box 24 (.t 0))⟩,
    ⟨some 6, none, .p (.alloc (List.replicate 24 (.k (C.int .i64 0))))⟩,
    ⟨some 7, none, .p (.mv (.k (.c (C.int .i64 0))))⟩] [1, 2, 3, 6])
  (.seq (.region [⟨some 14, none, .p (.mv (.t 1))⟩,
    ⟨some 15, none, .p (.fld 0 (.t 3))⟩,
    ⟨some 16, none, .p (.ixA 6 4 (.t 15) (.t 14))⟩,
    ⟨some 17, none, .h (.load 4 true (.t 16))⟩,
    ⟨some 18, none, .h (.call (.f 220) [.t 17])⟩,
    ⟨some 13, none, .p (.mv (.t 18))⟩,
    ⟨some 19, none, .p (.ext (.t 13) 0)⟩,
    ⟨some 20, none, .p (.ext (.t 13) 1)⟩,
    ⟨some 8, none, .p (.mv (.t 19))⟩,
    ⟨some 9, none, .p (.mv (.t 20))⟩] [1, 2, 3, 6, 8, 9])
  (.seq (.regionD [⟨some 21, none, .p (.mv (.t 1))⟩,
    ⟨some 22, none, .p (.fld 0 (.t 3))⟩,
    ⟨some 23, none, .p (.ixA 6 4 (.t 22) (.t 21))⟩,
    ⟨some 24, none, .h (.load 4 true (.t 23))⟩,
    ⟨some 25, none, .h (.call (.f 221) [.t 24])⟩,
    ⟨some 26, none, .p (.mv (.t 2))⟩,
    ⟨some 27, none, .p (.fld 0 (.t 3))⟩,
    ⟨some 28, none, .p (.ixA 6 4 (.t 27) (.t 26))⟩,
    ⟨some 29, none, .h (.load 4 true (.t 28))⟩,
    ⟨some 30, none, .h (.call (.f 221) [.t 29])⟩,
    ⟨some 10, none, .p (.mv (.t 25))⟩,
    ⟨some 11, none, .p (.mv (.t 30))⟩] [1, 2, 3, 6, 8, 9, 10, 11] [])
  (.seq (.region [⟨some 31, none, .p (.mv (.t 9))⟩,
    ⟨some 32, none, .p (.mv (.t 11))⟩,
    ⟨some 33, none, .p (.bin .sub (.k (.c (C.int .i64 4))) (.t 32))⟩,
    ⟨some 34, none, .p (.mnmx false [.t 31, .t 33])⟩,
    ⟨some 9, none, .p (.mv (.t 34))⟩] [1, 2, 3, 6, 8, 9, 10, 11])
  (.seq (.seq (.region [⟨some 35, none, .p (.mv (.t 9))⟩,
    ⟨some 36, none, .p (.mv (.k (.c (C.int .i64 0))))⟩] [1, 2, 3, 6, 8, 9, 10, 11, 35, 36])
  (.block 0 (.loop (.seq (.region [⟨some 37, none, .p (.bin .lss (.t 36) (.t 35))⟩] [1, 2, 3, 6, 8, 9, 10, 11, 35, 36, 37])
  (.seq (.cond (.t 37)
  .skip
  (.exit 0))
  (.seq (.block 1 (.seq (.region [⟨some 38, none, .p (.mv (.t 36))⟩,
    ⟨some 12, none, .p (.mv (.t 38))⟩] [1, 2, 3, 6, 8, 9, 10, 11, 12, 35, 36])
  (.seq (.region [⟨some 39, none, .p (.mv (.t 1))⟩,
    ⟨some 40, none, .p (.mv (.t 10))⟩,
    ⟨some 41, none, .p (.bin .sub (.t 40) (.k (.c (C.int .i64 1))))⟩,
    ⟨some 42, none, .p (.mv (.t 12))⟩,
    ⟨some 43, none, .p (.bin .sub (.t 41) (.t 42))⟩,
    ⟨some 44, none, .p (.fld 0 (.t 3))⟩,
    ⟨some 45, none, .p (.ixA 6 4 (.t 44) (.t 39))⟩,
    ⟨some 46, none, .p (.ixA 4 1 (.t 45) (.t 43))⟩,
    ⟨none, none, .h (.store 1 (.t 46) (.k (.c (C.int .i64 0))))⟩] [1, 2, 3, 6, 8, 9, 10, 11, 12, 35, 36])
  (.region [⟨some 47, none, .p (.mv (.t 2))⟩,
    ⟨some 48, none, .p (.mv (.t 11))⟩,
    ⟨some 49, none, .p (.mv (.t 12))⟩,
    ⟨some 50, none, .p (.bin .add (.t 48) (.t 49))⟩,
    ⟨some 51, none, .p (.mv (.t 8))⟩,
    ⟨some 52, none, .p (.fld 0 (.t 3))⟩,
    ⟨some 53, none, .p (.ixA 6 4 (.t 52) (.t 47))⟩,
    ⟨some 54, none, .p (.ixA 4 1 (.t 53) (.t 50))⟩,
    ⟨none, none, .h (.store 1 (.t 54) (.t 51))⟩] [1, 2, 3, 6, 8, 9, 10, 11, 35, 36]))))
  (.region [⟨some 55, none, .p (.bin .add (.t 36) (.k (.c (C.int .i64 1))))⟩,
    ⟨some 36, none, .p (.mv (.t 55))⟩] [1, 2, 3, 6, 8, 9, 10, 11, 35, 36])))) [1, 2, 3, 6, 8, 9, 10, 11, 35, 36])))
  (.seq (.region [⟨some 56, none, .h (.load 24 true (.t 3))⟩,
    ⟨some 57, none, .p (.mv (.t 9))⟩,
    ⟨none, none, .h (.store 24 (.t 6) (.t 56))⟩,
    ⟨some 7, none, .p (.mv (.t 57))⟩] [6, 7])
  .ret)))))) }
theorem a149_ok : okFn Try.prog 149 a149 = true := by kernel_rfl
/-- loop.example/g01215/spec.l11Racks -/
def a150 : AFn := { np := 1, nt := 66, res := [.t 2, .t 3], body :=
  (.seq (.region [⟨some 1, none, .p (.box 25 (.t 0))⟩,
    ⟨some 2, none, .p (.nilsl 24)⟩,
    ⟨some 3, none, .p (.mv (.k (.c (C.bool false))))⟩] [1])
  (.seq (.seq (.region [⟨some 8, none, .p (.fld 0 (.t 1))⟩,
    ⟨some 9, none, .h (.load 24 true (.t 8))⟩,
    ⟨some 10, none, .h (.call (.f 140) [.t 9])⟩,
    ⟨some 11, none, .p (.un .not (.t 10))⟩,
    ⟨some 12, none, .p (.mv (.t 11))⟩,
    ⟨some 13, some (12, false), .p (.fld 24 (.t 1))⟩,
    ⟨some 14, some (12, false), .h (.load 1 false (.t 13))⟩,
    ⟨some 15, some (12, false), .p (.len (.t 14))⟩,
    ⟨some 16, some (12, false), .p (.bin .gtr (.t 15) (.k (.c (C.int .i64 60))))⟩,
    ⟨some 17, none, .p (.pick (.t 12) (.k (.c (C.bool true))) (.t 16))⟩] [1, 17])
  (.cond (.t 17)
  (.seq (.region [⟨some 18, none, .p (.mksl 24 0 (List.replicate 24 (.k (C.int .i64 0))) [])⟩,
    ⟨some 2, none, .p (.mv (.t 18))⟩,
    ⟨some 3, none, .p (.mv (.k (.c (C.bool false))))⟩] [2, 3])
  .ret)
  .skip))
  (.seq (.region [⟨some 19, none, .p (.fld 0 (.t 1))⟩,
    ⟨some 20, none, .h (.load 24 true (.t 19))⟩,
    ⟨some 21, none, .p (.mksl 24 1 (List.replicate 24 (.k (C.int .i64 0))) [(0, 24, .t 20)])⟩,
    ⟨some 4, none, .p (.mv (.t 21))⟩] [1, 4])
  (.seq (.seq (.region [⟨some 5, none, .p (.mv (.k (.c (C.int .i64 0))))⟩] [1, 4, 5])
  (.block 0 (.loop (.seq (.seq (.region [⟨some 22, none, .p (.mv (.t 5))⟩,
    ⟨some 23, none, .p (.fld 24 (.t 1))⟩,
    ⟨some 24, none, .h (.load 1 false (.t 23))⟩,
    ⟨some 25, none, .p (.len (.t 24))⟩,
    ⟨some 26, none, .p (.bin .lss (.t 22) (.t 25))⟩] [1, 4, 5, 26])
  (.cond (.t 26)
  .skip
  (.exit 0)))
  (.seq (.block 1 (.seq (.seq (.regionD [⟨some 29, none, .p (.mv (.t 4))⟩,
    ⟨some 30, none, .p (.mv (.t 5))⟩,
    ⟨some 31, none, .p (.ixS 24 (.t 29) (.t 30))⟩,
    ⟨some 32, none, .h (.load 24 true (.t 31))⟩,
    ⟨some 33, none, .p (.fld 24 (.t 1))⟩,
    ⟨some 34, none, .h (.load 1 false (.t 33))⟩,
    ⟨some 35, none, .p (.mv (.t 5))⟩,
    ⟨some 36, none, .p (.ixS 2 (.t 34) (.t 35))⟩,
    ⟨some 37, none, .h (.load 2 true (.t 36))⟩,
    ⟨some 38, none, .h (.call (.f 154) [.t 32, .t 37])⟩,
    ⟨some 39, none, .p (.un .not (.t 38))⟩] [1, 4, 5, 39] [])
  (.cond (.t 39)
  (.seq (.region [⟨some 40, none, .p (.mksl 24 0 (List.replicate 24 (.k (C.int .i64 0))) [])⟩,
    ⟨some 2, none, .p (.mv (.t 40))⟩,
    ⟨some 3, none, .p (.mv (.k (.c (C.bool false))))⟩] [2, 3])
  .ret)
  .skip))
  (.seq (.regionD [⟨some 42, none, .p (.mv (.t 4))⟩,
    ⟨some 43, none, .p (.mv (.t 5))⟩,
    ⟨some 44, none, .p (.ixS 24 (.t 42) (.t 43))⟩,
    ⟨some 45, none, .h (.load 24 true (.t 44))⟩,
    ⟨some 46, none, .p (.fld 24 (.t 1))⟩,
    ⟨some 47, none, .h (.load 1 false (.t 46))⟩,
    ⟨some 48, none, .p (.mv (.t 5))⟩,
    ⟨some 49, none, .p (.ixS 2 (.t 47) (.t 48))⟩,
    ⟨some 50, none, .p (.ixA 2 1 (.t 49) (.k (.c (C.int .i64 0))))⟩,
    ⟨some 51, none, .h (.load 1 false (.t 50))⟩,
    ⟨some 52, none, .p (.fld 24 (.t 1))⟩,
    ⟨some 53, none, .h (.load 1 false (.t 52))⟩,
    ⟨some 54, none, .p (.mv (.t 5))⟩,
    ⟨some 55, none, .p (.ixS 2 (.t 53) (.t 54))⟩,
    ⟨some 56, none, .p (.ixA 2 1 (.t 55) (.k (.c (C.int .i64 1))))⟩,
    ⟨some 57, none, .h (.load 1 false (.t 56))⟩,
    ⟨some 58, none, .h (.call (.f 148) [.t 45, .t 51, .t 57])⟩,
    ⟨some 41, none, .p (.mv (.t 58))⟩,
    ⟨some 59, none, .p (.ext (.t 41) 0)⟩,
    ⟨some 60, none, .p (.ext (.t 41) 1)⟩,
    ⟨some 6, none, .p (.alloc (List.replicate 24 (.k (C.int .i64 0))))⟩,
    ⟨none, none, .h (.store 24 (.t 6) (.t 59))⟩,
    ⟨some 7, none, .p (.mv (.t 60))⟩] [1, 4, 5, 6] [])
  (.region [⟨some 61, none, .p (.mv (.t 4))⟩,
    ⟨some 62, none, .h (.load 24 true (.t 6))⟩,
    ⟨some 63, none, .p (.mksl 24 1 (List.replicate 24 (.k (C.int .i64 0))) [(0, 24, .t 62)])⟩,
    ⟨some 64, none, .h (.app 24 (.t 61) (.t 63))⟩,
    ⟨some 4, none, .p (.mv (.t 64))⟩] [1, 4, 5]))))
  (.region [⟨some 27, none, .p (.mv (.t 5))⟩,
    ⟨some 28, none, .p (.bin .add (.t 27) (.k (.c (C.int .i64 1))))⟩,
    ⟨some 5, none, .p (.mv (.t 28))⟩] [1, 4, 5]))) [1, 4, 5])))
  (.seq (.region [⟨some 65, none, .p (.mv (.t 4))⟩,
    ⟨some 2, none, .p (.mv (.t 65))⟩,
    ⟨some 3, none, .p (.mv (.k (.c (C.bool true))))⟩] [2, 3])
  .ret))))) }
theorem a150_ok : okFn Try.prog 150 a150 = true := by kernel_rfl
/-- (loop.example/g01215/impl.Replay).racks -/
def a151 : AFn := { np := 1, nt := 55, res := [.t 2, .t 3], body :=
  (.seq (.region [⟨some 1, none, .p (.box 25 (.t 0))⟩,
    ⟨some 2, none, .p (.nilsl 24)⟩,
    ⟨some 3, none, .p (.mv (.k (.c (C.bool false))))⟩] [1])
  (.seq (.seq (.region [⟨some 9, none, .p (.fld 0 (.t 1))⟩,
    ⟨some 10, none, .h (.load 24 true (.t 9))⟩,
    ⟨some 11, none, .h (.call (.f 121) [.t 10])⟩,
    ⟨some 12, none, .p (.un .not (.t 11))⟩,
    ⟨some 13, none, .p (.mv (.t 12))⟩,
    ⟨some 14, some (13, false), .p (.fld 24 (.t 1))⟩,
    ⟨some 15, some (13, false), .h (.load 1 false (.t 14))⟩,
    ⟨some 16, some (13, false), .p (.len (.t 15))⟩,
    ⟨some 17, some (13, false), .p (.bin .gtr (.t 16) (.k (.c (C.int .i64 60))))⟩,
    ⟨some 18, none, .p (.pick (.t 13) (.k (.c (C.bool true))) (.t 17))⟩] [1, 18])
  (.cond (.t 18)
  (.seq (.region [⟨some 2, none, .p (.nilsl 24)⟩,
    ⟨some 3, none, .p (.mv (.k (.c (C.bool false))))⟩] [2, 3])
  .ret)
  .skip))
  (.seq (.region [⟨some 19, none, .p (.fld 0 (.t 1))⟩,
    ⟨some 20, none, .h (.load 24 true (.t 19))⟩,
    ⟨some 21, none, .p (.mksl 24 1 (List.replicate 24 (.k (C.int .i64 0))) [(0, 24, .t 20)])⟩,
    ⟨some 4, none, .p (.mv (.t 21))⟩] [1, 4])
  (.seq (.seq (.region [⟨some 22, none, .p (.fld 24 (.t 1))⟩,
    ⟨some 23, none, .h (.load 1 false (.t 22))⟩,
    ⟨some 24, none, .p (.len (.t 23))⟩,
    ⟨some 25, none, .p (.mv (.k (.c (C.int .i64 0))))⟩] [4, 23, 24, 25])
  (.block 0 (.loop (.seq (.region [⟨some 26, none, .p (.bin .lss (.t 25) (.t 24))⟩] [4, 23, 24, 25, 26])
  (.seq (.cond (.t 26)
  .skip
  (.exit 0))
  (.seq (.block 1 (.seq (.region [⟨some 27, none, .p (.mv (.t 25))⟩,
    ⟨some 28, none, .p (.ixS 2 (.t 23) (.t 25))⟩,
    ⟨some 29, none, .h (.load 2 true (.t 28))⟩,
    ⟨some 6, none, .p (.alloc [.k (C.int .i64 0), .k (C.int .i64 0)])⟩,
    ⟨some 5, none, .p (.mv (.t 27))⟩,
    ⟨none, none, .h (.store 2 (.t 6) (.t 29))⟩] [4, 5, 6, 23, 24, 25])
  (.seq (.seq (.regionD [⟨some 30, none, .p (.mv (.t 4))⟩,
    ⟨some 31, none, .p (.mv (.t 5))⟩,
    ⟨some 32, none, .p (.ixS 24 (.t 30) (.t 31))⟩,
    ⟨some 33, none, .h (.load 24 true (.t 32))⟩,
    ⟨some 34, none, .h (.load 2 true (.t 6))⟩,
    ⟨some 35, none, .h (.call (.f 157) [.t 33, .t 34])⟩,
    ⟨some 36, none, .p (.un .not (.t 35))⟩] [4, 5, 6, 23, 24, 25, 36] [])
  (.cond (.t 36)
  (.seq (.region [⟨some 2, none, .p (.nilsl 24)⟩,
    ⟨some 3, none, .p (.mv (.k (.c (C.bool false))))⟩] [2, 3])
  .ret)
  .skip))
  (.seq (.regionD [⟨some 38, none, .p (.mv (.t 4))⟩,
    ⟨some 39, none, .p (.mv (.t 5))⟩,
    ⟨some 40, none, .p (.ixS 24 (.t 38) (.t 39))⟩,
    ⟨some 41, none, .h (.load 24 true (.t 40))⟩,
    ⟨some 42, none, .p (.ixA 2 1 (.t 6) (.k (.c (C.int .i64 0))))⟩,
    ⟨some 43, none, .h (.load 1 false (.t 42))⟩,
    ⟨some 44, none, .p (.ixA 2 1 (.t 6) (.k (.c (C.int .i64 1))))⟩,
    ⟨some 45, none, .h (.load 1 false (.t 44))⟩,
    ⟨some 46, none, .h (.call (.f 149) [.t 41, .t 43, .t 45])⟩,
    ⟨some 37, none, .p (.mv (.t 46))⟩,
    ⟨some 47, none, .p (.ext (.t 37) 0)⟩,
    ⟨some 48, none, .p (.ext (.t 37) 1)⟩,
    ⟨some 7, none, .p (.alloc (List.replicate 24 (.k (C.int .i64 0))))⟩,
    ⟨none, none, .h (.store 24 (.t 7) (.t 47))⟩,
    ⟨some 8, none, .p (.mv (.t 48))⟩] [4, 7, 23, 24, 25] [])
  (.region [⟨some 49, none, .p (.mv (.t 4))⟩,
    ⟨some 50, none, .h (.load 24 true (.t 7))⟩,
    ⟨some 51, none, .p (.mksl 24 1 (List.replicate 24 (.k (C.int .i64 0))) [(0, 24, .t 50)])⟩,
    ⟨some 52, none, .h (.app 24 (.t 49) (.t 51))⟩,
    ⟨some 4, none, .p (.mv (.t 52))⟩] [4, 23, 24, 25])))))
  (.region [⟨some 53, none, .p (.bin .add (.t 25) (.k (.c (C.int .i64 1))))⟩,
    ⟨some 25, none, .p (.mv (.t 53))⟩] [4, 23, 24, 25])))) [4, 23, 24, 25])))
  (.seq (.region [⟨some 54, none, .p (.mv (.t 4))⟩,
    ⟨some 2, none, .p (.mv (.t 54))⟩,
    ⟨some 3, none, .p (.mv (.k (.c (C.bool true))))⟩] [2, 3])
  .ret))))) }
theorem a151_ok : okFn Try.prog 151 a151 = true := by kernel_rfl
/-- loop.example/g01215/impl.within -/
def a152 : AFn := { np := 3, nt := 15, res := [.t 6], body :=
  (.seq (.region [⟨some 6, none, .p (.mv (.k (.c (C.bool false))))⟩] [0, 1, 2])
  (.seq (.region [⟨some 7, none, .p (.mv (.t 1))⟩,
    ⟨some 8, none, .p (.mv (.t 0))⟩,
    ⟨some 9, none, .p (.bin .leq (.t 7) (.t 8))⟩,
    ⟨some 10, none, .p (.mv (.t 9))⟩,
    ⟨some 11, some (10, true), .p (.mv (.t 0))⟩,
    ⟨some 12, some (10, true), .p (.mv (.t 2))⟩,
    ⟨some 13, some (10, true), .p (.bin .leq (.t 11) (.t 12))⟩,
    ⟨some 14, none, .p (.pick (.t 10) (.t 13) (.k (.c (C.bool false))))⟩,
    ⟨some 6, none, .p (.mv (.t 14))⟩] [6])
  .ret)) }
theorem a152_ok : okFn Try.prog 152 a152 = true := by kernel_rfl
/-- loop.example/g01215/laws.eqIntA4A6 -/
def a153 : AFn := { np := 2, nt := 18, res := [.t 4], body :=
  (.seq (.region [⟨some 2, none, .p (.box 24 (.t 0))⟩,
    ⟨some 3, none, .p (.box 24 (.t 1))⟩,
    ⟨some 4, none, .p (.mv (.k (.c (C.bool false))))⟩] [2, 3])
  (.seq (.seq (.region [⟨some 5, none, .p (.mv (.k (.c (C.int .i64 0))))⟩] [2, 3, 5])
  (.block 0 (.loop (.seq (.seq (.region [⟨some 6, none, .p (.mv (.t 5))⟩,
    ⟨some 7, none, .p (.bin .lss (.t 6) (.k (.c (C.int .i64 6))))⟩] [2, 3, 5, 7])
  (.cond (.t 7)
  .skip
  (.exit 0)))
  (.seq (.block 1 (.seq (.regionD [⟨some 10, none, .p (.mv (.t 5))⟩,
    ⟨some 11, none, .p (.ixA 6 4 (.t 2) (.t 10))⟩,
    ⟨some 12, none, .h (.load 4 true (.t 11))⟩,
    ⟨some 13, none, .p (.mv (.t 5))⟩,
    ⟨some 14, none, .p (.ixA 6 4 (.t 3) (.t 13))⟩,
    ⟨some 15, none, .h (.load 4 true (.t 14))⟩,
    ⟨some 16, none, .h (.call (.f 222) [.t 12, .t 15])⟩,
    ⟨some 17, none, .p (.un .not (.t 16))⟩] [2, 3, 5, 17] [])
  (.cond (.t 17)
  (.seq (.region [⟨some 4, none, .p (.mv (.k (.c (C.bool false))))⟩] [4])
  .ret)
  .skip)))
  (.region [⟨some 8, none, .p (.mv (.t 5))⟩,
    ⟨some 9, none, .p (.bin .add (.t 8) (.k (.c (C.int .i64 1))))⟩,
    ⟨some 5, none, .p (.mv (.t 9))⟩] [2, 3, 5]))) [2, 3, 5])))
  (.seq (.region [⟨some 4, none, .p (.mv (.k (.c (C.bool true))))⟩] [4])
  .ret))) }
theorem a153_ok : okFn Try.prog 153 a153 = true := by kernel_rfl
/-- loop.example/g01215/spec.l6Can -/
def a154 : AFn := { np := 2, nt := 21, res := [.t 4], body :=
  (.seq (.region [⟨some 2, none, .p (.box 24 (.t 0))⟩,
    ⟨some 3, none, .p (.box 2 (.t 1))⟩,
    ⟨some 4, none, .p (.mv (.k (.c (C.bool false))))⟩] [2, 3])
  (.seq (.region [⟨some 5, none, .p (.ixA 2 1 (.t 3) (.k (.c (C.int .i64 0))))⟩,
    ⟨some 6, none, .h (.load 1 false (.t 5))⟩,
    ⟨some 7, none, .h (.call (.f 197) [.t 6])⟩,
    ⟨some 8, none, .p (.mv (.t 7))⟩,
    ⟨some 9, some (8, true), .p (.ixA 2 1 (.t 3) (.k (.c (C.int .i64 1))))⟩,
    ⟨some 10, some (8, true), .h (.load 1 false (.t 9))⟩,
    ⟨some 11, some (8, true), .h (.call (.f 197) [.t 10])⟩,
    ⟨some 12, none, .p (.pick (.t 8) (.t 11) (.k (.c (C.bool false))))⟩,
    ⟨some 13, none, .p (.mv (.t 12))⟩,
    ⟨some 14, some (13, true), .h (.load 24 true (.t 2))⟩,
    ⟨some 15, some (13, true), .p (.ixA 2 1 (.t 3) (.k (.c (C.int .i64 0))))⟩,
    ⟨some 16, some (13, true), .h (.load 1 false (.t 15))⟩,
    ⟨some 17, some (13, true), .p (.ixA 2 1 (.t 3) (.k (.c (C.int .i64 1))))⟩,
    ⟨some 18, some (13, true), .h (.load 1 false (.t 17))⟩,
    ⟨some 19, some (13, true), .h (.call (.f 223) [.t 14, .t 16, .t 18])⟩,
    ⟨some 20, none, .p (.pick (.t 13) (.t 19) (.k (.c (C.bool false))))⟩,
    ⟨some 4, none, .p (.mv (.t 20))⟩] [4])
  .ret)) }
theorem a154_ok : okFn Try.prog 154 a154 = true := by kernel_rfl
/-- loop.example/g01215/spec.l2Idle -/
def a155 : AFn := { np := 3, nt := 22, res := [.t 6], body :=
  (.seq (.region [⟨some 3, none, .p (.box 24 (.t 0))⟩,
    ⟨some 6, none, .p (.mv (.k (.c (C.bool false))))⟩] [1, 2, 3])
  (.seq (.region [⟨some 7, none, .p (.mv (.t 1))⟩,
    ⟨some 8, none, .p (.fld 0 (.t 3))⟩,
    ⟨some 9, none, .p (.ixA 6 4 (.t 8) (.t 7))⟩,
    ⟨some 10, none, .h (.load 4 true (.t 9))⟩,
    ⟨some 11, none, .h (.call (.f 224) [.t 10])⟩,
    ⟨some 12, none, .p (.len (.t 11))⟩,
    ⟨some 13, none, .p (.bin .eql (.t 12) (.k (.c (C.int .i64 1))))⟩,
    ⟨some 14, none, .p (.mv (.t 13))⟩,
    ⟨some 15, some (14, true), .p (.mv (.t 2))⟩,
    ⟨some 16, some (14, true), .p (.fld 0 (.t 3))⟩,
    ⟨some 17, some (14, true), .p (.ixA 6 4 (.t 16) (.t 15))⟩,
    ⟨some 18, some (14, true), .h (.load 4 true (.t 17))⟩,
    ⟨some 19, some (14, true), .h (.call (.f 218) [.t 18])⟩,
    ⟨some 20, some (14, true), .p (.bin .eql (.t 19) (.k (.c (C.int .i64 0))))⟩,
    ⟨some 21, none, .p (.pick (.t 14) (.t 20) (.k (.c (C.bool false))))⟩,
    ⟨some 6, none, .p (.mv (.t 21))⟩] [6])
  .ret)) }
theorem a155_ok : okFn Try.prog 155 a155 = true := by kernel_rfl
/-- loop.example/g01215/spec.l10Gain -/
def a156 : AFn := { np := 2, nt := 25, res := [.t 4, .cell 5 24 true], body :=
  (.seq (.region [⟨some 2, none, .p (.box 24 (.t 0))⟩,
    ⟨some 3, none, .p (.box 2 (.t 1))⟩,
    ⟨some 4, none, .p (.mv (.k (.c (C.int .i64 0))))⟩,
    ⟨some 5, none, .p (.alloc (List.replicate 24 (.k (C.int .i64 0))))⟩] [2, 3, 5])
  (.seq (.region [⟨some 9, none, .h (.load 24 true (.t 2))⟩,
    ⟨some 10, none, .p (.ixA 2 1 (.t 3) (.k (.c (C.int .i64 0))))⟩,
    ⟨some 11, none, .h (.load 1 false (.t 10))⟩,
    ⟨some 12, none, .p (.ixA 2 1 (.t 3) (.k (.c (C.int .i64 1))))⟩,
    ⟨some 13, none, .h (.load 1 false (.t 12))⟩,
    ⟨some 14, none, .h (.call (.f 148) [.t 9, .t 11, .t 13])⟩,
    ⟨some 8, none, .p (.mv (.t 14))⟩,
    ⟨some 15, none, .p (.ext (.t 8) 0)⟩,
    ⟨some 16, none, .p (.ext (.t 8) 1)⟩,
    ⟨some 6, none, .p (.alloc (List.replicate 24 (.k (C.int .i64 0))))⟩,
    ⟨none, none, .h (.store 24 (.t 6) (.t 15))⟩,
    ⟨some 7, none, .p (.mv (.t 16))⟩] [2, 5, 6])
  (.seq (.regionD [⟨some 17, none, .h (.load 24 true (.t 6))⟩,
    ⟨some 18, none, .h (.call (.f 207) [.t 17])⟩,
    ⟨some 19, none, .p (.len (.t 18))⟩,
    ⟨some 20, none, .h (.load 24 true (.t 2))⟩,
    ⟨some 21, none, .h (.call (.f 207) [.t 20])⟩,
    ⟨some 22, none, .p (.len (.t 21))⟩,
    ⟨some 23, none, .p (.bin .sub (.t 19) (.t 22))⟩,
    ⟨some 24, none, .h (.load 24 true (.t 6))⟩,
    ⟨some 4, none, .p (.mv (.t 23))⟩,
    ⟨none, none, .h (.store 24 (.t 5) (.t 24))⟩] [4, 5] [])
  .ret))) }
theorem a156_ok : okFn Try.prog 156 a156 = true := by kernel_rfl
/-- loop.example/g01215/impl.canPourPath -/
def a157 : AFn := { np := 2, nt := 21, res := [.t 4], body :=
  (.seq (.region [⟨some 2, none, .p (.box 24 (.t 0))⟩,
    ⟨some 3, none, .p (.box 2 (.t 1))⟩,
    ⟨some 4, none, .p (.mv (.k (.c (C.bool false))))⟩] [2, 3])
  (.seq (.region [⟨some 5, none, .p (.ixA 2 1 (.t 3) (.k (.c (C.int .i64 0))))⟩,
    ⟨some 6, none, .h (.load 1 false (.t 5))⟩,
    ⟨some 7, none, .h (.call (.f 194) [.t 6])⟩,
    ⟨some 8, none, .p (.mv (.t 7))⟩,
    ⟨some 9, some (8, true), .p (.ixA 2 1 (.t 3) (.k (.c (C.int .i64 1))))⟩,
    ⟨some 10, some (8, true), .h (.load 1 false (.t 9))⟩,
    ⟨some 11, some (8, true), .h (.call (.f 194) [.t 10])⟩,
    ⟨some 12, none, .p (.pick (.t 8) (.t 11) (.k (.c (C.bool false))))⟩,
    ⟨some 13, none, .p (.mv (.t 12))⟩,
    ⟨some 14, some (13, true), .h (.load 24 true (.t 2))⟩,
    ⟨some 15, some (13, true), .p (.ixA 2 1 (.t 3) (.k (.c (C.int .i64 0))))⟩,
    ⟨some 16, some (13, true), .h (.load 1 false (.t 15))⟩,
    ⟨some 17, some (13, true), .p (.ixA 2 1 (.t 3) (.k (.c (C.int .i64 1))))⟩,
    ⟨some 18, some (13, true), .h (.load 1 false (.t 17))⟩,
    ⟨some 19, some (13, true), .h (.call (.f 203) [.t 14, .t 16, .t 18])⟩,
    ⟨some 20, none, .p (.pick (.t 13) (.t 19) (.k (.c (C.bool false))))⟩,
    ⟨some 4, none, .p (.mv (.t 20))⟩] [4])
  .ret)) }
theorem a157_ok : okFn Try.prog 157 a157 = true := by kernel_rfl
/-- loop.example/g01215/impl.isIdle -/
def a158 : AFn := { np := 2, nt := 22, res := [.t 4], body :=
  (.seq (.region [⟨some 2, none, .p (.box 24 (.t 0))⟩,
    ⟨some 3, none, .p (.box 2 (.t 1))⟩,
    ⟨some 4, none, .p (.mv (.k (.c (C.bool false))))⟩] [2, 3])
  (.seq (.region [⟨some 5, none, .p (.ixA 2 1 (.t 3) (.k (.c (C.int .i64 0))))⟩,
    ⟨some 6, none, .h (.load 1 false (.t 5))⟩,
    ⟨some 7, none, .p (.fld 0 (.t 2))⟩,
    ⟨some 8, none, .p (.ixA 6 4 (.t 7) (.t 6))⟩,
    ⟨some 9, none, .h (.load 4 true (.t 8))⟩,
    ⟨some 10, none, .h (.call (.f 225) [.t 9])⟩,
    ⟨some 11, none, .p (.len (.t 10))⟩,
    ⟨some 12, none, .p (.bin .eql (.t 11) (.k (.c (C.int .i64 1))))⟩,
    ⟨some 13, none, .p (.mv (.t 12))⟩,
    ⟨some 14, some (13, true), .p (.ixA 2 1 (.t 3) (.k (.c (C.int .i64 1))))⟩,
    ⟨some 15, some (13, true), .h (.load 1 false (.t 14))⟩,
    ⟨some 16, some (13, true), .p (.fld 0 (.t 2))⟩,
    ⟨some 17, some (13, true), .p (.ixA 6 4 (.t 16) (.t 15))⟩,
    ⟨some 18, some (13, true), .h (.load 4 true (.t 17))⟩,
    ⟨some 19, some (13, true), .h (.call (.f 221) [.t 18])⟩,
    ⟨some 20, some (13, true), .p (.bin .eql (.t 19) (.k (.c (C.int .i64 0))))⟩,
    ⟨some 21, none, .p (.pick (.t 13) (.t 20) (.k (.c (C.bool false))))⟩,
    ⟨some 4, none, .p (.mv (.t 21))⟩] [4])
  .ret)) }
theorem a158_ok : okFn Try.prog 158 a158 = true := by kernel_rfl
/-- loop.example/g01215/impl.points -/
def a159 : AFn := { np := 2, nt := 25, res := [.t 4, .cell 5 24 true], body :=
  (.seq (.region [⟨some 2, none, .p (.box 24 (.t 0))⟩,
    ⟨some 3, none, .p (.box 2 (.t 1))⟩,
    ⟨some 4, none, .p (.mv (.k (.c (C.int .i64 0))))⟩,
    ⟨some 5, none, .p (.alloc (List.replicate 24 (.k (C.int .i64 0))))⟩] [2, 3, 5])
  (.seq (.region [⟨some 9, none, .h (.load 24 true (.t 2))⟩,
    ⟨some 10, none, .p (.ixA 2 1 (.t 3) (.k (.c (C.int .i64 0))))⟩,
    ⟨some 11, none, .h (.load 1 false (.t 10))⟩,
    ⟨some 12, none, .p (.ixA 2 1 (.t 3) (.k (.c (C.int .i64 1))))⟩,
    ⟨some 13, none, .h (.load 1 false (.t 12))⟩,
    ⟨some 14, none, .h (.call (.f 149) [.t 9, .t 11, .t 13])⟩,
    ⟨some 8, none, .p (.mv (.t 14))⟩,
    ⟨some 15, none, .p (.ext (.t 8) 0)⟩,
    ⟨some 16, none, .p (.ext (.t 8) 1)⟩,
    ⟨some 6, none, .p (.alloc (List.replicate 24 (.k (C.int .i64 0))))⟩,
    ⟨none, none, .h (.store 24 (.t 6) (.t 15))⟩,
    ⟨some 7, none, .p (.mv (.t 16))⟩] [2, 5, 6])
  (.seq (.regionD [⟨some 17, none, .h (.load 24 true (.t 6))⟩,
    ⟨some 18, none, .h (.call (.f 206) [.t 17])⟩,
    ⟨some 19, none, .p (.len (.t 18))⟩,
    ⟨some 20, none, .h (.load 24 true (.t 2))⟩,
    ⟨some 21, none, .h (.call (.f 206) [.t 20])⟩,
    ⟨some 22, none, .p (.len (.t 21))⟩,
    ⟨some 23, none, .p (.bin .sub (.t 19) (.t 22))⟩,
    ⟨some 24, none, .h (.load 24 true (.t 6))⟩,
    ⟨some 4, none, .p (.mv (.t 23))⟩,
    ⟨none, none, .h (.store 24 (.t 5) (.t 24))⟩] [4, 5] [])
  .ret))) }
theorem a159_ok : okFn Try.prog 159 a159 = true := by kernel_rfl
/-- loop.example/g01215/spec.l10Tubes -/
def a160 : AFn := { np := 2, nt := 41, res := [.t 4], body :=
  (.seq (.region [⟨some 2, none, .p (.box 24 (.t 0))⟩,
    ⟨some 4, none, .p (.mv (.k (.c (C.int .i64 0))))⟩] [1, 2])
  (.seq (.seq (.region [⟨some 10, none, .p (.mv (.t 1))⟩,
    ⟨some 11, none, .p (.bin .eql (.t 10) (.k (.c (C.int .i64 0))))⟩] [1, 2, 11])
  (.cond (.t 11)
  (.seq (.region [⟨some 4, none, .p (.mv (.k (.c (C.int .i64 0))))⟩] [4])
  .ret)
  .skip))
  (.seq (.region [⟨some 12, none, .h (.load 24 true (.t 2))⟩,
    ⟨some 13, none, .h (.call (.f 141) [.t 12])⟩,
    ⟨some 5, none, .p (.mv (.t 13))⟩] [1, 2, 5])
  (.seq (.seq (.region [⟨some 14, none, .p (.mv (.t 5))⟩,
    ⟨some 15, none, .p (.len (.t 14))⟩,
    ⟨some 16, none, .p (.bin .eql (.t 15) (.k (.c (C.int .i64 0))))⟩] [1, 2, 5, 16])
  (.cond (.t 16)
  (.seq (.region [⟨some 4, none, .p (.mv (.k (.c (C.int .i64 0))))⟩] [4])
  .ret)
  .skip))
  (.seq (.region [⟨some 6, none, .p (.mv (.k (.c (C.int .i64 (-100)))))⟩] [1, 2, 5, 6])
  (.seq (.seq (.region [⟨some 7, none, .p (.mv (.k (.c (C.int .i64 0))))⟩] [1, 2, 5, 6, 7])
  (.block 0 (.loop (.seq (.seq (.region [⟨some 17, none, .p (.mv (.t 7))⟩,
    ⟨some 18, none, .p (.mv (.t 5))⟩,
    ⟨some 19, none, .p (.len (.t 18))⟩,
    ⟨some 20, none, .p (.bin .lss (.t 17) (.t 19))⟩] [1, 2, 5, 6, 7, 20])
  (.cond (.t 20)
  .skip
  (.exit 0)))
  (.seq (.block 1 (.seq (.regionD [⟨some 24, none, .h (.load 24 true (.t 2))⟩,
    ⟨some 25, none, .p (.mv (.t 5))⟩,
    ⟨some 26, none, .p (.mv (.t 7))⟩,
    ⟨some 27, none, .p (.ixS 2 (.t 25) (.t 26))⟩,
    ⟨some 28, none, .h (.load 2 true (.t 27))⟩,
    ⟨some 29, none, .h (.call (.f 156) [.t 24, .t 28])⟩,
    ⟨some 23, none, .p (.mv (.t 29))⟩,
    ⟨some 30, none, .p (.ext (.t 23) 0)⟩,
    ⟨some 31, none, .p (.ext (.t 23) 1)⟩,
    ⟨some 9, none, .p (.alloc (List.replicate 24 (.k (C.int .i64 0))))⟩,
    ⟨some 8, none, .p (.mv (.t 30))⟩,
    ⟨none, none, .h (.store 24 (.t 9) (.t 31))⟩] [1, 2, 5, 6, 7, 8, 9] [])
  (.region [⟨some 32, none, .p (.mv (.t 6))⟩,
    ⟨some 33, none, .p (.mv (.t 8))⟩,
    ⟨some 34, none, .h (.load 24 true (.t 9))⟩,
    ⟨some 35, none, .p (.mv (.t 1))⟩,
    ⟨some 36, none, .p (.bin .sub (.t 35) (.k (.c (C.int .i64 1))))⟩,
    ⟨some 37, none, .h (.call (.f 160) [.t 34, .t 36])⟩,
    ⟨some 38, none, .p (.bin .sub (.t 33) (.t 37))⟩,
    ⟨some 39, none, .h (.call (.f 208) [.t 32, .t 38])⟩,
    ⟨some 6, none, .p (.mv (.t 39))⟩] [1, 2, 5, 6, 7])))
  (.region [⟨some 21, none, .p (.mv (.t 7))⟩,
    ⟨some 22, none, .p (.bin .add (.t 21) (.k (.c (C.int .i64 1))))⟩,
    ⟨some 7, none, .p (.mv (.t 22))⟩] [1, 2, 5, 6, 7]))) [1, 2, 5, 6, 7])))
  (.seq (.region [⟨some 40, none, .p (.mv (.t 6))⟩,
    ⟨some 4, none, .p (.mv (.t 40))⟩] [4])
  .ret))))))) }
theorem a160_ok : okFn Try.prog 160 a160 = true := by kernel_rfl
/-- loop.example/g01215/impl.tubeValue -/
def a161 : AFn := { np := 2, nt := 58, res := [.t 4, .t 5], body :=
  (.seq (.region [⟨some 2, none, .p (.box 24 (.t 0))⟩,
    ⟨some 4, none, .p (.mv (.k (.c (C.int .i64 0))))⟩,
    ⟨some 5, none, .p (.nilsl 2)⟩] [1, 2])
  (.seq (.seq (.region [⟨some 14, none, .p (.mv (.t 1))⟩,
    ⟨some 15, none, .p (.bin .eql (.t 14) (.k (.c (C.int .i64 0))))⟩] [1, 2, 15])
  (.cond (.t 15)
  (.seq (.region [⟨some 4, none, .p (.mv (.k (.c (C.int .i64 0))))⟩,
    ⟨some 5, none, .p (.nilsl 2)⟩] [4, 5])
  .ret)
  .skip))
  (.seq (.region [⟨some 6, none, .p (.mv (.k (.c (C.int .i64 0))))⟩] [1, 2, 6])
  (.seq (.region [⟨some 7, none, .p (.nilsl 2)⟩] [1, 2, 6, 7])
  (.seq (.seq (.region [⟨some 16, none, .h (.load 24 true (.t 2))⟩,
    ⟨some 17, none, .h (.call (.f 143) [.t 16])⟩,
    ⟨some 18, none, .p (.len (.t 17))⟩,
    ⟨some 19, none, .p (.mv (.k (.c (C.int .i64 0))))⟩] [1, 2, 6, 7, 17, 18, 19])
  (.block 0 (.loop (.seq (.region [⟨some 20, none, .p (.bin .lss (.t 19) (.t 18))⟩] [1, 2, 6, 7, 17, 18, 19, 20])
  (.seq (.cond (.t 20)
  .skip
  (.exit 0))
  (.seq (.block 1 (.seq (.region [⟨some 21, none, .p (.ixS 2 (.t 17) (.t 19))⟩,
    ⟨some 22, none, .h (.load 2 true (.t 21))⟩,
    ⟨some 9, none, .p (.alloc [.k (C.int .i64 0), .k (C.int .i64 0)])⟩,
    ⟨none, none, .h (.store 2 (.t 9) (.t 22))⟩] [1, 2, 6, 7, 9, 17, 18, 19])
  (.seq (.region [⟨some 24, none, .h (.load 24 true (.t 2))⟩,
    ⟨some 25, none, .h (.load 2 true (.t 9))⟩,
    ⟨some 26, none, .h (.call (.f 159) [.t 24, .t 25])⟩,
    ⟨some 23, none, .p (.mv (.t 26))⟩,
    ⟨some 27, none, .p (.ext (.t 23) 0)⟩,
    ⟨some 28, none, .p (.ext (.t 23) 1)⟩,
    ⟨some 11, none, .p (.alloc (List.replicate 24 (.k (C.int .i64 0))))⟩,
    ⟨some 10, none, .p (.mv (.t 27))⟩,
    ⟨none, none, .h (.store 24 (.t 11) (.t 28))⟩] [1, 2, 6, 7, 9, 10, 11, 17, 18, 19])
  (.seq (.region [⟨some 30, none, .h (.load 24 true (.t 11))⟩,
    ⟨some 31, none, .p (.mv (.t 1))⟩,
    ⟨some 32, none, .p (.bin .sub (.t 31) (.k (.c (C.int .i64 1))))⟩,
    ⟨some 33, none, .h (.call (.f 161) [.t 30, .t 32])⟩,
    ⟨some 29, none, .p (.mv (.t 33))⟩,
    ⟨some 34, none, .p (.ext (.t 29) 0)⟩,
    ⟨some 35, none, .p (.ext (.t 29) 1)⟩,
    ⟨some 12, none, .p (.mv (.t 34))⟩,
    ⟨some 13, none, .p (.mv (.t 35))⟩] [1, 2, 6, 7, 9, 10, 12, 17, 18, 19])
  (.seq (.region [⟨some 36, none, .p (.mv (.t 10))⟩,
    ⟨some 37, none, .p (.mv (.t 12))⟩,
    ⟨some 38, none, .p (.bin .sub (.t 36) (.t 37))⟩,
    ⟨some 10, none, .p (.mv (.t 38))⟩] [1, 2, 6, 7, 9, 10, 17, 18, 19])
  (.seq (.seq (.region [⟨some 39, none, .p (.mv (.t 7))⟩,
    ⟨some 40, none, .p (.len (.t 39))⟩,
    ⟨some 41, none, .p (.bin .eql (.t 40) (.k (.c (C.int .i64 0))))⟩,
    ⟨some 42, none, .p (.mv (.t 41))⟩,
    ⟨some 43, some (42, false), .p (.mv (.t 10))⟩,
    ⟨some 44, some (42, false), .p (.mv (.t 6))⟩,
    ⟨some 45, some (42, false), .p (.bin .gtr (.t 43) (.t 44))⟩,
    ⟨some 46, none, .p (.pick (.t 42) (.k (.c (C.bool true))) (.t 45))⟩] [1, 2, 6, 7, 9, 10, 17, 18, 19, 46])
  (.cond (.t 46)
  (.region [⟨some 47, none, .p (.mv (.t 10))⟩,
    ⟨some 6, none, .p (.mv (.t 47))⟩,
    ⟨some 7, none, .p (.nilsl 2)⟩] [1, 2, 6, 7, 9, 10, 17, 18, 19])
  .skip))
  (.seq (.region [⟨some 48, none, .p (.mv (.t 10))⟩,
    ⟨some 49, none, .p (.mv (.t 6))⟩,
    ⟨some 50, none, .p (.bin .eql (.t 48) (.t 49))⟩] [1, 2, 6, 7, 9, 17, 18, 19, 50])
  (.cond (.t 50)
  (.region [⟨some 51, none, .p (.mv (.t 7))⟩,
    ⟨some 52, none, .h (.load 2 true (.t 9))⟩,
    ⟨some 53, none, .p (.mksl 2 1 [.k (C.int .i64 0), .k (C.int .i64 0)] [(0, 2, .t 52)])⟩,
    ⟨some 54, none, .h (.app 2 (.t 51) (.t 53))⟩,
    ⟨some 7, none, .p (.mv (.t 54))⟩] [1, 2, 6, 7, 17, 18, 19])
  .skip))))))))
  (.region [⟨some 55, none, .p (.bin .add (.t 19) (.k (.c (C.int .i64 1))))⟩,
    ⟨some 19, none, .p (.mv (.t 55))⟩] [1, 2, 6, 7, 17, 18, 19])))) [1, 2, 6, 7, 17, 18, 19])))
  (.seq (.region [⟨some 56, none, .p (.mv (.t 6))⟩,
    ⟨some 57, none, .p (.mv (.t 7))⟩,
    ⟨some 4, none, .p (.mv (.t 56))⟩,
    ⟨some 5, none, .p (.mv (.t 57))⟩] [4, 5])
  .ret)))))) }
theorem a161_ok : okFn Try.prog 161 a161 = true := by kernel_rfl
/-- loop.example/g01215/impl.doPours -/
def a162 : AFn := { np := 2, nt := 54, res := [.cell 4 24 true, .t 5, .t 6], body :=
  (.seq (.region [⟨some 2, none, .p (.box 24 (.t 0))⟩,
    ⟨some 4, none, .p (.alloc (List.replicate 24 (.k (C.int .i64 0))))⟩,
    ⟨some 5, none, .p (.mv (.k (.c (C.int .i64 0))))⟩,
    ⟨some 6, none, .p (.mv (.k (.c (C.bool false))))⟩] [1, 2, 4])
  (.seq (.region [⟨some 7, none, .p (.mv (.k (.c (C.int .i64 0))))⟩] [1, 2, 4, 7])
  (.seq (.seq (.region [⟨some 12, none, .p (.mv (.t 1))⟩,
    ⟨some 13, none, .p (.len (.t 12))⟩,
    ⟨some 14, none, .p (.mv (.k (.c (C.int .i64 0))))⟩] [2, 4, 7, 12, 13, 14])
  (.block 0 (.loop (.seq (.region [⟨some 15, none, .p (.bin .lss (.t 14) (.t 13))⟩] [2, 4, 7, 12, 13, 14, 15])
  (.seq (.cond (.t 15)
  .skip
  (.exit 0))
  (.seq (.block 1 (.seq (.region [⟨some 16, none, .p (.ixS 2 (.t 12) (.t 14))⟩,
    ⟨some 17, none, .h (.load 2 true (.t 16))⟩,
    ⟨some 9, none, .p (.alloc [.k (C.int .i64 0), .k (C.int .i64 0)])⟩,
    ⟨none, none, .h (.store 2 (.t 9) (.t 17))⟩] [2, 4, 7, 9, 12, 13, 14])
  (.seq (.seq (.region [⟨some 18, none, .p (.ixA 2 1 (.t 9) (.k (.c (C.int .i64 0))))⟩,
    ⟨some 19, none, .h (.load 1 false (.t 18))⟩,
    ⟨some 20, none, .h (.call (.f 194) [.t 19])⟩,
    ⟨some 21, none, .p (.un .not (.t 20))⟩,
    ⟨some 22, none, .p (.mv (.t 21))⟩,
    ⟨some 23, some (22, false), .p (.ixA 2 1 (.t 9) (.k (.c (C.int .i64 1))))⟩,
    ⟨some 24, some (22, false), .h (.load 1 false (.t 23))⟩,
    ⟨some 25, some (22, false), .h (.call (.f 194) [.t 24])⟩,
    ⟨some 26, some (22, false), .p (.un .not (.t 25))⟩,
    ⟨some 27, none, .p (.pick (.t 22) (.k (.c (C.bool true))) (.t 26))⟩,
    ⟨some 28, none, .p (.mv (.t 27))⟩,
    ⟨some 29, some (28, false), .h (.load 24 true (.t 2))⟩,
    ⟨some 30, some (28, false), .p (.ixA 2 1 (.t 9) (.k (.c (C.int .i64 0))))⟩,
    ⟨some 31, some (28, false), .h (.load 1 false (.t 30))⟩,
    ⟨some 32, some (28, false), .p (.ixA 2 1 (.t 9) (.k (.c (C.int .i64 1))))⟩,
    ⟨some 33, some (28, false), .h (.load 1 false (.t 32))⟩,
    ⟨some 34, some (28, false), .h (.call (.f 203) [.t 29, .t 31, .t 33])⟩,
    ⟨some 35, some (28, false), .p (.un .not (.t 34))⟩,
    ⟨some 36, none, .p (.pick (.t 28) (.k (.c (C.bool true))) (.t 35))⟩] [2, 4, 7, 9, 12, 13, 14, 36])
  (.cond (.t 36)
  (.seq (.region [⟨some 37, none, .p (.build (List.replicate 24 (.k (C.int .i64 0))) [])⟩,
    ⟨none, none, .h (.store 24 (.t 4) (.t 37))⟩,
    ⟨some 5, none, .p (.mv (.k (.c (C.int .i64 0))))⟩,
    ⟨some 6, none, .p (.mv (.k (.c (C.bool false))))⟩] [4, 5, 6])
  .ret)
  .skip))
  (.seq (.region [⟨some 39, none, .h (.load 24 true (.t 2))⟩,
    ⟨some 40, none, .p (.ixA 2 1 (.t 9) (.k (.c (C.int .i64 0))))⟩,
    ⟨some 41, none, .h (.load 1 false (.t 40))⟩,
    ⟨some 42, none, .p (.ixA 2 1 (.t 9) (.k (.c (C.int .i64 1))))⟩,
    ⟨some 43, none, .h (.load 1 false (.t 42))⟩,
    ⟨some 44, none, .h (.call (.f 149) [.t 39, .t 41, .t 43])⟩,
    ⟨some 38, none, .p (.mv (.t 44))⟩,
    ⟨some 45, none, .p (.ext (.t 38) 0)⟩,
    ⟨some 46, none, .p (.ext (.t 38) 1)⟩,
    ⟨some 10, none, .p (.alloc (List.replicate 24 (.k (C.int .i64 0))))⟩,
    ⟨none, none, .h (.store 24 (.t 10) (.t 45))⟩,
    ⟨some 11, none, .p (.mv (.t 46))⟩] [2, 4, 7, 10, 11, 12, 13, 14])
  (.seq (.region [⟨some 47, none, .h (.load 24 true (.t 10))⟩,
    ⟨none, none, .h (.store 24 (.t 2) (.t 47))⟩] [2, 4, 7, 11, 12, 13, 14])
  (.region [⟨some 48, none, .p (.mv (.t 7))⟩,
    ⟨some 49, none, .p (.mv (.t 11))⟩,
    ⟨some 50, none, .p (.bin .add (.t 48) (.t 49))⟩,
    ⟨some 7, none, .p (.mv (.t 50))⟩] [2, 4, 7, 12, 13, 14]))))))
  (.region [⟨some 51, none, .p (.bin .add (.t 14) (.k (.c (C.int .i64 1))))⟩,
    ⟨some 14, none, .p (.mv (.t 51))⟩] [2, 4, 7, 12, 13, 14])))) [2, 4, 7, 12, 13, 14])))
  (.seq (.region [⟨some 52, none, .h (.load 24 true (.t 2))⟩,
    ⟨some 53, none, .p (.mv (.t 7))⟩,
    ⟨none, none, .h (.store 24 (.t 4) (.t 52))⟩,
    ⟨some 5, none, .p (.mv (.t 53))⟩,
    ⟨some 6, none, .p (.mv (.k (.c (C.bool true))))⟩] [4, 5, 6])
  .ret)))) }
theorem a162_ok : okFn Try.prog 162 a162 = true := by kernel_rfl
/-- slices.DeleteFunc[[][2]int,[2]int] -/
def a163 : AFn := { np := 2, nt := 42, res := [.t 4], body :=
  (.seq (.region [⟨some 4, none, .p (.nilsl 2)⟩] [0, 1])
  (.seq (.region [⟨some 8, none, .p (.mv (.t 0))⟩,
    ⟨some 9, none, .p (.mv (.t 1))⟩,
    ⟨some 10, none, .h (.call (.f 226) [.t 8, .t 9])⟩,
    ⟨some 5, none, .p (.mv (.t 10))⟩] [0, 1, 5])
  (.seq (.seq (.region [⟨some 11, none, .p (.mv (.t 5))⟩,
    ⟨some 12, none, .p (.bin .eql (.t 11) (.k (.c (C.int .i64 (-1)))))⟩] [0, 1, 5, 12])
  (.cond (.t 12)
  (.seq (.region [⟨some 13, none, .p (.mv (.t 0))⟩,
    ⟨some 4, none, .p (.mv (.t 13))⟩] [4])
  .ret)
  .skip))
  (.seq (.seq (.region [⟨some 14, none, .p (.mv (.t 5))⟩,
    ⟨some 15, none, .p (.bin .add (.t 14) (.k (.c (C.int .i64 1))))⟩,
    ⟨some 6, none, .p (.mv (.t 15))⟩] [0, 1, 5, 6])
  (.block 0 (.loop (.seq (.seq (.region [⟨some 16, none, .p (.mv (.t 6))⟩,
    ⟨some 17, none, .p (.mv (.t 0))⟩,
    ⟨some 18, none, .p (.len (.t 17))⟩,
    ⟨some 19, none, .p (.bin .lss (.t 16) (.t 18))⟩] [0, 1, 5, 6, 19])
  (.cond (.t 19)
  .skip
  (.exit 0)))
  (.seq (.block 1 (.seq (.region [⟨some 22, none, .p (.mv (.t 0))⟩,
    ⟨some 23, none, .p (.mv (.t 6))⟩,
    ⟨some 24, none, .p (.ixS 2 (.t 22) (.t 23))⟩,
    ⟨some 25, none, .h (.load 2 true (.t 24))⟩,
    ⟨some 7, none, .p (.alloc [.k (C.int .i64 0), .k (C.int .i64 0)])⟩,
    ⟨none, none, .h (.store 2 (.t 7) (.t 25))⟩] [0, 1, 5, 6, 7])
  (.seq (.region [⟨some 26, none, .p (.mv (.t 1))⟩,
    ⟨some 27, none, .h (.load 2 true (.t 7))⟩,
    ⟨some 28, none, .h (.call (.t 26) [.t 27])⟩,
    ⟨some 29, none, .p (.un .not (.t 28))⟩] [0, 1, 5, 6, 7, 29])
  (.cond (.t 29)
  (.seq (.region [⟨some 30, none, .p (.mv (.t 0))⟩,
    ⟨some 31, none, .p (.mv (.t 5))⟩,
    ⟨some 32, none, .h (.load 2 true (.t 7))⟩,
    ⟨some 33, none, .p (.ixS 2 (.t 30) (.t 31))⟩,
    ⟨none, none, .h (.store 2 (.t 33) (.t 32))⟩] [0, 1, 5, 6])
  (.region [⟨some 34, none, .p (.mv (.t 5))⟩,
    ⟨some 35, none, .p (.bin .add (.t 34) (.k (.c (C.int .i64 1))))⟩,
    ⟨some 5, none, .p (.mv (.t 35))⟩] [0, 1, 5, 6]))
  .skip))))
  (.region [⟨some 20, none, .p (.mv (.t 6))⟩,
    ⟨some 21, none, .p (.bin .add (.t 20) (.k (.c (C.int .i64 1))))⟩,
    ⟨some 6, none, .p (.mv (.t 21))⟩] [0, 1, 5, 6]))) [0, 1, 5, 6])))
  (.seq (.region [⟨some 36, none, .p (.mv (.t 0))⟩,
    ⟨some 37, none, .p (.mv (.t 5))⟩,
    ⟨some 38, none, .p (.slS 2 (.t 36) (some (.t 37)) none)⟩,
    ⟨none, none, .h (.clr 2 [.k (C.int .i64 0), .k (C.int .i64 0)] (.t 38))⟩] [0, 5])
  (.seq (.region [⟨some 39, none, .p (.mv (.t 0))⟩,
    ⟨some 40, none, .p (.mv (.t 5))⟩,
    ⟨some 41, none, .p (.slS 2 (.t 39) none (some (.t 40)))⟩,
    ⟨some 4, none, .p (.mv (.t 41))⟩] [4])
  .ret)))))) }
theorem a163_ok : okFn Try.prog 163 a163 = true := by kernel_rfl
/-- loop.example/g01215/impl.EndPours$1 -/
def a164 : AFn := { np := 4, nt := 24, res := [.t 5], body :=
  (.seq (.region [⟨some 4, none, .p (.box 2 (.t 0))⟩,
    ⟨some 5, none, .p (.mv (.k (.c (C.bool false))))⟩] [1, 2, 3, 4])
  (.seq (.region [⟨some 9, none, .h (.load 24 true (.t 1))⟩,
    ⟨some 10, none, .p (.ixA 2 1 (.t 4) (.k (.c (C.int .i64 0))))⟩,
    ⟨some 11, none, .h (.load 1 false (.t 10))⟩,
    ⟨some 12, none, .p (.ixA 2 1 (.t 4) (.k (.c (C.int .i64 1))))⟩,
    ⟨some 13, none, .h (.load 1 false (.t 12))⟩,
    ⟨some 14, none, .h (.call (.f 149) [.t 9, .t 11, .t 13])⟩,
    ⟨some 8, none, .p (.mv (.t 14))⟩,
    ⟨some 15, none, .p (.ext (.t 8) 0)⟩,
    ⟨some 16, none, .p (.ext (.t 8) 1)⟩,
    ⟨some 6, none, .p (.alloc (List.replicate 24 (.k (C.int .i64 0))))⟩,
    ⟨none, none, .h (.store 24 (.t 6) (.t 15))⟩,
    ⟨some 7, none, .p (.mv (.t 16))⟩] [2, 3, 6])
  (.seq (.regionD [⟨some 17, none, .h (.load 24 true (.t 6))⟩,
    ⟨some 18, none, .h (.load 1 false (.t 2))⟩,
    ⟨some 19, none, .p (.bin .sub (.t 18) (.k (.c (C.int .i64 1))))⟩,
    ⟨some 20, none, .h (.call (.f 147) [.t 17, .t 19])⟩,
    ⟨some 21, none, .p (.un .neg (.t 20))⟩,
    ⟨some 22, none, .h (.load 1 false (.t 3))⟩,
    ⟨some 23, none, .p (.bin .neq (.t 21) (.t 22))⟩,
    ⟨some 5, none, .p (.mv (.t 23))⟩] [5] [])
  .ret))) }
theorem a164_ok : okFn Try.prog 164 a164 = true := by kernel_rfl
/-- loop.example/g01215/spec.l10Completes -/
def a165 : AFn := { np := 1, nt := 51, res := [.t 2], body :=
  (.seq (.region [⟨some 1, none, .p (.box 24 (.t 0))⟩,
    ⟨some 2, none, .p (.mv (.k (.c (C.bool false))))⟩] [1])
  (.seq (.region [⟨some 8, none, .h (.load 24 true (.t 1))⟩,
    ⟨some 9, none, .h (.call (.f 141) [.t 8])⟩,
    ⟨some 3, none, .p (.mv (.t 9))⟩] [1, 3])
  (.seq (.seq (.region [⟨some 4, none, .p (.mv (.k (.c (C.int .i64 0))))⟩] [1, 3, 4])
  (.block 0 (.loop (.seq (.seq (.region [⟨some 10, none, .p (.mv (.t 4))⟩,
    ⟨some 11, none, .p (.mv (.t 3))⟩,
    ⟨some 12, none, .p (.len (.t 11))⟩,
    ⟨some 13, none, .p (.bin .lss (.t 10) (.t 12))⟩] [1, 3, 4, 13])
  (.cond (.t 13)
  .skip
  (.exit 0)))
  (.seq (.block 1 (.seq (.regionD [⟨some 17, none, .h (.load 24 true (.t 1))⟩,
    ⟨some 18, none, .p (.mv (.t 3))⟩,
    ⟨some 19, none, .p (.mv (.t 4))⟩,
    ⟨some 20, none, .p (.ixS 2 (.t 18) (.t 19))⟩,
    ⟨some 21, none, .p (.ixA 2 1 (.t 20) (.k (.c (C.int .i64 0))))⟩,
    ⟨some 22, none, .h (.load 1 false (.t 21))⟩,
    ⟨some 23, none, .p (.mv (.t 3))⟩,
    ⟨some 24, none, .p (.mv (.t 4))⟩,
    ⟨some 25, none, .p (.ixS 2 (.t 23) (.t 24))⟩,
    ⟨some 26, none, .p (.ixA 2 1 (.t 25) (.k (.c (C.int .i64 1))))⟩,
    ⟨some 27, none, .h (.load 1 false (.t 26))⟩,
    ⟨some 28, none, .h (.call (.f 148) [.t 17, .t 22, .t 27])⟩,
    ⟨some 16, none, .p (.mv (.t 28))⟩,
    ⟨some 29, none, .p (.ext (.t 16) 0)⟩,
    ⟨some 30, none, .p (.ext (.t 16) 1)⟩,
    ⟨some 5, none, .p (.alloc (List.replicate 24 (.k (C.int .i64 0))))⟩,
    ⟨none, none, .h (.store 24 (.t 5) (.t 29))⟩,
    ⟨some 6, none, .p (.mv (.t 30))⟩] [1, 3, 4, 5] [])
  (.seq (.region [⟨some 31, none, .h (.load 24 true (.t 1))⟩,
    ⟨some 32, none, .h (.call (.f 207) [.t 31])⟩,
    ⟨some 7, none, .p (.mv (.t 32))⟩] [1, 3, 4, 5, 7])
  (.seq (.regionD [⟨some 33, none, .p (.mv (.t 7))⟩,
    ⟨some 34, none, .p (.mv (.t 3))⟩,
    ⟨some 35, none, .p (.mv (.t 4))⟩,
    ⟨some 36, none, .p (.ixS 2 (.t 34) (.t 35))⟩,
    ⟨some 37, none, .p (.ixA 2 1 (.t 36) (.k (.c (C.int .i64 1))))⟩,
    ⟨some 38, none, .h (.load 1 false (.t 37))⟩,
    ⟨some 39, none, .h (.call (.f 227) [.t 33, .t 38])⟩,
    ⟨some 40, none, .p (.un .not (.t 39))⟩,
    ⟨some 41, none, .p (.mv (.t 40))⟩,
    ⟨some 42, some (41, true), .h (.load 24 true (.t 5))⟩,
    ⟨some 43, some (41, true), .h (.call (.f 207) [.t 42])⟩,
    ⟨some 44, some (41, true), .p (.mv (.t 3))⟩,
    ⟨some 45, some (41, true), .p (.mv (.t 4))⟩,
    ⟨some 46, some (41, true), .p (.ixS 2 (.t 44) (.t 45))⟩,
    ⟨some 47, some (41, true), .p (.ixA 2 1 (.t 46) (.k (.c (C.int .i64 1))))⟩,
    ⟨some 48, some (41, true), .h (.load 1 false (.t 47))⟩,
    ⟨some 49, some (41, true), .h (.call (.f 227) [.t 43, .t 48])⟩,
    ⟨some 50, none, .p (.pick (.t 41) (.t 49) (.k (.c (C.bool false))))⟩] [1, 3, 4, 50] [])
  (.cond (.t 50)
  (.seq (.region [⟨some 2, none, .p (.mv (.k (.c (C.bool true))))⟩] [2])
  .ret)
  .skip)))))
  (.region [⟨some 14, none, .p (.mv (.t 4))⟩,
    ⟨some 15, none, .p (.bin .add (.t 14) (.k (.c (C.int .i64 1))))⟩,
    ⟨some 4, none, .p (.mv (.t 15))⟩] [1, 3, 4]))) [1, 3, 4])))
  (.seq (.region [⟨some 2, none, .p (.mv (.k (.c (C.bool false))))⟩] [2])
  .ret)))) }
theorem a165_ok : okFn Try.prog 165 a165 = true := by kernel_rfl
/-- loop.example/g01215/impl.CanHurt$1 -/
def a166 : AFn := { np := 2, nt := 18, res := [.t 3], body :=
  (.seq (.region [⟨some 2, none, .p (.box 2 (.t 0))⟩,
    ⟨some 3, none, .p (.mv (.k (.c (C.bool false))))⟩] [1, 2])
  (.seq (.region [⟨some 7, none, .h (.load 24 true (.t 1))⟩,
    ⟨some 8, none, .p (.ixA 2 1 (.t 2) (.k (.c (C.int .i64 0))))⟩,
    ⟨some 9, none, .h (.load 1 false (.t 8))⟩,
    ⟨some 10, none, .p (.ixA 2 1 (.t 2) (.k (.c (C.int .i64 1))))⟩,
    ⟨some 11, none, .h (.load 1 false (.t 10))⟩,
    ⟨some 12, none, .h (.call (.f 149) [.t 7, .t 9, .t 11])⟩,
    ⟨some 6, none, .p (.mv (.t 12))⟩,
    ⟨some 13, none, .p (.ext (.t 6) 0)⟩,
    ⟨some 14, none, .p (.ext (.t 6) 1)⟩,
    ⟨some 4, none, .p (.alloc (List.replicate 24 (.k (C.int .i64 0))))⟩,
    ⟨none, none, .h (.store 24 (.t 4) (.t 13))⟩,
    ⟨some 5, none, .p (.mv (.t 14))⟩] [4])
  (.seq (.region [⟨some 15, none, .h (.load 24 true (.t 4))⟩,
    ⟨some 16, none, .h (.call (.f 167) [.t 15])⟩,
    ⟨some 17, none, .p (.un .not (.t 16))⟩,
    ⟨some 3, none, .p (.mv (.t 17))⟩] [3])
  .ret))) }
theorem a166_ok : okFn Try.prog 166 a166 = true := by kernel_rfl
/-- loop.example/g01215/impl.canComplete -/
def a167 : AFn := { np := 1, nt := 7, res := [.t 2], body :=
  (.seq (.region [⟨some 1, none, .p (.box 24 (.t 0))⟩,
    ⟨some 2, none, .p (.mv (.k (.c (C.bool false))))⟩] [1])
  (.seq (.region [⟨some 3, none, .h (.load 24 true (.t 1))⟩,
    ⟨some 4, none, .h (.call (.f 143) [.t 3])⟩,
    ⟨some 5, none, .p (.mkfn 229 [.t 1])⟩,
    ⟨some 6, none, .h (.call (.f 228) [.t 4, .t 5])⟩,
    ⟨some 2, none, .p (.mv (.t 6))⟩] [2])
  .ret)) }
theorem a167_ok : okFn Try.prog 167 a167 = true := by kernel_rfl
/-- loop.example/g01215/spec.l11Cut -/
def a168 : AFn := { np := 2, nt := 14, res := [.cell 4 25 true], body :=
  (.seq (.region [⟨some 2, none, .p (.box 25 (.t 0))⟩,
    ⟨some 4, none, .p (.alloc [.k (C.int .i64 0), .k (C.int .i64 0), .k (C.int .i64 0), .k (C.int .i64 0), .k (C.int .i64 0), .k (C.int .i64 0), .k (C.int .i64 0), .k (C.int .i64 0), .k (C.int .i64 0), .k (C.int .i64 0), .k (C.int .i64 0), .k (C.int .i64 0), .k (C.int .i64 0), .k (C.int .i64 0), .k (C.int .i64 0), .k (C.int .i64 0), .k (C.int .i64 0), .k (C.int .i64 0), .k (C.int .i64 0), .k (C.int .i64 0), .k (C.int .i64 0), .k (C.int .i64 0), .k (C.int .i64 0), .k (C.int .i64 0), .sl 2])⟩] [1, 2, 4])
  (.seq (.regionD [⟨some 5, none, .p (.fld 0 (.t 2))⟩,
    ⟨some 6, none, .h (.load 24 true (.t 5))⟩,
    ⟨some 7, none, .p (.mksl 2 0 [.k (C.int .i64 0), .k (C.int .i64 0)] [])⟩,
    ⟨some 8, none, .p (.fld 24 (.t 2))⟩,
    ⟨some 9, none, .h (.load 1 false (.t 8))⟩,
    ⟨some 10, none, .p (.mv (.t 1))⟩,
    ⟨some 11, none, .p (.slS 2 (.t 9) none (some (.t 10)))⟩,
    ⟨some 12, none, .h (.app 2 (.t 7) (.t 11))⟩,
    ⟨some 13, none, .p (.build [.k (C.int .i64 0), .k (C.int .i64 0), .k (C.int .i64 0), .k (C.int .i64 0), .k (C.int .i64 0), .k (C.int .i64 0), .k (C.int .i64 0), .k (C.int .i64 0), .k (C.int .i64 0), .k (C.int .i64 0), .k (C.int .i64 0), .k (C.int .i64 0), .k (C.int .i64 0), .k (C.int .i64 0), .k (C.int .i64 0), .k (C.int .i64 0), .k (C.int .i64 0), .k (C.int .i64 0), .k (C.int .i64 0), .k (C.int .i64 0), .k (C.int .i64 0), .k (C.int .i64 0), .k (C.int .i64 0), .k (C.int .i64 0), .sl 2] [(0, 24, .t 6), (24, 1, .t 12)])⟩,
    ⟨none, none, .h (.store 25 (.t 4) (.t 13))⟩] [4] [(.t 5, .t 7)])
  .ret)) }
theorem a168_ok : okFn Try.prog 168 a168 = true := by kernel_rfl
/-- (loop.example/g01215/impl.Replay).with -/
def a169 : AFn := { np := 2, nt := 10, res := [.cell 4 25 true], body :=
  (.seq (.region [⟨some 2, none, .p (.box 25 (.t 0))⟩,
    ⟨some 4, none, .p (.alloc [.k (C.int .i64 0), .k (C.int .i64 0), .k (C.int .i64 0), .k (C.int .i64 0), .k (C.int .i64 0), .k (C.int .i64 0), .k (C.int .i64 0), .k (C.int .i64 0), .k (C.int .i64 0), .k (C.int .i64 0), .k (C.int .i64 0), .k (C.int .i64 0), .k (C.int .i64 0), .k (C.int .i64 0), .k (C.int .i64 0), .k (C.int .i64 0), .k (C.int .i64 0), .k (C.int .i64 0), .k (C.int .i64 0), .k (C.int .i64 0), .k (C.int .i64 0), .k (C.int .i64 0), .k (C.int .i64 0), .k (C.int .i64 0), .sl 2])⟩] [1, 2, 4])
  (.seq (.regionD [⟨some 5, none, .p (.fld 0 (.t 2))⟩,
    ⟨some 6, none, .h (.load 24 true (.t 5))⟩,
    ⟨some 7, none, .p (.mv (.t 1))⟩,
    ⟨some 8, none, .h (.call (.f 231) [.t 7])⟩,
    ⟨some 9, none, .p (.build [.k (C.int .i64 0), .k (C.int .i64 0), .k (C.int .i64 0), .k (C.int .i64 0), .k (C.int .i64 0), .k (C.int .i64 0), .k (C.int .i64 0), .k (C.int .i64 0), .k (C.int .i64 0), .k (C.int .i64 0), .k (C.int .i64 0), .k (C.int .i64 0), .k (C.int .i64 0), .k (C.int .i64 0), .k (C.int .i64 0), .k (C.int .i64 0), .k (C.int .i64 0), .k (C.int .i64 0), .k (C.int .i64 0), .k (C.int .i64 0), .k (C.int .i64 0), .k (C.int .i64 0), .k (C.int .i64 0), .k (C.int .i64 0), .sl 2] [(0, 24, .t 6), (24, 1, .t 8)])⟩,
    ⟨none, none, .h (.store 25 (.t 4) (.t 9))⟩] [4] [])
  .ret)) }
theorem a169_ok : okFn Try.prog 169 a169 = true := by kernel_rfl
/-- loop.example/g01215/spec.l11Loops -/
def a170 : AFn := { np := 1, nt := 37, res := [.t 2], body :=
  (.seq (.region [⟨some 2, none, .p (.nilsl 2)⟩] [0])
  (.seq (.region [⟨some 6, none, .p (.mksl 2 0 [.k (C.int .i64 0), .k (C.int .i64 0)] [])⟩,
    ⟨some 3, none, .p (.mv (.t 6))⟩] [0, 3])
  (.seq (.seq (.region [⟨some 4, none, .p (.mv (.k (.c (C.int .i64 0))))⟩] [0, 3, 4])
  (.block 0 (.loop (.seq (.seq (.region [⟨some 7, none, .p (.mv (.t 4))⟩,
    ⟨some 8, none, .p (.mv (.t 0))⟩,
    ⟨some 9, none, .p (.len (.t 8))⟩,
    ⟨some 10, none, .p (.bin .lss (.t 7) (.t 9))⟩] [0, 3, 4, 10])
  (.cond (.t 10)
  .skip
  (.exit 0)))
  (.seq (.block 1 (.seq (.region [⟨some 13, none, .p (.mv (.t 4))⟩,
    ⟨some 14, none, .p (.bin .add (.t 13) (.k (.c (C.int .i64 1))))⟩,
    ⟨some 5, none, .p (.mv (.t 14))⟩] [0, 3, 4, 5])
  (.block 2 (.loop (.seq (.seq (.region [⟨some 15, none, .p (.mv (.t 5))⟩,
    ⟨some 16, none, .p (.mv (.t 0))⟩,
    ⟨some 17, none, .p (.len (.t 16))⟩,
    ⟨some 18, none, .p (.bin .lss (.t 15) (.t 17))⟩] [0, 3, 4, 5, 18])
  (.cond (.t 18)
  .skip
  (.exit 2)))
  (.seq (.block 3 (.seq (.regionD [⟨some 21, none, .p (.mv (.t 0))⟩,
    ⟨some 22, none, .p (.mv (.t 4))⟩,
    ⟨some 23, none, .p (.ixS 24 (.t 21) (.t 22))⟩,
    ⟨some 24, none, .h (.load 24 true (.t 23))⟩,
    ⟨some 25, none, .p (.mv (.t 0))⟩,
    ⟨some 26, none, .p (.mv (.t 5))⟩,
    ⟨some 27, none, .p (.ixS 24 (.t 25) (.t 26))⟩,
    ⟨some 28, none, .h (.load 24 true (.t 27))⟩,
    ⟨some 29, none, .p (.eqv false (List.replicate 24 (.int .i64)) (.t 24) (.t 28))⟩] [0, 3, 4, 5, 29] [])
  (.cond (.t 29)
  (.region [⟨some 30, none, .p (.mv (.t 3))⟩,
    ⟨some 31, none, .p (.mv (.t 4))⟩,
    ⟨some 32, none, .p (.mv (.t 5))⟩,
    ⟨some 33, none, .p (.build [.k (C.int .i64 0), .k (C.int .i64 0)] [(0, 1, .t 31), (1, 1, .t 32)])⟩,
    ⟨some 34, none, .p (.mksl 2 1 [.k (C.int .i64 0), .k (C.int .i64 0)] [(0, 2, .t 33)])⟩,
    ⟨some 35, none, .h (.app 2 (.t 30) (.t 34))⟩,
    ⟨some 3, none, .p (.mv (.t 35))⟩] [0, 3, 4, 5])
  .skip)))
  (.region [⟨some 19, none, .p (.mv (.t 5))⟩,
    ⟨some 20, none, .p (.bin .add (.t 19) (.k (.c (C.int .i64 1))))⟩,
    ⟨some 5, none, .p (.mv (.t 20))⟩] [0, 3, 4, 5]))) [0, 3, 4, 5]))))
  (.region [⟨some 11, none, .p (.mv (.t 4))⟩,
    ⟨some 12, none, .p (.bin .add (.t 11) (.k (.c (C.int .i64 1))))⟩,
    ⟨some 4, none, .p (.mv (.t 12))⟩] [0, 3, 4]))) [0, 3, 4])))
  (.seq (.region [⟨some 36, none, .p (.mv (.t 3))⟩,
    ⟨some 2, none, .p (.mv (.t 36))⟩] [2])
  .ret)))) }
theorem a170_ok : okFn Try.prog 170 a170 = true := by kernel_rfl
/-- (loop.example/g01215/impl.Replay).loops -/
def a171 : AFn := { np := 1, nt := 43, res := [.t 2], body :=
  (.seq (.region [⟨some 1, none, .p (.box 25 (.t 0))⟩,
    ⟨some 2, none, .p (.nilsl 2)⟩] [1])
  (.seq (.region [⟨some 9, none, .h (.load 25 true (.t 1))⟩,
    ⟨some 10, none, .h (.call (.f 151) [.t 9])⟩,
    ⟨some 8, none, .p (.mv (.t 10))⟩,
    ⟨some 11, none, .p (.ext (.t 8) 0)⟩,
    ⟨some 12, none, .p (.ext (.t 8) 1)⟩,
    ⟨some 3, none, .p (.mv (.t 11))⟩,
    ⟨some 4, none, .p (.mv (.t 12))⟩] [3])
  (.seq (.region [⟨some 5, none, .p (.nilsl 2)⟩] [3, 5])
  (.seq (.seq (.region [⟨some 13, none, .p (.mv (.t 3))⟩,
    ⟨some 14, none, .p (.len (.t 13))⟩,
    ⟨some 15, none, .p (.mv (.k (.c (C.int .i64 0))))⟩] [3, 5, 14, 15])
  (.block 0 (.loop (.seq (.region [⟨some 16, none, .p (.bin .lss (.t 15) (.t 14))⟩] [3, 5, 14, 15, 16])
  (.seq (.cond (.t 16)
  .skip
  (.exit 0))
  (.seq (.block 1 (.seq (.region [⟨some 17, none, .p (.mv (.t 15))⟩,
    ⟨some 6, none, .p (.mv (.t 17))⟩] [3, 5, 6, 14, 15])
  (.seq (.region [⟨some 18, none, .p (.mv (.t 6))⟩,
    ⟨some 19, none, .p (.bin .add (.t 18) (.k (.c (C.int .i64 1))))⟩,
    ⟨some 7, none, .p (.mv (.t 19))⟩] [3, 5, 6, 7, 14, 15])
  (.block 2 (.loop (.seq (.seq (.region [⟨some 20, none, .p (.mv (.t 7))⟩,
    ⟨some 21, none, .p (.mv (.t 3))⟩,
    ⟨some 22, none, .p (.len (.t 21))⟩,
    ⟨some 23, none, .p (.bin .lss (.t 20) (.t 22))⟩] [3, 5, 6, 7, 14, 15, 23])
  (.cond (.t 23)
  .skip
  (.exit 2)))
  (.seq (.block 3 (.seq (.regionD [⟨some 26, none, .p (.mv (.t 3))⟩,
    ⟨some 27, none, .p (.mv (.t 6))⟩,
    ⟨some 28, none, .p (.ixS 24 (.t 26) (.t 27))⟩,
    ⟨some 29, none, .h (.load 24 true (.t 28))⟩,
    ⟨some 30, none, .p (.mv (.t 3))⟩,
    ⟨some 31, none, .p (.mv (.t 7))⟩,
    ⟨some 32, none, .p (.ixS 24 (.t 30) (.t 31))⟩,
    ⟨some 33, none, .h (.load 24 true (.t 32))⟩,
    ⟨some 34, none, .p (.eqv false (List.replicate 24 (.int .i64)) (.t 29) (.t 33))⟩] [3, 5, 6, 7, 14, 15, 34] [])
  (.cond (.t 34)
  (.region [⟨some 35, none, .p (.mv (.t 5))⟩,
    ⟨some 36, none, .p (.mv (.t 6))⟩,
    ⟨some 37, none, .p (.mv (.t 7))⟩,
    ⟨some 38, none, .p (.build [.k (C.int .i64 0), .k (C.int .i64 0)] [(0, 1, .t 36), (1, 1, .t 37)])⟩,
    ⟨some 39, none, .p (.mksl 2 1 [.k (C.int .i64 0), .k (C.int .i64 0)] [(0, 2, .t 38)])⟩,
    ⟨some 40, none, .h (.app 2 (.t 35) (.t 39))⟩,
    ⟨some 5, none, .p (.mv (.t 40))⟩] [3, 5, 6, 7, 14, 15])
  .skip)))
  (.region [⟨some 24, none, .p (.mv (.t 7))⟩,
    ⟨some 25, none, .p (.bin .add (.t 24) (.k (.c (C.int .i64 1))))⟩,
    ⟨some 7, none, .p (.mv (.t 25))⟩] [3, 5, 6, 7, 14, 15]))) [3, 5, 6, 7, 14, 15])))))
  (.region [⟨some 41, none, .p (.bin .add (.t 15) (.k (.c (C.int .i64 1))))⟩,
    ⟨some 15, none, .p (.mv (.t 41))⟩] [3, 5, 14, 15])))) [3, 5, 14, 15])))
  (.seq (.region [⟨some 42, none, .p (.mv (.t 5))⟩,
    ⟨some 2, none, .p (.mv (.t 42))⟩] [2])
  .ret))))) }
theorem a171_ok : okFn Try.prog 171 a171 = true := by kernel_rfl
/-- loop.example/g01215/spec.l2Sorted -/
def a172 : AFn := { np := 1, nt := 42, res := [.t 2], body :=
  (.seq (.region [⟨some 1, none, .p (.box 24 (.t 0))⟩,
    ⟨some 2, none, .p (.mv (.k (.c (C.bool false))))⟩] [1])
  (.seq (.region [⟨some 6, none, .p (.mksl 1 0 [.k (C.int .i64 0)] [])⟩,
    ⟨some 3, none, .p (.mv (.t 6))⟩] [1, 3])
  (.seq (.seq (.region [⟨some 4, none, .p (.mv (.k (.c (C.int .i64 0))))⟩] [1, 3, 4])
  (.block 0 (.loop (.seq (.seq (.region [⟨some 7, none, .p (.mv (.t 4))⟩,
    ⟨some 8, none, .p (.bin .lss (.t 7) (.k (.c (C.int .i64 6))))⟩] [1, 3, 4, 8])
  (.cond (.t 8)
  .skip
  (.exit 0)))
  (.seq (.block 1 (.seq (.region [⟨some 11, none, .p (.mv (.t 4))⟩,
    ⟨some 12, none, .p (.fld 0 (.t 1))⟩,
    ⟨some 13, none, .p (.ixA 6 4 (.t 12) (.t 11))⟩,
    ⟨some 14, none, .h (.load 4 true (.t 13))⟩,
    ⟨some 15, none, .h (.call (.f 224) [.t 14])⟩,
    ⟨some 5, none, .p (.mv (.t 15))⟩] [1, 3, 4, 5])
  (.seq (.seq (.region [⟨some 16, none, .p (.mv (.t 5))⟩,
    ⟨some 17, none, .p (.len (.t 16))⟩,
    ⟨some 18, none, .p (.bin .gtr (.t 17) (.k (.c (C.int .i64 1))))⟩,
    ⟨some 19, none, .p (.mv (.t 18))⟩,
    ⟨some 20, some (19, false), .p (.mv (.t 5))⟩,
    ⟨some 21, some (19, false), .p (.len (.t 20))⟩,
    ⟨some 22, some (19, false), .p (.bin .eql (.t 21) (.k (.c (C.int .i64 1))))⟩,
    ⟨some 23, some (19, false), .p (.mv (.t 22))⟩,
    ⟨some 24, some (23, true), .p (.mv (.t 3))⟩,
    ⟨some 25, some (23, true), .p (.mv (.t 5))⟩,
    ⟨some 26, some (23, true), .p (.ixS 2 (.t 25) (.k (.c (C.int .i64 0))))⟩,
    ⟨some 27, some (23, true), .p (.ixA 2 1 (.t 26) (.k (.c (C.int .i64 0))))⟩,
    ⟨some 28, some (23, true), .h (.load 1 false (.t 27))⟩,
    ⟨some 29, some (23, true), .h (.call (.f 227) [.t 24, .t 28])⟩,
    ⟨some 30, some (19, false), .p (.pick (.t 23) (.t 29) (.k (.c (C.bool false))))⟩,
    ⟨some 31, none, .p (.pick (.t 19) (.k (.c (C.bool true))) (.t 30))⟩] [1, 3, 4, 5, 31])
  (.cond (.t 31)
  (.seq (.region [⟨some 2, none, .p (.mv (.k (.c (C.bool false))))⟩] [2])
  .ret)
  .skip))
  (.seq (.region [⟨some 32, none, .p (.mv (.t 5))⟩,
    ⟨some 33, none, .p (.len (.t 32))⟩,
    ⟨some 34, none, .p (.bin .eql (.t 33) (.k (.c (C.int .i64 1))))⟩] [1, 3, 4, 5, 34])
  (.cond (.t 34)
  (.region [⟨some 35, none, .p (.mv (.t 3))⟩,
    ⟨some 36, none, .p (.mv (.t 5))⟩,
    ⟨some 37, none, .p (.ixS 2 (.t 36) (.k (.c (C.int .i64 0))))⟩,
    ⟨some 38, none, .p (.ixA 2 1 (.t 37) (.k (.c (C.int .i64 0))))⟩,
    ⟨some 39, none, .h (.load 1 false (.t 38))⟩,
    ⟨some 40, none, .p (.mksl 1 1 [.k (C.int .i64 0)] [(0, 1, .t 39)])⟩,
    ⟨some 41, none, .h (.app 1 (.t 35) (.t 40))⟩,
    ⟨some 3, none, .p (.mv (.t 41))⟩] [1, 3, 4])
  .skip)))))
  (.region [⟨some 9, none, .p (.mv (.t 4))⟩,
    ⟨some 10, none, .p (.bin .add (.t 9) (.k (.c (C.int .i64 1))))⟩,
    ⟨some 4, none, .p (.mv (.t 10))⟩] [1, 3, 4]))) [1, 3, 4])))
  (.seq (.region [⟨some 2, none, .p (.mv (.k (.c (C.bool true))))⟩] [2])
  .ret)))) }
theorem a172_ok : okFn Try.prog 172 a172 = true := by kernel_rfl
/-- (loop.example/g01215/impl.Replay).solves -/
def a173 : AFn := { np := 1, nt := 20, res := [.t 2], body :=
  (.seq (.region [⟨some 1, none, .p (.box 25 (.t 0))⟩,
    ⟨some 2, none, .p (.mv (.k (.c (C.bool false))))⟩] [1])
  (.seq (.region [⟨some 6, none, .h (.load 25 true (.t 1))⟩,
    ⟨some 7, none, .h (.call (.f 151) [.t 6])⟩,
    ⟨some 5, none, .p (.mv (.t 7))⟩,
    ⟨some 8, none, .p (.ext (.t 5) 0)⟩,
    ⟨some 9, none, .p (.ext (.t 5) 1)⟩,
    ⟨some 3, none, .p (.mv (.t 8))⟩,
    ⟨some 4, none, .p (.mv (.t 9))⟩] [3, 4])
  (.seq (.region [⟨some 10, none, .p (.mv (.t 4))⟩,
    ⟨some 11, none, .p (.mv (.t 10))⟩,
    ⟨some 12, some (11, true), .p (.mv (.t 3))⟩,
    ⟨some 13, some (11, true), .p (.mv (.t 3))⟩,
    ⟨some 14, some (11, true), .p (.len (.t 13))⟩,
    ⟨some 15, some (11, true), .p (.bin .sub (.t 14) (.k (.c (C.int .i64 1))))⟩,
    ⟨some 16, some (11, true), .p (.ixS 24 (.t 12) (.t 15))⟩,
    ⟨some 17, some (11, true), .h (.load 24 true (.t 16))⟩,
    ⟨some 18, some (11, true), .h (.call (.f 232) [.t 17])⟩,
    ⟨some 19, none, .p (.pick (.t 11) (.t 18) (.k (.c (C.bool false))))⟩,
    ⟨some 2, none, .p (.mv (.t 19))⟩] [2])
  .ret))) }
theorem a173_ok : okFn Try.prog 173 a173 = true := by kernel_rfl
/-- loop.example/g01215/spec.l10Best -/
def a174 : AFn := { np := 2, nt := 48, res := [.t 4], body :=
  (.seq (.region [⟨some 2, none, .p (.box 24 (.t 0))⟩,
    ⟨some 4, none, .p (.nilsl 2)⟩] [1, 2])
  (.seq (.regionD [⟨some 11, none, .p (.mksl 2 0 [.k (C.int .i64 0), .k (C.int .i64 0)] [])⟩,
    ⟨some 12, none, .h (.load 24 true (.t 2))⟩,
    ⟨some 13, none, .p (.mv (.t 1))⟩,
    ⟨some 14, none, .h (.call (.f 160) [.t 12, .t 13])⟩,
    ⟨some 15, none, .h (.load 24 true (.t 2))⟩,
    ⟨some 16, none, .h (.call (.f 141) [.t 15])⟩,
    ⟨some 5, none, .p (.mv (.t 11))⟩,
    ⟨some 6, none, .p (.mv (.t 14))⟩,
    ⟨some 7, none, .p (.mv (.t 16))⟩] [1, 2, 5, 6, 7] [])
  (.seq (.seq (.region [⟨some 8, none, .p (.mv (.k (.c (C.int .i64 0))))⟩] [1, 2, 5, 6, 7, 8])
  (.block 0 (.loop (.seq (.seq (.region [⟨some 17, none, .p (.mv (.t 8))⟩,
    ⟨some 18, none, .p (.mv (.t 7))⟩,
    ⟨some 19, none, .p (.len (.t 18))⟩,
    ⟨some 20, none, .p (.bin .lss (.t 17) (.t 19))⟩] [1, 2, 5, 6, 7, 8, 20])
  (.cond (.t 20)
  .skip
  (.exit 0)))
  (.seq (.block 1 (.seq (.regionD [⟨some 24, none, .h (.load 24 true (.t 2))⟩,
    ⟨some 25, none, .p (.mv (.t 7))⟩,
    ⟨some 26, none, .p (.mv (.t 8))⟩,
    ⟨some 27, none, .p (.ixS 2 (.t 25) (.t 26))⟩,
    ⟨some 28, none, .h (.load 2 true (.t 27))⟩,
    ⟨some 29, none, .h (.call (.f 156) [.t 24, .t 28])⟩,
    ⟨some 23, none, .p (.mv (.t 29))⟩,
    ⟨some 30, none, .p (.ext (.t 23) 0)⟩,
    ⟨some 31, none, .p (.ext (.t 23) 1)⟩,
    ⟨some 10, none, .p (.alloc (List.replicate 24 (.k (C.int .i64 0))))⟩,
    ⟨some 9, none, .p (.mv (.t 30))⟩,
    ⟨none, none, .h (.store 24 (.t 10) (.t 31))⟩] [1, 2, 5, 6, 7, 8, 9, 10] [])
  (.seq (.region [⟨some 32, none, .p (.mv (.t 9))⟩,
    ⟨some 33, none, .h (.load 24 true (.t 10))⟩,
    ⟨some 34, none, .p (.mv (.t 1))⟩,
    ⟨some 35, none, .p (.bin .sub (.t 34) (.k (.c (C.int .i64 1))))⟩,
    ⟨some 36, none, .h (.call (.f 160) [.t 33, .t 35])⟩,
    ⟨some 37, none, .p (.bin .sub (.t 32) (.t 36))⟩,
    ⟨some 38, none, .p (.mv (.t 6))⟩,
    ⟨some 39, none, .p (.bin .eql (.t 37) (.t 38))⟩] [1, 2, 5, 6, 7, 8, 39])
  (.cond (.t 39)
  (.region [⟨some 40, none, .p (.mv (.t 5))⟩,
    ⟨some 41, none, .p (.mv (.t 7))⟩,
    ⟨some 42, none, .p (.mv (.t 8))⟩,
    ⟨some 43, none, .p (.ixS 2 (.t 41) (.t 42))⟩,
    ⟨some 44, none, .h (.load 2 true (.t 43))⟩,
    ⟨some 45, none, .p (.mksl 2 1 [.k (C.int .i64 0), .k (C.int .i64 0)] [(0, 2, .t 44)])⟩,
    ⟨some 46, none, .h (.app 2 (.t 40) (.t 45))⟩,
    ⟨some 5, none, .p (.mv (.t 46))⟩] [1, 2, 5, 6, 7, 8])
  .skip))))
  (.region [⟨some 21, none, .p (.mv (.t 8))⟩,
    ⟨some 22, none, .p (.bin .add (.t 21) (.k (.c (C.int .i64 1))))⟩,
    ⟨some 8, none, .p (.mv (.t 22))⟩] [1, 2, 5, 6, 7, 8]))) [1, 2, 5, 6, 7, 8])))
  (.seq (.region [⟨some 47, none, .p (.mv (.t 5))⟩,
    ⟨some 4, none, .p (.mv (.t 47))⟩] [4])
  .ret)))) }
theorem a174_ok : okFn Try.prog 174 a174 = true := by kernel_rfl
/-- loop.example/g01215/spec.l9Good -/
def a175 : AFn := { np := 2, nt := 11, res := [.t 4], body :=
  (.seq (.region [⟨some 2, none, .p (.box 24 (.t 0))⟩,
    ⟨some 4, none, .p (.mv (.k (.c (C.bool false))))⟩] [1, 2])
  (.seq (.region [⟨some 5, none, .h (.load 24 true (.t 2))⟩,
    ⟨some 6, none, .h (.call (.f 140) [.t 5])⟩,
    ⟨some 7, none, .p (.mv (.t 6))⟩,
    ⟨some 8, some (7, true), .p (.mv (.t 1))⟩,
    ⟨some 9, some (7, true), .h (.call (.f 144) [.t 8, .k (.c (C.int .i64 0)), .k (.c (C.int .i64 2))])⟩,
    ⟨some 10, none, .p (.pick (.t 7) (.t 9) (.k (.c (C.bool false))))⟩,
    ⟨some 4, none, .p (.mv (.t 10))⟩] [4])
  .ret)) }
theorem a175_ok : okFn Try.prog 175 a175 = true := by kernel_rfl
/-- loop.example/g01215/spec.l9Mean -/
def a176 : AFn := { np := 3, nt := 64, res := [.cell 6 2 true], body :=
  (.seq (.region [⟨some 3, none, .p (.box 24 (.t 0))⟩,
    ⟨some 6, none, .p (.alloc [.k (C.int .i64 0), .k (C.int .i64 0)])⟩] [1, 2, 3, 6])
  (.seq (.region [⟨some 13, none, .h (.load 24 true (.t 3))⟩,
    ⟨some 14, none, .h (.call (.f 183) [.t 13])⟩,
    ⟨some 7, none, .p (.mv (.t 14))⟩] [1, 2, 3, 6, 7])
  (.seq (.seq (.region [⟨some 15, none, .p (.mv (.t 1))⟩,
    ⟨some 16, none, .p (.bin .eql (.t 15) (.k (.c (C.int .i64 0))))⟩,
    ⟨some 17, none, .p (.mv (.t 16))⟩,
    ⟨some 18, some (17, false), .p (.mv (.t 7))⟩,
    ⟨some 19, some (17, false), .p (.len (.t 18))⟩,
    ⟨some 20, some (17, false), .p (.bin .eql (.t 19) (.k (.c (C.int .i64 0))))⟩,
    ⟨some 21, none, .p (.pick (.t 17) (.k (.c (C.bool true))) (.t 20))⟩] [1, 2, 3, 6, 7, 21])
  (.cond (.t 21)
  (.seq (.region [⟨some 22, none, .h (.load 24 true (.t 3))⟩,
    ⟨some 23, none, .p (.mv (.t 2))⟩,
    ⟨some 24, none, .h (.call (.f 233) [.t 22, .t 23])⟩,
    ⟨some 25, none, .p (.build [.k (C.int .i64 0), .k (C.int .i64 0)] [(0, 1, .t 24), (1, 1, .k (.c (C.int .i64 1)))])⟩,
    ⟨none, none, .h (.store 2 (.t 6) (.t 25))⟩] [6])
  .ret)
  .skip))
  (.seq (.region [⟨some 26, none, .p (.build [.k (C.int .i64 0), .k (C.int .i64 0)] [(0, 1, .k (.c (C.int .i64 0))), (1, 1, .k (.c (C.int .i64 1)))])⟩,
    ⟨some 8, none, .p (.alloc [.k (C.int .i64 0), .k (C.int .i64 0)])⟩,
    ⟨none, none, .h (.store 2 (.t 8) (.t 26))⟩] [1, 2, 3, 6, 7, 8])
  (.seq (.seq (.region [⟨some 9, none, .p (.mv (.k (.c (C.int .i64 0))))⟩] [1, 2, 3, 6, 7, 8, 9])
  (.block 0 (.loop (.seq (.seq (.region [⟨some 27, none, .p (.mv (.t 9))⟩,
    ⟨some 28, none, .p (.mv (.t 7))⟩,
    ⟨some 29, none, .p (.len (.t 28))⟩,
    ⟨some 30, none, .p (.bin .lss (.t 27) (.t 29))⟩] [1, 2, 3, 6, 7, 8, 9, 30])
  (.cond (.t 30)
  .skip
  (.exit 0)))
  (.seq (.block 1 (.seq (.regionD [⟨some 34, none, .h (.load 24 true (.t 3))⟩,
    ⟨some 35, none, .p (.mv (.t 7))⟩,
    ⟨some 36, none, .p (.mv (.t 9))⟩,
    ⟨some 37, none, .p (.ixS 2 (.t 35) (.t 36))⟩,
    ⟨some 38, none, .p (.ixA 2 1 (.t 37) (.k (.c (C.int .i64 0))))⟩,
    ⟨some 39, none, .h (.load 1 false (.t 38))⟩,
    ⟨some 40, none, .p (.mv (.t 7))⟩,
    ⟨some 41, none, .p (.mv (.t 9))⟩,
    ⟨some 42, none, .p (.ixS 2 (.t 40) (.t 41))⟩,
    ⟨some 43, none, .p (.ixA 2 1 (.t 42) (.k (.c (C.int .i64 1))))⟩,
    ⟨some 44, none, .h (.load 1 false (.t 43))⟩,
    ⟨some 45, none, .h (.call (.f 148) [.t 34, .t 39, .t 44])⟩,
    ⟨some 33, none, .p (.mv (.t 45))⟩,
    ⟨some 46, none, .p (.ext (.t 33) 0)⟩,
    ⟨some 47, none, .p (.ext (.t 33) 1)⟩,
    ⟨some 10, none, .p (.alloc (List.replicate 24 (.k (C.int .i64 0))))⟩,
    ⟨none, none, .h (.store 24 (.t 10) (.t 46))⟩,
    ⟨some 11, none, .p (.mv (.t 47))⟩] [1, 2, 3, 6, 7, 8, 9, 10] [])
  (.seq (.region [⟨some 48, none, .h (.load 24 true (.t 10))⟩,
    ⟨some 49, none, .p (.mv (.t 1))⟩,
    ⟨some 50, none, .p (.bin .sub (.t 49) (.k (.c (C.int .i64 1))))⟩,
    ⟨some 51, none, .p (.mv (.t 2))⟩,
    ⟨some 52, none, .h (.call (.f 176) [.t 48, .t 50, .t 51])⟩,
    ⟨some 12, none, .p (.alloc [.k (C.int .i64 0), .k (C.int .i64 0)])⟩,
    ⟨none, none, .h (.store 2 (.t 12) (.t 52))⟩] [1, 2, 3, 6, 7, 8, 9, 12])
  (.regionD [⟨some 53, none, .h (.load 2 true (.t 8))⟩,
    ⟨some 54, none, .p (.ixA 2 1 (.t 12) (.k (.c (C.int .i64 0))))⟩,
    ⟨some 55, none, .h (.load 1 false (.t 54))⟩,
    ⟨some 56, none, .p (.ixA 2 1 (.t 12) (.k (.c (C.int .i64 1))))⟩,
    ⟨some 57, none, .h (.load 1 false (.t 56))⟩,
    ⟨some 58, none, .p (.mv (.t 7))⟩,
    ⟨some 59, none, .p (.len (.t 58))⟩,
    ⟨some 60, none, .p (.bin .mul (.t 57) (.t 59))⟩,
    ⟨some 61, none, .h (.call (.f 133) [.t 55, .t 60])⟩,
    ⟨some 62, none, .h (.call (.f 190) [.t 53, .t 61])⟩,
    ⟨none, none, .h (.store 2 (.t 8) (.t 62))⟩] [1, 2, 3, 6, 7, 8, 9] []))))
  (.region [⟨some 31, none, .p (.mv (.t 9))⟩,
    ⟨some 32, none, .p (.bin .add (.t 31) (.k (.c (C.int .i64 1))))⟩,
    ⟨some 9, none, .p (.mv (.t 32))⟩] [1, 2, 3, 6, 7, 8, 9]))) [1, 2, 3, 6, 7, 8, 9])))
  (.seq (.region [⟨some 63, none, .h (.load 2 true (.t 8))⟩,
    ⟨none, none, .h (.store 2 (.t 6) (.t 63))⟩] [6])
  .ret)))))) }
theorem a176_ok : okFn Try.prog 176 a176 = true := by kernel_rfl
/-- loop.example/g01215/impl.isPlay -/
def a177 : AFn := { np := 3, nt := 14, res := [.t 6], body :=
  (.seq (.region [⟨some 3, none, .p (.box 24 (.t 0))⟩,
    ⟨some 6, none, .p (.mv (.k (.c (C.bool false))))⟩] [1, 2, 3])
  (.seq (.region [⟨some 7, none, .h (.load 24 true (.t 3))⟩,
    ⟨some 8, none, .h (.call (.f 121) [.t 7])⟩,
    ⟨some 9, none, .p (.mv (.t 8))⟩,
    ⟨some 10, some (9, true), .p (.mv (.t 1))⟩,
    ⟨some 11, some (9, true), .p (.mv (.t 2))⟩,
    ⟨some 12, some (9, true), .h (.call (.f 152) [.t 10, .k (.c (C.int .i64 0)), .t 11])⟩,
    ⟨some 13, none, .p (.pick (.t 9) (.t 12) (.k (.c (C.bool false))))⟩,
    ⟨some 6, none, .p (.mv (.t 13))⟩] [6])
  .ret)) }
theorem a177_ok : okFn Try.prog 177 a177 = true := by kernel_rfl
/-- loop.example/g01215/impl.mean -/
def a178 : AFn := { np := 3, nt := 59, res := [.cell 6 2 true], body :=
  (.seq (.region [⟨some 3, none, .p (.box 24 (.t 0))⟩,
    ⟨some 6, none, .p (.alloc [.k (C.int .i64 0), .k (C.int .i64 0)])⟩] [1, 2, 3, 6])
  (.seq (.seq (.region [⟨some 14, none, .p (.mv (.t 1))⟩,
    ⟨some 15, none, .p (.bin .eql (.t 14) (.k (.c (C.int .i64 0))))⟩,
    ⟨some 16, none, .p (.mv (.t 15))⟩,
    ⟨some 17, some (16, false), .h (.load 24 true (.t 3))⟩,
    ⟨some 18, some (16, false), .h (.call (.f 184) [.t 17])⟩,
    ⟨some 19, none, .p (.pick (.t 16) (.k (.c (C.bool true))) (.t 18))⟩] [1, 2, 3, 6, 19])
  (.cond (.t 19)
  (.seq (.region [⟨some 20, none, .p (.mv (.t 2))⟩,
    ⟨some 21, none, .h (.load 24 true (.t 3))⟩,
    ⟨some 22, none, .h (.call (.t 20) [.t 21])⟩,
    ⟨some 23, none, .p (.build [.k (C.int .i64 0), .k (C.int .i64 0)] [(0, 1, .t 22), (1, 1, .k (.c (C.int .i64 1)))])⟩,
    ⟨none, none, .h (.store 2 (.t 6) (.t 23))⟩] [6])
  .ret)
  .skip))
  (.seq (.region [⟨some 24, none, .h (.load 24 true (.t 3))⟩,
    ⟨some 25, none, .h (.call (.f 143) [.t 24])⟩,
    ⟨some 7, none, .p (.mv (.t 25))⟩] [1, 2, 3, 6, 7])
  (.seq (.region [⟨some 26, none, .p (.build [.k (C.int .i64 0), .k (C.int .i64 0)] [(0, 1, .k (.c (C.int .i64 0))), (1, 1, .k (.c (C.int .i64 1)))])⟩,
    ⟨some 8, none, .p (.alloc [.k (C.int .i64 0), .k (C.int .i64 0)])⟩,
    ⟨none, none, .h (.store 2 (.t 8) (.t 26))⟩] [1, 2, 3, 6, 7, 8])
  (.seq (.seq (.region [⟨some 27, none, .p (.mv (.t 7))⟩,
    ⟨some 28, none, .p (.len (.t 27))⟩,
    ⟨some 29, none, .p (.mv (.k (.c (C.int .i64 0))))⟩] [1, 2, 3, 6, 7, 8, 27, 28, 29])
  (.block 0 (.loop (.seq (.region [⟨some 30, none, .p (.bin .lss (.t 29) (.t 28))⟩] [1, 2, 3, 6, 7, 8, 27, 28, 29, 30])
  (.seq (.cond (.t 30)
  .skip
  (.exit 0))
  (.seq (.block 1 (.seq (.region [⟨some 31, none, .p (.ixS 2 (.t 27) (.t 29))⟩,
    ⟨some 32, none, .h (.load 2 true (.t 31))⟩,
    ⟨some 10, none, .p (.alloc [.k (C.int .i64 0), .k (C.int .i64 0)])⟩,
    ⟨none, none, .h (.store 2 (.t 10) (.t 32))⟩] [1, 2, 3, 6, 7, 8, 10, 27, 28, 29])
  (.seq (.region [⟨some 34, none, .h (.load 24 true (.t 3))⟩,
    ⟨some 35, none, .p (.ixA 2 1 (.t 10) (.k (.c (C.int .i64 0))))⟩,
    ⟨some 36, none, .h (.load 1 false (.t 35))⟩,
    ⟨some 37, none, .p (.ixA 2 1 (.t 10) (.k (.c (C.int .i64 1))))⟩,
    ⟨some 38, none, .h (.load 1 false (.t 37))⟩,
    ⟨some 39, none, .h (.call (.f 149) [.t 34, .t 36, .t 38])⟩,
    ⟨some 33, none, .p (.mv (.t 39))⟩,
    ⟨some 40, none, .p (.ext (.t 33) 0)⟩,
    ⟨some 41, none, .p (.ext (.t 33) 1)⟩,
    ⟨some 11, none, .p (.alloc (List.replicate 24 (.k (C.int .i64 0))))⟩,
    ⟨none, none, .h (.store 24 (.t 11) (.t 40))⟩,
    ⟨some 12, none, .p (.mv (.t 41))⟩] [1, 2, 3, 6, 7, 8, 11, 27, 28, 29])
  (.seq (.region [⟨some 42, none, .h (.load 24 true (.t 11))⟩,
    ⟨some 43, none, .p (.mv (.t 1))⟩,
    ⟨some 44, none, .p (.bin .sub (.t 43) (.k (.c (C.int .i64 1))))⟩,
    ⟨some 45, none, .p (.mv (.t 2))⟩,
    ⟨some 46, none, .h (.call (.f 178) [.t 42, .t 44, .t 45])⟩,
    ⟨some 13, none, .p (.alloc [.k (C.int .i64 0), .k (C.int .i64 0)])⟩,
    ⟨none, none, .h (.store 2 (.t 13) (.t 46))⟩] [1, 2, 3, 6, 7, 8, 13, 27, 28, 29])
  (.regionD [⟨some 47, none, .h (.load 2 true (.t 8))⟩,
    ⟨some 48, none, .p (.ixA 2 1 (.t 13) (.k (.c (C.int .i64 0))))⟩,
    ⟨some 49, none, .h (.load 1 false (.t 48))⟩,
    ⟨some 50, none, .p (.ixA 2 1 (.t 13) (.k (.c (C.int .i64 1))))⟩,
    ⟨some 51, none, .h (.load 1 false (.t 50))⟩,
    ⟨some 52, none, .p (.mv (.t 7))⟩,
    ⟨some 53, none, .p (.len (.t 52))⟩,
    ⟨some 54, none, .p (.bin .mul (.t 51) (.t 53))⟩,
    ⟨some 55, none, .h (.call (.f 137) [.t 49, .t 54])⟩,
    ⟨some 56, none, .h (.call (.f 189) [.t 47, .t 55])⟩,
    ⟨none, none, .h (.store 2 (.t 8) (.t 56))⟩] [1, 2, 3, 6, 7, 8, 27, 28, 29] [])))))
  (.region [⟨some 57, none, .p (.bin .add (.t 29) (.k (.c (C.int .i64 1))))⟩,
    ⟨some 29, none, .p (.mv (.t 57))⟩] [1, 2, 3, 6, 7, 8, 27, 28, 29])))) [1, 2, 3, 6, 7, 8, 27, 28, 29])))
  (.seq (.region [⟨some 58, none, .h (.load 2 true (.t 8))⟩,
    ⟨none, none, .h (.store 2 (.t 6) (.t 58))⟩] [6])
  .ret)))))) }
theorem a178_ok : okFn Try.prog 178 a178 = true := by kernel_rfl
/-- loop.example/g01215/impl.ChanceStuckBy$1 -/
def a179 : AFn := { np := 1, nt := 5, res := [.t 2], body :=
  (.seq (.region [⟨some 1, none, .p (.box 24 (.t 0))⟩,
    ⟨some 2, none, .p (.mv (.k (.c (C.int .i64 0))))⟩] [1])
  (.seq (.seq (.region [⟨some 3, none, .h (.load 24 true (.t 1))⟩,
    ⟨some 4, none, .h (.call (.f 180) [.t 3])⟩] [4])
  (.cond (.t 4)
  (.seq (.region [⟨some 2, none, .p (.mv (.k (.c (C.int .i64 1))))⟩] [2])
  .ret)
  .skip))
  (.seq (.region [⟨some 2, none, .p (.mv (.k (.c (C.int .i64 0))))⟩] [2])
  .ret))) }
theorem a179_ok : okFn Try.prog 179 a179 = true := by kernel_rfl
/-- loop.example/g01215/impl.isStuck -/
def a180 : AFn := { np := 1, nt := 12, res := [.t 2], body :=
  (.seq (.region [⟨some 1, none, .p (.box 24 (.t 0))⟩,
    ⟨some 2, none, .p (.mv (.k (.c (C.bool false))))⟩] [1])
  (.seq (.region [⟨some 3, none, .h (.load 24 true (.t 1))⟩,
    ⟨some 4, none, .h (.call (.f 232) [.t 3])⟩,
    ⟨some 5, none, .p (.un .not (.t 4))⟩,
    ⟨some 6, none, .p (.mv (.t 5))⟩,
    ⟨some 7, some (6, true), .h (.load 24 true (.t 1))⟩,
    ⟨some 8, some (6, true), .h (.call (.f 143) [.t 7])⟩,
    ⟨some 9, some (6, true), .p (.len (.t 8))⟩,
    ⟨some 10, some (6, true), .p (.bin .eql (.t 9) (.k (.c (C.int .i64 0))))⟩,
    ⟨some 11, none, .p (.pick (.t 6) (.t 10) (.k (.c (C.bool false))))⟩,
    ⟨some 2, none, .p (.mv (.t 11))⟩] [2])
  .ret)) }
theorem a180_ok : okFn Try.prog 180 a180 = true := by kernel_rfl
/-- loop.example/g01215/impl.countRuns -/
def a181 : AFn := { np := 1, nt := 18, res := [.t 2], body :=
  (.seq (.region [⟨some 1, none, .p (.box 24 (.t 0))⟩,
    ⟨some 2, none, .p (.mv (.k (.c (C.int .i64 0))))⟩] [1])
  (.seq (.region [⟨some 3, none, .p (.mv (.k (.c (C.int .i64 0))))⟩] [1, 3])
  (.seq (.seq (.region [⟨some 6, none, .p (.fld 0 (.t 1))⟩,
    ⟨some 7, none, .h (.load 24 true (.t 6))⟩,
    ⟨some 8, none, .p (.mv (.k (.c (C.int .i64 0))))⟩] [3, 7, 8])
  (.block 0 (.loop (.seq (.region [⟨some 9, none, .p (.bin .lss (.t 8) (.k (.c (C.int .i64 6))))⟩] [3, 7, 8, 9])
  (.seq (.cond (.t 9)
  .skip
  (.exit 0))
  (.seq (.block 1 (.seq (.region [⟨some 10, none, .p (.ixV 6 4 true (.t 7) (.t 8))⟩,
    ⟨some 5, none, .p (.alloc [.k (C.int .i64 0), .k (C.int .i64 0), .k (C.int .i64 0), .k (C.int .i64 0)])⟩,
    ⟨none, none, .h (.store 4 (.t 5) (.t 10))⟩] [3, 5, 7, 8])
  (.region [⟨some 11, none, .p (.mv (.t 3))⟩,
    ⟨some 12, none, .h (.load 4 true (.t 5))⟩,
    ⟨some 13, none, .h (.call (.f 225) [.t 12])⟩,
    ⟨some 14, none, .p (.len (.t 13))⟩,
    ⟨some 15, none, .p (.bin .add (.t 11) (.t 14))⟩,
    ⟨some 3, none, .p (.mv (.t 15))⟩] [3, 7, 8])))
  (.region [⟨some 16, none, .p (.bin .add (.t 8) (.k (.c (C.int .i64 1))))⟩,
    ⟨some 8, none, .p (.mv (.t 16))⟩] [3, 7, 8])))) [3, 7, 8])))
  (.seq (.region [⟨some 17, none, .p (.mv (.t 3))⟩,
    ⟨some 2, none, .p (.mv (.t 17))⟩] [2])
  .ret)))) }
theorem a181_ok : okFn Try.prog 181 a181 = true := by kernel_rfl
/-- loop.example/g01215/impl.chanceSorted -/
def a182 : AFn := { np := 2, nt := 8, res := [.cell 4 2 true], body :=
  (.seq (.region [⟨some 2, none, .p (.box 24 (.t 0))⟩,
    ⟨some 4, none, .p (.alloc [.k (C.int .i64 0), .k (C.int .i64 0)])⟩] [1, 2, 4])
  (.seq (.region [⟨some 5, none, .h (.load 24 true (.t 2))⟩,
    ⟨some 6, none, .p (.mv (.t 1))⟩,
    ⟨some 7, none, .h (.call (.f 178) [.t 5, .t 6, .f 234])⟩,
    ⟨none, none, .h (.store 2 (.t 4) (.t 7))⟩] [4])
  .ret)) }
theorem a182_ok : okFn Try.prog 182 a182 = true := by kernel_rfl
/-- loop.example/g01215/spec.l9Moves -/
def a183 : AFn := { np := 1, nt := 8, res := [.t 2], body :=
  (.seq (.region [⟨some 1, none, .p (.box 24 (.t 0))⟩,
    ⟨some 2, none, .p (.nilsl 2)⟩] [1])
  (.seq (.seq (.region [⟨some 3, none, .h (.load 24 true (.t 1))⟩,
    ⟨some 4, none, .h (.call (.f 172) [.t 3])⟩] [1, 4])
  (.cond (.t 4)
  (.seq (.region [⟨some 5, none, .p (.mksl 2 0 [.k (C.int .i64 0), .k (C.int .i64 0)] [])⟩,
    ⟨some 2, none, .p (.mv (.t 5))⟩] [2])
  .ret)
  .skip))
  (.seq (.region [⟨some 6, none, .h (.load 24 true (.t 1))⟩,
    ⟨some 7, none, .h (.call (.f 141) [.t 6])⟩,
    ⟨some 2, none, .p (.mv (.t 7))⟩] [2])
  .ret))) }
theorem a183_ok : okFn Try.prog 183 a183 = true := by kernel_rfl
/-- loop.example/g01215/impl.isEnd -/
def a184 : AFn := { np := 1, nt := 11, res := [.t 2], body :=
  (.seq (.region [⟨some 1, none, .p (.box 24 (.t 0))⟩,
    ⟨some 2, none, .p (.mv (.k (.c (C.bool false))))⟩] [1])
  (.seq (.region [⟨some 3, none, .h (.load 24 true (.t 1))⟩,
    ⟨some 4, none, .h (.call (.f 232) [.t 3])⟩,
    ⟨some 5, none, .p (.mv (.t 4))⟩,
    ⟨some 6, some (5, false), .h (.load 24 true (.t 1))⟩,
    ⟨some 7, some (5, false), .h (.call (.f 143) [.t 6])⟩,
    ⟨some 8, some (5, false), .p (.len (.t 7))⟩,
    ⟨some 9, some (5, false), .p (.bin .eql (.t 8) (.k (.c (C.int .i64 0))))⟩,
    ⟨some 10, none, .p (.pick (.t 5) (.k (.c (C.bool true))) (.t 9))⟩,
    ⟨some 2, none, .p (.mv (.t 10))⟩] [2])
  .ret)) }
theorem a184_ok : okFn Try.prog 184 a184 = true := by kernel_rfl
/-- loop.example/g01215/spec.l6Bound -/
def a185 : AFn := { np := 1, nt := 22, res := [.t 2], body :=
  (.seq (.region [⟨some 1, none, .p (.box 24 (.t 0))⟩,
    ⟨some 2, none, .p (.mv (.k (.c (C.int .i64 0))))⟩] [1])
  (.seq (.regionD [⟨some 6, none, .h (.load 24 true (.t 1))⟩,
    ⟨some 7, none, .h (.call (.f 235) [.t 6])⟩,
    ⟨some 8, none, .h (.load 24 true (.t 1))⟩,
    ⟨some 9, none, .h (.call (.f 236) [.t 8])⟩,
    ⟨some 4, none, .p (.alloc [.k (C.int .i64 0), .k (C.int .i64 0), .k (C.int .i64 0), .k (C.int .i64 0), .k (C.int .i64 0), .k (C.int .i64 0)])⟩,
    ⟨some 3, none, .p (.mv (.t 7))⟩,
    ⟨none, none, .h (.store 6 (.t 4) (.t 9))⟩] [3, 4] [])
  (.seq (.seq (.region [⟨some 5, none, .p (.mv (.k (.c (C.int .i64 1))))⟩] [3, 4, 5])
  (.block 0 (.loop (.seq (.seq (.region [⟨some 10, none, .p (.mv (.t 5))⟩,
    ⟨some 11, none, .p (.bin .leq (.t 10) (.k (.c (C.int .i64 5))))⟩] [3, 4, 5, 11])
  (.cond (.t 11)
  .skip
  (.exit 0)))
  (.seq (.block 1 (.region [⟨some 14, none, .p (.mv (.t 3))⟩,
    ⟨some 15, none, .p (.mv (.t 5))⟩,
    ⟨some 16, none, .p (.ixA 6 1 (.t 4) (.t 15))⟩,
    ⟨some 17, none, .h (.load 1 false (.t 16))⟩,
    ⟨some 18, none, .p (.bin .sub (.t 17) (.k (.c (C.int .i64 1))))⟩,
    ⟨some 19, none, .h (.call (.f 208) [.k (.c (C.int .i64 0)), .t 18])⟩,
    ⟨some 20, none, .p (.bin .add (.t 14) (.t 19))⟩,
    ⟨some 3, none, .p (.mv (.t 20))⟩] [3, 4, 5]))
  (.region [⟨some 12, none, .p (.mv (.t 5))⟩,
    ⟨some 13, none, .p (.bin .add (.t 12) (.k (.c (C.int .i64 1))))⟩,
    ⟨some 5, none, .p (.mv (.t 13))⟩] [3, 4, 5]))) [3, 4, 5])))
  (.seq (.region [⟨some 21, none, .p (.mv (.t 3))⟩,
    ⟨some 2, none, .p (.mv (.t 21))⟩] [2])
  .ret)))) }
theorem a185_ok : okFn Try.prog 185 a185 = true := by kernel_rfl
/-- loop.example/g01215/impl.bound -/
def a186 : AFn := { np := 1, nt := 24, res := [.t 2], body :=
  (.seq (.region [⟨some 1, none, .p (.box 24 (.t 0))⟩,
    ⟨some 2, none, .p (.mv (.k (.c (C.int .i64 0))))⟩] [1])
  (.seq (.region [⟨some 7, none, .h (.load 24 true (.t 1))⟩,
    ⟨some 8, none, .h (.call (.f 237) [.t 7])⟩,
    ⟨some 3, none, .p (.mv (.t 8))⟩] [1, 3])
  (.seq (.region [⟨some 9, none, .h (.load 24 true (.t 1))⟩,
    ⟨some 10, none, .h (.call (.f 238) [.t 9])⟩,
    ⟨some 4, none, .p (.alloc [.k (C.int .i64 0), .k (C.int .i64 0), .k (C.int .i64 0), .k (C.int .i64 0), .k (C.int .i64 0), .k (C.int .i64 0)])⟩,
    ⟨none, none, .h (.store 6 (.t 4) (.t 10))⟩] [3, 4])
  (.seq (.seq (.region [⟨some 11, none, .h (.slA 6 1 (.t 4) (some (.k (.c (C.int .i64 1)))) none)⟩,
    ⟨some 12, none, .p (.len (.t 11))⟩,
    ⟨some 13, none, .p (.mv (.k (.c (C.int .i64 0))))⟩] [3, 11, 12, 13])
  (.block 0 (.loop (.seq (.region [⟨some 14, none, .p (.bin .lss (.t 13) (.t 12))⟩] [3, 11, 12, 13, 14])
  (.seq (.cond (.t 14)
  .skip
  (.exit 0))
  (.seq (.block 1 (.seq (.region [⟨some 15, none, .p (.ixS 1 (.t 11) (.t 13))⟩,
    ⟨some 16, none, .h (.load 1 false (.t 15))⟩,
    ⟨some 6, none, .p (.mv (.t 16))⟩] [3, 6, 11, 12, 13])
  (.region [⟨some 17, none, .p (.mv (.t 3))⟩,
    ⟨some 18, none, .p (.mv (.t 6))⟩,
    ⟨some 19, none, .p (.bin .sub (.t 18) (.k (.c (C.int .i64 1))))⟩,
    ⟨some 20, none, .p (.mnmx true [.t 19, .k (.c (C.int .i64 0))])⟩,
    ⟨some 21, none, .p (.bin .add (.t 17) (.t 20))⟩,
    ⟨some 3, none, .p (.mv (.t 21))⟩] [3, 11, 12, 13])))
  (.region [⟨some 22, none, .p (.bin .add (.t 13) (.k (.c (C.int .i64 1))))⟩,
    ⟨some 13, none, .p (.mv (.t 22))⟩] [3, 11, 12, 13])))) [3, 11, 12, 13])))
  (.seq (.region [⟨some 23, none, .p (.mv (.t 3))⟩,
    ⟨some 2, none, .p (.mv (.t 23))⟩] [2])
  .ret))))) }
theorem a186_ok : okFn Try.prog 186 a186 = true := by kernel_rfl
/-- loop.example/g01215/impl.plus -/
def a189 : AFn := { np := 2, nt := 22, res := [.cell 4 2 true], body :=
  (.seq (.region [⟨some 2, none, .p (.box 2 (.t 0))⟩,
    ⟨some 3, none, .p (.box 2 (.t 1))⟩,
    ⟨some 4, none, .p (.alloc [.k (C.int .i64 0), .k (C.int .i64 0)])⟩] [2, 3, 4])
  (.seq (.region [⟨some 5, none, .p (.ixA 2 1 (.t 2) (.k (.c (C.int .i64 0))))⟩,
    ⟨some 6, none, .h (.load 1 false (.t 5))⟩,
    ⟨some 7, none, .p (.ixA 2 1 (.t 3) (.k (.c (C.int .i64 1))))⟩,
    ⟨some 8, none, .h (.load 1 false (.t 7))⟩,
    ⟨some 9, none, .p (.bin .mul (.t 6) (.t 8))⟩,
    ⟨some 10, none, .p (.ixA 2 1 (.t 3) (.k (.c (C.int .i64 0))))⟩,
    ⟨some 11, none, .h (.load 1 false (.t 10))⟩,
    ⟨some 12, none, .p (.ixA 2 1 (.t 2) (.k (.c (C.int .i64 1))))⟩,
    ⟨some 13, none, .h (.load 1 false (.t 12))⟩,
    ⟨some 14, none, .p (.bin .mul (.t 11) (.t 13))⟩,
    ⟨some 15, none, .p (.bin .add (.t 9) (.t 14))⟩,
    ⟨some 16, none, .p (.ixA 2 1 (.t 2) (.k (.c (C.int .i64 1))))⟩,
    ⟨some 17, none, .h (.load 1 false (.t 16))⟩,
    ⟨some 18, none, .p (.ixA 2 1 (.t 3) (.k (.c (C.int .i64 1))))⟩,
    ⟨some 19, none, .h (.load 1 false (.t 18))⟩,
    ⟨some 20, none, .p (.bin .mul (.t 17) (.t 19))⟩,
    ⟨some 21, none, .h (.call (.f 137) [.t 15, .t 20])⟩,
    ⟨none, none, .h (.store 2 (.t 4) (.t 21))⟩] [4])
  .ret)) }
theorem a189_ok : okFn Try.prog 189 a189 = true := by kernel_rfl
/-- loop.example/g01215/spec.l7Plus -/
def a190 : AFn := { np := 2, nt := 22, res := [.cell 4 2 true], body :=
  (.seq (.region [⟨some 2, none, .p (.box 2 (.t 0))⟩,
    ⟨some 3, none, .p (.box 2 (.t 1))⟩,
    ⟨some 4, none, .p (.alloc [.k (C.int .i64 0), .k (C.int .i64 0)])⟩] [2, 3, 4])
  (.seq (.region [⟨some 5, none, .p (.ixA 2 1 (.t 2) (.k (.c (C.int .i64 0))))⟩,
    ⟨some 6, none, .h (.load 1 false (.t 5))⟩,
    ⟨some 7, none, .p (.ixA 2 1 (.t 3) (.k (.c (C.int .i64 1))))⟩,
    ⟨some 8, none, .h (.load 1 false (.t 7))⟩,
    ⟨some 9, none, .p (.bin .mul (.t 6) (.t 8))⟩,
    ⟨some 10, none, .p (.ixA 2 1 (.t 3) (.k (.c (C.int .i64 0))))⟩,
    ⟨some 11, none, .h (.load 1 false (.t 10))⟩,
    ⟨some 12, none, .p (.ixA 2 1 (.t 2) (.k (.c (C.int .i64 1))))⟩,
    ⟨some 13, none, .h (.load 1 false (.t 12))⟩,
    ⟨some 14, none, .p (.bin .mul (.t 11) (.t 13))⟩,
    ⟨some 15, none, .p (.bin .add (.t 9) (.t 14))⟩,
    ⟨some 16, none, .p (.ixA 2 1 (.t 2) (.k (.c (C.int .i64 1))))⟩,
    ⟨some 17, none, .h (.load 1 false (.t 16))⟩,
    ⟨some 18, none, .p (.ixA 2 1 (.t 3) (.k (.c (C.int .i64 1))))⟩,
    ⟨some 19, none, .h (.load 1 false (.t 18))⟩,
    ⟨some 20, none, .p (.bin .mul (.t 17) (.t 19))⟩,
    ⟨some 21, none, .h (.call (.f 133) [.t 15, .t 20])⟩,
    ⟨none, none, .h (.store 2 (.t 4) (.t 21))⟩] [4])
  .ret)) }
theorem a190_ok : okFn Try.prog 190 a190 = true := by kernel_rfl
/-- loop.example/g01215/impl.isPlace -/
def a194 : AFn := { np := 1, nt := 5, res := [.t 2], body :=
  (.seq (.region [⟨some 2, none, .p (.mv (.k (.c (C.bool false))))⟩] [0])
  (.seq (.region [⟨some 3, none, .p (.mv (.t 0))⟩,
    ⟨some 4, none, .h (.call (.f 152) [.t 3, .k (.c (C.int .i64 0)), .k (.c (C.int .i64 5))])⟩,
    ⟨some 2, none, .p (.mv (.t 4))⟩] [2])
  .ret)) }
theorem a194_ok : okFn Try.prog 194 a194 = true := by kernel_rfl
/-- loop.example/g01215/impl.isColor -/
def a195 : AFn := { np := 1, nt := 5, res := [.t 2], body :=
  (.seq (.region [⟨some 2, none, .p (.mv (.k (.c (C.bool false))))⟩] [0])
  (.seq (.region [⟨some 3, none, .p (.mv (.t 0))⟩,
    ⟨some 4, none, .h (.call (.f 152) [.t 3, .k (.c (C.int .i64 1)), .k (.c (C.int .i64 5))])⟩,
    ⟨some 2, none, .p (.mv (.t 4))⟩] [2])
  .ret)) }
theorem a195_ok : okFn Try.prog 195 a195 = true := by kernel_rfl
/-- loop.example/g01215/impl.sum -/
def a196 : AFn := { np := 1, nt := 17, res := [.t 2], body :=
  (.seq (.region [⟨some 2, none, .p (.mv (.k (.c (C.int .i64 0))))⟩] [0])
  (.seq (.region [⟨some 3, none, .p (.mv (.k (.c (C.int .i64 0))))⟩] [0, 3])
  (.seq (.seq (.region [⟨some 6, none, .p (.mv (.t 0))⟩,
    ⟨some 7, none, .p (.len (.t 6))⟩,
    ⟨some 8, none, .p (.mv (.k (.c (C.int .i64 0))))⟩] [3, 6, 7, 8])
  (.block 0 (.loop (.seq (.region [⟨some 9, none, .p (.bin .lss (.t 8) (.t 7))⟩] [3, 6, 7, 8, 9])
  (.seq (.cond (.t 9)
  .skip
  (.exit 0))
  (.seq (.block 1 (.seq (.region [⟨some 10, none, .p (.ixS 1 (.t 6) (.t 8))⟩,
    ⟨some 11, none, .h (.load 1 false (.t 10))⟩,
    ⟨some 5, none, .p (.mv (.t 11))⟩] [3, 5, 6, 7, 8])
  (.region [⟨some 12, none, .p (.mv (.t 3))⟩,
    ⟨some 13, none, .p (.mv (.t 5))⟩,
    ⟨some 14, none, .p (.bin .add (.t 12) (.t 13))⟩,
    ⟨some 3, none, .p (.mv (.t 14))⟩] [3, 6, 7, 8])))
  (.region [⟨some 15, none, .p (.bin .add (.t 8) (.k (.c (C.int .i64 1))))⟩,
    ⟨some 8, none, .p (.mv (.t 15))⟩] [3, 6, 7, 8])))) [3, 6, 7, 8])))
  (.seq (.region [⟨some 16, none, .p (.mv (.t 3))⟩,
    ⟨some 2, none, .p (.mv (.t 16))⟩] [2])
  .ret)))) }
theorem a196_ok : okFn Try.prog 196 a196 = true := by kernel_rfl
/-- loop.example/g01215/spec.l2Place -/
def a197 : AFn := { np := 1, nt := 5, res := [.t 2], body :=
  (.seq (.region [⟨some 2, none, .p (.mv (.k (.c (C.bool false))))⟩] [0])
  (.seq (.region [⟨some 3, none, .p (.mv (.t 0))⟩,
    ⟨some 4, none, .h (.call (.f 144) [.t 3, .k (.c (C.int .i64 0)), .k (.c (C.int .i64 5))])⟩,
    ⟨some 2, none, .p (.mv (.t 4))⟩] [2])
  .ret)) }
theorem a197_ok : okFn Try.prog 197 a197 = true := by kernel_rfl
/-- loop.example/g01215/impl.areAll[[4]int] -/
def a200 : AFn := { np := 2, nt := 9, res := [.t 4], body :=
  (.seq (.region [⟨some 3, none, .p (.box 1 (.t 1))⟩,
    ⟨some 4, none, .p (.mv (.k (.c (C.bool false))))⟩] [0, 3])
  (.seq (.region [⟨some 5, none, .p (.mv (.t 0))⟩,
    ⟨some 6, none, .p (.mkfn 244 [.t 3])⟩,
    ⟨some 7, none, .h (.call (.f 243) [.t 5, .t 6])⟩,
    ⟨some 8, none, .p (.un .not (.t 7))⟩,
    ⟨some 4, none, .p (.mv (.t 8))⟩] [4])
  .ret)) }
theorem a200_ok : okFn Try.prog 200 a200 = true := by kernel_rfl
/-- loop.example/g01215/impl.isTube -/
def a201 : AFn := { np := 1, nt := 14, res := [.t 2], body :=
  (.seq (.region [⟨some 1, none, .p (.box 4 (.t 0))⟩,
    ⟨some 2, none, .p (.mv (.k (.c (C.bool false))))⟩] [1])
  (.seq (.region [⟨some 4, none, .h (.load 4 true (.t 1))⟩,
    ⟨some 5, none, .h (.call (.f 221) [.t 4])⟩,
    ⟨some 3, none, .p (.mv (.t 5))⟩] [1, 3])
  (.seq (.region [⟨some 6, none, .p (.mv (.t 3))⟩,
    ⟨some 7, none, .h (.slA 4 1 (.t 1) none (some (.t 6)))⟩,
    ⟨some 8, none, .h (.call (.f 209) [.t 7, .f 195])⟩,
    ⟨some 9, none, .p (.mv (.t 8))⟩,
    ⟨some 10, some (9, true), .p (.mv (.t 3))⟩,
    ⟨some 11, some (9, true), .h (.slA 4 1 (.t 1) (some (.t 10)) none)⟩,
    ⟨some 12, some (9, true), .h (.call (.f 209) [.t 11, .f 245])⟩,
    ⟨some 13, none, .p (.pick (.t 9) (.t 12) (.k (.c (C.bool false))))⟩,
    ⟨some 2, none, .p (.mv (.t 13))⟩] [2])
  .ret))) }
theorem a201_ok : okFn Try.prog 201 a201 = true := by kernel_rfl
/-- loop.example/g01215/impl.canPour -/
def a203 : AFn := { np := 3, nt := 51, res := [.t 6], body :=
  (.seq (.region [⟨some 3, none, .p (.box 24 (.t 0))⟩,
    ⟨some 6, none, .p (.mv (.k (.c (C.bool false))))⟩] [1, 2, 3])
  (.seq (.region [⟨some 12, none, .p (.mv (.t 1))⟩,
    ⟨some 13, none, .p (.fld 0 (.t 3))⟩,
    ⟨some 14, none, .p (.ixA 6 4 (.t 13) (.t 12))⟩,
    ⟨some 15, none, .h (.load 4 true (.t 14))⟩,
    ⟨some 16, none, .h (.call (.f 220) [.t 15])⟩,
    ⟨some 11, none, .p (.mv (.t 16))⟩,
    ⟨some 17, none, .p (.ext (.t 11) 0)⟩,
    ⟨some 18, none, .p (.ext (.t 11) 1)⟩,
    ⟨some 7, none, .p (.mv (.t 17))⟩,
    ⟨some 8, none, .p (.mv (.t 18))⟩] [1, 2, 3, 7])
  (.seq (.region [⟨some 20, none, .p (.mv (.t 2))⟩,
    ⟨some 21, none, .p (.fld 0 (.t 3))⟩,
    ⟨some 22, none, .p (.ixA 6 4 (.t 21) (.t 20))⟩,
    ⟨some 23, none, .h (.load 4 true (.t 22))⟩,
    ⟨some 24, none, .h (.call (.f 220) [.t 23])⟩,
    ⟨some 19, none, .p (.mv (.t 24))⟩,
    ⟨some 25, none, .p (.ext (.t 19) 0)⟩,
    ⟨some 26, none, .p (.ext (.t 19) 1)⟩,
    ⟨some 9, none, .p (.mv (.t 25))⟩,
    ⟨some 10, none, .p (.mv (.t 26))⟩] [1, 2, 3, 7, 9])
  (.seq (.region [⟨some 27, none, .p (.mv (.t 1))⟩,
    ⟨some 28, none, .p (.mv (.t 2))⟩,
    ⟨some 29, none, .p (.bin .neq (.t 27) (.t 28))⟩,
    ⟨some 30, none, .p (.mv (.t 29))⟩,
    ⟨some 31, some (30, true), .p (.mv (.t 7))⟩,
    ⟨some 32, some (30, true), .p (.bin .gtr (.t 31) (.k (.c (C.int .i64 0))))⟩,
    ⟨some 33, none, .p (.pick (.t 30) (.t 32) (.k (.c (C.bool false))))⟩,
    ⟨some 34, none, .p (.mv (.t 33))⟩,
    ⟨some 35, some (34, true), .p (.mv (.t 2))⟩,
    ⟨some 36, some (34, true), .p (.fld 0 (.t 3))⟩,
    ⟨some 37, some (34, true), .p (.ixA 6 4 (.t 36) (.t 35))⟩,
    ⟨some 38, some (34, true), .h (.load 4 true (.t 37))⟩,
    ⟨some 39, some (34, true), .h (.call (.f 221) [.t 38])⟩,
    ⟨some 40, some (34, true), .p (.bin .lss (.t 39) (.k (.c (C.int .i64 4))))⟩,
    ⟨some 41, none, .p (.pick (.t 34) (.t 40) (.k (.c (C.bool false))))⟩,
    ⟨some 42, none, .p (.mv (.t 41))⟩,
    ⟨some 43, some (42, true), .p (.mv (.t 9))⟩,
    ⟨some 44, some (42, true), .p (.bin .eql (.t 43) (.k (.c (C.int .i64 0))))⟩,
    ⟨some 45, some (42, true), .p (.mv (.t 44))⟩,
    ⟨some 46, some (45, false), .p (.mv (.t 9))⟩,
    ⟨some 47, some (45, false), .p (.mv (.t 7))⟩,
    ⟨some 48, some (45, false), .p (.bin .eql (.t 46) (.t 47))⟩,
    ⟨some 49, some (42, true), .p (.pick (.t 45) (.k (.c (C.bool true))) (.t 48))⟩,
    ⟨some 50, none, .p (.pick (.t 42) (.t 49) (.k (.c (C.bool false))))⟩,
    ⟨some 6, none, .p (.mv (.t 50))⟩] [6])
  .ret)))) }
theorem a203_ok : okFn Try.prog 203 a203 = true := by kernel_rfl
/-- loop.example/g01215/impl.complete -/
def a206 : AFn := { np := 1, nt := 20, res := [.t 2], body :=
  (.seq (.region [⟨some 1, none, .p (.box 24 (.t 0))⟩,
    ⟨some 2, none, .p (.nilsl 1)⟩] [1])
  (.seq (.region [⟨some 3, none, .p (.nilsl 1)⟩] [1, 3])
  (.seq (.seq (.region [⟨some 6, none, .p (.fld 0 (.t 1))⟩,
    ⟨some 7, none, .h (.load 24 true (.t 6))⟩,
    ⟨some 8, none, .p (.mv (.k (.c (C.int .i64 0))))⟩] [3, 7, 8])
  (.block 0 (.loop (.seq (.region [⟨some 9, none, .p (.bin .lss (.t 8) (.k (.c (C.int .i64 6))))⟩] [3, 7, 8, 9])
  (.seq (.cond (.t 9)
  .skip
  (.exit 0))
  (.seq (.block 1 (.seq (.region [⟨some 10, none, .p (.mv (.t 8))⟩,
    ⟨some 11, none, .p (.ixV 6 4 true (.t 7) (.t 8))⟩,
    ⟨some 5, none, .p (.alloc [.k (C.int .i64 0), .k (C.int .i64 0), .k (C.int .i64 0), .k (C.int .i64 0)])⟩,
    ⟨some 4, none, .p (.mv (.t 10))⟩,
    ⟨none, none, .h (.store 4 (.t 5) (.t 11))⟩] [3, 4, 5, 7, 8])
  (.seq (.region [⟨some 12, none, .h (.load 4 true (.t 5))⟩,
    ⟨some 13, none, .h (.call (.f 230) [.t 12])⟩] [3, 4, 7, 8, 13])
  (.cond (.t 13)
  (.region [⟨some 14, none, .p (.mv (.t 3))⟩,
    ⟨some 15, none, .p (.mv (.t 4))⟩,
    ⟨some 16, none, .p (.mksl 1 1 [.k (C.int .i64 0)] [(0, 1, .t 15)])⟩,
    ⟨some 17, none, .h (.app 1 (.t 14) (.t 16))⟩,
    ⟨some 3, none, .p (.mv (.t 17))⟩] [3, 7, 8])
  .skip))))
  (.region [⟨some 18, none, .p (.bin .add (.t 8) (.k (.c (C.int .i64 1))))⟩,
    ⟨some 8, none, .p (.mv (.t 18))⟩] [3, 7, 8])))) [3, 7, 8])))
  (.seq (.region [⟨some 19, none, .p (.mv (.t 3))⟩,
    ⟨some 2, none, .p (.mv (.t 19))⟩] [2])
  .ret)))) }
theorem a206_ok : okFn Try.prog 206 a206 = true := by kernel_rfl
/-- loop.example/g01215/spec.l10Complete -/
def a207 : AFn := { np := 1, nt := 27, res := [.t 2], body :=
  (.seq (.region [⟨some 1, none, .p (.box 24 (.t 0))⟩,
    ⟨some 2, none, .p (.nilsl 1)⟩] [1])
  (.seq (.region [⟨some 7, none, .p (.mksl 1 0 [.k (C.int .i64 0)] [])⟩,
    ⟨some 3, none, .p (.mv (.t 7))⟩] [1, 3])
  (.seq (.seq (.region [⟨some 4, none, .p (.mv (.k (.c (C.int .i64 0))))⟩] [1, 3, 4])
  (.block 0 (.loop (.seq (.seq (.region [⟨some 8, none, .p (.mv (.t 4))⟩,
    ⟨some 9, none, .p (.bin .lss (.t 8) (.k (.c (C.int .i64 6))))⟩] [1, 3, 4, 9])
  (.cond (.t 9)
  .skip
  (.exit 0)))
  (.seq (.block 1 (.seq (.region [⟨some 13, none, .p (.mv (.t 4))⟩,
    ⟨some 14, none, .p (.fld 0 (.t 1))⟩,
    ⟨some 15, none, .p (.ixA 6 4 (.t 14) (.t 13))⟩,
    ⟨some 16, none, .h (.load 4 true (.t 15))⟩,
    ⟨some 17, none, .h (.call (.f 217) [.t 16])⟩,
    ⟨some 12, none, .p (.mv (.t 17))⟩,
    ⟨some 18, none, .p (.ext (.t 12) 0)⟩,
    ⟨some 19, none, .p (.ext (.t 12) 1)⟩,
    ⟨some 5, none, .p (.mv (.t 18))⟩,
    ⟨some 6, none, .p (.mv (.t 19))⟩] [1, 3, 4, 6])
  (.seq (.region [⟨some 20, none, .p (.mv (.t 6))⟩,
    ⟨some 21, none, .p (.bin .eql (.t 20) (.k (.c (C.int .i64 4))))⟩] [1, 3, 4, 21])
  (.cond (.t 21)
  (.region [⟨some 22, none, .p (.mv (.t 3))⟩,
    ⟨some 23, none, .p (.mv (.t 4))⟩,
    ⟨some 24, none, .p (.mksl 1 1 [.k (C.int .i64 0)] [(0, 1, .t 23)])⟩,
    ⟨some 25, none, .h (.app 1 (.t 22) (.t 24))⟩,
    ⟨some 3, none, .p (.mv (.t 25))⟩] [1, 3, 4])
  .skip))))
  (.region [⟨some 10, none, .p (.mv (.t 4))⟩,
    ⟨some 11, none, .p (.bin .add (.t 10) (.k (.c (C.int .i64 1))))⟩,
    ⟨some 4, none, .p (.mv (.t 11))⟩] [1, 3, 4]))) [1, 3, 4])))
  (.seq (.region [⟨some 26, none, .p (.mv (.t 3))⟩,
    ⟨some 2, none, .p (.mv (.t 26))⟩] [2])
  .ret)))) }
theorem a207_ok : okFn Try.prog 207 a207 = true := by kernel_rfl
/-- loop.example/g01215/spec.l1Most -/
def a208 : AFn := { np := 2, nt := 10, res := [.t 4], body :=
  (.seq (.region [⟨some 4, none, .p (.mv (.k (.c (C.int .i64 0))))⟩] [0, 1])
  (.seq (.seq (.region [⟨some 5, none, .p (.mv (.t 0))⟩,
    ⟨some 6, none, .p (.mv (.t 1))⟩,
    ⟨some 7, none, .p (.bin .gtr (.t 5) (.t 6))⟩] [0, 1, 7])
  (.cond (.t 7)
  (.seq (.region [⟨some 8, none, .p (.mv (.t 0))⟩,
    ⟨some 4, none, .p (.mv (.t 8))⟩] [4])
  .ret)
  .skip))
  (.seq (.region [⟨some 9, none, .p (.mv (.t 1))⟩,
    ⟨some 4, none, .p (.mv (.t 9))⟩] [4])
  .ret))) }
theorem a208_ok : okFn Try.prog 208 a208 = true := by kernel_rfl
/-- loop.example/g01215/impl.areAll[int] -/
def a209 : AFn := { np := 2, nt := 9, res := [.t 4], body :=
  (.seq (.region [⟨some 3, none, .p (.box 1 (.t 1))⟩,
    ⟨some 4, none, .p (.mv (.k (.c (C.bool false))))⟩] [0, 3])
  (.seq (.region [⟨some 5, none, .p (.mv (.t 0))⟩,
    ⟨some 6, none, .p (.mkfn 250 [.t 3])⟩,
    ⟨some 7, none, .h (.call (.f 249) [.t 5, .t 6])⟩,
    ⟨some 8, none, .p (.un .not (.t 7))⟩,
    ⟨some 4, none, .p (.mv (.t 8))⟩] [4])
  .ret)) }
theorem a209_ok : okFn Try.prog 209 a209 = true := by kernel_rfl
/-- loop.example/g01215/impl.isDeal$1 -/
def a210 : AFn := { np := 1, nt := 5, res := [.t 2], body :=
  (.seq (.region [⟨some 2, none, .p (.mv (.k (.c (C.bool false))))⟩] [0])
  (.seq (.region [⟨some 3, none, .p (.mv (.t 0))⟩,
    ⟨some 4, none, .h (.call (.f 152) [.t 3, .k (.c (C.int .i64 0)), .k (.c (C.int .i64 4))])⟩,
    ⟨some 2, none, .p (.mv (.t 4))⟩] [2])
  .ret)) }
theorem a210_ok : okFn Try.prog 210 a210 = true := by kernel_rfl
/-- loop.example/g01215/impl.isDeal$2 -/
def a211 : AFn := { np := 1, nt := 5, res := [.t 2], body :=
  (.seq (.region [⟨some 2, none, .p (.mv (.k (.c (C.bool false))))⟩] [0])
  (.seq (.region [⟨some 3, none, .p (.mv (.t 0))⟩,
    ⟨some 4, none, .h (.call (.f 152) [.t 3, .k (.c (C.int .i64 0)), .k (.c (C.int .i64 24))])⟩,
    ⟨some 2, none, .p (.mv (.t 4))⟩] [2])
  .ret)) }
theorem a211_ok : okFn Try.prog 211 a211 = true := by kernel_rfl
/-- loop.example/g01215/impl.divisor -/
def a212 : AFn := { np := 2, nt := 12, res := [.t 4], body :=
  (.seq (.region [⟨some 4, none, .p (.mv (.k (.c (C.int .i64 0))))⟩] [0, 1])
  (.seq (.block 0 (.loop (.seq (.seq (.region [⟨some 5, none, .p (.mv (.t 1))⟩,
    ⟨some 6, none, .p (.bin .neq (.t 5) (.k (.c (C.int .i64 0))))⟩] [0, 1, 6])
  (.cond (.t 6)
  .skip
  (.exit 0)))
  (.block 1 (.regionD [⟨some 7, none, .p (.mv (.t 1))⟩,
    ⟨some 8, none, .p (.mv (.t 0))⟩,
    ⟨some 9, none, .p (.mv (.t 1))⟩,
    ⟨some 10, none, .p (.bin .rem (.t 8) (.t 9))⟩,
    ⟨some 0, none, .p (.mv (.t 7))⟩,
    ⟨some 1, none, .p (.mv (.t 10))⟩] [0, 1] []))) [0, 1]))
  (.seq (.region [⟨some 11, none, .p (.mv (.t 0))⟩,
    ⟨some 4, none, .p (.mv (.t 11))⟩] [4])
  .ret))) }
theorem a212_ok : okFn Try.prog 212 a212 = true := by kernel_rfl
/-- loop.example/g01215/spec.l2Pours -/
def a213 : AFn := { np := 1, nt := 26, res := [.t 2], body :=
  (.seq (.region [⟨some 1, none, .p (.box 24 (.t 0))⟩,
    ⟨some 2, none, .p (.nilsl 2)⟩] [1])
  (.seq (.region [⟨some 6, none, .p (.mksl 2 0 [.k (C.int .i64 0), .k (C.int .i64 0)] [])⟩,
    ⟨some 3, none, .p (.mv (.t 6))⟩] [1, 3])
  (.seq (.seq (.region [⟨some 4, none, .p (.mv (.k (.c (C.int .i64 0))))⟩] [1, 3, 4])
  (.block 0 (.loop (.seq (.seq (.region [⟨some 7, none, .p (.mv (.t 4))⟩,
    ⟨some 8, none, .p (.bin .lss (.t 7) (.k (.c (C.int .i64 6))))⟩] [1, 3, 4, 8])
  (.cond (.t 8)
  .skip
  (.exit 0)))
  (.seq (.block 1 (.seq (.region [⟨some 5, none, .p (.mv (.k (.c (C.int .i64 0))))⟩] [1, 3, 4, 5])
  (.block 2 (.loop (.seq (.seq (.region [⟨some 11, none, .p (.mv (.t 5))⟩,
    ⟨some 12, none, .p (.bin .lss (.t 11) (.k (.c (C.int .i64 6))))⟩] [1, 3, 4, 5, 12])
  (.cond (.t 12)
  .skip
  (.exit 2)))
  (.seq (.block 3 (.seq (.region [⟨some 15, none, .h (.load 24 true (.t 1))⟩,
    ⟨some 16, none, .p (.mv (.t 4))⟩,
    ⟨some 17, none, .p (.mv (.t 5))⟩,
    ⟨some 18, none, .h (.call (.f 223) [.t 15, .t 16, .t 17])⟩] [1, 3, 4, 5, 18])
  (.cond (.t 18)
  (.region [⟨some 19, none, .p (.mv (.t 3))⟩,
    ⟨some 20, none, .p (.mv (.t 4))⟩,
    ⟨some 21, none, .p (.mv (.t 5))⟩,
    ⟨some 22, none, .p (.build [.k (C.int .i64 0), .k (C.int .i64 0)] [(0, 1, .t 20), (1, 1, .t 21)])⟩,
    ⟨some 23, none, .p (.mksl 2 1 [.k (C.int .i64 0), .k (C.int .i64 0)] [(0, 2, .t 22)])⟩,
    ⟨some 24, none, .h (.app 2 (.t 19) (.t 23))⟩,
    ⟨some 3, none, .p (.mv (.t 24))⟩] [1, 3, 4, 5])
  .skip)))
  (.region [⟨some 13, none, .p (.mv (.t 5))⟩,
    ⟨some 14, none, .p (.bin .add (.t 13) (.k (.c (C.int .i64 1))))⟩,
    ⟨some 5, none, .p (.mv (.t 14))⟩] [1, 3, 4, 5]))) [1, 3, 4, 5]))))
  (.region [⟨some 9, none, .p (.mv (.t 4))⟩,
    ⟨some 10, none, .p (.bin .add (.t 9) (.k (.c (C.int .i64 1))))⟩,
    ⟨some 4, none, .p (.mv (.t 10))⟩] [1, 3, 4]))) [1, 3, 4])))
  (.seq (.region [⟨some 25, none, .p (.mv (.t 3))⟩,
    ⟨some 2, none, .p (.mv (.t 25))⟩] [2])
  .ret)))) }
theorem a213_ok : okFn Try.prog 213 a213 = true := by kernel_rfl
/-- loop.example/g01215/laws.toIntA4 -/
def a214 : AFn := { np := 1, nt := 15, res := [.cell 2 4 true], body :=
  (.seq (.region [⟨some 1, none, .p (.box 4 (.t 0))⟩,
    ⟨some 2, none, .p (.alloc [.k (C.int .i64 0), .k (C.int .i64 0), .k (C.int .i64 0), .k (C.int .i64 0)])⟩] [1, 2])
  (.seq (.region [⟨some 3, none, .p (.alloc [.k (C.int .i64 0), .k (C.int .i64 0), .k (C.int .i64 0), .k (C.int .i64 0)])⟩] [1, 2, 3])
  (.seq (.seq (.region [⟨some 4, none, .p (.mv (.k (.c (C.int .i64 0))))⟩] [1, 2, 3, 4])
  (.block 0 (.loop (.seq (.seq (.region [⟨some 5, none, .p (.mv (.t 4))⟩,
    ⟨some 6, none, .p (.bin .lss (.t 5) (.k (.c (C.int .i64 4))))⟩] [1, 2, 3, 4, 6])
  (.cond (.t 6)
  .skip
  (.exit 0)))
  (.seq (.block 1 (.region [⟨some 9, none, .p (.mv (.t 4))⟩,
    ⟨some 10, none, .p (.mv (.t 4))⟩,
    ⟨some 11, none, .p (.ixA 4 1 (.t 1) (.t 10))⟩,
    ⟨some 12, none, .h (.load 1 false (.t 11))⟩,
    ⟨some 13, none, .p (.ixA 4 1 (.t 3) (.t 9))⟩,
    ⟨none, none, .h (.store 1 (.t 13) (.t 12))⟩] [1, 2, 3, 4]))
  (.region [⟨some 7, none, .p (.mv (.t 4))⟩,
    ⟨some 8, none, .p (.bin .add (.t 7) (.k (.c (C.int .i64 1))))⟩,
    ⟨some 4, none, .p (.mv (.t 8))⟩] [1, 2, 3, 4]))) [1, 2, 3, 4])))
  (.seq (.region [⟨some 14, none, .h (.load 4 true (.t 3))⟩,
    ⟨none, none, .h (.store 4 (.t 2) (.t 14))⟩] [2])
  .ret)))) }
theorem a214_ok : okFn Try.prog 214 a214 = true := by kernel_rfl
/-- loop.example/g01215/impl.pours -/
def a215 : AFn := { np := 1, nt := 25, res := [.t 2], body :=
  (.seq (.region [⟨some 1, none, .p (.box 24 (.t 0))⟩,
    ⟨some 2, none, .p (.nilsl 2)⟩] [1])
  (.seq (.region [⟨some 3, none, .p (.nilsl 2)⟩] [1, 3])
  (.seq (.seq (.region [⟨some 6, none, .p (.mv (.k (.c (C.int .i64 0))))⟩] [1, 3, 6])
  (.block 0 (.loop (.seq (.region [⟨some 7, none, .p (.bin .lss (.t 6) (.k (.c (C.int .i64 6))))⟩] [1, 3, 6, 7])
  (.seq (.cond (.t 7)
  .skip
  (.exit 0))
  (.seq (.block 1 (.seq (.region [⟨some 8, none, .p (.mv (.t 6))⟩,
    ⟨some 4, none, .p (.mv (.t 8))⟩] [1, 3, 4, 6])
  (.seq (.region [⟨some 9, none, .p (.mv (.k (.c (C.int .i64 0))))⟩] [1, 3, 4, 6, 9])
  (.block 2 (.loop (.seq (.region [⟨some 10, none, .p (.bin .lss (.t 9) (.k (.c (C.int .i64 6))))⟩] [1, 3, 4, 6, 9, 10])
  (.seq (.cond (.t 10)
  .skip
  (.exit 2))
  (.seq (.block 3 (.seq (.region [⟨some 11, none, .p (.mv (.t 9))⟩,
    ⟨some 5, none, .p (.mv (.t 11))⟩] [1, 3, 4, 5, 6, 9])
  (.seq (.region [⟨some 12, none, .h (.load 24 true (.t 1))⟩,
    ⟨some 13, none, .p (.mv (.t 4))⟩,
    ⟨some 14, none, .p (.mv (.t 5))⟩,
    ⟨some 15, none, .h (.call (.f 203) [.t 12, .t 13, .t 14])⟩] [1, 3, 4, 5, 6, 9, 15])
  (.cond (.t 15)
  (.region [⟨some 16, none, .p (.mv (.t 3))⟩,
    ⟨some 17, none, .p (.mv (.t 4))⟩,
    ⟨some 18, none, .p (.mv (.t 5))⟩,
    ⟨some 19, none, .p (.build [.k (C.int .i64 0), .k (C.int .i64 0)] [(0, 1, .t 17), (1, 1, .t 18)])⟩,
    ⟨some 20, none, .p (.mksl 2 1 [.k (C.int .i64 0), .k (C.int .i64 0)] [(0, 2, .t 19)])⟩,
    ⟨some 21, none, .h (.app 2 (.t 16) (.t 20))⟩,
    ⟨some 3, none, .p (.mv (.t 21))⟩] [1, 3, 4, 6, 9])
  .skip))))
  (.region [⟨some 22, none, .p (.bin .add (.t 9) (.k (.c (C.int .i64 1))))⟩,
    ⟨some 9, none, .p (.mv (.t 22))⟩] [1, 3, 4, 6, 9])))) [1, 3, 4, 6, 9])))))
  (.region [⟨some 23, none, .p (.bin .add (.t 6) (.k (.c (C.int .i64 1))))⟩,
    ⟨some 6, none, .p (.mv (.t 23))⟩] [1, 3, 6])))) [1, 3, 6])))
  (.seq (.region [⟨some 24, none, .p (.mv (.t 3))⟩,
    ⟨some 2, none, .p (.mv (.t 24))⟩] [2])
  .ret)))) }
theorem a215_ok : okFn Try.prog 215 a215 = true := by kernel_rfl
/-- loop.example/g01215/impl.useful$1 -/
def a216 : AFn := { np := 2, nt := 7, res := [.t 3], body :=
  (.seq (.region [⟨some 2, none, .p (.box 2 (.t 0))⟩,
    ⟨some 3, none, .p (.mv (.k (.c (C.bool false))))⟩] [1, 2])
  (.seq (.region [⟨some 4, none, .h (.load 24 true (.t 1))⟩,
    ⟨some 5, none, .h (.load 2 true (.t 2))⟩,
    ⟨some 6, none, .h (.call (.f 158) [.t 4, .t 5])⟩,
    ⟨some 3, none, .p (.mv (.t 6))⟩] [3])
  .ret)) }
theorem a216_ok : okFn Try.prog 216 a216 = true := by kernel_rfl
/-- loop.example/g01215/spec.l2Top -/
def a217 : AFn := { np := 1, nt := 33, res := [.t 2, .t 3], body :=
  (.seq (.region [⟨some 1, none, .p (.box 4 (.t 0))⟩,
    ⟨some 2, none, .p (.mv (.k (.c (C.int .i64 0))))⟩,
    ⟨some 3, none, .p (.mv (.k (.c (C.int .i64 0))))⟩] [1])
  (.seq (.region [⟨some 6, none, .h (.load 4 true (.t 1))⟩,
    ⟨some 7, none, .h (.call (.f 218) [.t 6])⟩,
    ⟨some 4, none, .p (.mv (.t 7))⟩] [1, 4])
  (.seq (.seq (.region [⟨some 8, none, .p (.mv (.t 4))⟩,
    ⟨some 9, none, .p (.bin .eql (.t 8) (.k (.c (C.int .i64 0))))⟩] [1, 4, 9])
  (.cond (.t 9)
  (.seq (.region [⟨some 2, none, .p (.mv (.k (.c (C.int .i64 0))))⟩,
    ⟨some 3, none, .p (.mv (.k (.c (C.int .i64 0))))⟩] [2, 3])
  .ret)
  .skip))
  (.seq (.region [⟨some 5, none, .p (.mv (.k (.c (C.int .i64 0))))⟩] [1, 4, 5])
  (.seq (.block 0 (.loop (.seq (.seq (.regionD [⟨some 10, none, .p (.mv (.t 5))⟩,
    ⟨some 11, none, .p (.mv (.t 4))⟩,
    ⟨some 12, none, .p (.bin .lss (.t 10) (.t 11))⟩,
    ⟨some 13, none, .p (.mv (.t 12))⟩,
    ⟨some 14, some (13, true), .p (.mv (.t 4))⟩,
    ⟨some 15, some (13, true), .p (.bin .sub (.t 14) (.k (.c (C.int .i64 1))))⟩,
    ⟨some 16, some (13, true), .p (.mv (.t 5))⟩,
    ⟨some 17, some (13, true), .p (.bin .sub (.t 15) (.t 16))⟩,
    ⟨some 18, some (13, true), .p (.ixA 4 1 (.t 1) (.t 17))⟩,
    ⟨some 19, some (13, true), .h (.load 1 false (.t 18))⟩,
    ⟨some 20, some (13, true), .p (.mv (.t 4))⟩,
    ⟨some 21, some (13, true), .p (.bin .sub (.t 20) (.k (.c (C.int .i64 1))))⟩,
    ⟨some 22, some (13, true), .p (.ixA 4 1 (.t 1) (.t 21))⟩,
    ⟨some 23, some (13, true), .h (.load 1 false (.t 22))⟩,
    ⟨some 24, some (13, true), .p (.bin .eql (.t 19) (.t 23))⟩,
    ⟨some 25, none, .p (.pick (.t 13) (.t 24) (.k (.c (C.bool false))))⟩] [1, 4, 5, 25] [])
  (.cond (.t 25)
  .skip
  (.exit 0)))
  (.block 1 (.region [⟨some 26, none, .p (.mv (.t 5))⟩,
    ⟨some 27, none, .p (.bin .add (.t 26) (.k (.c (C.int .i64 1))))⟩,
    ⟨some 5, none, .p (.mv (.t 27))⟩] [1, 4, 5]))) [1, 4, 5]))
  (.seq (.region [⟨some 28, none, .p (.mv (.t 4))⟩,
    ⟨some 29, none, .p (.bin .sub (.t 28) (.k (.c (C.int .i64 1))))⟩,
    ⟨some 30, none, .p (.ixA 4 1 (.t 1) (.t 29))⟩,
    ⟨some 31, none, .h (.load 1 false (.t 30))⟩,
    ⟨some 32, none, .p (.mv (.t 5))⟩,
    ⟨some 2, none, .p (.mv (.t 31))⟩,
    ⟨some 3, none, .p (.mv (.t 32))⟩] [2, 3])
  .ret)))))) }
theorem a217_ok : okFn Try.prog 217 a217 = true := by kernel_rfl
/-- loop.example/g01215/spec.l2Many -/
def a218 : AFn := { np := 1, nt := 16, res := [.t 2], body :=
  (.seq (.region [⟨some 1, none, .p (.box 4 (.t 0))⟩,
    ⟨some 2, none, .p (.mv (.k (.c (C.int .i64 0))))⟩] [1])
  (.seq (.region [⟨some 3, none, .p (.mv (.k (.c (C.int .i64 0))))⟩] [1, 3])
  (.seq (.seq (.region [⟨some 4, none, .p (.mv (.k (.c (C.int .i64 0))))⟩] [1, 3, 4])
  (.block 0 (.loop (.seq (.seq (.region [⟨some 5, none, .p (.mv (.t 4))⟩,
    ⟨some 6, none, .p (.bin .lss (.t 5) (.k (.c (C.int .i64 4))))⟩] [1, 3, 4, 6])
  (.cond (.t 6)
  .skip
  (.exit 0)))
  (.seq (.block 1 (.seq (.region [⟨some 9, none, .p (.mv (.t 4))⟩,
    ⟨some 10, none, .p (.ixA 4 1 (.t 1) (.t 9))⟩,
    ⟨some 11, none, .h (.load 1 false (.t 10))⟩,
    ⟨some 12, none, .p (.bin .gtr (.t 11) (.k (.c (C.int .i64 0))))⟩] [1, 3, 4, 12])
  (.cond (.t 12)
  (.region [⟨some 13, none, .p (.mv (.t 3))⟩,
    ⟨some 14, none, .p (.bin .add (.t 13) (.k (.c (C.int .i64 1))))⟩,
    ⟨some 3, none, .p (.mv (.t 14))⟩] [1, 3, 4])
  .skip)))
  (.region [⟨some 7, none, .p (.mv (.t 4))⟩,
    ⟨some 8, none, .p (.bin .add (.t 7) (.k (.c (C.int .i64 1))))⟩,
    ⟨some 4, none, .p (.mv (.t 8))⟩] [1, 3, 4]))) [1, 3, 4])))
  (.seq (.region [⟨some 15, none, .p (.mv (.t 3))⟩,
    ⟨some 2, none, .p (.mv (.t 15))⟩] [2])
  .ret)))) }
theorem a218_ok : okFn Try.prog 218 a218 = true := by kernel_rfl
/-- loop.example/g01215/spec.l1Least -/
def a219 : AFn := { np := 2, nt := 10, res := [.t 4], body :=
  (.seq (.region [⟨some 4, none, .p (.mv (.k (.c (C.int .i64 0))))⟩] [0, 1])
  (.seq (.seq (.region [⟨some 5, none, .p (.mv (.t 0))⟩,
    ⟨some 6, none, .p (.mv (.t 1))⟩,
    ⟨some 7, none, .p (.bin .lss (.t 5) (.t 6))⟩] [0, 1, 7])
  (.cond (.t 7)
  (.seq (.region [⟨some 8, none, .p (.mv (.t 0))⟩,
    ⟨some 4, none, .p (.mv (.t 8))⟩] [4])
  .ret)
  .skip))
  (.seq (.region [⟨some 9, none, .p (.mv (.t 1))⟩,
    ⟨some 4, none, .p (.mv (.t 9))⟩] [4])
  .ret))) }
theorem a219_ok : okFn Try.prog 219 a219 = true := by kernel_rfl
/-- loop.example/g01215/impl.top -/
def a220 : AFn := { np := 1, nt := 21, res := [.t 2, .t 3], body :=
  (.seq (.region [⟨some 1, none, .p (.box 4 (.t 0))⟩,
    ⟨some 2, none, .p (.mv (.k (.c (C.int .i64 0))))⟩,
    ⟨some 3, none, .p (.mv (.k (.c (C.int .i64 0))))⟩] [1])
  (.seq (.region [⟨some 6, none, .h (.load 4 true (.t 1))⟩,
    ⟨some 7, none, .h (.call (.f 225) [.t 6])⟩,
    ⟨some 4, none, .p (.mv (.t 7))⟩] [4])
  (.seq (.seq (.region [⟨some 8, none, .p (.mv (.t 4))⟩,
    ⟨some 9, none, .p (.len (.t 8))⟩,
    ⟨some 10, none, .p (.bin .eql (.t 9) (.k (.c (C.int .i64 0))))⟩] [4, 10])
  (.cond (.t 10)
  (.seq (.region [⟨some 2, none, .p (.mv (.k (.c (C.int .i64 0))))⟩,
    ⟨some 3, none, .p (.mv (.k (.c (C.int .i64 0))))⟩] [2, 3])
  .ret)
  .skip))
  (.seq (.region [⟨some 11, none, .p (.mv (.t 4))⟩,
    ⟨some 12, none, .p (.mv (.t 4))⟩,
    ⟨some 13, none, .p (.len (.t 12))⟩,
    ⟨some 14, none, .p (.bin .sub (.t 13) (.k (.c (C.int .i64 1))))⟩,
    ⟨some 15, none, .p (.ixS 2 (.t 11) (.t 14))⟩,
    ⟨some 16, none, .h (.load 2 true (.t 15))⟩,
    ⟨some 5, none, .p (.alloc [.k (C.int .i64 0), .k (C.int .i64 0)])⟩,
    ⟨none, none, .h (.store 2 (.t 5) (.t 16))⟩] [5])
  (.seq (.regionD [⟨some 17, none, .p (.ixA 2 1 (.t 5) (.k (.c (C.int .i64 0))))⟩,
    ⟨some 18, none, .h (.load 1 false (.t 17))⟩,
    ⟨some 19, none, .p (.ixA 2 1 (.t 5) (.k (.c (C.int .i64 1))))⟩,
    ⟨some 20, none, .h (.load 1 false (.t 19))⟩,
    ⟨some 2, none, .p (.mv (.t 18))⟩,
    ⟨some 3, none, .p (.mv (.t 20))⟩] [2, 3] [])
  .ret))))) }
theorem a220_ok : okFn Try.prog 220 a220 = true := by kernel_rfl
/-- loop.example/g01215/impl.layers -/
def a221 : AFn := { np := 1, nt := 9, res := [.t 2], body :=
  (.seq (.region [⟨some 1, none, .p (.box 4 (.t 0))⟩,
    ⟨some 2, none, .p (.mv (.k (.c (C.int .i64 0))))⟩] [1])
  (.seq (.region [⟨some 4, none, .h (.slA 4 1 (.t 1) none none)⟩,
    ⟨some 5, none, .h (.call (.f 251) [.t 4, .k (.c (C.int .i64 0))])⟩,
    ⟨some 3, none, .p (.mv (.t 5))⟩] [3])
  (.seq (.seq (.region [⟨some 6, none, .p (.mv (.t 3))⟩,
    ⟨some 7, none, .p (.bin .lss (.t 6) (.k (.c (C.int .i64 0))))⟩] [3, 7])
  (.cond (.t 7)
  (.seq (.region [⟨some 2, none, .p (.mv (.k (.c (C.int .i64 4))))⟩] [2])
  .ret)
  .skip))
  (.seq (.region [⟨some 8, none, .p (.mv (.t 3))⟩,
    ⟨some 2, none, .p (.mv (.t 8))⟩] [2])
  .ret)))) }
theorem a221_ok : okFn Try.prog 221 a221 = true := by kernel_rfl
/-- loop.example/g01215/laws.eqIntA4 -/
def a222 : AFn := { np := 2, nt := 17, res := [.t 4], body :=
  (.seq (.region [⟨some 2, none, .p (.box 4 (.t 0))⟩,
    ⟨some 3, none, .p (.box 4 (.t 1))⟩,
    ⟨some 4, none, .p (.mv (.k (.c (C.bool false))))⟩] [2, 3])
  (.seq (.seq (.region [⟨some 5, none, .p (.mv (.k (.c (C.int .i64 0))))⟩] [2, 3, 5])
  (.block 0 (.loop (.seq (.seq (.region [⟨some 6, none, .p (.mv (.t 5))⟩,
    ⟨some 7, none, .p (.bin .lss (.t 6) (.k (.c (C.int .i64 4))))⟩] [2, 3, 5, 7])
  (.cond (.t 7)
  .skip
  (.exit 0)))
  (.seq (.block 1 (.seq (.regionD [⟨some 10, none, .p (.mv (.t 5))⟩,
    ⟨some 11, none, .p (.ixA 4 1 (.t 2) (.t 10))⟩,
    ⟨some 12, none, .h (.load 1 false (.t 11))⟩,
    ⟨some 13, none, .p (.mv (.t 5))⟩,
    ⟨some 14, none, .p (.ixA 4 1 (.t 3) (.t 13))⟩,
    ⟨some 15, none, .h (.load 1 false (.t 14))⟩,
    ⟨some 16, none, .p (.bin .neq (.t 12) (.t 15))⟩] [2, 3, 5, 16] [])
  (.cond (.t 16)
  (.seq (.region [⟨some 4, none, .p (.mv (.k (.c (C.bool false))))⟩] [4])
  .ret)
  .skip)))
  (.region [⟨some 8, none, .p (.mv (.t 5))⟩,
    ⟨some 9, none, .p (.bin .add (.t 8) (.k (.c (C.int .i64 1))))⟩,
    ⟨some 5, none, .p (.mv (.t 9))⟩] [2, 3, 5]))) [2, 3, 5])))
  (.seq (.region [⟨some 4, none, .p (.mv (.k (.c (C.bool true))))⟩] [4])
  .ret))) }
theorem a222_ok : okFn Try.prog 222 a222 = true := by kernel_rfl
/-- loop.example/g01215/spec.l2Can -/
def a223 : AFn := { np := 3, nt := 51, res := [.t 6], body :=
  (.seq (.region [⟨some 3, none, .p (.box 24 (.t 0))⟩,
    ⟨some 6, none, .p (.mv (.k (.c (C.bool false))))⟩] [1, 2, 3])
  (.seq (.region [⟨some 12, none, .p (.mv (.t 1))⟩,
    ⟨some 13, none, .p (.fld 0 (.t 3))⟩,
    ⟨some 14, none, .p (.ixA 6 4 (.t 13) (.t 12))⟩,
    ⟨some 15, none, .h (.load 4 true (.t 14))⟩,
    ⟨some 16, none, .h (.call (.f 217) [.t 15])⟩,
    ⟨some 11, none, .p (.mv (.t 16))⟩,
    ⟨some 17, none, .p (.ext (.t 11) 0)⟩,
    ⟨some 18, none, .p (.ext (.t 11) 1)⟩,
    ⟨some 7, none, .p (.mv (.t 17))⟩,
    ⟨some 8, none, .p (.mv (.t 18))⟩] [1, 2, 3, 7, 8])
  (.seq (.region [⟨some 20, none, .p (.mv (.t 2))⟩,
    ⟨some 21, none, .p (.fld 0 (.t 3))⟩,
    ⟨some 22, none, .p (.ixA 6 4 (.t 21) (.t 20))⟩,
    ⟨some 23, none, .h (.load 4 true (.t 22))⟩,
    ⟨some 24, none, .h (.call (.f 217) [.t 23])⟩,
    ⟨some 19, none, .p (.mv (.t 24))⟩,
    ⟨some 25, none, .p (.ext (.t 19) 0)⟩,
    ⟨some 26, none, .p (.ext (.t 19) 1)⟩,
    ⟨some 9, none, .p (.mv (.t 25))⟩,
    ⟨some 10, none, .p (.mv (.t 26))⟩] [1, 2, 3, 7, 8, 9])
  (.seq (.region [⟨some 27, none, .p (.mv (.t 1))⟩,
    ⟨some 28, none, .p (.mv (.t 2))⟩,
    ⟨some 29, none, .p (.bin .neq (.t 27) (.t 28))⟩,
    ⟨some 30, none, .p (.mv (.t 29))⟩,
    ⟨some 31, some (30, true), .p (.mv (.t 8))⟩,
    ⟨some 32, some (30, true), .p (.bin .gtr (.t 31) (.k (.c (C.int .i64 0))))⟩,
    ⟨some 33, none, .p (.pick (.t 30) (.t 32) (.k (.c (C.bool false))))⟩,
    ⟨some 34, none, .p (.mv (.t 33))⟩,
    ⟨some 35, some (34, true), .p (.mv (.t 2))⟩,
    ⟨some 36, some (34, true), .p (.fld 0 (.t 3))⟩,
    ⟨some 37, some (34, true), .p (.ixA 6 4 (.t 36) (.t 35))⟩,
    ⟨some 38, some (34, true), .h (.load 4 true (.t 37))⟩,
    ⟨some 39, some (34, true), .h (.call (.f 218) [.t 38])⟩,
    ⟨some 40, some (34, true), .p (.bin .lss (.t 39) (.k (.c (C.int .i64 4))))⟩,
    ⟨some 41, none, .p (.pick (.t 34) (.t 40) (.k (.c (C.bool false))))⟩,
    ⟨some 42, none, .p (.mv (.t 41))⟩,
    ⟨some 43, some (42, true), .p (.mv (.t 9))⟩,
    ⟨some 44, some (42, true), .p (.bin .eql (.t 43) (.k (.c (C.int .i64 0))))⟩,
    ⟨some 45, some (42, true), .p (.mv (.t 44))⟩,
    ⟨some 46, some (45, false), .p (.mv (.t 9))⟩,
    ⟨some 47, some (45, false), .p (.mv (.t 7))⟩,
    ⟨some 48, some (45, false), .p (.bin .eql (.t 46) (.t 47))⟩,
    ⟨some 49, some (42, true), .p (.pick (.t 45) (.k (.c (C.bool true))) (.t 48))⟩,
    ⟨some 50, none, .p (.pick (.t 42) (.t 49) (.k (.c (C.bool false))))⟩,
    ⟨some 6, none, .p (.mv (.t 50))⟩] [6])
  .ret)))) }
theorem a223_ok : okFn Try.prog 223 a223 = true := by kernel_rfl
/-- loop.example/g01215/spec.l2Runs -/
def a224 : AFn := { np := 1, nt := 42, res := [.t 2], body :=
  (.seq (.region [⟨some 1, none, .p (.box 4 (.t 0))⟩,
    ⟨some 2, none, .p (.nilsl 2)⟩] [1])
  (.seq (.region [⟨some 5, none, .p (.mksl 2 0 [.k (C.int .i64 0), .k (C.int .i64 0)] [])⟩,
    ⟨some 3, none, .p (.mv (.t 5))⟩] [1, 3])
  (.seq (.seq (.region [⟨some 4, none, .p (.mv (.k (.c (C.int .i64 0))))⟩] [1, 3, 4])
  (.block 0 (.loop (.seq (.seq (.region [⟨some 6, none, .p (.mv (.t 4))⟩,
    ⟨some 7, none, .h (.load 4 true (.t 1))⟩,
    ⟨some 8, none, .h (.call (.f 218) [.t 7])⟩,
    ⟨some 9, none, .p (.bin .lss (.t 6) (.t 8))⟩] [1, 3, 4, 9])
  (.cond (.t 9)
  .skip
  (.exit 0)))
  (.seq (.block 1 (.seq (.regionD [⟨some 12, none, .p (.mv (.t 4))⟩,
    ⟨some 13, none, .p (.bin .gtr (.t 12) (.k (.c (C.int .i64 0))))⟩,
    ⟨some 14, none, .p (.mv (.t 13))⟩,
    ⟨some 15, some (14, true), .p (.mv (.t 4))⟩,
    ⟨some 16, some (14, true), .p (.ixA 4 1 (.t 1) (.t 15))⟩,
    ⟨some 17, some (14, true), .h (.load 1 false (.t 16))⟩,
    ⟨some 18, some (14, true), .p (.mv (.t 4))⟩,
    ⟨some 19, some (14, true), .p (.bin .sub (.t 18) (.k (.c (C.int .i64 1))))⟩,
    ⟨some 20, some (14, true), .p (.ixA 4 1 (.t 1) (.t 19))⟩,
    ⟨some 21, some (14, true), .h (.load 1 false (.t 20))⟩,
    ⟨some 22, some (14, true), .p (.bin .eql (.t 17) (.t 21))⟩,
    ⟨some 23, none, .p (.pick (.t 14) (.t 22) (.k (.c (C.bool false))))⟩] [1, 3, 4, 23] [])
  (.cond (.t 23)
  (.regionD [⟨some 24, none, .p (.mv (.t 3))⟩,
    ⟨some 25, none, .p (.mv (.t 3))⟩,
    ⟨some 26, none, .p (.len (.t 25))⟩,
    ⟨some 27, none, .p (.bin .sub (.t 26) (.k (.c (C.int .i64 1))))⟩,
    ⟨some 28, none, .p (.ixS 2 (.t 24) (.t 27))⟩,
    ⟨some 29, none, .p (.ixA 2 1 (.t 28) (.k (.c (C.int .i64 1))))⟩,
    ⟨some 30, none, .h (.load 1 false (.t 29))⟩,
    ⟨some 31, none, .p (.bin .add (.t 30) (.k (.c (C.int .i64 1))))⟩,
    ⟨some 32, none, .p (.ixS 2 (.t 24) (.t 27))⟩,
    ⟨some 33, none, .p (.ixA 2 1 (.t 32) (.k (.c (C.int .i64 1))))⟩,
    ⟨none, none, .h (.store 1 (.t 33) (.t 31))⟩] [1, 3, 4] [])
  (.region [⟨some 34, none, .p (.mv (.t 3))⟩,
    ⟨some 35, none, .p (.mv (.t 4))⟩,
    ⟨some 36, none, .p (.ixA 4 1 (.t 1) (.t 35))⟩,
    ⟨some 37, none, .h (.load 1 false (.t 36))⟩,
    ⟨some 38, none, .p (.build [.k (C.int .i64 0), .k (C.int .i64 0)] [(0, 1, .t 37), (1, 1, .k (.c (C.int .i64 1)))])⟩,
    ⟨some 39, none, .p (.mksl 2 1 [.k (C.int .i64 0), .k (C.int .i64 0)] [(0, 2, .t 38)])⟩,
    ⟨some 40, none, .h (.app 2 (.t 34) (.t 39))⟩,
    ⟨some 3, none, .p (.mv (.t 40))⟩] [1, 3, 4]))))
  (.region [⟨some 10, none, .p (.mv (.t 4))⟩,
    ⟨some 11, none, .p (.bin .add (.t 10) (.k (.c (C.int .i64 1))))⟩,
    ⟨some 4, none, .p (.mv (.t 11))⟩] [1, 3, 4]))) [1, 3, 4])))
  (.seq (.region [⟨some 41, none, .p (.mv (.t 3))⟩,
    ⟨some 2, none, .p (.mv (.t 41))⟩] [2])
  .ret)))) }
theorem a224_ok : okFn Try.prog 224 a224 = true := by kernel_rfl
/-- loop.example/g01215/impl.runs -/
def a225 : AFn := { np := 1, nt := 45, res := [.t 2], body :=
  (.seq (.region [⟨some 1, none, .p (.box 4 (.t 0))⟩,
    ⟨some 2, none, .p (.nilsl 2)⟩] [1])
  (.seq (.region [⟨some 3, none, .p (.nilsl 2)⟩] [1, 3])
  (.seq (.seq (.region [⟨some 7, none, .h (.load 4 true (.t 1))⟩,
    ⟨some 8, none, .h (.call (.f 221) [.t 7])⟩,
    ⟨some 9, none, .h (.slA 4 1 (.t 1) none (some (.t 8)))⟩,
    ⟨some 10, none, .p (.len (.t 9))⟩,
    ⟨some 11, none, .p (.mv (.k (.c (C.int .i64 0))))⟩] [3, 9, 10, 11])
  (.block 0 (.loop (.seq (.region [⟨some 12, none, .p (.bin .lss (.t 11) (.t 10))⟩] [3, 9, 10, 11, 12])
  (.seq (.cond (.t 12)
  .skip
  (.exit 0))
  (.seq (.block 1 (.seq (.region [⟨some 13, none, .p (.ixS 1 (.t 9) (.t 11))⟩,
    ⟨some 14, none, .h (.load 1 false (.t 13))⟩,
    ⟨some 5, none, .p (.mv (.t 14))⟩] [3, 5, 9, 10, 11])
  (.seq (.region [⟨some 15, none, .p (.mv (.t 3))⟩,
    ⟨some 16, none, .p (.len (.t 15))⟩,
    ⟨some 6, none, .p (.mv (.t 16))⟩] [3, 5, 6, 9, 10, 11])
  (.seq (.region [⟨some 17, none, .p (.mv (.t 6))⟩,
    ⟨some 18, none, .p (.bin .gtr (.t 17) (.k (.c (C.int .i64 0))))⟩,
    ⟨some 19, none, .p (.mv (.t 18))⟩,
    ⟨some 20, some (19, true), .p (.mv (.t 3))⟩,
    ⟨some 21, some (19, true), .p (.mv (.t 6))⟩,
    ⟨some 22, some (19, true), .p (.bin .sub (.t 21) (.k (.c (C.int .i64 1))))⟩,
    ⟨some 23, some (19, true), .p (.ixS 2 (.t 20) (.t 22))⟩,
    ⟨some 24, some (19, true), .p (.ixA 2 1 (.t 23) (.k (.c (C.int .i64 0))))⟩,
    ⟨some 25, some (19, true), .h (.load 1 false (.t 24))⟩,
    ⟨some 26, some (19, true), .p (.mv (.t 5))⟩,
    ⟨some 27, some (19, true), .p (.bin .eql (.t 25) (.t 26))⟩,
    ⟨some 28, none, .p (.pick (.t 19) (.t 27) (.k (.c (C.bool false))))⟩] [3, 5, 6, 9, 10, 11, 28])
  (.cond (.t 28)
  (.regionD [⟨some 29, none, .p (.mv (.t 3))⟩,
    ⟨some 30, none, .p (.mv (.t 6))⟩,
    ⟨some 31, none, .p (.bin .sub (.t 30) (.k (.c (C.int .i64 1))))⟩,
    ⟨some 32, none, .p (.ixS 2 (.t 29) (.t 31))⟩,
    ⟨some 33, none, .p (.ixA 2 1 (.t 32) (.k (.c (C.int .i64 1))))⟩,
    ⟨some 34, none, .h (.load 1 false (.t 33))⟩,
    ⟨some 35, none, .p (.bin .add (.t 34) (.k (.c (C.int .i64 1))))⟩,
    ⟨some 36, none, .p (.ixS 2 (.t 29) (.t 31))⟩,
    ⟨some 37, none, .p (.ixA 2 1 (.t 36) (.k (.c (C.int .i64 1))))⟩,
    ⟨none, none, .h (.store 1 (.t 37) (.t 35))⟩] [3, 9, 10, 11] [])
  (.region [⟨some 38, none, .p (.mv (.t 3))⟩,
    ⟨some 39, none, .p (.mv (.t 5))⟩,
    ⟨some 40, none, .p (.build [.k (C.int .i64 0), .k (C.int .i64 0)] [(0, 1, .t 39), (1, 1, .k (.c (C.int .i64 1)))])⟩,
    ⟨some 41, none, .p (.mksl 2 1 [.k (C.int .i64 0), .k (C.int .i64 0)] [(0, 2, .t 40)])⟩,
    ⟨some 42, none, .h (.app 2 (.t 38) (.t 41))⟩,
    ⟨some 3, none, .p (.mv (.t 42))⟩] [3, 9, 10, 11]))))))
  (.region [⟨some 43, none, .p (.bin .add (.t 11) (.k (.c (C.int .i64 1))))⟩,
    ⟨some 11, none, .p (.mv (.t 43))⟩] [3, 9, 10, 11])))) [3, 9, 10, 11])))
  (.seq (.region [⟨some 44, none, .p (.mv (.t 3))⟩,
    ⟨some 2, none, .p (.mv (.t 44))⟩] [2])
  .ret)))) }
theorem a225_ok : okFn Try.prog 225 a225 = true := by kernel_rfl
/-- slices.IndexFunc[[][2]int,[2]int] -/
def a226 : AFn := { np := 2, nt := 19, res := [.t 4], body :=
  (.seq (.region [⟨some 4, none, .p (.mv (.k (.c (C.int .i64 0))))⟩] [0, 1])
  (.seq (.seq (.region [⟨some 6, none, .p (.mv (.t 0))⟩,
    ⟨some 7, none, .p (.len (.t 6))⟩,
    ⟨some 8, none, .p (.mv (.k (.c (C.int .i64 0))))⟩] [0, 1, 7, 8])
  (.block 0 (.loop (.seq (.region [⟨some 9, none, .p (.bin .lss (.t 8) (.t 7))⟩] [0, 1, 7, 8, 9])
  (.seq (.cond (.t 9)
  .skip
  (.exit 0))
  (.seq (.block 1 (.seq (.region [⟨some 10, none, .p (.mv (.t 8))⟩,
    ⟨some 5, none, .p (.mv (.t 10))⟩] [0, 1, 5, 7, 8])
  (.seq (.region [⟨some 11, none, .p (.mv (.t 1))⟩,
    ⟨some 12, none, .p (.mv (.t 0))⟩,
    ⟨some 13, none, .p (.mv (.t 5))⟩,
    ⟨some 14, none, .p (.ixS 2 (.t 12) (.t 13))⟩,
    ⟨some 15, none, .h (.load 2 true (.t 14))⟩,
    ⟨some 16, none, .h (.call (.t 11) [.t 15])⟩] [0, 1, 5, 7, 8, 16])
  (.cond (.t 16)
  (.seq (.region [⟨some 17, none, .p (.mv (.t 5))⟩,
    ⟨some 4, none, .p (.mv (.t 17))⟩] [4])
  .ret)
  .skip))))
  (.region [⟨some 18, none, .p (.bin .add (.t 8) (.k (.c (C.int .i64 1))))⟩,
    ⟨some 8, none, .p (.mv (.t 18))⟩] [0, 1, 7, 8])))) [0, 1, 7, 8])))
  (.seq (.region [⟨some 4, none, .p (.mv (.k (.c (C.int .i64 (-1)))))⟩] [4])
  .ret))) }
theorem a226_ok : okFn Try.prog 226 a226 = true := by kernel_rfl
/-- loop.example/g01215/spec.l1Has -/
def a227 : AFn := { np := 2, nt := 18, res := [.t 4], body :=
  (.seq (.region [⟨some 4, none, .p (.mv (.k (.c (C.bool false))))⟩] [0, 1])
  (.seq (.seq (.region [⟨some 5, none, .p (.mv (.k (.c (C.int .i64 0))))⟩] [0, 1, 5])
  (.block 0 (.loop (.seq (.seq (.region [⟨some 6, none, .p (.mv (.t 5))⟩,
    ⟨some 7, none, .p (.mv (.t 0))⟩,
    ⟨some 8, none, .p (.len (.t 7))⟩,
    ⟨some 9, none, .p (.bin .lss (.t 6) (.t 8))⟩] [0, 1, 5, 9])
  (.cond (.t 9)
  .skip
  (.exit 0)))
  (.seq (.block 1 (.seq (.region [⟨some 12, none, .p (.mv (.t 0))⟩,
    ⟨some 13, none, .p (.mv (.t 5))⟩,
    ⟨some 14, none, .p (.ixS 1 (.t 12) (.t 13))⟩,
    ⟨some 15, none, .h (.load 1 false (.t 14))⟩,
    ⟨some 16, none, .p (.mv (.t 1))⟩,
    ⟨some 17, none, .p (.bin .eql (.t 15) (.t 16))⟩] [0, 1, 5, 17])
  (.cond (.t 17)
  (.seq (.region [⟨some 4, none, .p (.mv (.k (.c (C.bool true))))⟩] [4])
  .ret)
  .skip)))
  (.region [⟨some 10, none, .p (.mv (.t 5))⟩,
    ⟨some 11, none, .p (.bin .add (.t 10) (.k (.c (C.int .i64 1))))⟩,
    ⟨some 5, none, .p (.mv (.t 11))⟩] [0, 1, 5]))) [0, 1, 5])))
  (.seq (.region [⟨some 4, none, .p (.mv (.k (.c (C.bool false))))⟩] [4])
  .ret))) }
theorem a227_ok : okFn Try.prog 227 a227 = true := by kernel_rfl
/-- slices.ContainsFunc[[][2]int,[2]int] -/
def a228 : AFn := { np := 2, nt := 9, res := [.t 4], body :=
  (.seq (.region [⟨some 4, none, .p (.mv (.k (.c (C.bool false))))⟩] [0, 1])
  (.seq (.region [⟨some 5, none, .p (.mv (.t 0))⟩,
    ⟨some 6, none, .p (.mv (.t 1))⟩,
    ⟨some 7, none, .h (.call (.f 226) [.t 5, .t 6])⟩,
    ⟨some 8, none, .p (.bin .geq (.t 7) (.k (.c (C.int .i64 0))))⟩,
    ⟨some 4, none, .p (.mv (.t 8))⟩] [4])
  .ret)) }
theorem a228_ok : okFn Try.prog 228 a228 = true := by kernel_rfl
/-- loop.example/g01215/impl.canComplete$1 -/
def a229 : AFn := { np := 2, nt := 21, res := [.t 3], body :=
  (.seq (.region [⟨some 2, none, .p (.box 2 (.t 0))⟩,
    ⟨some 3, none, .p (.mv (.k (.c (C.bool false))))⟩] [1, 2])
  (.seq (.region [⟨some 7, none, .h (.load 24 true (.t 1))⟩,
    ⟨some 8, none, .p (.ixA 2 1 (.t 2) (.k (.c (C.int .i64 0))))⟩,
    ⟨some 9, none, .h (.load 1 false (.t 8))⟩,
    ⟨some 10, none, .p (.ixA 2 1 (.t 2) (.k (.c (C.int .i64 1))))⟩,
    ⟨some 11, none, .h (.load 1 false (.t 10))⟩,
    ⟨some 12, none, .h (.call (.f 149) [.t 7, .t 9, .t 11])⟩,
    ⟨some 6, none, .p (.mv (.t 12))⟩,
    ⟨some 13, none, .p (.ext (.t 6) 0)⟩,
    ⟨some 14, none, .p (.ext (.t 6) 1)⟩,
    ⟨some 4, none, .p (.alloc (List.replicate 24 (.k (C.int .i64 0))))⟩,
    ⟨none, none, .h (.store 24 (.t 4) (.t 13))⟩,
    ⟨some 5, none, .p (.mv (.t 14))⟩] [2, 4])
  (.seq (.region [⟨some 15, none, .p (.ixA 2 1 (.t 2) (.k (.c (C.int .i64 1))))⟩,
    ⟨some 16, none, .h (.load 1 false (.t 15))⟩,
    ⟨some 17, none, .p (.fld 0 (.t 4))⟩,
    ⟨some 18, none, .p (.ixA 6 4 (.t 17) (.t 16))⟩,
    ⟨some 19, none, .h (.load 4 true (.t 18))⟩,
    ⟨some 20, none, .h (.call (.f 230) [.t 19])⟩,
    ⟨some 3, none, .p (.mv (.t 20))⟩] [3])
  .ret))) }
theorem a229_ok : okFn Try.prog 229 a229 = true := by kernel_rfl
/-- loop.example/g01215/impl.isComplete -/
def a230 : AFn := { np := 1, nt := 12, res := [.t 2], body :=
  (.seq (.region [⟨some 1, none, .p (.box 4 (.t 0))⟩,
    ⟨some 2, none, .p (.mv (.k (.c (C.bool false))))⟩] [1])
  (.seq (.region [⟨some 3, none, .h (.load 4 true (.t 1))⟩,
    ⟨some 4, none, .h (.call (.f 221) [.t 3])⟩,
    ⟨some 5, none, .p (.bin .eql (.t 4) (.k (.c (C.int .i64 4))))⟩,
    ⟨some 6, none, .p (.mv (.t 5))⟩,
    ⟨some 7, some (6, true), .h (.load 4 true (.t 1))⟩,
    ⟨some 8, some (6, true), .h (.call (.f 225) [.t 7])⟩,
    ⟨some 9, some (6, true), .p (.len (.t 8))⟩,
    ⟨some 10, some (6, true), .p (.bin .eql (.t 9) (.k (.c (C.int .i64 1))))⟩,
    ⟨some 11, none, .p (.pick (.t 6) (.t 10) (.k (.c (C.bool false))))⟩,
    ⟨some 2, none, .p (.mv (.t 11))⟩] [2])
  .ret)) }
theorem a230_ok : okFn Try.prog 230 a230 = true := by kernel_rfl
/-- slices.Concat[[][2]int,[2]int] -/
def a231 : AFn := { np := 1, nt := 36, res := [.t 2], body :=
  (.seq (.region [⟨some 2, none, .p (.nilsl 2)⟩] [0])
  (.seq (.region [⟨some 3, none, .p (.mv (.k (.c (C.int .i64 0))))⟩] [0, 3])
  (.seq (.seq (.region [⟨some 9, none, .p (.mv (.t 0))⟩,
    ⟨some 10, none, .p (.len (.t 9))⟩,
    ⟨some 11, none, .p (.mv (.k (.c (C.int .i64 0))))⟩] [0, 3, 9, 10, 11])
  (.block 0 (.loop (.seq (.region [⟨some 12, none, .p (.bin .lss (.t 11) (.t 10))⟩] [0, 3, 9, 10, 11, 12])
  (.seq (.cond (.t 12)
  .skip
  (.exit 0))
  (.seq (.block 1 (.seq (.region [⟨some 13, none, .p (.ixS 1 (.t 9) (.t 11))⟩,
    ⟨some 14, none, .h (.load 1 false (.t 13))⟩,
    ⟨some 5, none, .p (.mv (.t 14))⟩] [0, 3, 5, 9, 10, 11])
  (.seq (.region [⟨some 15, none, .p (.mv (.t 3))⟩,
    ⟨some 16, none, .p (.mv (.t 5))⟩,
    ⟨some 17, none, .p (.len (.t 16))⟩,
    ⟨some 18, none, .p (.bin .add (.t 15) (.t 17))⟩,
    ⟨some 3, none, .p (.mv (.t 18))⟩] [0, 3, 9, 10, 11])
  (.seq (.region [⟨some 19, none, .p (.mv (.t 3))⟩,
    ⟨some 20, none, .p (.bin .lss (.t 19) (.k (.c (C.int .i64 0))))⟩] [0, 3, 9, 10, 11, 20])
  (.cond (.t 20)
  (.region [⟨some 21, none, .p (.bad)⟩,
    ⟨none, none, .p (.bad)⟩] [0, 3, 9, 10, 11])
  .skip)))))
  (.region [⟨some 22, none, .p (.bin .add (.t 11) (.k (.c (C.int .i64 1))))⟩,
    ⟨some 11, none, .p (.mv (.t 22))⟩] [0, 3, 9, 10, 11])))) [0, 3, 9, 10, 11])))
  (.seq (.region [⟨some 23, none, .p (.mv (.t 3))⟩,
    ⟨some 24, none, .h (.call (.f 252) [.k (.c (C.nsl)), .t 23])⟩,
    ⟨some 6, none, .p (.mv (.t 24))⟩] [0, 6])
  (.seq (.seq (.region [⟨some 25, none, .p (.mv (.t 0))⟩,
    ⟨some 26, none, .p (.len (.t 25))⟩,
    ⟨some 27, none, .p (.mv (.k (.c (C.int .i64 0))))⟩] [6, 25, 26, 27])
  (.block 2 (.loop (.seq (.region [⟨some 28, none, .p (.bin .lss (.t 27) (.t 26))⟩] [6, 25, 26, 27, 28])
  (.seq (.cond (.t 28)
  .skip
  (.exit 2))
  (.seq (.block 3 (.seq (.region [⟨some 29, none, .p (.ixS 1 (.t 25) (.t 27))⟩,
    ⟨some 30, none, .h (.load 1 false (.t 29))⟩,
    ⟨some 8, none, .p (.mv (.t 30))⟩] [6, 8, 25, 26, 27])
  (.region [⟨some 31, none, .p (.mv (.t 6))⟩,
    ⟨some 32, none, .p (.mv (.t 8))⟩,
    ⟨some 33, none, .h (.app 2 (.t 31) (.t 32))⟩,
    ⟨some 6, none, .p (.mv (.t 33))⟩] [6, 25, 26, 27])))
  (.region [⟨some 34, none, .p (.bin .add (.t 27) (.k (.c (C.int .i64 1))))⟩,
    ⟨some 27, none, .p (.mv (.t 34))⟩] [6, 25, 26, 27])))) [6, 25, 26, 27])))
  (.seq (.region [⟨some 35, none, .p (.mv (.t 6))⟩,
    ⟨some 2, none, .p (.mv (.t 35))⟩] [2])
  .ret)))))) }
theorem a231_ok : okFn Try.prog 231 a231 = true := by kernel_rfl
/-- loop.example/g01215/impl.isSorted -/
def a232 : AFn := { np := 1, nt := 34, res := [.t 2], body :=
  (.seq (.region [⟨some 1, none, .p (.box 24 (.t 0))⟩,
    ⟨some 2, none, .p (.mv (.k (.c (C.bool false))))⟩] [1])
  (.seq (.region [⟨some 3, none, .p (.alloc [.k (C.bool false), .k (C.bool false), .k (C.bool false), .k (C.bool false), .k (C.bool false), .k (C.bool false)])⟩] [1, 3])
  (.seq (.seq (.region [⟨some 7, none, .p (.fld 0 (.t 1))⟩,
    ⟨some 8, none, .h (.load 24 true (.t 7))⟩,
    ⟨some 9, none, .p (.mv (.k (.c (C.int .i64 0))))⟩] [3, 8, 9])
  (.block 0 (.loop (.seq (.region [⟨some 10, none, .p (.bin .lss (.t 9) (.k (.c (C.int .i64 6))))⟩] [3, 8, 9, 10])
  (.seq (.cond (.t 10)
  .skip
  (.exit 0))
  (.seq (.block 1 (.seq (.region [⟨some 11, none, .p (.ixV 6 4 true (.t 8) (.t 9))⟩,
    ⟨some 5, none, .p (.alloc [.k (C.int .i64 0), .k (C.int .i64 0), .k (C.int .i64 0), .k (C.int .i64 0)])⟩,
    ⟨none, none, .h (.store 4 (.t 5) (.t 11))⟩] [3, 5, 8, 9])
  (.seq (.region [⟨some 12, none, .h (.load 4 true (.t 5))⟩,
    ⟨some 13, none, .h (.call (.f 225) [.t 12])⟩,
    ⟨some 6, none, .p (.mv (.t 13))⟩] [3, 6, 8, 9])
  (.seq (.seq (.region [⟨some 14, none, .p (.mv (.t 6))⟩,
    ⟨some 15, none, .p (.len (.t 14))⟩,
    ⟨some 16, none, .p (.bin .eql (.t 15) (.k (.c (C.int .i64 0))))⟩] [3, 6, 8, 9, 16])
  (.cond (.t 16)
  (.exit 1)
  .skip))
  (.seq (.seq (.region [⟨some 17, none, .p (.mv (.t 6))⟩,
    ⟨some 18, none, .p (.len (.t 17))⟩,
    ⟨some 19, none, .p (.bin .gtr (.t 18) (.k (.c (C.int .i64 1))))⟩,
    ⟨some 20, none, .p (.mv (.t 19))⟩,
    ⟨some 21, some (20, false), .p (.mv (.t 6))⟩,
    ⟨some 22, some (20, false), .p (.ixS 2 (.t 21) (.k (.c (C.int .i64 0))))⟩,
    ⟨some 23, some (20, false), .p (.ixA 2 1 (.t 22) (.k (.c (C.int .i64 0))))⟩,
    ⟨some 24, some (20, false), .h (.load 1 false (.t 23))⟩,
    ⟨some 25, some (20, false), .p (.ixA 6 1 (.t 3) (.t 24))⟩,
    ⟨some 26, some (20, false), .h (.load 1 false (.t 25))⟩,
    ⟨some 27, none, .p (.pick (.t 20) (.k (.c (C.bool true))) (.t 26))⟩] [3, 6, 8, 9, 27])
  (.cond (.t 27)
  (.seq (.region [⟨some 2, none, .p (.mv (.k (.c (C.bool false))))⟩] [2])
  .ret)
  .skip))
  (.region [⟨some 28, none, .p (.mv (.t 6))⟩,
    ⟨some 29, none, .p (.ixS 2 (.t 28) (.k (.c (C.int .i64 0))))⟩,
    ⟨some 30, none, .p (.ixA 2 1 (.t 29) (.k (.c (C.int .i64 0))))⟩,
    ⟨some 31, none, .h (.load 1 false (.t 30))⟩,
    ⟨some 32, none, .p (.ixA 6 1 (.t 3) (.t 31))⟩,
    ⟨none, none, .h (.store 1 (.t 32) (.k (.c (C.bool true))))⟩] [3, 8, 9]))))))
  (.region [⟨some 33, none, .p (.bin .add (.t 9) (.k (.c (C.int .i64 1))))⟩,
    ⟨some 9, none, .p (.mv (.t 33))⟩] [3, 8, 9])))) [3, 8, 9])))
  (.seq (.region [⟨some 2, none, .p (.mv (.k (.c (C.bool true))))⟩] [2])
  .ret)))) }
theorem a232_ok : okFn Try.prog 232 a232 = true := by kernel_rfl
/-- loop.example/g01215/spec.l9Worth -/
def a233 : AFn := { np := 2, nt := 30, res := [.t 4], body :=
  (.seq (.region [⟨some 2, none, .p (.box 24 (.t 0))⟩,
    ⟨some 4, none, .p (.mv (.k (.c (C.int .i64 0))))⟩] [1, 2])
  (.seq (.block 0 (.seq (.region [⟨some 6, none, .p (.mv (.t 1))⟩,
    ⟨some 7, none, .p (.bin .eql (.t 6) (.k (.c (C.int .i64 3))))⟩,
    ⟨some 5, none, .p (.mv (.t 7))⟩] [1, 2, 5])
  (.cond (.t 5)
  (.seq (.region [⟨some 8, none, .h (.load 24 true (.t 2))⟩,
    ⟨some 9, none, .h (.call (.f 253) [.t 8])⟩,
    ⟨some 4, none, .p (.mv (.t 9))⟩] [4])
  .ret)
  (.seq (.seq (.region [⟨some 11, none, .p (.mv (.t 1))⟩,
    ⟨some 12, none, .p (.bin .eql (.t 11) (.k (.c (C.int .i64 1))))⟩,
    ⟨some 13, none, .p (.mv (.t 12))⟩,
    ⟨some 14, some (13, true), .h (.load 24 true (.t 2))⟩,
    ⟨some 15, some (13, true), .h (.call (.f 172) [.t 14])⟩,
    ⟨some 16, none, .p (.pick (.t 13) (.t 15) (.k (.c (C.bool false))))⟩,
    ⟨some 10, none, .p (.mv (.t 16))⟩] [1, 2, 10])
  (.cond (.t 10)
  .skip
  (.region [⟨some 17, none, .p (.mv (.t 1))⟩,
    ⟨some 18, none, .p (.bin .eql (.t 17) (.k (.c (C.int .i64 2))))⟩,
    ⟨some 19, none, .p (.mv (.t 18))⟩,
    ⟨some 20, some (19, true), .h (.load 24 true (.t 2))⟩,
    ⟨some 21, some (19, true), .h (.call (.f 172) [.t 20])⟩,
    ⟨some 22, some (19, true), .p (.un .not (.t 21))⟩,
    ⟨some 23, none, .p (.pick (.t 19) (.t 22) (.k (.c (C.bool false))))⟩,
    ⟨some 24, none, .p (.mv (.t 23))⟩,
    ⟨some 25, some (24, true), .h (.load 24 true (.t 2))⟩,
    ⟨some 26, some (24, true), .h (.call (.f 141) [.t 25])⟩,
    ⟨some 27, some (24, true), .p (.len (.t 26))⟩,
    ⟨some 28, some (24, true), .p (.bin .eql (.t 27) (.k (.c (C.int .i64 0))))⟩,
    ⟨some 29, none, .p (.pick (.t 24) (.t 28) (.k (.c (C.bool false))))⟩,
    ⟨some 10, none, .p (.mv (.t 29))⟩] [10])))
  (.cond (.t 10)
  (.seq (.region [⟨some 4, none, .p (.mv (.k (.c (C.int .i64 1))))⟩] [4])
  .ret)
  .skip)))))
  (.seq (.region [⟨some 4, none, .p (.mv (.k (.c (C.int .i64 0))))⟩] [4])
  .ret))) }
theorem a233_ok : okFn Try.prog 233 a233 = true := by kernel_rfl
/-- loop.example/g01215/impl.chanceSorted$1 -/
def a234 : AFn := { np := 1, nt := 5, res := [.t 2], body :=
  (.seq (.region [⟨some 1, none, .p (.box 24 (.t 0))⟩,
    ⟨some 2, none, .p (.mv (.k (.c (C.int .i64 0))))⟩] [1])
  (.seq (.seq (.region [⟨some 3, none, .h (.load 24 true (.t 1))⟩,
    ⟨some 4, none, .h (.call (.f 232) [.t 3])⟩] [4])
  (.cond (.t 4)
  (.seq (.region [⟨some 2, none, .p (.mv (.k (.c (C.int .i64 1))))⟩] [2])
  .ret)
  .skip))
  (.seq (.region [⟨some 2, none, .p (.mv (.k (.c (C.int .i64 0))))⟩] [2])
  .ret))) }
theorem a234_ok : okFn Try.prog 234 a234 = true := by kernel_rfl
/-- loop.example/g01215/spec.l6Boundaries -/
def a235 : AFn := { np := 1, nt := 10, res := [.t 2], body :=
  (.seq (.region [⟨some 1, none, .p (.box 24 (.t 0))⟩,
    ⟨some 2, none, .p (.mv (.k (.c (C.int .i64 0))))⟩] [1])
  (.seq (.regionD [⟨some 3, none, .h (.load 24 true (.t 1))⟩,
    ⟨some 4, none, .h (.call (.f 253) [.t 3])⟩,
    ⟨some 5, none, .p (.bin .sub (.t 4) (.k (.c (C.int .i64 6))))⟩,
    ⟨some 6, none, .h (.load 24 true (.t 1))⟩,
    ⟨some 7, none, .h (.call (.f 236) [.t 6])⟩,
    ⟨some 8, none, .p (.ixV 6 1 false (.t 7) (.k (.c (C.int .i64 0))))⟩,
    ⟨some 9, none, .p (.bin .add (.t 5) (.t 8))⟩,
    ⟨some 2, none, .p (.mv (.t 9))⟩] [2] [])
  .ret)) }
theorem a235_ok : okFn Try.prog 235 a235 = true := by kernel_rfl
/-- loop.example/g01215/spec.l6Bottoms -/
def a236 : AFn := { np := 1, nt := 20, res := [.cell 2 6 true], body :=
  (.seq (.region [⟨some 1, none, .p (.box 24 (.t 0))⟩,
    ⟨some 2, none, .p (.alloc [.k (C.int .i64 0), .k (C.int .i64 0), .k (C.int .i64 0), .k (C.int .i64 0), .k (C.int .i64 0), .k (C.int .i64 0)])⟩] [1, 2])
  (.seq (.region [⟨some 5, none, .p (.build [.k (C.int .i64 0), .k (C.int .i64 0), .k (C.int .i64 0), .k (C.int .i64 0), .k (C.int .i64 0), .k (C.int .i64 0)] [])⟩,
    ⟨some 3, none, .p (.alloc [.k (C.int .i64 0), .k (C.int .i64 0), .k (C.int .i64 0), .k (C.int .i64 0), .k (C.int .i64 0), .k (C.int .i64 0)])⟩,
    ⟨none, none, .h (.store 6 (.t 3) (.t 5))⟩] [1, 2, 3])
  (.seq (.seq (.region [⟨some 4, none, .p (.mv (.k (.c (C.int .i64 0))))⟩] [1, 2, 3, 4])
  (.block 0 (.loop (.seq (.seq (.region [⟨some 6, none, .p (.mv (.t 4))⟩,
    ⟨some 7, none, .p (.bin .lss (.t 6) (.k (.c (C.int .i64 6))))⟩] [1, 2, 3, 4, 7])
  (.cond (.t 7)
  .skip
  (.exit 0)))
  (.seq (.block 1 (.region [⟨some 10, none, .p (.mv (.t 4))⟩,
    ⟨some 11, none, .p (.fld 0 (.t 1))⟩,
    ⟨some 12, none, .p (.ixA 6 4 (.t 11) (.t 10))⟩,
    ⟨some 13, none, .p (.ixA 4 1 (.t 12) (.k (.c (C.int .i64 0))))⟩,
    ⟨some 14, none, .h (.load 1 false (.t 13))⟩,
    ⟨some 15, none, .p (.ixA 6 1 (.t 3) (.t 14))⟩,
    ⟨some 16, none, .h (.load 1 false (.t 15))⟩,
    ⟨some 17, none, .p (.bin .add (.t 16) (.k (.c (C.int .i64 1))))⟩,
    ⟨some 18, none, .p (.ixA 6 1 (.t 3) (.t 14))⟩,
    ⟨none, none, .h (.store 1 (.t 18) (.t 17))⟩] [1, 2, 3, 4]))
  (.region [⟨some 8, none, .p (.mv (.t 4))⟩,
    ⟨some 9, none, .p (.bin .add (.t 8) (.k (.c (C.int .i64 1))))⟩,
    ⟨some 4, none, .p (.mv (.t 9))⟩] [1, 2, 3, 4]))) [1, 2, 3, 4])))
  (.seq (.region [⟨some 19, none, .h (.load 6 true (.t 3))⟩,
    ⟨none, none, .h (.store 6 (.t 2) (.t 19))⟩] [2])
  .ret)))) }
theorem a236_ok : okFn Try.prog 236 a236 = true := by kernel_rfl
/-- loop.example/g01215/impl.countBoundaries -/
def a237 : AFn := { np := 1, nt := 20, res := [.t 2], body :=
  (.seq (.region [⟨some 1, none, .p (.box 24 (.t 0))⟩,
    ⟨some 2, none, .p (.mv (.k (.c (C.int .i64 0))))⟩] [1])
  (.seq (.region [⟨some 3, none, .p (.mv (.k (.c (C.int .i64 0))))⟩] [1, 3])
  (.seq (.seq (.region [⟨some 6, none, .p (.fld 0 (.t 1))⟩,
    ⟨some 7, none, .h (.load 24 true (.t 6))⟩,
    ⟨some 8, none, .p (.mv (.k (.c (C.int .i64 0))))⟩] [3, 7, 8])
  (.block 0 (.loop (.seq (.region [⟨some 9, none, .p (.bin .lss (.t 8) (.k (.c (C.int .i64 6))))⟩] [3, 7, 8, 9])
  (.seq (.cond (.t 9)
  .skip
  (.exit 0))
  (.seq (.block 1 (.seq (.region [⟨some 10, none, .p (.ixV 6 4 true (.t 7) (.t 8))⟩,
    ⟨some 5, none, .p (.alloc [.k (C.int .i64 0), .k (C.int .i64 0), .k (C.int .i64 0), .k (C.int .i64 0)])⟩,
    ⟨none, none, .h (.store 4 (.t 5) (.t 10))⟩] [3, 5, 7, 8])
  (.region [⟨some 11, none, .p (.mv (.t 3))⟩,
    ⟨some 12, none, .h (.load 4 true (.t 5))⟩,
    ⟨some 13, none, .h (.call (.f 225) [.t 12])⟩,
    ⟨some 14, none, .p (.len (.t 13))⟩,
    ⟨some 15, none, .p (.bin .sub (.t 14) (.k (.c (C.int .i64 1))))⟩,
    ⟨some 16, none, .p (.mnmx true [.t 15, .k (.c (C.int .i64 0))])⟩,
    ⟨some 17, none, .p (.bin .add (.t 11) (.t 16))⟩,
    ⟨some 3, none, .p (.mv (.t 17))⟩] [3, 7, 8])))
  (.region [⟨some 18, none, .p (.bin .add (.t 8) (.k (.c (C.int .i64 1))))⟩,
    ⟨some 8, none, .p (.mv (.t 18))⟩] [3, 7, 8])))) [3, 7, 8])))
  (.seq (.region [⟨some 19, none, .p (.mv (.t 3))⟩,
    ⟨some 2, none, .p (.mv (.t 19))⟩] [2])
  .ret)))) }
theorem a237_ok : okFn Try.prog 237 a237 = true := by kernel_rfl
/-- loop.example/g01215/impl.bottoms -/
def a238 : AFn := { np := 1, nt := 19, res := [.cell 2 6 true], body :=
  (.seq (.region [⟨some 1, none, .p (.box 24 (.t 0))⟩,
    ⟨some 2, none, .p (.alloc [.k (C.int .i64 0), .k (C.int .i64 0), .k (C.int .i64 0), .k (C.int .i64 0), .k (C.int .i64 0), .k (C.int .i64 0)])⟩] [1, 2])
  (.seq (.region [⟨some 3, none, .p (.alloc [.k (C.int .i64 0), .k (C.int .i64 0), .k (C.int .i64 0), .k (C.int .i64 0), .k (C.int .i64 0), .k (C.int .i64 0)])⟩] [1, 2, 3])
  (.seq (.seq (.region [⟨some 6, none, .p (.fld 0 (.t 1))⟩,
    ⟨some 7, none, .h (.load 24 true (.t 6))⟩,
    ⟨some 8, none, .p (.mv (.k (.c (C.int .i64 0))))⟩] [2, 3, 7, 8])
  (.block 0 (.loop (.seq (.region [⟨some 9, none, .p (.bin .lss (.t 8) (.k (.c (C.int .i64 6))))⟩] [2, 3, 7, 8, 9])
  (.seq (.cond (.t 9)
  .skip
  (.exit 0))
  (.seq (.block 1 (.seq (.region [⟨some 10, none, .p (.ixV 6 4 true (.t 7) (.t 8))⟩,
    ⟨some 5, none, .p (.alloc [.k (C.int .i64 0), .k (C.int .i64 0), .k (C.int .i64 0), .k (C.int .i64 0)])⟩,
    ⟨none, none, .h (.store 4 (.t 5) (.t 10))⟩] [2, 3, 5, 7, 8])
  (.region [⟨some 11, none, .p (.ixA 4 1 (.t 5) (.k (.c (C.int .i64 0))))⟩,
    ⟨some 12, none, .h (.load 1 false (.t 11))⟩,
    ⟨some 13, none, .p (.ixA 6 1 (.t 3) (.t 12))⟩,
    ⟨some 14, none, .h (.load 1 false (.t 13))⟩,
    ⟨some 15, none, .p (.bin .add (.t 14) (.k (.c (C.int .i64 1))))⟩,
    ⟨some 16, none, .p (.ixA 6 1 (.t 3) (.t 12))⟩,
    ⟨none, none, .h (.store 1 (.t 16) (.t 15))⟩] [2, 3, 7, 8])))
  (.region [⟨some 17, none, .p (.bin .add (.t 8) (.k (.c (C.int .i64 1))))⟩,
    ⟨some 8, none, .p (.mv (.t 17))⟩] [2, 3, 7, 8])))) [2, 3, 7, 8])))
  (.seq (.region [⟨some 18, none, .h (.load 6 true (.t 3))⟩,
    ⟨none, none, .h (.store 6 (.t 2) (.t 18))⟩] [2])
  .ret)))) }
theorem a238_ok : okFn Try.prog 238 a238 = true := by kernel_rfl
/-- slices.ContainsFunc[[][4]int,[4]int] -/
def a243 : AFn := { np := 2, nt := 9, res := [.t 4], body :=
  (.seq (.region [⟨some 4, none, .p (.mv (.k (.c (C.bool false))))⟩] [0, 1])
  (.seq (.region [⟨some 5, none, .p (.mv (.t 0))⟩,
    ⟨some 6, none, .p (.mv (.t 1))⟩,
    ⟨some 7, none, .h (.call (.f 256) [.t 5, .t 6])⟩,
    ⟨some 8, none, .p (.bin .geq (.t 7) (.k (.c (C.int .i64 0))))⟩,
    ⟨some 4, none, .p (.mv (.t 8))⟩] [4])
  .ret)) }
theorem a243_ok : okFn Try.prog 243 a243 = true := by kernel_rfl
/-- loop.example/g01215/impl.areAll[[4]int]$1 -/
def a244 : AFn := { np := 2, nt := 8, res := [.t 3], body :=
  (.seq (.region [⟨some 2, none, .p (.box 4 (.t 0))⟩,
    ⟨some 3, none, .p (.mv (.k (.c (C.bool false))))⟩] [1, 2])
  (.seq (.region [⟨some 4, none, .h (.load 1 false (.t 1))⟩,
    ⟨some 5, none, .h (.load 4 true (.t 2))⟩,
    ⟨some 6, none, .h (.call (.t 4) [.t 5])⟩,
    ⟨some 7, none, .p (.un .not (.t 6))⟩,
    ⟨some 3, none, .p (.mv (.t 7))⟩] [3])
  .ret)) }
theorem a244_ok : okFn Try.prog 244 a244 = true := by kernel_rfl
/-- loop.example/g01215/impl.isTube$1 -/
def a245 : AFn := { np := 1, nt := 5, res := [.t 2], body :=
  (.seq (.region [⟨some 2, none, .p (.mv (.k (.c (C.bool false))))⟩] [0])
  (.seq (.region [⟨some 3, none, .p (.mv (.t 0))⟩,
    ⟨some 4, none, .p (.bin .eql (.t 3) (.k (.c (C.int .i64 0))))⟩,
    ⟨some 2, none, .p (.mv (.t 4))⟩] [2])
  .ret)) }
theorem a245_ok : okFn Try.prog 245 a245 = true := by kernel_rfl
/-- slices.ContainsFunc[[]int,int] -/
def a249 : AFn := { np := 2, nt := 9, res := [.t 4], body :=
  (.seq (.region [⟨some 4, none, .p (.mv (.k (.c (C.bool false))))⟩] [0, 1])
  (.seq (.region [⟨some 5, none, .p (.mv (.t 0))⟩,
    ⟨some 6, none, .p (.mv (.t 1))⟩,
    ⟨some 7, none, .h (.call (.f 257) [.t 5, .t 6])⟩,
    ⟨some 8, none, .p (.bin .geq (.t 7) (.k (.c (C.int .i64 0))))⟩,
    ⟨some 4, none, .p (.mv (.t 8))⟩] [4])
  .ret)) }
theorem a249_ok : okFn Try.prog 249 a249 = true := by kernel_rfl
/-- loop.example/g01215/impl.areAll[int]$1 -/
def a250 : AFn := { np := 2, nt := 8, res := [.t 3], body :=
  (.seq (.region [⟨some 3, none, .p (.mv (.k (.c (C.bool false))))⟩] [0, 1])
  (.seq (.region [⟨some 4, none, .h (.load 1 false (.t 1))⟩,
    ⟨some 5, none, .p (.mv (.t 0))⟩,
    ⟨some 6, none, .h (.call (.t 4) [.t 5])⟩,
    ⟨some 7, none, .p (.un .not (.t 6))⟩,
    ⟨some 3, none, .p (.mv (.t 7))⟩] [3])
  .ret)) }
theorem a250_ok : okFn Try.prog 250 a250 = true := by kernel_rfl
/-- slices.Index[[]int,int] -/
def a251 : AFn := { np := 2, nt := 19, res := [.t 4], body :=
  (.seq (.region [⟨some 4, none, .p (.mv (.k (.c (C.int .i64 0))))⟩] [0, 1])
  (.seq (.seq (.region [⟨some 6, none, .p (.mv (.t 0))⟩,
    ⟨some 7, none, .p (.len (.t 6))⟩,
    ⟨some 8, none, .p (.mv (.k (.c (C.int .i64 0))))⟩] [0, 1, 7, 8])
  (.block 0 (.loop (.seq (.region [⟨some 9, none, .p (.bin .lss (.t 8) (.t 7))⟩] [0, 1, 7, 8, 9])
  (.seq (.cond (.t 9)
  .skip
  (.exit 0))
  (.seq (.block 1 (.seq (.region [⟨some 10, none, .p (.mv (.t 8))⟩,
    ⟨some 5, none, .p (.mv (.t 10))⟩] [0, 1, 5, 7, 8])
  (.seq (.region [⟨some 11, none, .p (.mv (.t 1))⟩,
    ⟨some 12, none, .p (.mv (.t 0))⟩,
    ⟨some 13, none, .p (.mv (.t 5))⟩,
    ⟨some 14, none, .p (.ixS 1 (.t 12) (.t 13))⟩,
    ⟨some 15, none, .h (.load 1 false (.t 14))⟩,
    ⟨some 16, none, .p (.bin .eql (.t 11) (.t 15))⟩] [0, 1, 5, 7, 8, 16])
  (.cond (.t 16)
  (.seq (.region [⟨some 17, none, .p (.mv (.t 5))⟩,
    ⟨some 4, none, .p (.mv (.t 17))⟩] [4])
  .ret)
  .skip))))
  (.region [⟨some 18, none, .p (.bin .add (.t 8) (.k (.c (C.int .i64 1))))⟩,
    ⟨some 8, none, .p (.mv (.t 18))⟩] [0, 1, 7, 8])))) [0, 1, 7, 8])))
  (.seq (.region [⟨some 4, none, .p (.mv (.k (.c (C.int .i64 (-1)))))⟩] [4])
  .ret))) }
theorem a251_ok : okFn Try.prog 251 a251 = true := by kernel_rfl
/-- loop.example/g01215/spec.l6Runs -/
def a253 : AFn := { np := 1, nt := 18, res := [.t 2], body :=
  (.seq (.region [⟨some 1, none, .p (.box 24 (.t 0))⟩,
    ⟨some 2, none, .p (.mv (.k (.c (C.int .i64 0))))⟩] [1])
  (.seq (.region [⟨some 3, none, .p (.mv (.k (.c (C.int .i64 0))))⟩] [1, 3])
  (.seq (.seq (.region [⟨some 4, none, .p (.mv (.k (.c (C.int .i64 0))))⟩] [1, 3, 4])
  (.block 0 (.loop (.seq (.seq (.region [⟨some 5, none, .p (.mv (.t 4))⟩,
    ⟨some 6, none, .p (.bin .lss (.t 5) (.k (.c (C.int .i64 6))))⟩] [1, 3, 4, 6])
  (.cond (.t 6)
  .skip
  (.exit 0)))
  (.seq (.block 1 (.region [⟨some 9, none, .p (.mv (.t 3))⟩,
    ⟨some 10, none, .p (.mv (.t 4))⟩,
    ⟨some 11, none, .p (.fld 0 (.t 1))⟩,
    ⟨some 12, none, .p (.ixA 6 4 (.t 11) (.t 10))⟩,
    ⟨some 13, none, .h (.load 4 true (.t 12))⟩,
    ⟨some 14, none, .h (.call (.f 224) [.t 13])⟩,
    ⟨some 15, none, .p (.len (.t 14))⟩,
    ⟨some 16, none, .p (.bin .add (.t 9) (.t 15))⟩,
    ⟨some 3, none, .p (.mv (.t 16))⟩] [1, 3, 4]))
  (.region [⟨some 7, none, .p (.mv (.t 4))⟩,
    ⟨some 8, none, .p (.bin .add (.t 7) (.k (.c (C.int .i64 1))))⟩,
    ⟨some 4, none, .p (.mv (.t 8))⟩] [1, 3, 4]))) [1, 3, 4])))
  (.seq (.region [⟨some 17, none, .p (.mv (.t 3))⟩,
    ⟨some 2, none, .p (.mv (.t 17))⟩] [2])
  .ret)))) }
theorem a253_ok : okFn Try.prog 253 a253 = true := by kernel_rfl
/-- slices.IndexFunc[[][4]int,[4]int] -/
def a256 : AFn := { np := 2, nt := 19, res := [.t 4], body :=
  (.seq (.region [⟨some 4, none, .p (.mv (.k (.c (C.int .i64 0))))⟩] [0, 1])
  (.seq (.seq (.region [⟨some 6, none, .p (.mv (.t 0))⟩,
    ⟨some 7, none, .p (.len (.t 6))⟩,
    ⟨some 8, none, .p (.mv (.k (.c (C.int .i64 0))))⟩] [0, 1, 7, 8])
  (.block 0 (.loop (.seq (.region [⟨some 9, none, .p (.bin .lss (.t 8) (.t 7))⟩] [0, 1, 7, 8, 9])
  (.seq (.cond (.t 9)
  .skip
  (.exit 0))
  (.seq (.block 1 (.seq (.region [⟨some 10, none, .p (.mv (.t 8))⟩,
    ⟨some 5, none, .p (.mv (.t 10))⟩] [0, 1, 5, 7, 8])
  (.seq (.region [⟨some 11, none, .p (.mv (.t 1))⟩,
    ⟨some 12, none, .p (.mv (.t 0))⟩,
    ⟨some 13, none, .p (.mv (.t 5))⟩,
    ⟨some 14, none, .p (.ixS 4 (.t 12) (.t 13))⟩,
    ⟨some 15, none, .h (.load 4 true (.t 14))⟩,
    ⟨some 16, none, .h (.call (.t 11) [.t 15])⟩] [0, 1, 5, 7, 8, 16])
  (.cond (.t 16)
  (.seq (.region [⟨some 17, none, .p (.mv (.t 5))⟩,
    ⟨some 4, none, .p (.mv (.t 17))⟩] [4])
  .ret)
  .skip))))
  (.region [⟨some 18, none, .p (.bin .add (.t 8) (.k (.c (C.int .i64 1))))⟩,
    ⟨some 8, none, .p (.mv (.t 18))⟩] [0, 1, 7, 8])))) [0, 1, 7, 8])))
  (.seq (.region [⟨some 4, none, .p (.mv (.k (.c (C.int .i64 (-1)))))⟩] [4])
  .ret))) }
theorem a256_ok : okFn Try.prog 256 a256 = true := by kernel_rfl
/-- slices.IndexFunc[[]int,int] -/
def a257 : AFn := { np := 2, nt := 19, res := [.t 4], body :=
  (.seq (.region [⟨some 4, none, .p (.mv (.k (.c (C.int .i64 0))))⟩] [0, 1])
  (.seq (.seq (.region [⟨some 6, none, .p (.mv (.t 0))⟩,
    ⟨some 7, none, .p (.len (.t 6))⟩,
    ⟨some 8, none, .p (.mv (.k (.c (C.int .i64 0))))⟩] [0, 1, 7, 8])
  (.block 0 (.loop (.seq (.region [⟨some 9, none, .p (.bin .lss (.t 8) (.t 7))⟩] [0, 1, 7, 8, 9])
  (.seq (.cond (.t 9)
  .skip
  (.exit 0))
  (.seq (.block 1 (.seq (.region [⟨some 10, none, .p (.mv (.t 8))⟩,
    ⟨some 5, none, .p (.mv (.t 10))⟩] [0, 1, 5, 7, 8])
  (.seq (.region [⟨some 11, none, .p (.mv (.t 1))⟩,
    ⟨some 12, none, .p (.mv (.t 0))⟩,
    ⟨some 13, none, .p (.mv (.t 5))⟩,
    ⟨some 14, none, .p (.ixS 1 (.t 12) (.t 13))⟩,
    ⟨some 15, none, .h (.load 1 false (.t 14))⟩,
    ⟨some 16, none, .h (.call (.t 11) [.t 15])⟩] [0, 1, 5, 7, 8, 16])
  (.cond (.t 16)
  (.seq (.region [⟨some 17, none, .p (.mv (.t 5))⟩,
    ⟨some 4, none, .p (.mv (.t 17))⟩] [4])
  .ret)
  .skip))))
  (.region [⟨some 18, none, .p (.bin .add (.t 8) (.k (.c (C.int .i64 1))))⟩,
    ⟨some 8, none, .p (.mv (.t 18))⟩] [0, 1, 7, 8])))) [0, 1, 7, 8])))
  (.seq (.region [⟨some 4, none, .p (.mv (.k (.c (C.int .i64 (-1)))))⟩] [4])
  .ret))) }
theorem a257_ok : okFn Try.prog 257 a257 = true := by kernel_rfl
def prB : Prog
  | 94 => some a94
  | 95 => some a95
  | 96 => some a96
  | 97 => some a97
  | 98 => some a98
  | 99 => some a99
  | 100 => some a100
  | 101 => some a101
  | 102 => some a102
  | 121 => some a121
  | 132 => some a132
  | 133 => some a133
  | 134 => some a134
  | 135 => some a135
  | 136 => some a136
  | 137 => some a137
  | 138 => some a138
  | 139 => some a139
  | 140 => some a140
  | 141 => some a141
  | 142 => some a142
  | 143 => some a143
  | 144 => some a144
  | 145 => some a145
  | 146 => some a146
  | 147 => some a147
  | 148 => some a148
  | 149 => some a149
  | 150 => some a150
  | 151 => some a151
  | 152 => some a152
  | 153 => some a153
  | 154 => some a154
  | 155 => some a155
  | 156 => some a156
  | 157 => some a157
  | 158 => some a158
  | 159 => some a159
  | 160 => some a160
  | 161 => some a161
  | 162 => some a162
  | 163 => some a163
  | 164 => some a164
  | 165 => some a165
  | 166 => some a166
  | 167 => some a167
  | 168 => some a168
  | 169 => some a169
  | 170 => some a170
  | 171 => some a171
  | 172 => some a172
  | 173 => some a173
  | 174 => some a174
  | 175 => some a175
  | 176 => some a176
  | 177 => some a177
  | 178 => some a178
  | 179 => some a179
  | 180 => some a180
  | 181 => some a181
  | 182 => some a182
  | 183 => some a183
  | 184 => some a184
  | 185 => some a185
  | 186 => some a186
  | 189 => some a189
  | 190 => some a190
  | 194 => some a194
  | 195 => some a195
  | 196 => some a196
  | 197 => some a197
  | 200 => some a200
  | 201 => some a201
  | 203 => some a203
  | 206 => some a206
  | 207 => some a207
  | 208 => some a208
  | 209 => some a209
  | 210 => some a210
  | 211 => some a211
  | 212 => some a212
  | 213 => some a213
  | 214 => some a214
  | 215 => some a215
  | 216 => some a216
  | 217 => some a217
  | 218 => some a218
  | 219 => some a219
  | 220 => some a220
  | 221 => some a221
  | 222 => some a222
  | 223 => some a223
  | 224 => some a224
  | 225 => some a225
  | 226 => some a226
  | 227 => some a227
  | 228 => some a228
  | 229 => some a229
  | 230 => some a230
  | 231 => some a231
  | 232 => some a232
  | 233 => some a233
  | 234 => some a234
  | 235 => some a235
  | 236 => some a236
  | 237 => some a237
  | 238 => some a238
  | 243 => some a243
  | 244 => some a244
  | 245 => some a245
  | 249 => some a249
  | 250 => some a250
  | 251 => some a251
  | 253 => some a253
  | 256 => some a256
  | 257 => some a257
  | _ => none
theorem prB_ok : ProgOK Try.prog prB := by
  intro f fn h
  unfold prB at h
  split at h
  · injection h with h; subst h; exact a94_ok
  · injection h with h; subst h; exact a95_ok
  · injection h with h; subst h; exact a96_ok
  · injection h with h; subst h; exact a97_ok
  · injection h with h; subst h; exact a98_ok
  · injection h with h; subst h; exact a99_ok
  · injection h with h; subst h; exact a100_ok
  · injection h with h; subst h; exact a101_ok
  · injection h with h; subst h; exact a102_ok
  · injection h with h; subst h; exact a121_ok
  · injection h with h; subst h; exact a132_ok
  · injection h with h; subst h; exact a133_ok
  · injection h with h; subst h; exact a134_ok
  · injection h with h; subst h; exact a135_ok
  · injection h with h; subst h; exact a136_ok
  · injection h with h; subst h; exact a137_ok
  · injection h with h; subst h; exact a138_ok
  · injection h with h; subst h; exact a139_ok
  · injection h with h; subst h; exact a140_ok
  · injection h with h; subst h; exact a141_ok
  · injection h with h; subst h; exact a142_ok
  · injection h with h; subst h; exact a143_ok
  · injection h with h; subst h; exact a144_ok
  · injection h with h; subst h; exact a145_ok
  · injection h with h; subst h; exact a146_ok
  · injection h with h; subst h; exact a147_ok
  · injection h with h; subst h; exact a148_ok
  · injection h with h; subst h; exact a149_ok
  · injection h with h; subst h; exact a150_ok
  · injection h with h; subst h; exact a151_ok
  · injection h with h; subst h; exact a152_ok
  · injection h with h; subst h; exact a153_ok
  · injection h with h; subst h; exact a154_ok
  · injection h with h; subst h; exact a155_ok
  · injection h with h; subst h; exact a156_ok
  · injection h with h; subst h; exact a157_ok
  · injection h with h; subst h; exact a158_ok
  · injection h with h; subst h; exact a159_ok
  · injection h with h; subst h; exact a160_ok
  · injection h with h; subst h; exact a161_ok
  · injection h with h; subst h; exact a162_ok
  · injection h with h; subst h; exact a163_ok
  · injection h with h; subst h; exact a164_ok
  · injection h with h; subst h; exact a165_ok
  · injection h with h; subst h; exact a166_ok
  · injection h with h; subst h; exact a167_ok
  · injection h with h; subst h; exact a168_ok
  · injection h with h; subst h; exact a169_ok
  · injection h with h; subst h; exact a170_ok
  · injection h with h; subst h; exact a171_ok
  · injection h with h; subst h; exact a172_ok
  · injection h with h; subst h; exact a173_ok
  · injection h with h; subst h; exact a174_ok
  · injection h with h; subst h; exact a175_ok
  · injection h with h; subst h; exact a176_ok
  · injection h with h; subst h; exact a177_ok
  · injection h with h; subst h; exact a178_ok
  · injection h with h; subst h; exact a179_ok
  · injection h with h; subst h; exact a180_ok
  · injection h with h; subst h; exact a181_ok
  · injection h with h; subst h; exact a182_ok
  · injection h with h; subst h; exact a183_ok
  · injection h with h; subst h; exact a184_ok
  · injection h with h; subst h; exact a185_ok
  · injection h with h; subst h; exact a186_ok
  · injection h with h; subst h; exact a189_ok
  · injection h with h; subst h; exact a190_ok
  · injection h with h; subst h; exact a194_ok
  · injection h with h; subst h; exact a195_ok
  · injection h with h; subst h; exact a196_ok
  · injection h with h; subst h; exact a197_ok
  · injection h with h; subst h; exact a200_ok
  · injection h with h; subst h; exact a201_ok
  · injection h with h; subst h; exact a203_ok
  · injection h with h; subst h; exact a206_ok
  · injection h with h; subst h; exact a207_ok
  · injection h with h; subst h; exact a208_ok
  · injection h with h; subst h; exact a209_ok
  · injection h with h; subst h; exact a210_ok
  · injection h with h; subst h; exact a211_ok
  · injection h with h; subst h; exact a212_ok
  · injection h with h; subst h; exact a213_ok
  · injection h with h; subst h; exact a214_ok
  · injection h with h; subst h; exact a215_ok
  · injection h with h; subst h; exact a216_ok
  · injection h with h; subst h; exact a217_ok
  · injection h with h; subst h; exact a218_ok
  · injection h with h; subst h; exact a219_ok
  · injection h with h; subst h; exact a220_ok
  · injection h with h; subst h; exact a221_ok
  · injection h with h; subst h; exact a222_ok
  · injection h with h; subst h; exact a223_ok
  · injection h with h; subst h; exact a224_ok
  · injection h with h; subst h; exact a225_ok
  · injection h with h; subst h; exact a226_ok
  · injection h with h; subst h; exact a227_ok
  · injection h with h; subst h; exact a228_ok
  · injection h with h; subst h; exact a229_ok
  · injection h with h; subst h; exact a230_ok
  · injection h with h; subst h; exact a231_ok
  · injection h with h; subst h; exact a232_ok
  · injection h with h; subst h; exact a233_ok
  · injection h with h; subst h; exact a234_ok
  · injection h with h; subst h; exact a235_ok
  · injection h with h; subst h; exact a236_ok
  · injection h with h; subst h; exact a237_ok
  · injection h with h; subst h; exact a238_ok
  · injection h with h; subst h; exact a243_ok
  · injection h with h; subst h; exact a244_ok
  · injection h with h; subst h; exact a245_ok
  · injection h with h; subst h; exact a249_ok
  · injection h with h; subst h; exact a250_ok
  · injection h with h; subst h; exact a251_ok
  · injection h with h; subst h; exact a253_ok
  · injection h with h; subst h; exact a256_ok
  · injection h with h; subst h; exact a257_ok
  · cases h
end Go.Proofs.Ytgmamngkkpadhaa.AM
