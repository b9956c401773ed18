/- the functions' code in the abstract machine: printed by a program (wip/tools/genparts.py) out of the loaded program -/
import Derived.Test.YtgmamngkkpadhaaAmD
import Derived.Test.YtgmamngkkpadhaaProg
import Derived.KernelRfl
namespace Go.Proofs.Ytgmamngkkpadhaa.AM
open Go
set_option maxRecDepth 100000
/-- loop.example/g01215/spec.ReplayRack -/
def a52 : AFn := { np := 2, nt := 28, res := [.cell 4 24 true, .t 5], body :=
  (.seq (.region [⟨some 2, none, .p (.box 25 (.t 0))⟩,
    ⟨some 4, none, .p (.alloc (List.replicate 24 (.k (C.int .i64 0))))⟩,
    ⟨some 5, none, .p (.mv (.k (.c (C.bool false))))⟩] [1, 2, 4])
  (.seq (.region [⟨some 9, none, .h (.load 25 true (.t 2))⟩,
    ⟨some 10, none, .h (.call (.f 150) [.t 9])⟩,
    ⟨some 8, none, .p (.mv (.t 10))⟩,
    ⟨some 11, none, .p (.ext (.t 8) 0)⟩,
    ⟨some 12, none, .p (.ext (.t 8) 1)⟩,
    ⟨some 6, none, .p (.mv (.t 11))⟩,
    ⟨some 7, none, .p (.mv (.t 12))⟩] [1, 4, 6, 7])
  (.seq (.seq (.region [⟨some 13, none, .p (.mv (.t 7))⟩,
    ⟨some 14, none, .p (.un .not (.t 13))⟩,
    ⟨some 15, none, .p (.mv (.t 14))⟩,
    ⟨some 16, some (15, false), .p (.mv (.t 1))⟩,
    ⟨some 17, some (15, false), .p (.mv (.t 6))⟩,
    ⟨some 18, some (15, false), .p (.len (.t 17))⟩,
    ⟨some 19, some (15, false), .p (.bin .sub (.t 18) (.k (.c (C.int .i64 1))))⟩,
    ⟨some 20, some (15, false), .h (.call (.f 144) [.t 16, .k (.c (C.int .i64 0)), .t 19])⟩,
    ⟨some 21, some (15, false), .p (.un .not (.t 20))⟩,
    ⟨some 22, none, .p (.pick (.t 15) (.k (.c (C.bool true))) (.t 21))⟩] [1, 4, 6, 22])
  (.cond (.t 22)
  (.seq (.region [⟨some 23, none, .p (.build (List.replicate 24 (.k (C.int .i64 0))) [])⟩,
    ⟨none, none, .h (.store 24 (.t 4) (.t 23))⟩,
    ⟨some 5, none, .p (.mv (.k (.c (C.bool false))))⟩] [4, 5])
  .ret)
  .skip))
  (.seq (.region [⟨some 24, none, .p (.mv (.t 6))⟩,
    ⟨some 25, none, .p (.mv (.t 1))⟩,
    ⟨some 26, none, .p (.ixS 24 (.t 24) (.t 25))⟩,
    ⟨some 27, none, .h (.load 24 true (.t 26))⟩,
    ⟨none, none, .h (.store 24 (.t 4) (.t 27))⟩,
    ⟨some 5, none, .p (.mv (.k (.c (C.bool true))))⟩] [4, 5])
  .ret)))) }
theorem a52_ok : okFn Try.prog 52 a52 = true := by kernel_rfl
/-- loop.example/g01215/impl.ReplayRack -/
def a53 : AFn := { np := 2, nt := 28, res := [.cell 4 24 true, .t 5], body :=
  (.seq (.region [⟨some 2, none, .p (.box 25 (.t 0))⟩,
    ⟨some 4, none, .p (.alloc (List.replicate 24 (.k (C.int .i64 0))))⟩,
    ⟨some 5, none, .p (.mv (.k (.c (C.bool false))))⟩] [1, 2, 4])
  (.seq (.region [⟨some 9, none, .h (.load 25 true (.t 2))⟩,
    ⟨some 10, none, .h (.call (.f 151) [.t 9])⟩,
    ⟨some 8, none, .p (.mv (.t 10))⟩,
    ⟨some 11, none, .p (.ext (.t 8) 0)⟩,
    ⟨some 12, none, .p (.ext (.t 8) 1)⟩,
    ⟨some 6, none, .p (.mv (.t 11))⟩,
    ⟨some 7, none, .p (.mv (.t 12))⟩] [1, 2, 4, 6, 7])
  (.seq (.seq (.region [⟨some 13, none, .p (.mv (.t 7))⟩,
    ⟨some 14, none, .p (.un .not (.t 13))⟩,
    ⟨some 15, none, .p (.mv (.t 14))⟩,
    ⟨some 16, some (15, false), .p (.mv (.t 1))⟩,
    ⟨some 17, some (15, false), .p (.fld 24 (.t 2))⟩,
    ⟨some 18, some (15, false), .h (.load 1 false (.t 17))⟩,
    ⟨some 19, some (15, false), .p (.len (.t 18))⟩,
    ⟨some 20, some (15, false), .h (.call (.f 152) [.t 16, .k (.c (C.int .i64 0)), .t 19])⟩,
    ⟨some 21, some (15, false), .p (.un .not (.t 20))⟩,
    ⟨some 22, none, .p (.pick (.t 15) (.k (.c (C.bool true))) (.t 21))⟩] [1, 4, 6, 22])
  (.cond (.t 22)
  (.seq (.region [⟨some 23, none, .p (.build (List.replicate 24 (.k (C.int .i64 0))) [])⟩,
    ⟨none, none, .h (.store 24 (.t 4) (.t 23))⟩,
    ⟨some 5, none, .p (.mv (.k (.c (C.bool false))))⟩] [4, 5])
  .ret)
  .skip))
  (.seq (.region [⟨some 24, none, .p (.mv (.t 6))⟩,
    ⟨some 25, none, .p (.mv (.t 1))⟩,
    ⟨some 26, none, .p (.ixS 24 (.t 24) (.t 25))⟩,
    ⟨some 27, none, .h (.load 24 true (.t 26))⟩,
    ⟨none, none, .h (.store 24 (.t 4) (.t 27))⟩,
    ⟨some 5, none, .p (.mv (.k (.c (C.bool true))))⟩] [4, 5])
  .ret)))) }
theorem a53_ok : okFn Try.prog 53 a53 = true := by kernel_rfl
/-- loop.example/g01215/laws.eqRack -/
def a54 : AFn := { np := 2, nt := 11, res := [.t 4], body :=
  (.seq (.region [⟨some 2, none, .p (.box 24 (.t 0))⟩,
    ⟨some 3, none, .p (.box 24 (.t 1))⟩,
    ⟨some 4, none, .p (.mv (.k (.c (C.bool false))))⟩] [2, 3])
  (.seq (.seq (.region [⟨some 5, none, .p (.fld 0 (.t 2))⟩,
    ⟨some 6, none, .h (.load 24 true (.t 5))⟩,
    ⟨some 7, none, .p (.fld 0 (.t 3))⟩,
    ⟨some 8, none, .h (.load 24 true (.t 7))⟩,
    ⟨some 9, none, .h (.call (.f 153) [.t 6, .t 8])⟩,
    ⟨some 10, none, .p (.un .not (.t 9))⟩] [10])
  (.cond (.t 10)
  (.seq (.region [⟨some 4, none, .p (.mv (.k (.c (C.bool false))))⟩] [4])
  .ret)
  .skip))
  (.seq (.region [⟨some 4, none, .p (.mv (.k (.c (C.bool true))))⟩] [4])
  .ret))) }
theorem a54_ok : okFn Try.prog 54 a54 = true := by kernel_rfl
/-- loop.example/g01215/laws.szIntA2S -/
def a55 : AFn := { np := 2, nt := 12, res := [.t 4], body :=
  (.seq (.region [⟨some 4, none, .p (.mv (.k (.c (C.int .i64 0))))⟩] [0, 1])
  (.seq (.region [⟨some 5, none, .p (.mv (.t 1))⟩,
    ⟨some 6, none, .p (.mv (.t 0))⟩,
    ⟨some 7, none, .p (.len (.t 6))⟩,
    ⟨some 8, none, .p (.bin .sub (.t 5) (.t 7))⟩,
    ⟨some 1, none, .p (.mv (.t 8))⟩] [1])
  (.seq (.seq (.region [⟨some 9, none, .p (.mv (.t 1))⟩,
    ⟨some 10, none, .p (.bin .lss (.t 9) (.k (.c (C.int .i64 0))))⟩] [1, 10])
  (.cond (.t 10)
  (.seq (.region [⟨some 4, none, .p (.mv (.k (.c (C.int .i64 (-1)))))⟩] [4])
  .ret)
  .skip))
  (.seq (.region [⟨some 11, none, .p (.mv (.t 1))⟩,
    ⟨some 4, none, .p (.mv (.t 11))⟩] [4])
  .ret)))) }
theorem a55_ok : okFn Try.prog 55 a55 = true := by kernel_rfl
/-- loop.example/g01215/spec.PlayParty -/
def a56 : AFn := { np := 2, nt := 76, res := [.cell 4 24 true, .cell 5 2 true, .t 6, .t 7], body :=
  (.seq (.region [⟨some 2, none, .p (.box 24 (.t 0))⟩,
    ⟨some 4, none, .p (.alloc (List.replicate 24 (.k (C.int .i64 0))))⟩,
    ⟨some 5, none, .p (.alloc [.k (C.int .i64 0), .k (C.int .i64 0)])⟩,
    ⟨some 6, none, .p (.mv (.k (.c (C.int .i64 0))))⟩,
    ⟨some 7, none, .p (.mv (.k (.c (C.bool false))))⟩] [1, 2, 4, 5])
  (.seq (.region [⟨some 12, none, .p (.build [.k (C.int .i64 0), .k (C.int .i64 0)] [])⟩,
    ⟨some 8, none, .p (.alloc [.k (C.int .i64 0), .k (C.int .i64 0)])⟩,
    ⟨none, none, .h (.store 2 (.t 8) (.t 12))⟩] [1, 2, 4, 5, 8])
  (.seq (.seq (.region [⟨some 13, none, .h (.load 24 true (.t 2))⟩,
    ⟨some 14, none, .h (.call (.f 140) [.t 13])⟩,
    ⟨some 15, none, .p (.un .not (.t 14))⟩,
    ⟨some 16, none, .p (.mv (.t 15))⟩,
    ⟨some 17, some (16, false), .p (.mv (.t 1))⟩,
    ⟨some 18, some (16, false), .p (.len (.t 17))⟩,
    ⟨some 19, some (16, false), .p (.bin .gtr (.t 18) (.k (.c (C.int .i64 60))))⟩,
    ⟨some 20, none, .p (.pick (.t 16) (.k (.c (C.bool true))) (.t 19))⟩] [1, 2, 4, 5, 8, 20])
  (.cond (.t 20)
  (.seq (.regionD [⟨some 21, none, .p (.build (List.replicate 24 (.k (C.int .i64 0))) [])⟩,
    ⟨some 22, none, .h (.load 2 true (.t 8))⟩,
    ⟨none, none, .h (.store 24 (.t 4) (.t 21))⟩,
    ⟨none, none, .h (.store 2 (.t 5) (.t 22))⟩,
    ⟨some 6, none, .p (.mv (.k (.c (C.int .i64 0))))⟩,
    ⟨some 7, none, .p (.mv (.k (.c (C.bool false))))⟩] [4, 5, 6, 7] [(.t 8, .t 4)])
  .ret)
  .skip))
  (.seq (.seq (.region [⟨some 9, none, .p (.mv (.k (.c (C.int .i64 0))))⟩] [1, 2, 4, 5, 8, 9])
  (.block 0 (.loop (.seq (.seq (.region [⟨some 23, none, .p (.mv (.t 9))⟩,
    ⟨some 24, none, .p (.mv (.t 1))⟩,
    ⟨some 25, none, .p (.len (.t 24))⟩,
    ⟨some 26, none, .p (.bin .lss (.t 23) (.t 25))⟩] [1, 2, 4, 5, 8, 9, 26])
  (.cond (.t 26)
  .skip
  (.exit 0)))
  (.seq (.block 1 (.seq (.seq (.regionD [⟨some 29, none, .h (.load 24 true (.t 2))⟩,
    ⟨some 30, none, .p (.mv (.t 1))⟩,
    ⟨some 31, none, .p (.mv (.t 9))⟩,
    ⟨some 32, none, .p (.ixS 2 (.t 30) (.t 31))⟩,
    ⟨some 33, none, .h (.load 2 true (.t 32))⟩,
    ⟨some 34, none, .h (.call (.f 154) [.t 29, .t 33])⟩,
    ⟨some 35, none, .p (.un .not (.t 34))⟩,
    ⟨some 36, none, .p (.mv (.t 35))⟩,
    ⟨some 37, some (36, false), .h (.load 24 true (.t 2))⟩,
    ⟨some 38, some (36, false), .p (.mv (.t 1))⟩,
    ⟨some 39, some (36, false), .p (.mv (.t 9))⟩,
    ⟨some 40, some (36, false), .p (.ixS 2 (.t 38) (.t 39))⟩,
    ⟨some 41, some (36, false), .p (.ixA 2 1 (.t 40) (.k (.c (C.int .i64 0))))⟩,
    ⟨some 42, some (36, false), .h (.load 1 false (.t 41))⟩,
    ⟨some 43, some (36, false), .p (.mv (.t 1))⟩,
    ⟨some 44, some (36, false), .p (.mv (.t 9))⟩,
    ⟨some 45, some (36, false), .p (.ixS 2 (.t 43) (.t 44))⟩,
    ⟨some 46, some (36, false), .p (.ixA 2 1 (.t 45) (.k (.c (C.int .i64 1))))⟩,
    ⟨some 47, some (36, false), .h (.load 1 false (.t 46))⟩,
    ⟨some 48, some (36, false), .h (.call (.f 155) [.t 37, .t 42, .t 47])⟩,
    ⟨some 49, none, .p (.pick (.t 36) (.k (.c (C.bool true))) (.t 48))⟩] [1, 2, 4, 5, 8, 9, 49] [])
  (.cond (.t 49)
  (.seq (.regionD [⟨some 50, none, .h (.load 24 true (.t 2))⟩,
    ⟨some 51, none, .h (.load 2 true (.t 8))⟩,
    ⟨some 52, none, .p (.mv (.t 9))⟩,
    ⟨none, none, .h (.store 24 (.t 4) (.t 50))⟩,
    ⟨none, none, .h (.store 2 (.t 5) (.t 51))⟩,
    ⟨some 6, none, .p (.mv (.t 52))⟩,
    ⟨some 7, none, .p (.mv (.k (.c (C.bool true))))⟩] [4, 5, 6, 7] [(.t 8, .t 4)])
  .ret)
  .skip))
  (.seq (.regionD [⟨some 54, none, .h (.load 24 true (.t 2))⟩,
    ⟨some 55, none, .p (.mv (.t 1))⟩,
    ⟨some 56, none, .p (.mv (.t 9))⟩,
    ⟨some 57, none, .p (.ixS 2 (.t 55) (.t 56))⟩,
    ⟨some 58, none, .h (.load 2 true (.t 57))⟩,
    ⟨some 59, none, .h (.call (.f 156) [.t 54, .t 58])⟩,
    ⟨some 53, none, .p (.mv (.t 59))⟩,
    ⟨some 60, none, .p (.ext (.t 53) 0)⟩,
    ⟨some 61, none, .p (.ext (.t 53) 1)⟩,
    ⟨some 11, none, .p (.alloc (List.replicate 24 (.k (C.int .i64 0))))⟩,
    ⟨some 10, none, .p (.mv (.t 60))⟩,
    ⟨none, none, .h (.store 24 (.t 11) (.t 61))⟩] [1, 2, 4, 5, 8, 9, 10, 11] [])
  (.seq (.region [⟨some 62, none, .p (.mv (.t 9))⟩,
    ⟨some 63, none, .p (.bin .rem (.t 62) (.k (.c (C.int .i64 2))))⟩,
    ⟨some 64, none, .p (.mv (.t 9))⟩,
    ⟨some 65, none, .p (.bin .rem (.t 64) (.k (.c (C.int .i64 2))))⟩,
    ⟨some 66, none, .p (.ixA 2 1 (.t 8) (.t 65))⟩,
    ⟨some 67, none, .h (.load 1 false (.t 66))⟩,
    ⟨some 68, none, .p (.mv (.t 10))⟩,
    ⟨some 69, none, .p (.bin .add (.t 67) (.t 68))⟩,
    ⟨some 70, none, .p (.ixA 2 1 (.t 8) (.t 63))⟩,
    ⟨none, none, .h (.store 1 (.t 70) (.t 69))⟩] [1, 2, 4, 5, 8, 9, 11])
  (.region [⟨some 71, none, .h (.load 24 true (.t 11))⟩,
    ⟨none, none, .h (.store 24 (.t 2) (.t 71))⟩] [1, 2, 4, 5, 8, 9])))))
  (.region [⟨some 27, none, .p (.mv (.t 9))⟩,
    ⟨some 28, none, .p (.bin .add (.t 27) (.k (.c (C.int .i64 1))))⟩,
    ⟨some 9, none, .p (.mv (.t 28))⟩] [1, 2, 4, 5, 8, 9]))) [1, 2, 4, 5, 8, 9])))
  (.seq (.regionD [⟨some 72, none, .h (.load 24 true (.t 2))⟩,
    ⟨some 73, none, .h (.load 2 true (.t 8))⟩,
    ⟨some 74, none, .p (.mv (.t 1))⟩,
    ⟨some 75, none, .p (.len (.t 74))⟩,
    ⟨none, none, .h (.store 24 (.t 4) (.t 72))⟩,
    ⟨none, none, .h (.store 2 (.t 5) (.t 73))⟩,
    ⟨some 6, none, .p (.mv (.t 75))⟩,
    ⟨some 7, none, .p (.mv (.k (.c (C.bool true))))⟩] [4, 5, 6, 7] [(.t 8, .t 4)])
  .ret))))) }
theorem a56_ok : okFn Try.prog 56 a56 = true := by kernel_rfl
/-- loop.example/g01215/laws.toIntA2S -/
def a57 : AFn := { np := 1, nt := 23, res := [.t 2], body :=
  (.seq (.region [⟨some 2, none, .p (.nilsl 2)⟩] [0])
  (.seq (.region [⟨some 5, none, .p (.mv (.t 0))⟩,
    ⟨some 6, none, .p (.len (.t 5))⟩,
    ⟨some 7, none, .p (.mkslice 2 [.k (C.int .i64 0), .k (C.int .i64 0)] (.t 6) (.t 6))⟩,
    ⟨some 3, none, .p (.mv (.t 7))⟩] [0, 3])
  (.seq (.seq (.region [⟨some 4, none, .p (.mv (.k (.c (C.int .i64 0))))⟩] [0, 3, 4])
  (.block 0 (.loop (.seq (.seq (.region [⟨some 8, none, .p (.mv (.t 4))⟩,
    ⟨some 9, none, .p (.mv (.t 0))⟩,
    ⟨some 10, none, .p (.len (.t 9))⟩,
    ⟨some 11, none, .p (.bin .lss (.t 8) (.t 10))⟩] [0, 3, 4, 11])
  (.cond (.t 11)
  .skip
  (.exit 0)))
  (.seq (.block 1 (.region [⟨some 14, none, .p (.mv (.t 3))⟩,
    ⟨some 15, none, .p (.mv (.t 4))⟩,
    ⟨some 16, none, .p (.mv (.t 0))⟩,
    ⟨some 17, none, .p (.mv (.t 4))⟩,
    ⟨some 18, none, .p (.ixS 2 (.t 16) (.t 17))⟩,
    ⟨some 19, none, .h (.load 2 true (.t 18))⟩,
    ⟨some 20, none, .h (.call (.f 82) [.t 19])⟩,
    ⟨some 21, none, .p (.ixS 2 (.t 14) (.t 15))⟩,
    ⟨none, none, .h (.store 2 (.t 21) (.t 20))⟩] [0, 3, 4]))
  (.region [⟨some 12, none, .p (.mv (.t 4))⟩,
    ⟨some 13, none, .p (.bin .add (.t 12) (.k (.c (C.int .i64 1))))⟩,
    ⟨some 4, none, .p (.mv (.t 13))⟩] [0, 3, 4]))) [0, 3, 4])))
  (.seq (.region [⟨some 22, none, .p (.mv (.t 3))⟩,
    ⟨some 2, none, .p (.mv (.t 22))⟩] [2])
  .ret)))) }
theorem a57_ok : okFn Try.prog 57 a57 = true := by kernel_rfl
/-- loop.example/g01215/impl.PlayParty -/
def a58 : AFn := { np := 2, nt := 61, res := [.cell 4 24 true, .cell 5 2 true, .t 6, .t 7], body :=
  (.seq (.region [⟨some 2, none, .p (.box 24 (.t 0))⟩,
    ⟨some 4, none, .p (.alloc (List.replicate 24 (.k (C.int .i64 0))))⟩,
    ⟨some 5, none, .p (.alloc [.k (C.int .i64 0), .k (C.int .i64 0)])⟩,
    ⟨some 6, none, .p (.mv (.k (.c (C.int .i64 0))))⟩,
    ⟨some 7, none, .p (.mv (.k (.c (C.bool false))))⟩] [1, 2, 4, 5])
  (.seq (.seq (.region [⟨some 13, none, .h (.load 24 true (.t 2))⟩,
    ⟨some 14, none, .h (.call (.f 121) [.t 13])⟩,
    ⟨some 15, none, .p (.un .not (.t 14))⟩,
    ⟨some 16, none, .p (.mv (.t 15))⟩,
    ⟨some 17, some (16, false), .p (.mv (.t 1))⟩,
    ⟨some 18, some (16, false), .p (.len (.t 17))⟩,
    ⟨some 19, some (16, false), .p (.bin .gtr (.t 18) (.k (.c (C.int .i64 60))))⟩,
    ⟨some 20, none, .p (.pick (.t 16) (.k (.c (C.bool true))) (.t 19))⟩] [1, 2, 4, 5, 20])
  (.cond (.t 20)
  (.seq (.region [⟨some 21, none, .p (.build (List.replicate 24 (.k (C.int .i64 0))) [])⟩,
    ⟨some 22, none, .p (.build [.k (C.int .i64 0), .k (C.int .i64 0)] [])⟩,
    ⟨none, none, .h (.store 24 (.t 4) (.t 21))⟩,
    ⟨none, none, .h (.store 2 (.t 5) (.t 22))⟩,
    ⟨some 6, none, .p (.mv (.k (.c (C.int .i64 0))))⟩,
    ⟨some 7, none, .p (.mv (.k (.c (C.bool false))))⟩] [4, 5, 6, 7])
  .ret)
  .skip))
  (.seq (.region [⟨some 8, none, .p (.alloc [.k (C.int .i64 0), .k (C.int .i64 0)])⟩] [1, 2, 4, 5, 8])
  (.seq (.seq (.region [⟨some 23, none, .p (.mv (.t 1))⟩,
    ⟨some 24, none, .p (.len (.t 23))⟩,
    ⟨some 25, none, .p (.mv (.k (.c (C.int .i64 0))))⟩] [1, 2, 4, 5, 8, 23, 24, 25])
  (.block 0 (.loop (.seq (.region [⟨some 26, none, .p (.bin .lss (.t 25) (.t 24))⟩] [1, 2, 4, 5, 8, 23, 24, 25, 26])
  (.seq (.cond (.t 26)
  .skip
  (.exit 0))
  (.seq (.block 1 (.seq (.region [⟨some 27, none, .p (.mv (.t 25))⟩,
    ⟨some 28, none, .p (.ixS 2 (.t 23) (.t 25))⟩,
    ⟨some 29, none, .h (.load 2 true (.t 28))⟩,
    ⟨some 10, none, .p (.alloc [.k (C.int .i64 0), .k (C.int .i64 0)])⟩,
    ⟨some 9, none, .p (.mv (.t 27))⟩,
    ⟨none, none, .h (.store 2 (.t 10) (.t 29))⟩] [1, 2, 4, 5, 8, 9, 10, 23, 24, 25])
  (.seq (.seq (.region [⟨some 30, none, .h (.load 24 true (.t 2))⟩,
    ⟨some 31, none, .h (.load 2 true (.t 10))⟩,
    ⟨some 32, none, .h (.call (.f 157) [.t 30, .t 31])⟩,
    ⟨some 33, none, .p (.un .not (.t 32))⟩,
    ⟨some 34, none, .p (.mv (.t 33))⟩,
    ⟨some 35, some (34, false), .h (.load 24 true (.t 2))⟩,
    ⟨some 36, some (34, false), .h (.load 2 true (.t 10))⟩,
    ⟨some 37, some (34, false), .h (.call (.f 158) [.t 35, .t 36])⟩,
    ⟨some 38, none, .p (.pick (.t 34) (.k (.c (C.bool true))) (.t 37))⟩] [1, 2, 4, 5, 8, 9, 10, 23, 24, 25, 38])
  (.cond (.t 38)
  (.seq (.regionD [⟨some 39, none, .h (.load 24 true (.t 2))⟩,
    ⟨some 40, none, .h (.load 2 true (.t 8))⟩,
    ⟨some 41, none, .p (.mv (.t 9))⟩,
    ⟨none, none, .h (.store 24 (.t 4) (.t 39))⟩,
    ⟨none, none, .h (.store 2 (.t 5) (.t 40))⟩,
    ⟨some 6, none, .p (.mv (.t 41))⟩,
    ⟨some 7, none, .p (.mv (.k (.c (C.bool true))))⟩] [4, 5, 6, 7] [(.t 8, .t 4)])
  .ret)
  .skip))
  (.seq (.region [⟨some 43, none, .h (.load 24 true (.t 2))⟩,
    ⟨some 44, none, .h (.load 2 true (.t 10))⟩,
    ⟨some 45, none, .h (.call (.f 159) [.t 43, .t 44])⟩,
    ⟨some 42, none, .p (.mv (.t 45))⟩,
    ⟨some 46, none, .p (.ext (.t 42) 0)⟩,
    ⟨some 47, none, .p (.ext (.t 42) 1)⟩,
    ⟨some 12, none, .p (.alloc (List.replicate 24 (.k (C.int .i64 0))))⟩,
    ⟨some 11, none, .p (.mv (.t 46))⟩,
    ⟨none, none, .h (.store 24 (.t 12) (.t 47))⟩] [1, 2, 4, 5, 8, 9, 11, 12, 23, 24, 25])
  (.seq (.region [⟨some 48, none, .p (.mv (.t 9))⟩,
    ⟨some 49, none, .p (.bin .rem (.t 48) (.k (.c (C.int .i64 2))))⟩,
    ⟨some 50, none, .p (.ixA 2 1 (.t 8) (.t 49))⟩,
    ⟨some 51, none, .h (.load 1 false (.t 50))⟩,
    ⟨some 52, none, .p (.mv (.t 11))⟩,
    ⟨some 53, none, .p (.bin .add (.t 51) (.t 52))⟩,
    ⟨some 54, none, .p (.ixA 2 1 (.t 8) (.t 49))⟩,
    ⟨none, none, .h (.store 1 (.t 54) (.t 53))⟩] [1, 2, 4, 5, 8, 12, 23, 24, 25])
  (.region [⟨some 55, none, .h (.load 24 true (.t 12))⟩,
    ⟨none, none, .h (.store 24 (.t 2) (.t 55))⟩] [1, 2, 4, 5, 8, 23, 24, 25]))))))
  (.region [⟨some 56, none, .p (.bin .add (.t 25) (.k (.c (C.int .i64 1))))⟩,
    ⟨some 25, none, .p (.mv (.t 56))⟩] [1, 2, 4, 5, 8, 23, 24, 25])))) [1, 2, 4, 5, 8, 23, 24, 25])))
  (.seq (.regionD [⟨some 57, none, .h (.load 24 true (.t 2))⟩,
    ⟨some 58, none, .h (.load 2 true (.t 8))⟩,
    ⟨some 59, none, .p (.mv (.t 1))⟩,
    ⟨some 60, none, .p (.len (.t 59))⟩,
    ⟨none, none, .h (.store 24 (.t 4) (.t 57))⟩,
    ⟨none, none, .h (.store 2 (.t 5) (.t 58))⟩,
    ⟨some 6, none, .p (.mv (.t 60))⟩,
    ⟨some 7, none, .p (.mv (.k (.c (C.bool true))))⟩] [4, 5, 6, 7] [(.t 8, .t 4)])
  .ret))))) }
theorem a58_ok : okFn Try.prog 58 a58 = true := by kernel_rfl
/-- loop.example/g01215/laws.eqIntA2S -/
def a59 : AFn := { np := 2, nt := 27, res := [.t 4], body :=
  (.seq (.region [⟨some 4, none, .p (.mv (.k (.c (C.bool false))))⟩] [0, 1])
  (.seq (.seq (.region [⟨some 6, none, .p (.mv (.t 0))⟩,
    ⟨some 7, none, .p (.len (.t 6))⟩,
    ⟨some 8, none, .p (.mv (.t 1))⟩,
    ⟨some 9, none, .p (.len (.t 8))⟩,
    ⟨some 10, none, .p (.bin .neq (.t 7) (.t 9))⟩] [0, 1, 10])
  (.cond (.t 10)
  (.seq (.region [⟨some 4, none, .p (.mv (.k (.c (C.bool false))))⟩] [4])
  .ret)
  .skip))
  (.seq (.seq (.region [⟨some 5, none, .p (.mv (.k (.c (C.int .i64 0))))⟩] [0, 1, 5])
  (.block 0 (.loop (.seq (.seq (.region [⟨some 11, none, .p (.mv (.t 5))⟩,
    ⟨some 12, none, .p (.mv (.t 0))⟩,
    ⟨some 13, none, .p (.len (.t 12))⟩,
    ⟨some 14, none, .p (.bin .lss (.t 11) (.t 13))⟩] [0, 1, 5, 14])
  (.cond (.t 14)
  .skip
  (.exit 0)))
  (.seq (.block 1 (.seq (.regionD [⟨some 17, none, .p (.mv (.t 0))⟩,
    ⟨some 18, none, .p (.mv (.t 5))⟩,
    ⟨some 19, none, .p (.ixS 2 (.t 17) (.t 18))⟩,
    ⟨some 20, none, .h (.load 2 true (.t 19))⟩,
    ⟨some 21, none, .p (.mv (.t 1))⟩,
    ⟨some 22, none, .p (.mv (.t 5))⟩,
    ⟨some 23, none, .p (.ixS 2 (.t 21) (.t 22))⟩,
    ⟨some 24, none, .h (.load 2 true (.t 23))⟩,
    ⟨some 25, none, .h (.call (.f 36) [.t 20, .t 24])⟩,
    ⟨some 26, none, .p (.un .not (.t 25))⟩] [0, 1, 5, 26] [])
  (.cond (.t 26)
  (.seq (.region [⟨some 4, none, .p (.mv (.k (.c (C.bool false))))⟩] [4])
  .ret)
  .skip)))
  (.region [⟨some 15, none, .p (.mv (.t 5))⟩,
    ⟨some 16, none, .p (.bin .add (.t 15) (.k (.c (C.int .i64 1))))⟩,
    ⟨some 5, none, .p (.mv (.t 16))⟩] [0, 1, 5]))) [0, 1, 5])))
  (.seq (.region [⟨some 4, none, .p (.mv (.k (.c (C.bool true))))⟩] [4])
  .ret)))) }
theorem a59_ok : okFn Try.prog 59 a59 = true := by kernel_rfl
/-- loop.example/g01215/spec.TubeValue -/
def a60 : AFn := { np := 2, nt := 17, res := [.t 4, .t 5], body :=
  (.seq (.region [⟨some 2, none, .p (.box 24 (.t 0))⟩,
    ⟨some 4, none, .p (.mv (.k (.c (C.int .i64 0))))⟩,
    ⟨some 5, none, .p (.mv (.k (.c (C.bool false))))⟩] [1, 2])
  (.seq (.seq (.region [⟨some 6, none, .h (.load 24 true (.t 2))⟩,
    ⟨some 7, none, .h (.call (.f 140) [.t 6])⟩,
    ⟨some 8, none, .p (.un .not (.t 7))⟩,
    ⟨some 9, none, .p (.mv (.t 8))⟩,
    ⟨some 10, some (9, false), .p (.mv (.t 1))⟩,
    ⟨some 11, some (9, false), .h (.call (.f 144) [.t 10, .k (.c (C.int .i64 0)), .k (.c (C.int .i64 3))])⟩,
    ⟨some 12, some (9, false), .p (.un .not (.t 11))⟩,
    ⟨some 13, none, .p (.pick (.t 9) (.k (.c (C.bool true))) (.t 12))⟩] [1, 2, 13])
  (.cond (.t 13)
  (.seq (.region [⟨some 4, none, .p (.mv (.k (.c (C.int .i64 0))))⟩,
    ⟨some 5, none, .p (.mv (.k (.c (C.bool false))))⟩] [4, 5])
  .ret)
  .skip))
  (.seq (.region [⟨some 14, none, .h (.load 24 true (.t 2))⟩,
    ⟨some 15, none, .p (.mv (.t 1))⟩,
    ⟨some 16, none, .h (.call (.f 160) [.t 14, .t 15])⟩,
    ⟨some 4, none, .p (.mv (.t 16))⟩,
    ⟨some 5, none, .p (.mv (.k (.c (C.bool true))))⟩] [4, 5])
  .ret))) }
theorem a60_ok : okFn Try.prog 60 a60 = true := by kernel_rfl
/-- loop.example/g01215/impl.TubeValue -/
def a61 : AFn := { np := 2, nt := 19, res := [.t 4, .t 5], body :=
  (.seq (.region [⟨some 2, none, .p (.box 24 (.t 0))⟩,
    ⟨some 4, none, .p (.mv (.k (.c (C.int .i64 0))))⟩,
    ⟨some 5, none, .p (.mv (.k (.c (C.bool false))))⟩] [1, 2])
  (.seq (.seq (.region [⟨some 8, none, .h (.load 24 true (.t 2))⟩,
    ⟨some 9, none, .p (.mv (.t 1))⟩,
    ⟨some 10, none, .h (.call (.f 146) [.t 8, .t 9, .k (.c (C.int .i64 0))])⟩,
    ⟨some 11, none, .p (.un .not (.t 10))⟩] [1, 2, 11])
  (.cond (.t 11)
  (.seq (.region [⟨some 4, none, .p (.mv (.k (.c (C.int .i64 0))))⟩,
    ⟨some 5, none, .p (.mv (.k (.c (C.bool false))))⟩] [4, 5])
  .ret)
  .skip))
  (.seq (.region [⟨some 13, none, .h (.load 24 true (.t 2))⟩,
    ⟨some 14, none, .p (.mv (.t 1))⟩,
    ⟨some 15, none, .h (.call (.f 161) [.t 13, .t 14])⟩,
    ⟨some 12, none, .p (.mv (.t 15))⟩,
    ⟨some 16, none, .p (.ext (.t 12) 0)⟩,
    ⟨some 17, none, .p (.ext (.t 12) 1)⟩,
    ⟨some 6, none, .p (.mv (.t 16))⟩,
    ⟨some 7, none, .p (.mv (.t 17))⟩] [6])
  (.seq (.region [⟨some 18, none, .p (.mv (.t 6))⟩,
    ⟨some 4, none, .p (.mv (.t 18))⟩,
    ⟨some 5, none, .p (.mv (.k (.c (C.bool true))))⟩] [4, 5])
  .ret)))) }
theorem a61_ok : okFn Try.prog 61 a61 = true := by kernel_rfl
/-- loop.example/g01215/spec.MovedLayers -/
def a62 : AFn := { np := 1, nt := 50, res := [.t 2, .t 3], body :=
  (.seq (.region [⟨some 1, none, .p (.box 25 (.t 0))⟩,
    ⟨some 2, none, .p (.mv (.k (.c (C.int .i64 0))))⟩,
    ⟨some 3, none, .p (.mv (.k (.c (C.bool false))))⟩] [1])
  (.seq (.region [⟨some 11, none, .h (.load 25 true (.t 1))⟩,
    ⟨some 12, none, .h (.call (.f 150) [.t 11])⟩,
    ⟨some 10, none, .p (.mv (.t 12))⟩,
    ⟨some 13, none, .p (.ext (.t 10) 0)⟩,
    ⟨some 14, none, .p (.ext (.t 10) 1)⟩,
    ⟨some 4, none, .p (.mv (.t 13))⟩,
    ⟨some 5, none, .p (.mv (.t 14))⟩] [1, 4, 5])
  (.seq (.region [⟨some 6, none, .p (.mv (.k (.c (C.int .i64 0))))⟩] [1, 4, 5, 6])
  (.seq (.seq (.region [⟨some 7, none, .p (.mv (.k (.c (C.int .i64 0))))⟩] [1, 4, 5, 6, 7])
  (.block 0 (.loop (.seq (.seq (.region [⟨some 15, none, .p (.mv (.t 7))⟩,
    ⟨some 16, none, .p (.fld 24 (.t 1))⟩,
    ⟨some 17, none, .h (.load 1 false (.t 16))⟩,
    ⟨some 18, none, .p (.len (.t 17))⟩,
    ⟨some 19, none, .p (.bin .lss (.t 15) (.t 18))⟩,
    ⟨some 20, none, .p (.mv (.t 19))⟩,
    ⟨some 21, some (20, true), .p (.mv (.t 5))⟩,
    ⟨some 22, none, .p (.pick (.t 20) (.t 21) (.k (.c (C.bool false))))⟩] [1, 4, 5, 6, 7, 22])
  (.cond (.t 22)
  .skip
  (.exit 0)))
  (.seq (.block 1 (.seq (.regionD [⟨some 26, none, .p (.mv (.t 4))⟩,
    ⟨some 27, none, .p (.mv (.t 7))⟩,
    ⟨some 28, none, .p (.ixS 24 (.t 26) (.t 27))⟩,
    ⟨some 29, none, .h (.load 24 true (.t 28))⟩,
    ⟨some 30, none, .p (.fld 24 (.t 1))⟩,
    ⟨some 31, none, .h (.load 1 false (.t 30))⟩,
    ⟨some 32, none, .p (.mv (.t 7))⟩,
    ⟨some 33, none, .p (.ixS 2 (.t 31) (.t 32))⟩,
    ⟨some 34, none, .p (.ixA 2 1 (.t 33) (.k (.c (C.int .i64 0))))⟩,
    ⟨some 35, none, .h (.load 1 false (.t 34))⟩,
    ⟨some 36, none, .p (.fld 24 (.t 1))⟩,
    ⟨some 37, none, .h (.load 1 false (.t 36))⟩,
    ⟨some 38, none, .p (.mv (.t 7))⟩,
    ⟨some 39, none, .p (.ixS 2 (.t 37) (.t 38))⟩,
    ⟨some 40, none, .p (.ixA 2 1 (.t 39) (.k (.c (C.int .i64 1))))⟩,
    ⟨some 41, none, .h (.load 1 false (.t 40))⟩,
    ⟨some 42, none, .h (.call (.f 148) [.t 29, .t 35, .t 41])⟩,
    ⟨some 25, none, .p (.mv (.t 42))⟩,
    ⟨some 43, none, .p (.ext (.t 25) 0)⟩,
    ⟨some 44, none, .p (.ext (.t 25) 1)⟩,
    ⟨some 8, none, .p (.alloc (List.replicate 24 (.k (C.int .i64 0))))⟩,
    ⟨none, none, .h (.store 24 (.t 8) (.t 43))⟩,
    ⟨some 9, none, .p (.mv (.t 44))⟩] [1, 4, 5, 6, 7, 9] [])
  (.region [⟨some 45, none, .p (.mv (.t 6))⟩,
    ⟨some 46, none, .p (.mv (.t 9))⟩,
    ⟨some 47, none, .p (.bin .add (.t 45) (.t 46))⟩,
    ⟨some 6, none, .p (.mv (.t 47))⟩] [1, 4, 5, 6, 7])))
  (.region [⟨some 23, none, .p (.mv (.t 7))⟩,
    ⟨some 24, none, .p (.bin .add (.t 23) (.k (.c (C.int .i64 1))))⟩,
    ⟨some 7, none, .p (.mv (.t 24))⟩] [1, 4, 5, 6, 7]))) [1, 4, 5, 6, 7])))
  (.seq (.region [⟨some 48, none, .p (.mv (.t 6))⟩,
    ⟨some 49, none, .p (.mv (.t 5))⟩,
    ⟨some 2, none, .p (.mv (.t 48))⟩,
    ⟨some 3, none, .p (.mv (.t 49))⟩] [2, 3])
  .ret))))) }
theorem a62_ok : okFn Try.prog 62 a62 = true := by kernel_rfl
/-- loop.example/g01215/impl.MovedLayers -/
def a63 : AFn := { np := 1, nt := 20, res := [.t 2, .t 3], body :=
  (.seq (.region [⟨some 1, none, .p (.box 25 (.t 0))⟩,
    ⟨some 2, none, .p (.mv (.k (.c (C.int .i64 0))))⟩,
    ⟨some 3, none, .p (.mv (.k (.c (C.bool false))))⟩] [1])
  (.seq (.seq (.region [⟨some 7, none, .h (.load 25 true (.t 1))⟩,
    ⟨some 8, none, .h (.call (.f 50) [.t 7])⟩,
    ⟨some 9, none, .p (.un .not (.t 8))⟩] [1, 9])
  (.cond (.t 9)
  (.seq (.region [⟨some 2, none, .p (.mv (.k (.c (C.int .i64 0))))⟩,
    ⟨some 3, none, .p (.mv (.k (.c (C.bool false))))⟩] [2, 3])
  .ret)
  .skip))
  (.seq (.region [⟨some 11, none, .p (.fld 0 (.t 1))⟩,
    ⟨some 12, none, .h (.load 24 true (.t 11))⟩,
    ⟨some 13, none, .p (.fld 24 (.t 1))⟩,
    ⟨some 14, none, .h (.load 1 false (.t 13))⟩,
    ⟨some 15, none, .h (.call (.f 162) [.t 12, .t 14])⟩,
    ⟨some 10, none, .p (.mv (.t 15))⟩,
    ⟨some 16, none, .p (.ext (.t 10) 0)⟩,
    ⟨some 17, none, .p (.ext (.t 10) 1)⟩,
    ⟨some 18, none, .p (.ext (.t 10) 2)⟩,
    ⟨some 4, none, .p (.alloc (List.replicate 24 (.k (C.int .i64 0))))⟩,
    ⟨none, none, .h (.store 24 (.t 4) (.t 16))⟩,
    ⟨some 5, none, .p (.mv (.t 17))⟩,
    ⟨some 6, none, .p (.mv (.t 18))⟩] [5])
  (.seq (.region [⟨some 19, none, .p (.mv (.t 5))⟩,
    ⟨some 2, none, .p (.mv (.t 19))⟩,
    ⟨some 3, none, .p (.mv (.k (.c (C.bool true))))⟩] [2, 3])
  .ret)))) }
theorem a63_ok : okFn Try.prog 63 a63 = true := by kernel_rfl
/-- loop.example/g01215/spec.EndPours -/
def a64 : AFn := { np := 2, nt := 63, res := [.t 4, .t 5], body :=
  (.seq (.region [⟨some 2, none, .p (.box 24 (.t 0))⟩,
    ⟨some 4, none, .p (.nilsl 2)⟩,
    ⟨some 5, none, .p (.mv (.k (.c (C.bool false))))⟩] [1, 2])
  (.seq (.region [⟨some 12, none, .p (.mksl 2 0 [.k (C.int .i64 0), .k (C.int .i64 0)] [])⟩,
    ⟨some 6, none, .p (.mv (.t 12))⟩] [1, 2, 6])
  (.seq (.seq (.region [⟨some 13, none, .h (.load 24 true (.t 2))⟩,
    ⟨some 14, none, .h (.call (.f 140) [.t 13])⟩,
    ⟨some 15, none, .p (.un .not (.t 14))⟩,
    ⟨some 16, none, .p (.mv (.t 15))⟩,
    ⟨some 17, some (16, false), .p (.mv (.t 1))⟩,
    ⟨some 18, some (16, false), .h (.call (.f 144) [.t 17, .k (.c (C.int .i64 1)), .k (.c (C.int .i64 3))])⟩,
    ⟨some 19, some (16, false), .p (.un .not (.t 18))⟩,
    ⟨some 20, none, .p (.pick (.t 16) (.k (.c (C.bool true))) (.t 19))⟩] [1, 2, 6, 20])
  (.cond (.t 20)
  (.seq (.region [⟨some 21, none, .p (.mv (.t 6))⟩,
    ⟨some 4, none, .p (.mv (.t 21))⟩,
    ⟨some 5, none, .p (.mv (.k (.c (C.bool false))))⟩] [4, 5])
  .ret)
  .skip))
  (.seq (.regionD [⟨some 22, none, .h (.load 24 true (.t 2))⟩,
    ⟨some 23, none, .p (.mv (.t 1))⟩,
    ⟨some 24, none, .h (.call (.f 145) [.t 22, .t 23])⟩,
    ⟨some 25, none, .h (.load 24 true (.t 2))⟩,
    ⟨some 26, none, .h (.call (.f 141) [.t 25])⟩,
    ⟨some 7, none, .p (.mv (.t 24))⟩,
    ⟨some 8, none, .p (.mv (.t 26))⟩] [1, 2, 6, 7, 8] [])
  (.seq (.seq (.region [⟨some 9, none, .p (.mv (.k (.c (C.int .i64 0))))⟩] [1, 2, 6, 7, 8, 9])
  (.block 0 (.loop (.seq (.seq (.region [⟨some 27, none, .p (.mv (.t 9))⟩,
    ⟨some 28, none, .p (.mv (.t 8))⟩,
    ⟨some 29, none, .p (.len (.t 28))⟩,
    ⟨some 30, none, .p (.bin .lss (.t 27) (.t 29))⟩] [1, 2, 6, 7, 8, 9, 30])
  (.cond (.t 30)
  .skip
  (.exit 0)))
  (.seq (.block 1 (.seq (.regionD [⟨some 34, none, .h (.load 24 true (.t 2))⟩,
    ⟨some 35, none, .p (.mv (.t 8))⟩,
    ⟨some 36, none, .p (.mv (.t 9))⟩,
    ⟨some 37, none, .p (.ixS 2 (.t 35) (.t 36))⟩,
    ⟨some 38, none, .p (.ixA 2 1 (.t 37) (.k (.c (C.int .i64 0))))⟩,
    ⟨some 39, none, .h (.load 1 false (.t 38))⟩,
    ⟨some 40, none, .p (.mv (.t 8))⟩,
    ⟨some 41, none, .p (.mv (.t 9))⟩,
    ⟨some 42, none, .p (.ixS 2 (.t 40) (.t 41))⟩,
    ⟨some 43, none, .p (.ixA 2 1 (.t 42) (.k (.c (C.int .i64 1))))⟩,
    ⟨some 44, none, .h (.load 1 false (.t 43))⟩,
    ⟨some 45, none, .h (.call (.f 148) [.t 34, .t 39, .t 44])⟩,
    ⟨some 33, none, .p (.mv (.t 45))⟩,
    ⟨some 46, none, .p (.ext (.t 33) 0)⟩,
    ⟨some 47, none, .p (.ext (.t 33) 1)⟩,
    ⟨some 10, none, .p (.alloc (List.replicate 24 (.k (C.int .i64 0))))⟩,
    ⟨none, none, .h (.store 24 (.t 10) (.t 46))⟩,
    ⟨some 11, none, .p (.mv (.t 47))⟩] [1, 2, 6, 7, 8, 9, 10] [])
  (.seq (.region [⟨some 48, none, .h (.load 24 true (.t 10))⟩,
    ⟨some 49, none, .p (.mv (.t 1))⟩,
    ⟨some 50, none, .p (.bin .sub (.t 49) (.k (.c (C.int .i64 1))))⟩,
    ⟨some 51, none, .h (.call (.f 145) [.t 48, .t 50])⟩,
    ⟨some 52, none, .p (.un .neg (.t 51))⟩,
    ⟨some 53, none, .p (.mv (.t 7))⟩,
    ⟨some 54, none, .p (.bin .eql (.t 52) (.t 53))⟩] [1, 2, 6, 7, 8, 9, 54])
  (.cond (.t 54)
  (.region [⟨some 55, none, .p (.mv (.t 6))⟩,
    ⟨some 56, none, .p (.mv (.t 8))⟩,
    ⟨some 57, none, .p (.mv (.t 9))⟩,
    ⟨some 58, none, .p (.ixS 2 (.t 56) (.t 57))⟩,
    ⟨some 59, none, .h (.load 2 true (.t 58))⟩,
    ⟨some 60, none, .p (.mksl 2 1 [.k (C.int .i64 0), .k (C.int .i64 0)] [(0, 2, .t 59)])⟩,
    ⟨some 61, none, .h (.app 2 (.t 55) (.t 60))⟩,
    ⟨some 6, none, .p (.mv (.t 61))⟩] [1, 2, 6, 7, 8, 9])
  .skip))))
  (.region [⟨some 31, none, .p (.mv (.t 9))⟩,
    ⟨some 32, none, .p (.bin .add (.t 31) (.k (.c (C.int .i64 1))))⟩,
    ⟨some 9, none, .p (.mv (.t 32))⟩] [1, 2, 6, 7, 8, 9]))) [1, 2, 6, 7, 8, 9])))
  (.seq (.region [⟨some 62, none, .p (.mv (.t 6))⟩,
    ⟨some 4, none, .p (.mv (.t 62))⟩,
    ⟨some 5, none, .p (.mv (.k (.c (C.bool true))))⟩] [4, 5])
  .ret)))))) }
theorem a64_ok : okFn Try.prog 64 a64 = true := by kernel_rfl
/-- loop.example/g01215/impl.EndPours -/
def a65 : AFn := { np := 2, nt := 18, res := [.t 4, .t 5], body :=
  (.seq (.region [⟨some 2, none, .p (.box 24 (.t 0))⟩,
    ⟨some 3, none, .p (.box 1 (.t 1))⟩,
    ⟨some 4, none, .p (.nilsl 2)⟩,
    ⟨some 5, none, .p (.mv (.k (.c (C.bool false))))⟩] [2, 3])
  (.seq (.seq (.region [⟨some 7, none, .h (.load 24 true (.t 2))⟩,
    ⟨some 8, none, .h (.load 1 false (.t 3))⟩,
    ⟨some 9, none, .h (.call (.f 146) [.t 7, .t 8, .k (.c (C.int .i64 1))])⟩,
    ⟨some 10, none, .p (.un .not (.t 9))⟩] [2, 3, 10])
  (.cond (.t 10)
  (.seq (.region [⟨some 4, none, .p (.nilsl 2)⟩,
    ⟨some 5, none, .p (.mv (.k (.c (C.bool false))))⟩] [4, 5])
  .ret)
  .skip))
  (.seq (.region [⟨some 11, none, .h (.load 24 true (.t 2))⟩,
    ⟨some 12, none, .h (.load 1 false (.t 3))⟩,
    ⟨some 13, none, .h (.call (.f 147) [.t 11, .t 12])⟩,
    ⟨some 6, none, .p (.alloc [.k (C.int .i64 0)])⟩,
    ⟨none, none, .h (.store 1 (.t 6) (.t 13))⟩] [2, 3, 6])
  (.seq (.region [⟨some 14, none, .h (.load 24 true (.t 2))⟩,
    ⟨some 15, none, .h (.call (.f 143) [.t 14])⟩,
    ⟨some 16, none, .p (.mkfn 164 [.t 2, .t 3, .t 6])⟩,
    ⟨some 17, none, .h (.call (.f 163) [.t 15, .t 16])⟩,
    ⟨some 4, none, .p (.mv (.t 17))⟩,
    ⟨some 5, none, .p (.mv (.k (.c (C.bool true))))⟩] [4, 5])
  .ret)))) }
theorem a65_ok : okFn Try.prog 65 a65 = true := by kernel_rfl
/-- loop.example/g01215/laws.markIntA2S -/
def a66 : AFn := { np := 2, nt := 26, res := [.t 4], body :=
  (.seq (.region [⟨some 4, none, .p (.mv (.k (.c (C.int .i64 0))))⟩] [0, 1])
  (.seq (.seq (.region [⟨some 5, none, .p (.mv (.k (.c (C.int .i64 0))))⟩] [0, 1, 5])
  (.block 0 (.loop (.seq (.seq (.region [⟨some 7, none, .p (.mv (.t 5))⟩,
    ⟨some 8, none, .p (.mv (.t 0))⟩,
    ⟨some 9, none, .p (.len (.t 8))⟩,
    ⟨some 10, none, .p (.bin .lss (.t 7) (.t 9))⟩] [0, 1, 5, 10])
  (.cond (.t 10)
  .skip
  (.exit 0)))
  (.seq (.block 1 (.seq (.region [⟨some 6, none, .p (.mv (.k (.c (C.int .i64 0))))⟩] [0, 1, 5, 6])
  (.block 2 (.loop (.seq (.seq (.region [⟨some 13, none, .p (.mv (.t 6))⟩,
    ⟨some 14, none, .p (.bin .lss (.t 13) (.k (.c (C.int .i64 2))))⟩] [0, 1, 5, 6, 14])
  (.cond (.t 14)
  .skip
  (.exit 2)))
  (.seq (.block 3 (.seq (.region [⟨some 17, none, .p (.mv (.t 0))⟩,
    ⟨some 18, none, .p (.mv (.t 5))⟩,
    ⟨some 19, none, .p (.mv (.t 6))⟩,
    ⟨some 20, none, .p (.mv (.t 1))⟩,
    ⟨some 21, none, .p (.ixS 2 (.t 17) (.t 18))⟩,
    ⟨some 22, none, .p (.ixA 2 1 (.t 21) (.t 19))⟩,
    ⟨none, none, .h (.store 1 (.t 22) (.t 20))⟩] [0, 1, 5, 6])
  (.region [⟨some 23, none, .p (.mv (.t 1))⟩,
    ⟨some 24, none, .p (.bin .add (.t 23) (.k (.c (C.int .i64 1))))⟩,
    ⟨some 1, none, .p (.mv (.t 24))⟩] [0, 1, 5, 6])))
  (.region [⟨some 15, none, .p (.mv (.t 6))⟩,
    ⟨some 16, none, .p (.bin .add (.t 15) (.k (.c (C.int .i64 1))))⟩,
    ⟨some 6, none, .p (.mv (.t 16))⟩] [0, 1, 5, 6]))) [0, 1, 5, 6]))))
  (.region [⟨some 11, none, .p (.mv (.t 5))⟩,
    ⟨some 12, none, .p (.bin .add (.t 11) (.k (.c (C.int .i64 1))))⟩,
    ⟨some 5, none, .p (.mv (.t 12))⟩] [0, 1, 5]))) [0, 1, 5])))
  (.seq (.region [⟨some 25, none, .p (.mv (.t 1))⟩,
    ⟨some 4, none, .p (.mv (.t 25))⟩] [4])
  .ret))) }
theorem a66_ok : okFn Try.prog 66 a66 = true := by kernel_rfl
/-- loop.example/g01215/laws.heldIntA2S -/
def a67 : AFn := { np := 2, nt := 28, res := [.t 4], body :=
  (.seq (.region [⟨some 4, none, .p (.mv (.k (.c (C.int .i64 0))))⟩] [0, 1])
  (.seq (.seq (.region [⟨some 5, none, .p (.mv (.k (.c (C.int .i64 0))))⟩] [0, 1, 5])
  (.block 0 (.loop (.seq (.seq (.region [⟨some 7, none, .p (.mv (.t 5))⟩,
    ⟨some 8, none, .p (.mv (.t 0))⟩,
    ⟨some 9, none, .p (.len (.t 8))⟩,
    ⟨some 10, none, .p (.bin .lss (.t 7) (.t 9))⟩] [0, 1, 5, 10])
  (.cond (.t 10)
  .skip
  (.exit 0)))
  (.seq (.block 1 (.seq (.region [⟨some 6, none, .p (.mv (.k (.c (C.int .i64 0))))⟩] [0, 1, 5, 6])
  (.block 2 (.loop (.seq (.seq (.region [⟨some 13, none, .p (.mv (.t 6))⟩,
    ⟨some 14, none, .p (.bin .lss (.t 13) (.k (.c (C.int .i64 2))))⟩] [0, 1, 5, 6, 14])
  (.cond (.t 14)
  .skip
  (.exit 2)))
  (.seq (.block 3 (.seq (.seq (.region [⟨some 17, none, .p (.mv (.t 0))⟩,
    ⟨some 18, none, .p (.mv (.t 5))⟩,
    ⟨some 19, none, .p (.mv (.t 6))⟩,
    ⟨some 20, none, .p (.ixS 2 (.t 17) (.t 18))⟩,
    ⟨some 21, none, .p (.ixA 2 1 (.t 20) (.t 19))⟩,
    ⟨some 22, none, .h (.load 1 false (.t 21))⟩,
    ⟨some 23, none, .p (.mv (.t 1))⟩,
    ⟨some 24, none, .p (.bin .neq (.t 22) (.t 23))⟩] [0, 1, 5, 6, 24])
  (.cond (.t 24)
  (.seq (.region [⟨some 4, none, .p (.mv (.k (.c (C.int .i64 (-1)))))⟩] [4])
  .ret)
  .skip))
  (.region [⟨some 25, none, .p (.mv (.t 1))⟩,
    ⟨some 26, none, .p (.bin .add (.t 25) (.k (.c (C.int .i64 1))))⟩,
    ⟨some 1, none, .p (.mv (.t 26))⟩] [0, 1, 5, 6])))
  (.region [⟨some 15, none, .p (.mv (.t 6))⟩,
    ⟨some 16, none, .p (.bin .add (.t 15) (.k (.c (C.int .i64 1))))⟩,
    ⟨some 6, none, .p (.mv (.t 16))⟩] [0, 1, 5, 6]))) [0, 1, 5, 6]))))
  (.region [⟨some 11, none, .p (.mv (.t 5))⟩,
    ⟨some 12, none, .p (.bin .add (.t 11) (.k (.c (C.int .i64 1))))⟩,
    ⟨some 5, none, .p (.mv (.t 12))⟩] [0, 1, 5]))) [0, 1, 5])))
  (.seq (.region [⟨some 27, none, .p (.mv (.t 1))⟩,
    ⟨some 4, none, .p (.mv (.t 27))⟩] [4])
  .ret))) }
theorem a67_ok : okFn Try.prog 67 a67 = true := by kernel_rfl
/-- loop.example/g01215/spec.CanHurt -/
def a68 : AFn := { np := 1, nt := 47, res := [.t 2, .t 3], body :=
  (.seq (.region [⟨some 1, none, .p (.box 24 (.t 0))⟩,
    ⟨some 2, none, .p (.nilsl 2)⟩,
    ⟨some 3, none, .p (.mv (.k (.c (C.bool false))))⟩] [1])
  (.seq (.region [⟨some 9, none, .p (.mksl 2 0 [.k (C.int .i64 0), .k (C.int .i64 0)] [])⟩,
    ⟨some 4, none, .p (.mv (.t 9))⟩] [1, 4])
  (.seq (.seq (.region [⟨some 10, none, .h (.load 24 true (.t 1))⟩,
    ⟨some 11, none, .h (.call (.f 140) [.t 10])⟩,
    ⟨some 12, none, .p (.un .not (.t 11))⟩] [1, 4, 12])
  (.cond (.t 12)
  (.seq (.region [⟨some 13, none, .p (.mv (.t 4))⟩,
    ⟨some 2, none, .p (.mv (.t 13))⟩,
    ⟨some 3, none, .p (.mv (.k (.c (C.bool false))))⟩] [2, 3])
  .ret)
  .skip))
  (.seq (.region [⟨some 14, none, .h (.load 24 true (.t 1))⟩,
    ⟨some 15, none, .h (.call (.f 141) [.t 14])⟩,
    ⟨some 5, none, .p (.mv (.t 15))⟩] [1, 4, 5])
  (.seq (.seq (.region [⟨some 6, none, .p (.mv (.k (.c (C.int .i64 0))))⟩] [1, 4, 5, 6])
  (.block 0 (.loop (.seq (.seq (.region [⟨some 16, none, .p (.mv (.t 6))⟩,
    ⟨some 17, none, .p (.mv (.t 5))⟩,
    ⟨some 18, none, .p (.len (.t 17))⟩,
    ⟨some 19, none, .p (.bin .lss (.t 16) (.t 18))⟩] [1, 4, 5, 6, 19])
  (.cond (.t 19)
  .skip
  (.exit 0)))
  (.seq (.block 1 (.seq (.regionD [⟨some 23, none, .h (.load 24 true (.t 1))⟩,
    ⟨some 24, none, .p (.mv (.t 5))⟩,
    ⟨some 25, none, .p (.mv (.t 6))⟩,
    ⟨some 26, none, .p (.ixS 2 (.t 24) (.t 25))⟩,
    ⟨some 27, none, .p (.ixA 2 1 (.t 26) (.k (.c (C.int .i64 0))))⟩,
    ⟨some 28, none, .h (.load 1 false (.t 27))⟩,
    ⟨some 29, none, .p (.mv (.t 5))⟩,
    ⟨some 30, none, .p (.mv (.t 6))⟩,
    ⟨some 31, none, .p (.ixS 2 (.t 29) (.t 30))⟩,
    ⟨some 32, none, .p (.ixA 2 1 (.t 31) (.k (.c (C.int .i64 1))))⟩,
    ⟨some 33, none, .h (.load 1 false (.t 32))⟩,
    ⟨some 34, none, .h (.call (.f 148) [.t 23, .t 28, .t 33])⟩,
    ⟨some 22, none, .p (.mv (.t 34))⟩,
    ⟨some 35, none, .p (.ext (.t 22) 0)⟩,
    ⟨some 36, none, .p (.ext (.t 22) 1)⟩,
    ⟨some 7, none, .p (.alloc (List.replicate 24 (.k (C.int .i64 0))))⟩,
    ⟨none, none, .h (.store 24 (.t 7) (.t 35))⟩,
    ⟨some 8, none, .p (.mv (.t 36))⟩] [1, 4, 5, 6, 7] [])
  (.seq (.region [⟨some 37, none, .h (.load 24 true (.t 7))⟩,
    ⟨some 38, none, .h (.call (.f 165) [.t 37])⟩] [1, 4, 5, 6, 38])
  (.cond (.t 38)
  (.region [⟨some 39, none, .p (.mv (.t 4))⟩,
    ⟨some 40, none, .p (.mv (.t 5))⟩,
    ⟨some 41, none, .p (.mv (.t 6))⟩,
    ⟨some 42, none, .p (.ixS 2 (.t 40) (.t 41))⟩,
    ⟨some 43, none, .h (.load 2 true (.t 42))⟩,
    ⟨some 44, none, .p (.mksl 2 1 [.k (C.int .i64 0), .k (C.int .i64 0)] [(0, 2, .t 43)])⟩,
    ⟨some 45, none, .h (.app 2 (.t 39) (.t 44))⟩,
    ⟨some 4, none, .p (.mv (.t 45))⟩] [1, 4, 5, 6])
  .skip))))
  (.region [⟨some 20, none, .p (.mv (.t 6))⟩,
    ⟨some 21, none, .p (.bin .add (.t 20) (.k (.c (C.int .i64 1))))⟩,
    ⟨some 6, none, .p (.mv (.t 21))⟩] [1, 4, 5, 6]))) [1, 4, 5, 6])))
  (.seq (.region [⟨some 46, none, .p (.mv (.t 4))⟩,
    ⟨some 2, none, .p (.mv (.t 46))⟩,
    ⟨some 3, none, .p (.mv (.k (.c (C.bool true))))⟩] [2, 3])
  .ret)))))) }
theorem a68_ok : okFn Try.prog 68 a68 = true := by kernel_rfl
/-- loop.example/g01215/impl.CanHurt -/
def a69 : AFn := { np := 1, nt := 11, res := [.t 2, .t 3], body :=
  (.seq (.region [⟨some 1, none, .p (.box 24 (.t 0))⟩,
    ⟨some 2, none, .p (.nilsl 2)⟩,
    ⟨some 3, none, .p (.mv (.k (.c (C.bool false))))⟩] [1])
  (.seq (.seq (.region [⟨some 4, none, .h (.load 24 true (.t 1))⟩,
    ⟨some 5, none, .h (.call (.f 121) [.t 4])⟩,
    ⟨some 6, none, .p (.un .not (.t 5))⟩] [1, 6])
  (.cond (.t 6)
  (.seq (.region [⟨some 2, none, .p (.nilsl 2)⟩,
    ⟨some 3, none, .p (.mv (.k (.c (C.bool false))))⟩] [2, 3])
  .ret)
  .skip))
  (.seq (.region [⟨some 7, none, .h (.load 24 true (.t 1))⟩,
    ⟨some 8, none, .h (.call (.f 143) [.t 7])⟩,
    ⟨some 9, none, .p (.mkfn 166 [.t 1])⟩,
    ⟨some 10, none, .h (.call (.f 163) [.t 8, .t 9])⟩,
    ⟨some 2, none, .p (.mv (.t 10))⟩,
    ⟨some 3, none, .p (.mv (.k (.c (C.bool true))))⟩] [2, 3])
  .ret))) }
theorem a69_ok : okFn Try.prog 69 a69 = true := by kernel_rfl
/-- loop.example/g01215/spec.CanSwap -/
def a70 : AFn := { np := 2, nt := 73, res := [.t 4, .t 5], body :=
  (.seq (.region [⟨some 2, none, .p (.box 25 (.t 0))⟩,
    ⟨some 4, none, .p (.mv (.k (.c (C.bool false))))⟩,
    ⟨some 5, none, .p (.mv (.k (.c (C.bool false))))⟩] [1, 2])
  (.seq (.region [⟨some 12, none, .h (.load 25 true (.t 2))⟩,
    ⟨some 13, none, .h (.call (.f 150) [.t 12])⟩,
    ⟨some 11, none, .p (.mv (.t 13))⟩,
    ⟨some 14, none, .p (.ext (.t 11) 0)⟩,
    ⟨some 15, none, .p (.ext (.t 11) 1)⟩,
    ⟨some 6, none, .p (.mv (.t 14))⟩,
    ⟨some 7, none, .p (.mv (.t 15))⟩] [1, 2, 6, 7])
  (.seq (.seq (.region [⟨some 16, none, .p (.mv (.t 7))⟩,
    ⟨some 17, none, .p (.un .not (.t 16))⟩,
    ⟨some 18, none, .p (.mv (.t 17))⟩,
    ⟨some 19, some (18, false), .p (.mv (.t 1))⟩,
    ⟨some 20, some (18, false), .p (.fld 24 (.t 2))⟩,
    ⟨some 21, some (18, false), .h (.load 1 false (.t 20))⟩,
    ⟨some 22, some (18, false), .p (.len (.t 21))⟩,
    ⟨some 23, some (18, false), .p (.bin .sub (.t 22) (.k (.c (C.int .i64 2))))⟩,
    ⟨some 24, some (18, false), .h (.call (.f 144) [.t 19, .k (.c (C.int .i64 0)), .t 23])⟩,
    ⟨some 25, some (18, false), .p (.un .not (.t 24))⟩,
    ⟨some 26, none, .p (.pick (.t 18) (.k (.c (C.bool true))) (.t 25))⟩] [1, 2, 6, 26])
  (.cond (.t 26)
  (.seq (.region [⟨some 4, none, .p (.mv (.k (.c (C.bool false))))⟩,
    ⟨some 5, none, .p (.mv (.k (.c (C.bool false))))⟩] [4, 5])
  .ret)
  .skip))
  (.seq (.region [⟨some 27, none, .h (.load 25 true (.t 2))⟩,
    ⟨some 28, none, .p (.fld 24 (.t 2))⟩,
    ⟨some 29, none, .h (.load 1 false (.t 28))⟩,
    ⟨some 30, none, .p (.len (.t 29))⟩,
    ⟨some 31, none, .h (.call (.f 168) [.t 27, .t 30])⟩,
    ⟨some 8, none, .p (.alloc [.k (C.int .i64 0), .k (C.int .i64 0), .k (C.int .i64 0), .k (C.int .i64 0), .k (C.int .i64 0), .k (C.int .i64 0), .k (C.int .i64 0), .k (C.int .i64 0), .k (C.int .i64 0), .k (C.int .i64 0), .k (C.int .i64 0), .k (C.int .i64 0), .k (C.int .i64 0), .k (C.int .i64 0), .k (C.int .i64 0), .k (C.int .i64 0), .k (C.int .i64 0), .k (C.int .i64 0), .k (C.int .i64 0), .k (C.int .i64 0), .k (C.int .i64 0), .k (C.int .i64 0), .k (C.int .i64 0), .k (C.int .i64 0), .sl 2])⟩,
    ⟨none, none, .h (.store 25 (.t 8) (.t 31))⟩] [1, 2, 6, 8])
  (.seq (.regionD [⟨some 32, none, .p (.fld 24 (.t 8))⟩,
    ⟨some 33, none, .h (.load 1 false (.t 32))⟩,
    ⟨some 34, none, .p (.mv (.t 1))⟩,
    ⟨some 35, none, .p (.fld 24 (.t 2))⟩,
    ⟨some 36, none, .h (.load 1 false (.t 35))⟩,
    ⟨some 37, none, .p (.mv (.t 1))⟩,
    ⟨some 38, none, .p (.bin .add (.t 37) (.k (.c (C.int .i64 1))))⟩,
    ⟨some 39, none, .p (.ixS 2 (.t 36) (.t 38))⟩,
    ⟨some 40, none, .h (.load 2 true (.t 39))⟩,
    ⟨some 41, none, .p (.ixS 2 (.t 33) (.t 34))⟩,
    ⟨none, none, .h (.store 2 (.t 41) (.t 40))⟩] [1, 2, 6, 8] [])
  (.seq (.regionD [⟨some 42, none, .p (.fld 24 (.t 8))⟩,
    ⟨some 43, none, .h (.load 1 false (.t 42))⟩,
    ⟨some 44, none, .p (.mv (.t 1))⟩,
    ⟨some 45, none, .p (.bin .add (.t 44) (.k (.c (C.int .i64 1))))⟩,
    ⟨some 46, none, .p (.fld 24 (.t 2))⟩,
    ⟨some 47, none, .h (.load 1 false (.t 46))⟩,
    ⟨some 48, none, .p (.mv (.t 1))⟩,
    ⟨some 49, none, .p (.ixS 2 (.t 47) (.t 48))⟩,
    ⟨some 50, none, .h (.load 2 true (.t 49))⟩,
    ⟨some 51, none, .p (.ixS 2 (.t 43) (.t 45))⟩,
    ⟨none, none, .h (.store 2 (.t 51) (.t 50))⟩] [6, 8] [])
  (.seq (.region [⟨some 53, none, .h (.load 25 true (.t 8))⟩,
    ⟨some 54, none, .h (.call (.f 150) [.t 53])⟩,
    ⟨some 52, none, .p (.mv (.t 54))⟩,
    ⟨some 55, none, .p (.ext (.t 52) 0)⟩,
    ⟨some 56, none, .p (.ext (.t 52) 1)⟩,
    ⟨some 9, none, .p (.mv (.t 55))⟩,
    ⟨some 10, none, .p (.mv (.t 56))⟩] [6, 9, 10])
  (.seq (.regionD [⟨some 57, none, .p (.mv (.t 10))⟩,
    ⟨some 58, none, .p (.mv (.t 57))⟩,
    ⟨some 59, some (58, true), .p (.mv (.t 9))⟩,
    ⟨some 60, some (58, true), .p (.mv (.t 9))⟩,
    ⟨some 61, some (58, true), .p (.len (.t 60))⟩,
    ⟨some 62, some (58, true), .p (.bin .sub (.t 61) (.k (.c (C.int .i64 1))))⟩,
    ⟨some 63, some (58, true), .p (.ixS 24 (.t 59) (.t 62))⟩,
    ⟨some 64, some (58, true), .h (.load 24 true (.t 63))⟩,
    ⟨some 65, some (58, true), .p (.mv (.t 6))⟩,
    ⟨some 66, some (58, true), .p (.mv (.t 6))⟩,
    ⟨some 67, some (58, true), .p (.len (.t 66))⟩,
    ⟨some 68, some (58, true), .p (.bin .sub (.t 67) (.k (.c (C.int .i64 1))))⟩,
    ⟨some 69, some (58, true), .p (.ixS 24 (.t 65) (.t 68))⟩,
    ⟨some 70, some (58, true), .h (.load 24 true (.t 69))⟩,
    ⟨some 71, some (58, true), .p (.eqv false (List.replicate 24 (.int .i64)) (.t 64) (.t 70))⟩,
    ⟨some 72, none, .p (.pick (.t 58) (.t 71) (.k (.c (C.bool false))))⟩,
    ⟨some 4, none, .p (.mv (.t 72))⟩,
    ⟨some 5, none, .p (.mv (.k (.c (C.bool true))))⟩] [4, 5] [])
  .ret)))))))) }
theorem a70_ok : okFn Try.prog 70 a70 = true := by kernel_rfl
/-- loop.example/g01215/impl.CanSwap -/
def a71 : AFn := { np := 2, nt := 72, res := [.t 4, .t 5], body :=
  (.seq (.region [⟨some 2, none, .p (.box 25 (.t 0))⟩,
    ⟨some 4, none, .p (.mv (.k (.c (C.bool false))))⟩,
    ⟨some 5, none, .p (.mv (.k (.c (C.bool false))))⟩] [1, 2])
  (.seq (.region [⟨some 11, none, .h (.load 25 true (.t 2))⟩,
    ⟨some 12, none, .h (.call (.f 151) [.t 11])⟩,
    ⟨some 10, none, .p (.mv (.t 12))⟩,
    ⟨some 13, none, .p (.ext (.t 10) 0)⟩,
    ⟨some 14, none, .p (.ext (.t 10) 1)⟩,
    ⟨some 6, none, .p (.mv (.t 13))⟩,
    ⟨some 7, none, .p (.mv (.t 14))⟩] [1, 2, 6, 7])
  (.seq (.seq (.region [⟨some 15, none, .p (.mv (.t 7))⟩,
    ⟨some 16, none, .p (.un .not (.t 15))⟩,
    ⟨some 17, none, .p (.mv (.t 16))⟩,
    ⟨some 18, some (17, false), .p (.mv (.t 1))⟩,
    ⟨some 19, some (17, false), .p (.fld 24 (.t 2))⟩,
    ⟨some 20, some (17, false), .h (.load 1 false (.t 19))⟩,
    ⟨some 21, some (17, false), .p (.len (.t 20))⟩,
    ⟨some 22, some (17, false), .p (.bin .sub (.t 21) (.k (.c (C.int .i64 2))))⟩,
    ⟨some 23, some (17, false), .h (.call (.f 152) [.t 18, .k (.c (C.int .i64 0)), .t 22])⟩,
    ⟨some 24, some (17, false), .p (.un .not (.t 23))⟩,
    ⟨some 25, none, .p (.pick (.t 17) (.k (.c (C.bool true))) (.t 24))⟩] [1, 2, 6, 25])
  (.cond (.t 25)
  (.seq (.region [⟨some 4, none, .p (.mv (.k (.c (C.bool false))))⟩,
    ⟨some 5, none, .p (.mv (.k (.c (C.bool false))))⟩] [4, 5])
  .ret)
  .skip))
  (.seq (.region [⟨some 26, none, .h (.load 25 true (.t 2))⟩,
    ⟨some 27, none, .p (.fld 24 (.t 2))⟩,
    ⟨some 28, none, .h (.load 1 false (.t 27))⟩,
    ⟨some 29, none, .p (.mksl 1 1 [.sl 2] [(0, 1, .t 28)])⟩,
    ⟨some 30, none, .h (.call (.f 169) [.t 26, .t 29])⟩,
    ⟨some 8, none, .p (.alloc [.k (C.int .i64 0), .k (C.int .i64 0), .k (C.int .i64 0), .k (C.int .i64 0), .k (C.int .i64 0), .k (C.int .i64 0), .k (C.int .i64 0), .k (C.int .i64 0), .k (C.int .i64 0), .k (C.int .i64 0), .k (C.int .i64 0), .k (C.int .i64 0), .k (C.int .i64 0), .k (C.int .i64 0), .k (C.int .i64 0), .k (C.int .i64 0), .k (C.int .i64 0), .k (C.int .i64 0), .k (C.int .i64 0), .k (C.int .i64 0), .k (C.int .i64 0), .k (C.int .i64 0), .k (C.int .i64 0), .k (C.int .i64 0), .sl 2])⟩,
    ⟨none, none, .h (.store 25 (.t 8) (.t 30))⟩] [1, 6, 8])
  (.seq (.regionD [⟨some 31, none, .p (.fld 24 (.t 8))⟩,
    ⟨some 32, none, .h (.load 1 false (.t 31))⟩,
    ⟨some 33, none, .p (.mv (.t 1))⟩,
    ⟨some 34, none, .p (.fld 24 (.t 8))⟩,
    ⟨some 35, none, .h (.load 1 false (.t 34))⟩,
    ⟨some 36, none, .p (.mv (.t 1))⟩,
    ⟨some 37, none, .p (.bin .add (.t 36) (.k (.c (C.int .i64 1))))⟩,
    ⟨some 38, none, .p (.fld 24 (.t 8))⟩,
    ⟨some 39, none, .h (.load 1 false (.t 38))⟩,
    ⟨some 40, none, .p (.mv (.t 1))⟩,
    ⟨some 41, none, .p (.bin .add (.t 40) (.k (.c (C.int .i64 1))))⟩,
    ⟨some 42, none, .p (.ixS 2 (.t 39) (.t 41))⟩,
    ⟨some 43, none, .h (.load 2 true (.t 42))⟩,
    ⟨some 44, none, .p (.fld 24 (.t 8))⟩,
    ⟨some 45, none, .h (.load 1 false (.t 44))⟩,
    ⟨some 46, none, .p (.mv (.t 1))⟩,
    ⟨some 47, none, .p (.ixS 2 (.t 45) (.t 46))⟩,
    ⟨some 48, none, .h (.load 2 true (.t 47))⟩,
    ⟨some 49, none, .p (.ixS 2 (.t 32) (.t 33))⟩,
    ⟨none, none, .h (.store 2 (.t 49) (.t 43))⟩,
    ⟨some 50, none, .p (.ixS 2 (.t 35) (.t 37))⟩,
    ⟨none, none, .h (.store 2 (.t 50) (.t 48))⟩] [6, 8] [(.t 34, .t 49)])
  (.seq (.region [⟨some 52, none, .h (.load 25 true (.t 8))⟩,
    ⟨some 53, none, .h (.call (.f 151) [.t 52])⟩,
    ⟨some 51, none, .p (.mv (.t 53))⟩,
    ⟨some 54, none, .p (.ext (.t 51) 0)⟩,
    ⟨some 55, none, .p (.ext (.t 51) 1)⟩,
    ⟨some 9, none, .p (.mv (.t 54))⟩,
    ⟨some 7, none, .p (.mv (.t 55))⟩] [6, 7, 9])
  (.seq (.regionD [⟨some 56, none, .p (.mv (.t 7))⟩,
    ⟨some 57, none, .p (.mv (.t 56))⟩,
    ⟨some 58, some (57, true), .p (.mv (.t 9))⟩,
    ⟨some 59, some (57, true), .p (.mv (.t 9))⟩,
    ⟨some 60, some (57, true), .p (.len (.t 59))⟩,
    ⟨some 61, some (57, true), .p (.bin .sub (.t 60) (.k (.c (C.int .i64 1))))⟩,
    ⟨some 62, some (57, true), .p (.ixS 24 (.t 58) (.t 61))⟩,
    ⟨some 63, some (57, true), .h (.load 24 true (.t 62))⟩,
    ⟨some 64, some (57, true), .p (.mv (.t 6))⟩,
    ⟨some 65, some (57, true), .p (.mv (.t 6))⟩,
    ⟨some 66, some (57, true), .p (.len (.t 65))⟩,
    ⟨some 67, some (57, true), .p (.bin .sub (.t 66) (.k (.c (C.int .i64 1))))⟩,
    ⟨some 68, some (57, true), .p (.ixS 24 (.t 64) (.t 67))⟩,
    ⟨some 69, some (57, true), .h (.load 24 true (.t 68))⟩,
    ⟨some 70, some (57, true), .p (.eqv false (List.replicate 24 (.int .i64)) (.t 63) (.t 69))⟩,
    ⟨some 71, none, .p (.pick (.t 57) (.t 70) (.k (.c (C.bool false))))⟩,
    ⟨some 4, none, .p (.mv (.t 71))⟩,
    ⟨some 5, none, .p (.mv (.k (.c (C.bool true))))⟩] [4, 5] [])
  .ret))))))) }
theorem a71_ok : okFn Try.prog 71 a71 = true := by kernel_rfl
/-- loop.example/g01215/spec.FirstBest -/
def a72 : AFn := { np := 2, nt := 25, res := [.cell 4 2 true, .t 5], body :=
  (.seq (.region [⟨some 2, none, .p (.box 24 (.t 0))⟩,
    ⟨some 4, none, .p (.alloc [.k (C.int .i64 0), .k (C.int .i64 0)])⟩,
    ⟨some 5, none, .p (.mv (.k (.c (C.bool false))))⟩] [1, 2, 4])
  (.seq (.region [⟨some 9, none, .h (.load 24 true (.t 2))⟩,
    ⟨some 10, none, .p (.mv (.t 1))⟩,
    ⟨some 11, none, .h (.call (.f 79) [.t 9, .t 10])⟩,
    ⟨some 8, none, .p (.mv (.t 11))⟩,
    ⟨some 12, none, .p (.ext (.t 8) 0)⟩,
    ⟨some 13, none, .p (.ext (.t 8) 1)⟩,
    ⟨some 6, none, .p (.mv (.t 12))⟩,
    ⟨some 7, none, .p (.mv (.t 13))⟩] [4, 6, 7])
  (.seq (.seq (.region [⟨some 14, none, .p (.mv (.t 7))⟩,
    ⟨some 15, none, .p (.un .not (.t 14))⟩,
    ⟨some 16, none, .p (.mv (.t 15))⟩,
    ⟨some 17, some (16, false), .p (.mv (.t 6))⟩,
    ⟨some 18, some (16, false), .p (.len (.t 17))⟩,
    ⟨some 19, some (16, false), .p (.bin .eql (.t 18) (.k (.c (C.int .i64 0))))⟩,
    ⟨some 20, none, .p (.pick (.t 16) (.k (.c (C.bool true))) (.t 19))⟩] [4, 6, 20])
  (.cond (.t 20)
  (.seq (.region [⟨some 21, none, .p (.build [.k (C.int .i64 0), .k (C.int .i64 0)] [])⟩,
    ⟨none, none, .h (.store 2 (.t 4) (.t 21))⟩,
    ⟨some 5, none, .p (.mv (.k (.c (C.bool false))))⟩] [4, 5])
  .ret)
  .skip))
  (.seq (.region [⟨some 22, none, .p (.mv (.t 6))⟩,
    ⟨some 23, none, .p (.ixS 2 (.t 22) (.k (.c (C.int .i64 0))))⟩,
    ⟨some 24, none, .h (.load 2 true (.t 23))⟩,
    ⟨none, none, .h (.store 2 (.t 4) (.t 24))⟩,
    ⟨some 5, none, .p (.mv (.k (.c (C.bool true))))⟩] [4, 5])
  .ret)))) }
theorem a72_ok : okFn Try.prog 72 a72 = true := by kernel_rfl
/-- loop.example/g01215/impl.FirstBest -/
def a73 : AFn := { np := 2, nt := 25, res := [.cell 4 2 true, .t 5], body :=
  (.seq (.region [⟨some 2, none, .p (.box 24 (.t 0))⟩,
    ⟨some 4, none, .p (.alloc [.k (C.int .i64 0), .k (C.int .i64 0)])⟩,
    ⟨some 5, none, .p (.mv (.k (.c (C.bool false))))⟩] [1, 2, 4])
  (.seq (.region [⟨some 9, none, .h (.load 24 true (.t 2))⟩,
    ⟨some 10, none, .p (.mv (.t 1))⟩,
    ⟨some 11, none, .h (.call (.f 80) [.t 9, .t 10])⟩,
    ⟨some 8, none, .p (.mv (.t 11))⟩,
    ⟨some 12, none, .p (.ext (.t 8) 0)⟩,
    ⟨some 13, none, .p (.ext (.t 8) 1)⟩,
    ⟨some 6, none, .p (.mv (.t 12))⟩,
    ⟨some 7, none, .p (.mv (.t 13))⟩] [4, 6, 7])
  (.seq (.seq (.region [⟨some 14, none, .p (.mv (.t 7))⟩,
    ⟨some 15, none, .p (.un .not (.t 14))⟩,
    ⟨some 16, none, .p (.mv (.t 15))⟩,
    ⟨some 17, some (16, false), .p (.mv (.t 6))⟩,
    ⟨some 18, some (16, false), .p (.len (.t 17))⟩,
    ⟨some 19, some (16, false), .p (.bin .eql (.t 18) (.k (.c (C.int .i64 0))))⟩,
    ⟨some 20, none, .p (.pick (.t 16) (.k (.c (C.bool true))) (.t 19))⟩] [4, 6, 20])
  (.cond (.t 20)
  (.seq (.region [⟨some 21, none, .p (.build [.k (C.int .i64 0), .k (C.int .i64 0)] [])⟩,
    ⟨none, none, .h (.store 2 (.t 4) (.t 21))⟩,
    ⟨some 5, none, .p (.mv (.k (.c (C.bool false))))⟩] [4, 5])
  .ret)
  .skip))
  (.seq (.region [⟨some 22, none, .p (.mv (.t 6))⟩,
    ⟨some 23, none, .p (.ixS 2 (.t 22) (.k (.c (C.int .i64 0))))⟩,
    ⟨some 24, none, .h (.load 2 true (.t 23))⟩,
    ⟨none, none, .h (.store 2 (.t 4) (.t 24))⟩,
    ⟨some 5, none, .p (.mv (.k (.c (C.bool true))))⟩] [4, 5])
  .ret)))) }
theorem a73_ok : okFn Try.prog 73 a73 = true := by kernel_rfl
/-- loop.example/g01215/spec.LoopsOf -/
def a74 : AFn := { np := 1, nt := 16, res := [.t 2, .t 3], body :=
  (.seq (.region [⟨some 1, none, .p (.box 25 (.t 0))⟩,
    ⟨some 2, none, .p (.nilsl 2)⟩,
    ⟨some 3, none, .p (.mv (.k (.c (C.bool false))))⟩] [1])
  (.seq (.region [⟨some 7, none, .h (.load 25 true (.t 1))⟩,
    ⟨some 8, none, .h (.call (.f 150) [.t 7])⟩,
    ⟨some 6, none, .p (.mv (.t 8))⟩,
    ⟨some 9, none, .p (.ext (.t 6) 0)⟩,
    ⟨some 10, none, .p (.ext (.t 6) 1)⟩,
    ⟨some 4, none, .p (.mv (.t 9))⟩,
    ⟨some 5, none, .p (.mv (.t 10))⟩] [4, 5])
  (.seq (.seq (.region [⟨some 11, none, .p (.mv (.t 5))⟩,
    ⟨some 12, none, .p (.un .not (.t 11))⟩] [4, 12])
  (.cond (.t 12)
  (.seq (.region [⟨some 13, none, .p (.mksl 2 0 [.k (C.int .i64 0), .k (C.int .i64 0)] [])⟩,
    ⟨some 2, none, .p (.mv (.t 13))⟩,
    ⟨some 3, none, .p (.mv (.k (.c (C.bool false))))⟩] [2, 3])
  .ret)
  .skip))
  (.seq (.region [⟨some 14, none, .p (.mv (.t 4))⟩,
    ⟨some 15, none, .h (.call (.f 170) [.t 14])⟩,
    ⟨some 2, none, .p (.mv (.t 15))⟩,
    ⟨some 3, none, .p (.mv (.k (.c (C.bool true))))⟩] [2, 3])
  .ret)))) }
theorem a74_ok : okFn Try.prog 74 a74 = true := by kernel_rfl
/-- loop.example/g01215/impl.LoopsOf -/
def a75 : AFn := { np := 1, nt := 9, res := [.t 2, .t 3], body :=
  (.seq (.region [⟨some 1, none, .p (.box 25 (.t 0))⟩,
    ⟨some 2, none, .p (.nilsl 2)⟩,
    ⟨some 3, none, .p (.mv (.k (.c (C.bool false))))⟩] [1])
  (.seq (.seq (.region [⟨some 4, none, .h (.load 25 true (.t 1))⟩,
    ⟨some 5, none, .h (.call (.f 50) [.t 4])⟩,
    ⟨some 6, none, .p (.un .not (.t 5))⟩] [1, 6])
  (.cond (.t 6)
  (.seq (.region [⟨some 2, none, .p (.nilsl 2)⟩,
    ⟨some 3, none, .p (.mv (.k (.c (C.bool false))))⟩] [2, 3])
  .ret)
  .skip))
  (.seq (.region [⟨some 7, none, .h (.load 25 true (.t 1))⟩,
    ⟨some 8, none, .h (.call (.f 171) [.t 7])⟩,
    ⟨some 2, none, .p (.mv (.t 8))⟩,
    ⟨some 3, none, .p (.mv (.k (.c (C.bool true))))⟩] [2, 3])
  .ret))) }
theorem a75_ok : okFn Try.prog 75 a75 = true := by kernel_rfl
/-- loop.example/g01215/laws.markReplay -/
def a76 : AFn := { np := 2, nt := 10, res := [.t 4], body :=
  (.seq (.region [⟨some 2, none, .p (.box 25 (.t 0))⟩,
    ⟨some 4, none, .p (.mv (.k (.c (C.int .i64 0))))⟩] [1, 2])
  (.seq (.region [⟨some 5, none, .p (.fld 24 (.t 2))⟩,
    ⟨some 6, none, .h (.load 1 false (.t 5))⟩,
    ⟨some 7, none, .p (.mv (.t 1))⟩,
    ⟨some 8, none, .h (.call (.f 66) [.t 6, .t 7])⟩,
    ⟨some 1, none, .p (.mv (.t 8))⟩] [1])
  (.seq (.region [⟨some 9, none, .p (.mv (.t 1))⟩,
    ⟨some 4, none, .p (.mv (.t 9))⟩] [4])
  .ret))) }
theorem a76_ok : okFn Try.prog 76 a76 = true := by kernel_rfl
/-- loop.example/g01215/spec.DoesSolve -/
def a77 : AFn := { np := 1, nt := 20, res := [.t 2, .t 3], body :=
  (.seq (.region [⟨some 1, none, .p (.box 25 (.t 0))⟩,
    ⟨some 2, none, .p (.mv (.k (.c (C.bool false))))⟩,
    ⟨some 3, none, .p (.mv (.k (.c (C.bool false))))⟩] [1])
  (.seq (.region [⟨some 7, none, .h (.load 25 true (.t 1))⟩,
    ⟨some 8, none, .h (.call (.f 150) [.t 7])⟩,
    ⟨some 6, none, .p (.mv (.t 8))⟩,
    ⟨some 9, none, .p (.ext (.t 6) 0)⟩,
    ⟨some 10, none, .p (.ext (.t 6) 1)⟩,
    ⟨some 4, none, .p (.mv (.t 9))⟩,
    ⟨some 5, none, .p (.mv (.t 10))⟩] [4, 5])
  (.seq (.seq (.region [⟨some 11, none, .p (.mv (.t 5))⟩,
    ⟨some 12, none, .p (.un .not (.t 11))⟩] [4, 12])
  (.cond (.t 12)
  (.seq (.region [⟨some 2, none, .p (.mv (.k (.c (C.bool false))))⟩,
    ⟨some 3, none, .p (.mv (.k (.c (C.bool false))))⟩] [2, 3])
  .ret)
  .skip))
  (.seq (.region [⟨some 13, none, .p (.mv (.t 4))⟩,
    ⟨some 14, none, .p (.mv (.t 4))⟩,
    ⟨some 15, none, .p (.len (.t 14))⟩,
    ⟨some 16, none, .p (.bin .sub (.t 15) (.k (.c (C.int .i64 1))))⟩,
    ⟨some 17, none, .p (.ixS 24 (.t 13) (.t 16))⟩,
    ⟨some 18, none, .h (.load 24 true (.t 17))⟩,
    ⟨some 19, none, .h (.call (.f 172) [.t 18])⟩,
    ⟨some 2, none, .p (.mv (.t 19))⟩,
    ⟨some 3, none, .p (.mv (.k (.c (C.bool true))))⟩] [2, 3])
  .ret)))) }
theorem a77_ok : okFn Try.prog 77 a77 = true := by kernel_rfl
/-- loop.example/g01215/impl.DoesSolve -/
def a78 : AFn := { np := 1, nt := 9, res := [.t 2, .t 3], body :=
  (.seq (.region [⟨some 1, none, .p (.box 25 (.t 0))⟩,
    ⟨some 2, none, .p (.mv (.k (.c (C.bool false))))⟩,
    ⟨some 3, none, .p (.mv (.k (.c (C.bool false))))⟩] [1])
  (.seq (.seq (.region [⟨some 4, none, .h (.load 25 true (.t 1))⟩,
    ⟨some 5, none, .h (.call (.f 50) [.t 4])⟩,
    ⟨some 6, none, .p (.un .not (.t 5))⟩] [1, 6])
  (.cond (.t 6)
  (.seq (.region [⟨some 2, none, .p (.mv (.k (.c (C.bool false))))⟩,
    ⟨some 3, none, .p (.mv (.k (.c (C.bool false))))⟩] [2, 3])
  .ret)
  .skip))
  (.seq (.region [⟨some 7, none, .h (.load 25 true (.t 1))⟩,
    ⟨some 8, none, .h (.call (.f 173) [.t 7])⟩,
    ⟨some 2, none, .p (.mv (.t 8))⟩,
    ⟨some 3, none, .p (.mv (.k (.c (C.bool true))))⟩] [2, 3])
  .ret))) }
theorem a78_ok : okFn Try.prog 78 a78 = true := by kernel_rfl
/-- loop.example/g01215/spec.TubePours -/
def a79 : AFn := { np := 2, nt := 18, res := [.t 4, .t 5], body :=
  (.seq (.region [⟨some 2, none, .p (.box 24 (.t 0))⟩,
    ⟨some 4, none, .p (.nilsl 2)⟩,
    ⟨some 5, none, .p (.mv (.k (.c (C.bool false))))⟩] [1, 2])
  (.seq (.seq (.region [⟨some 6, none, .h (.load 24 true (.t 2))⟩,
    ⟨some 7, none, .h (.call (.f 140) [.t 6])⟩,
    ⟨some 8, none, .p (.un .not (.t 7))⟩,
    ⟨some 9, none, .p (.mv (.t 8))⟩,
    ⟨some 10, some (9, false), .p (.mv (.t 1))⟩,
    ⟨some 11, some (9, false), .h (.call (.f 144) [.t 10, .k (.c (C.int .i64 1)), .k (.c (C.int .i64 3))])⟩,
    ⟨some 12, some (9, false), .p (.un .not (.t 11))⟩,
    ⟨some 13, none, .p (.pick (.t 9) (.k (.c (C.bool true))) (.t 12))⟩] [1, 2, 13])
  (.cond (.t 13)
  (.seq (.region [⟨some 14, none, .p (.mksl 2 0 [.k (C.int .i64 0), .k (C.int .i64 0)] [])⟩,
    ⟨some 4, none, .p (.mv (.t 14))⟩,
    ⟨some 5, none, .p (.mv (.k (.c (C.bool false))))⟩] [4, 5])
  .ret)
  .skip))
  (.seq (.region [⟨some 15, none, .h (.load 24 true (.t 2))⟩,
    ⟨some 16, none, .p (.mv (.t 1))⟩,
    ⟨some 17, none, .h (.call (.f 174) [.t 15, .t 16])⟩,
    ⟨some 4, none, .p (.mv (.t 17))⟩,
    ⟨some 5, none, .p (.mv (.k (.c (C.bool true))))⟩] [4, 5])
  .ret))) }
theorem a79_ok : okFn Try.prog 79 a79 = true := by kernel_rfl
/-- loop.example/g01215/impl.TubePours -/
def a80 : AFn := { np := 2, nt := 19, res := [.t 4, .t 5], body :=
  (.seq (.region [⟨some 2, none, .p (.box 24 (.t 0))⟩,
    ⟨some 4, none, .p (.nilsl 2)⟩,
    ⟨some 5, none, .p (.mv (.k (.c (C.bool false))))⟩] [1, 2])
  (.seq (.seq (.region [⟨some 8, none, .h (.load 24 true (.t 2))⟩,
    ⟨some 9, none, .p (.mv (.t 1))⟩,
    ⟨some 10, none, .h (.call (.f 146) [.t 8, .t 9, .k (.c (C.int .i64 1))])⟩,
    ⟨some 11, none, .p (.un .not (.t 10))⟩] [1, 2, 11])
  (.cond (.t 11)
  (.seq (.region [⟨some 4, none, .p (.nilsl 2)⟩,
    ⟨some 5, none, .p (.mv (.k (.c (C.bool false))))⟩] [4, 5])
  .ret)
  .skip))
  (.seq (.region [⟨some 13, none, .h (.load 24 true (.t 2))⟩,
    ⟨some 14, none, .p (.mv (.t 1))⟩,
    ⟨some 15, none, .h (.call (.f 161) [.t 13, .t 14])⟩,
    ⟨some 12, none, .p (.mv (.t 15))⟩,
    ⟨some 16, none, .p (.ext (.t 12) 0)⟩,
    ⟨some 17, none, .p (.ext (.t 12) 1)⟩,
    ⟨some 6, none, .p (.mv (.t 16))⟩,
    ⟨some 7, none, .p (.mv (.t 17))⟩] [7])
  (.seq (.region [⟨some 18, none, .p (.mv (.t 7))⟩,
    ⟨some 4, none, .p (.mv (.t 18))⟩,
    ⟨some 5, none, .p (.mv (.k (.c (C.bool true))))⟩] [4, 5])
  .ret)))) }
theorem a80_ok : okFn Try.prog 80 a80 = true := by kernel_rfl
/-- loop.example/g01215/spec.AddPour -/
def a81 : AFn := { np := 2, nt := 46, res := [.cell 4 25 true, .t 5], body :=
  (.seq (.region [⟨some 2, none, .p (.box 25 (.t 0))⟩,
    ⟨some 3, none, .p (.box 2 (.t 1))⟩,
    ⟨some 4, none, .p (.alloc [.k (C.int .i64 0), .k (C.int .i64 0), .k (C.int .i64 0), .k (C.int .i64 0), .k (C.int .i64 0), .k (C.int .i64 0), .k (C.int .i64 0), .k (C.int .i64 0), .k (C.int .i64 0), .k (C.int .i64 0), .k (C.int .i64 0), .k (C.int .i64 0), .k (C.int .i64 0), .k (C.int .i64 0), .k (C.int .i64 0), .k (C.int .i64 0), .k (C.int .i64 0), .k (C.int .i64 0), .k (C.int .i64 0), .k (C.int .i64 0), .k (C.int .i64 0), .k (C.int .i64 0), .k (C.int .i64 0), .k (C.int .i64 0), .sl 2])⟩,
    ⟨some 5, none, .p (.mv (.k (.c (C.bool false))))⟩] [2, 3, 4])
  (.seq (.region [⟨some 10, none, .h (.load 25 true (.t 2))⟩,
    ⟨some 11, none, .h (.call (.f 150) [.t 10])⟩,
    ⟨some 9, none, .p (.mv (.t 11))⟩,
    ⟨some 12, none, .p (.ext (.t 9) 0)⟩,
    ⟨some 13, none, .p (.ext (.t 9) 1)⟩,
    ⟨some 6, none, .p (.mv (.t 12))⟩,
    ⟨some 7, none, .p (.mv (.t 13))⟩] [2, 3, 4, 6, 7])
  (.seq (.seq (.regionD [⟨some 14, none, .p (.mv (.t 7))⟩,
    ⟨some 15, none, .p (.un .not (.t 14))⟩,
    ⟨some 16, none, .p (.mv (.t 15))⟩,
    ⟨some 17, some (16, false), .p (.fld 24 (.t 2))⟩,
    ⟨some 18, some (16, false), .h (.load 1 false (.t 17))⟩,
    ⟨some 19, some (16, false), .p (.len (.t 18))⟩,
    ⟨some 20, some (16, false), .p (.bin .geq (.t 19) (.k (.c (C.int .i64 60))))⟩,
    ⟨some 21, none, .p (.pick (.t 16) (.k (.c (C.bool true))) (.t 20))⟩,
    ⟨some 22, none, .p (.mv (.t 21))⟩,
    ⟨some 23, some (22, false), .p (.mv (.t 6))⟩,
    ⟨some 24, some (22, false), .p (.mv (.t 6))⟩,
    ⟨some 25, some (22, false), .p (.len (.t 24))⟩,
    ⟨some 26, some (22, false), .p (.bin .sub (.t 25) (.k (.c (C.int .i64 1))))⟩,
    ⟨some 27, some (22, false), .p (.ixS 24 (.t 23) (.t 26))⟩,
    ⟨some 28, some (22, false), .h (.load 24 true (.t 27))⟩,
    ⟨some 29, some (22, false), .h (.load 2 true (.t 3))⟩,
    ⟨some 30, some (22, false), .h (.call (.f 154) [.t 28, .t 29])⟩,
    ⟨some 31, some (22, false), .p (.un .not (.t 30))⟩,
    ⟨some 32, none, .p (.pick (.t 22) (.k (.c (C.bool true))) (.t 31))⟩] [2, 3, 4, 32] [])
  (.cond (.t 32)
  (.seq (.region [⟨some 33, none, .p (.build [.k (C.int .i64 0), .k (C.int .i64 0), .k (C.int .i64 0), .k (C.int .i64 0), .k (C.int .i64 0), .k (C.int .i64 0), .k (C.int .i64 0), .k (C.int .i64 0), .k (C.int .i64 0), .k (C.int .i64 0), .k (C.int .i64 0), .k (C.int .i64 0), .k (C.int .i64 0), .k (C.int .i64 0), .k (C.int .i64 0), .k (C.int .i64 0), .k (C.int .i64 0), .k (C.int .i64 0), .k (C.int .i64 0), .k (C.int .i64 0), .k (C.int .i64 0), .k (C.int .i64 0), .k (C.int .i64 0), .k (C.int .i64 0), .sl 2] [])⟩,
    ⟨none, none, .h (.store 25 (.t 4) (.t 33))⟩,
    ⟨some 5, none, .p (.mv (.k (.c (C.bool false))))⟩] [4, 5])
  .ret)
  .skip))
  (.seq (.region [⟨some 34, none, .h (.load 25 true (.t 2))⟩,
    ⟨some 35, none, .p (.fld 24 (.t 2))⟩,
    ⟨some 36, none, .h (.load 1 false (.t 35))⟩,
    ⟨some 37, none, .p (.len (.t 36))⟩,
    ⟨some 38, none, .h (.call (.f 168) [.t 34, .t 37])⟩,
    ⟨some 8, none, .p (.alloc [.k (C.int .i64 0), .k (C.int .i64 0), .k (C.int .i64 0), .k (C.int .i64 0), .k (C.int .i64 0), .k (C.int .i64 0), .k (C.int .i64 0), .k (C.int .i64 0), .k (C.int .i64 0), .k (C.int .i64 0), .k (C.int .i64 0), .k (C.int .i64 0), .k (C.int .i64 0), .k (C.int .i64 0), .k (C.int .i64 0), .k (C.int .i64 0), .k (C.int .i64 0), .k (C.int .i64 0), .k (C.int .i64 0), .k (C.int .i64 0), .k (C.int .i64 0), .k (C.int .i64 0), .k (C.int .i64 0), .k (C.int .i64 0), .sl 2])⟩,
    ⟨none, none, .h (.store 25 (.t 8) (.t 38))⟩] [3, 4, 8])
  (.seq (.region [⟨some 39, none, .p (.fld 24 (.t 8))⟩,
    ⟨some 40, none, .h (.load 1 false (.t 39))⟩,
    ⟨some 41, none, .h (.load 2 true (.t 3))⟩,
    ⟨some 42, none, .p (.mksl 2 1 [.k (C.int .i64 0), .k (C.int .i64 0)] [(0, 2, .t 41)])⟩,
    ⟨some 43, none, .h (.app 2 (.t 40) (.t 42))⟩,
    ⟨some 44, none, .p (.fld 24 (.t 8))⟩,
    ⟨none, none, .h (.store 1 (.t 44) (.t 43))⟩] [4, 8])
  (.seq (.region [⟨some 45, none, .h (.load 25 true (.t 8))⟩,
    ⟨none, none, .h (.store 25 (.t 4) (.t 45))⟩,
    ⟨some 5, none, .p (.mv (.k (.c (C.bool true))))⟩] [4, 5])
  .ret)))))) }
theorem a81_ok : okFn Try.prog 81 a81 = true := by kernel_rfl
/-- loop.example/g01215/laws.toIntA2 -/
def a82 : AFn := { np := 1, nt := 15, res := [.cell 2 2 true], body :=
  (.seq (.region [⟨some 1, none, .p (.box 2 (.t 0))⟩,
    ⟨some 2, none, .p (.alloc [.k (C.int .i64 0), .k (C.int .i64 0)])⟩] [1, 2])
  (.seq (.region [⟨some 3, none, .p (.alloc [.k (C.int .i64 0), .k (C.int .i64 0)])⟩] [1, 2, 3])
  (.seq (.seq (.region [⟨some 4, none, .p (.mv (.k (.c (C.int .i64 0))))⟩] [1, 2, 3, 4])
  (.block 0 (.loop (.seq (.seq (.region [⟨some 5, none, .p (.mv (.t 4))⟩,
    ⟨some 6, none, .p (.bin .lss (.t 5) (.k (.c (C.int .i64 2))))⟩] [1, 2, 3, 4, 6])
  (.cond (.t 6)
  .skip
  (.exit 0)))
  (.seq (.block 1 (.region [⟨some 9, none, .p (.mv (.t 4))⟩,
    ⟨some 10, none, .p (.mv (.t 4))⟩,
    ⟨some 11, none, .p (.ixA 2 1 (.t 1) (.t 10))⟩,
    ⟨some 12, none, .h (.load 1 false (.t 11))⟩,
    ⟨some 13, none, .p (.ixA 2 1 (.t 3) (.t 9))⟩,
    ⟨none, none, .h (.store 1 (.t 13) (.t 12))⟩] [1, 2, 3, 4]))
  (.region [⟨some 7, none, .p (.mv (.t 4))⟩,
    ⟨some 8, none, .p (.bin .add (.t 7) (.k (.c (C.int .i64 1))))⟩,
    ⟨some 4, none, .p (.mv (.t 8))⟩] [1, 2, 3, 4]))) [1, 2, 3, 4])))
  (.seq (.region [⟨some 14, none, .h (.load 2 true (.t 3))⟩,
    ⟨none, none, .h (.store 2 (.t 2) (.t 14))⟩] [2])
  .ret)))) }
theorem a82_ok : okFn Try.prog 82 a82 = true := by kernel_rfl
/-- loop.example/g01215/impl.AddPour -/
def a83 : AFn := { np := 2, nt := 19, res := [.cell 4 25 true, .t 5], body :=
  (.seq (.region [⟨some 2, none, .p (.box 25 (.t 0))⟩,
    ⟨some 3, none, .p (.box 2 (.t 1))⟩,
    ⟨some 4, none, .p (.alloc [.k (C.int .i64 0), .k (C.int .i64 0), .k (C.int .i64 0), .k (C.int .i64 0), .k (C.int .i64 0), .k (C.int .i64 0), .k (C.int .i64 0), .k (C.int .i64 0), .k (C.int .i64 0), .k (C.int .i64 0), .k (C.int .i64 0), .k (C.int .i64 0), .k (C.int .i64 0), .k (C.int .i64 0), .k (C.int .i64 0), .k (C.int .i64 0), .k (C.int .i64 0), .k (C.int .i64 0), .k (C.int .i64 0), .k (C.int .i64 0), .k (C.int .i64 0), .k (C.int .i64 0), .k (C.int .i64 0), .k (C.int .i64 0), .sl 2])⟩,
    ⟨some 5, none, .p (.mv (.k (.c (C.bool false))))⟩] [2, 3, 4])
  (.seq (.region [⟨some 7, none, .h (.load 25 true (.t 2))⟩,
    ⟨some 8, none, .p (.fld 24 (.t 2))⟩,
    ⟨some 9, none, .h (.load 1 false (.t 8))⟩,
    ⟨some 10, none, .h (.load 2 true (.t 3))⟩,
    ⟨some 11, none, .p (.mksl 2 1 [.k (C.int .i64 0), .k (C.int .i64 0)] [(0, 2, .t 10)])⟩,
    ⟨some 12, none, .p (.mksl 1 2 [.sl 2] [(0, 1, .t 9), (1, 1, .t 11)])⟩,
    ⟨some 13, none, .h (.call (.f 169) [.t 7, .t 12])⟩,
    ⟨some 6, none, .p (.alloc [.k (C.int .i64 0), .k (C.int .i64 0), .k (C.int .i64 0), .k (C.int .i64 0), .k (C.int .i64 0), .k (C.int .i64 0), .k (C.int .i64 0), .k (C.int .i64 0), .k (C.int .i64 0), .k (C.int .i64 0), .k (C.int .i64 0), .k (C.int .i64 0), .k (C.int .i64 0), .k (C.int .i64 0), .k (C.int .i64 0), .k (C.int .i64 0), .k (C.int .i64 0), .k (C.int .i64 0), .k (C.int .i64 0), .k (C.int .i64 0), .k (C.int .i64 0), .k (C.int .i64 0), .k (C.int .i64 0), .k (C.int .i64 0), .sl 2])⟩,
    ⟨none, none, .h (.store 25 (.t 6) (.t 13))⟩] [4, 6])
  (.seq (.seq (.region [⟨some 14, none, .h (.load 25 true (.t 6))⟩,
    ⟨some 15, none, .h (.call (.f 50) [.t 14])⟩,
    ⟨some 16, none, .p (.un .not (.t 15))⟩] [4, 6, 16])
  (.cond (.t 16)
  (.seq (.region [⟨some 17, none, .p (.build [.k (C.int .i64 0), .k (C.int .i64 0), .k (C.int .i64 0), .k (C.int .i64 0), .k (C.int .i64 0), .k (C.int .i64 0), .k (C.int .i64 0), .k (C.int .i64 0), .k (C.int .i64 0), .k (C.int .i64 0), .k (C.int .i64 0), .k (C.int .i64 0), .k (C.int .i64 0), .k (C.int .i64 0), .k (C.int .i64 0), .k (C.int .i64 0), .k (C.int .i64 0), .k (C.int .i64 0), .k (C.int .i64 0), .k (C.int .i64 0), .k (C.int .i64 0), .k (C.int .i64 0), .k (C.int .i64 0), .k (C.int .i64 0), .sl 2] [])⟩,
    ⟨none, none, .h (.store 25 (.t 4) (.t 17))⟩,
    ⟨some 5, none, .p (.mv (.k (.c (C.bool false))))⟩] [4, 5])
  .ret)
  .skip))
  (.seq (.region [⟨some 18, none, .h (.load 25 true (.t 6))⟩,
    ⟨none, none, .h (.store 25 (.t 4) (.t 18))⟩,
    ⟨some 5, none, .p (.mv (.k (.c (C.bool true))))⟩] [4, 5])
  .ret)))) }
theorem a83_ok : okFn Try.prog 83 a83 = true := by kernel_rfl
/-- loop.example/g01215/laws.heldReplay -/
def a84 : AFn := { np := 2, nt := 12, res := [.t 4], body :=
  (.seq (.region [⟨some 2, none, .p (.box 25 (.t 0))⟩,
    ⟨some 4, none, .p (.mv (.k (.c (C.int .i64 0))))⟩] [1, 2])
  (.seq (.region [⟨some 5, none, .p (.fld 24 (.t 2))⟩,
    ⟨some 6, none, .h (.load 1 false (.t 5))⟩,
    ⟨some 7, none, .p (.mv (.t 1))⟩,
    ⟨some 8, none, .h (.call (.f 67) [.t 6, .t 7])⟩,
    ⟨some 1, none, .p (.mv (.t 8))⟩] [1])
  (.seq (.seq (.region [⟨some 9, none, .p (.mv (.t 1))⟩,
    ⟨some 10, none, .p (.bin .lss (.t 9) (.k (.c (C.int .i64 0))))⟩] [1, 10])
  (.cond (.t 10)
  (.seq (.region [⟨some 4, none, .p (.mv (.k (.c (C.int .i64 (-1)))))⟩] [4])
  .ret)
  .skip))
  (.seq (.region [⟨some 11, none, .p (.mv (.t 1))⟩,
    ⟨some 4, none, .p (.mv (.t 11))⟩] [4])
  .ret)))) }
theorem a84_ok : okFn Try.prog 84 a84 = true := by kernel_rfl
/-- loop.example/g01215/spec.UndoPours -/
def a85 : AFn := { np := 2, nt := 25, res := [.cell 4 25 true, .t 5], body :=
  (.seq (.region [⟨some 2, none, .p (.box 25 (.t 0))⟩,
    ⟨some 4, none, .p (.alloc [.k (C.int .i64 0), .k (C.int .i64 0), .k (C.int .i64 0), .k (C.int .i64 0), .k (C.int .i64 0), .k (C.int .i64 0), .k (C.int .i64 0), .k (C.int .i64 0), .k (C.int .i64 0), .k (C.int .i64 0), .k (C.int .i64 0), .k (C.int .i64 0), .k (C.int .i64 0), .k (C.int .i64 0), .k (C.int .i64 0), .k (C.int .i64 0), .k (C.int .i64 0), .k (C.int .i64 0), .k (C.int .i64 0), .k (C.int .i64 0), .k (C.int .i64 0), .k (C.int .i64 0), .k (C.int .i64 0), .k (C.int .i64 0), .sl 2])⟩,
    ⟨some 5, none, .p (.mv (.k (.c (C.bool false))))⟩] [1, 2, 4])
  (.seq (.seq (.region [⟨some 6, none, .h (.load 25 true (.t 2))⟩,
    ⟨some 7, none, .h (.call (.f 48) [.t 6])⟩,
    ⟨some 8, none, .p (.un .not (.t 7))⟩,
    ⟨some 9, none, .p (.mv (.t 8))⟩,
    ⟨some 10, some (9, false), .p (.mv (.t 1))⟩,
    ⟨some 11, some (9, false), .p (.fld 24 (.t 2))⟩,
    ⟨some 12, some (9, false), .h (.load 1 false (.t 11))⟩,
    ⟨some 13, some (9, false), .p (.len (.t 12))⟩,
    ⟨some 14, some (9, false), .h (.call (.f 144) [.t 10, .k (.c (C.int .i64 0)), .t 13])⟩,
    ⟨some 15, some (9, false), .p (.un .not (.t 14))⟩,
    ⟨some 16, none, .p (.pick (.t 9) (.k (.c (C.bool true))) (.t 15))⟩] [1, 2, 4, 16])
  (.cond (.t 16)
  (.seq (.region [⟨some 17, none, .p (.build [.k (C.int .i64 0), .k (C.int .i64 0), .k (C.int .i64 0), .k (C.int .i64 0), .k (C.int .i64 0), .k (C.int .i64 0), .k (C.int .i64 0), .k (C.int .i64 0), .k (C.int .i64 0), .k (C.int .i64 0), .k (C.int .i64 0), .k (C.int .i64 0), .k (C.int .i64 0), .k (C.int .i64 0), .k (C.int .i64 0), .k (C.int .i64 0), .k (C.int .i64 0), .k (C.int .i64 0), .k (C.int .i64 0), .k (C.int .i64 0), .k (C.int .i64 0), .k (C.int .i64 0), .k (C.int .i64 0), .k (C.int .i64 0), .sl 2] [])⟩,
    ⟨none, none, .h (.store 25 (.t 4) (.t 17))⟩,
    ⟨some 5, none, .p (.mv (.k (.c (C.bool false))))⟩] [4, 5])
  .ret)
  .skip))
  (.seq (.region [⟨some 18, none, .h (.load 25 true (.t 2))⟩,
    ⟨some 19, none, .p (.fld 24 (.t 2))⟩,
    ⟨some 20, none, .h (.load 1 false (.t 19))⟩,
    ⟨some 21, none, .p (.len (.t 20))⟩,
    ⟨some 22, none, .p (.mv (.t 1))⟩,
    ⟨some 23, none, .p (.bin .sub (.t 21) (.t 22))⟩,
    ⟨some 24, none, .h (.call (.f 168) [.t 18, .t 23])⟩,
    ⟨none, none, .h (.store 25 (.t 4) (.t 24))⟩,
    ⟨some 5, none, .p (.mv (.k (.c (C.bool true))))⟩] [4, 5])
  .ret))) }
theorem a85_ok : okFn Try.prog 85 a85 = true := by kernel_rfl
/-- loop.example/g01215/impl.UndoPours -/
def a86 : AFn := { np := 2, nt := 29, res := [.cell 4 25 true, .t 5], body :=
  (.seq (.region [⟨some 2, none, .p (.box 25 (.t 0))⟩,
    ⟨some 4, none, .p (.alloc [.k (C.int .i64 0), .k (C.int .i64 0), .k (C.int .i64 0), .k (C.int .i64 0), .k (C.int .i64 0), .k (C.int .i64 0), .k (C.int .i64 0), .k (C.int .i64 0), .k (C.int .i64 0), .k (C.int .i64 0), .k (C.int .i64 0), .k (C.int .i64 0), .k (C.int .i64 0), .k (C.int .i64 0), .k (C.int .i64 0), .k (C.int .i64 0), .k (C.int .i64 0), .k (C.int .i64 0), .k (C.int .i64 0), .k (C.int .i64 0), .k (C.int .i64 0), .k (C.int .i64 0), .k (C.int .i64 0), .k (C.int .i64 0), .sl 2])⟩,
    ⟨some 5, none, .p (.mv (.k (.c (C.bool false))))⟩] [1, 2, 4])
  (.seq (.seq (.region [⟨some 6, none, .h (.load 25 true (.t 2))⟩,
    ⟨some 7, none, .h (.call (.f 50) [.t 6])⟩,
    ⟨some 8, none, .p (.un .not (.t 7))⟩,
    ⟨some 9, none, .p (.mv (.t 8))⟩,
    ⟨some 10, some (9, false), .p (.mv (.t 1))⟩,
    ⟨some 11, some (9, false), .p (.fld 24 (.t 2))⟩,
    ⟨some 12, some (9, false), .h (.load 1 false (.t 11))⟩,
    ⟨some 13, some (9, false), .p (.len (.t 12))⟩,
    ⟨some 14, some (9, false), .h (.call (.f 152) [.t 10, .k (.c (C.int .i64 0)), .t 13])⟩,
    ⟨some 15, some (9, false), .p (.un .not (.t 14))⟩,
    ⟨some 16, none, .p (.pick (.t 9) (.k (.c (C.bool true))) (.t 15))⟩] [1, 2, 4, 16])
  (.cond (.t 16)
  (.seq (.region [⟨some 17, none, .p (.build [.k (C.int .i64 0), .k (C.int .i64 0), .k (C.int .i64 0), .k (C.int .i64 0), .k (C.int .i64 0), .k (C.int .i64 0), .k (C.int .i64 0), .k (C.int .i64 0), .k (C.int .i64 0), .k (C.int .i64 0), .k (C.int .i64 0), .k (C.int .i64 0), .k (C.int .i64 0), .k (C.int .i64 0), .k (C.int .i64 0), .k (C.int .i64 0), .k (C.int .i64 0), .k (C.int .i64 0), .k (C.int .i64 0), .k (C.int .i64 0), .k (C.int .i64 0), .k (C.int .i64 0), .k (C.int .i64 0), .k (C.int .i64 0), .sl 2] [])⟩,
    ⟨none, none, .h (.store 25 (.t 4) (.t 17))⟩,
    ⟨some 5, none, .p (.mv (.k (.c (C.bool false))))⟩] [4, 5])
  .ret)
  .skip))
  (.seq (.regionE [⟨some 18, none, .h (.load 25 true (.t 2))⟩,
    ⟨some 19, none, .p (.fld 24 (.t 2))⟩,
    ⟨some 20, none, .h (.load 1 false (.t 19))⟩,
    ⟨some 21, none, .p (.fld 24 (.t 2))⟩,
    ⟨some 22, none, .h (.load 1 false (.t 21))⟩,
    ⟨some 23, none, .p (.len (.t 22))⟩,
    ⟨some 24, none, .p (.mv (.t 1))⟩,
    ⟨some 25, none, .p (.bin .sub (.t 23) (.t 24))⟩,
    ⟨some 26, none, .p (.slS 2 (.t 20) none (some (.t 25)))⟩,
    ⟨some 27, none, .p (.mksl 1 1 [.sl 2] [(0, 1, .t 26)])⟩,
    ⟨some 28, none, .h (.call (.f 169) [.t 18, .t 27])⟩,
    ⟨none, none, .h (.store 25 (.t 4) (.t 28))⟩,
    ⟨some 5, none, .p (.mv (.k (.c (C.bool true))))⟩] [4, 5] [] [[], [], [], [], [], [], [], [], [], [], [9]])
  .ret))) }
theorem a86_ok : okFn Try.prog 86 a86 = true := by kernel_rfl
/-- loop.example/g01215/spec.ChanceStuckBy -/
def a87 : AFn := { np := 2, nt := 14, res := [.cell 4 2 true, .t 5], body :=
  (.seq (.region [⟨some 2, none, .p (.box 24 (.t 0))⟩,
    ⟨some 4, none, .p (.alloc [.k (C.int .i64 0), .k (C.int .i64 0)])⟩,
    ⟨some 5, none, .p (.mv (.k (.c (C.bool false))))⟩] [1, 2, 4])
  (.seq (.seq (.region [⟨some 6, none, .h (.load 24 true (.t 2))⟩,
    ⟨some 7, none, .p (.mv (.t 1))⟩,
    ⟨some 8, none, .h (.call (.f 175) [.t 6, .t 7])⟩,
    ⟨some 9, none, .p (.un .not (.t 8))⟩] [1, 2, 4, 9])
  (.cond (.t 9)
  (.seq (.region [⟨some 10, none, .p (.build [.k (C.int .i64 0), .k (C.int .i64 0)] [])⟩,
    ⟨none, none, .h (.store 2 (.t 4) (.t 10))⟩,
    ⟨some 5, none, .p (.mv (.k (.c (C.bool false))))⟩] [4, 5])
  .ret)
  .skip))
  (.seq (.region [⟨some 11, none, .h (.load 24 true (.t 2))⟩,
    ⟨some 12, none, .p (.mv (.t 1))⟩,
    ⟨some 13, none, .h (.call (.f 176) [.t 11, .t 12, .k (.c (C.int .i64 2))])⟩,
    ⟨none, none, .h (.store 2 (.t 4) (.t 13))⟩,
    ⟨some 5, none, .p (.mv (.k (.c (C.bool true))))⟩] [4, 5])
  .ret))) }
theorem a87_ok : okFn Try.prog 87 a87 = true := by kernel_rfl
/-- loop.example/g01215/impl.ChanceStuckBy -/
def a88 : AFn := { np := 2, nt := 14, res := [.cell 4 2 true, .t 5], body :=
  (.seq (.region [⟨some 2, none, .p (.box 24 (.t 0))⟩,
    ⟨some 4, none, .p (.alloc [.k (C.int .i64 0), .k (C.int .i64 0)])⟩,
    ⟨some 5, none, .p (.mv (.k (.c (C.bool false))))⟩] [1, 2, 4])
  (.seq (.seq (.region [⟨some 6, none, .h (.load 24 true (.t 2))⟩,
    ⟨some 7, none, .p (.mv (.t 1))⟩,
    ⟨some 8, none, .h (.call (.f 177) [.t 6, .t 7, .k (.c (C.int .i64 2))])⟩,
    ⟨some 9, none, .p (.un .not (.t 8))⟩] [1, 2, 4, 9])
  (.cond (.t 9)
  (.seq (.region [⟨some 10, none, .p (.build [.k (C.int .i64 0), .k (C.int .i64 0)] [])⟩,
    ⟨none, none, .h (.store 2 (.t 4) (.t 10))⟩,
    ⟨some 5, none, .p (.mv (.k (.c (C.bool false))))⟩] [4, 5])
  .ret)
  .skip))
  (.seq (.region [⟨some 11, none, .h (.load 24 true (.t 2))⟩,
    ⟨some 12, none, .p (.mv (.t 1))⟩,
    ⟨some 13, none, .h (.call (.f 178) [.t 11, .t 12, .f 179])⟩,
    ⟨none, none, .h (.store 2 (.t 4) (.t 13))⟩,
    ⟨some 5, none, .p (.mv (.k (.c (C.bool true))))⟩] [4, 5])
  .ret))) }
theorem a88_ok : okFn Try.prog 88 a88 = true := by kernel_rfl
/-- loop.example/g01215/spec.MeanRunsBehind -/
def a89 : AFn := { np := 2, nt := 14, res := [.cell 4 2 true, .t 5], body :=
  (.seq (.region [⟨some 2, none, .p (.box 24 (.t 0))⟩,
    ⟨some 4, none, .p (.alloc [.k (C.int .i64 0), .k (C.int .i64 0)])⟩,
    ⟨some 5, none, .p (.mv (.k (.c (C.bool false))))⟩] [1, 2, 4])
  (.seq (.seq (.region [⟨some 6, none, .h (.load 24 true (.t 2))⟩,
    ⟨some 7, none, .p (.mv (.t 1))⟩,
    ⟨some 8, none, .h (.call (.f 175) [.t 6, .t 7])⟩,
    ⟨some 9, none, .p (.un .not (.t 8))⟩] [1, 2, 4, 9])
  (.cond (.t 9)
  (.seq (.region [⟨some 10, none, .p (.build [.k (C.int .i64 0), .k (C.int .i64 0)] [])⟩,
    ⟨none, none, .h (.store 2 (.t 4) (.t 10))⟩,
    ⟨some 5, none, .p (.mv (.k (.c (C.bool false))))⟩] [4, 5])
  .ret)
  .skip))
  (.seq (.region [⟨some 11, none, .h (.load 24 true (.t 2))⟩,
    ⟨some 12, none, .p (.mv (.t 1))⟩,
    ⟨some 13, none, .h (.call (.f 176) [.t 11, .t 12, .k (.c (C.int .i64 3))])⟩,
    ⟨none, none, .h (.store 2 (.t 4) (.t 13))⟩,
    ⟨some 5, none, .p (.mv (.k (.c (C.bool true))))⟩] [4, 5])
  .ret))) }
theorem a89_ok : okFn Try.prog 89 a89 = true := by kernel_rfl
/-- loop.example/g01215/impl.MeanRunsBehind -/
def a90 : AFn := { np := 2, nt := 14, res := [.cell 4 2 true, .t 5], body :=
  (.seq (.region [⟨some 2, none, .p (.box 24 (.t 0))⟩,
    ⟨some 4, none, .p (.alloc [.k (C.int .i64 0), .k (C.int .i64 0)])⟩,
    ⟨some 5, none, .p (.mv (.k (.c (C.bool false))))⟩] [1, 2, 4])
  (.seq (.seq (.region [⟨some 6, none, .h (.load 24 true (.t 2))⟩,
    ⟨some 7, none, .p (.mv (.t 1))⟩,
    ⟨some 8, none, .h (.call (.f 177) [.t 6, .t 7, .k (.c (C.int .i64 2))])⟩,
    ⟨some 9, none, .p (.un .not (.t 8))⟩] [1, 2, 4, 9])
  (.cond (.t 9)
  (.seq (.region [⟨some 10, none, .p (.build [.k (C.int .i64 0), .k (C.int .i64 0)] [])⟩,
    ⟨none, none, .h (.store 2 (.t 4) (.t 10))⟩,
    ⟨some 5, none, .p (.mv (.k (.c (C.bool false))))⟩] [4, 5])
  .ret)
  .skip))
  (.seq (.region [⟨some 11, none, .h (.load 24 true (.t 2))⟩,
    ⟨some 12, none, .p (.mv (.t 1))⟩,
    ⟨some 13, none, .h (.call (.f 178) [.t 11, .t 12, .f 181])⟩,
    ⟨none, none, .h (.store 2 (.t 4) (.t 13))⟩,
    ⟨some 5, none, .p (.mv (.k (.c (C.bool true))))⟩] [4, 5])
  .ret))) }
theorem a90_ok : okFn Try.prog 90 a90 = true := by kernel_rfl
/-- loop.example/g01215/spec.ChanceSortedBy -/
def a91 : AFn := { np := 2, nt := 14, res := [.cell 4 2 true, .t 5], body :=
  (.seq (.region [⟨some 2, none, .p (.box 24 (.t 0))⟩,
    ⟨some 4, none, .p (.alloc [.k (C.int .i64 0), .k (C.int .i64 0)])⟩,
    ⟨some 5, none, .p (.mv (.k (.c (C.bool false))))⟩] [1, 2, 4])
  (.seq (.seq (.region [⟨some 6, none, .h (.load 24 true (.t 2))⟩,
    ⟨some 7, none, .p (.mv (.t 1))⟩,
    ⟨some 8, none, .h (.call (.f 175) [.t 6, .t 7])⟩,
    ⟨some 9, none, .p (.un .not (.t 8))⟩] [1, 2, 4, 9])
  (.cond (.t 9)
  (.seq (.region [⟨some 10, none, .p (.build [.k (C.int .i64 0), .k (C.int .i64 0)] [])⟩,
    ⟨none, none, .h (.store 2 (.t 4) (.t 10))⟩,
    ⟨some 5, none, .p (.mv (.k (.c (C.bool false))))⟩] [4, 5])
  .ret)
  .skip))
  (.seq (.region [⟨some 11, none, .h (.load 24 true (.t 2))⟩,
    ⟨some 12, none, .p (.mv (.t 1))⟩,
    ⟨some 13, none, .h (.call (.f 176) [.t 11, .t 12, .k (.c (C.int .i64 1))])⟩,
    ⟨none, none, .h (.store 2 (.t 4) (.t 13))⟩,
    ⟨some 5, none, .p (.mv (.k (.c (C.bool true))))⟩] [4, 5])
  .ret))) }
theorem a91_ok : okFn Try.prog 91 a91 = true := by kernel_rfl
/-- loop.example/g01215/impl.ChanceSortedBy -/
def a92 : AFn := { np := 2, nt := 14, res := [.cell 4 2 true, .t 5], body :=
  (.seq (.region [⟨some 2, none, .p (.box 24 (.t 0))⟩,
    ⟨some 4, none, .p (.alloc [.k (C.int .i64 0), .k (C.int .i64 0)])⟩,
    ⟨some 5, none, .p (.mv (.k (.c (C.bool false))))⟩] [1, 2, 4])
  (.seq (.seq (.region [⟨some 6, none, .h (.load 24 true (.t 2))⟩,
    ⟨some 7, none, .p (.mv (.t 1))⟩,
    ⟨some 8, none, .h (.call (.f 177) [.t 6, .t 7, .k (.c (C.int .i64 2))])⟩,
    ⟨some 9, none, .p (.un .not (.t 8))⟩] [1, 2, 4, 9])
  (.cond (.t 9)
  (.seq (.region [⟨some 10, none, .p (.build [.k (C.int .i64 0), .k (C.int .i64 0)] [])⟩,
    ⟨none, none, .h (.store 2 (.t 4) (.t 10))⟩,
    ⟨some 5, none, .p (.mv (.k (.c (C.bool false))))⟩] [4, 5])
  .ret)
  .skip))
  (.seq (.region [⟨some 11, none, .h (.load 24 true (.t 2))⟩,
    ⟨some 12, none, .p (.mv (.t 1))⟩,
    ⟨some 13, none, .h (.call (.f 182) [.t 11, .t 12])⟩,
    ⟨none, none, .h (.store 2 (.t 4) (.t 13))⟩,
    ⟨some 5, none, .p (.mv (.k (.c (C.bool true))))⟩] [4, 5])
  .ret))) }
theorem a92_ok : okFn Try.prog 92 a92 = true := by kernel_rfl
/-- loop.example/g01215/spec.DropIdle -/
def a93 : AFn := { np := 1, nt := 59, res := [.cell 2 25 true, .t 3], body :=
  (.seq (.region [⟨some 1, none, .p (.box 25 (.t 0))⟩,
    ⟨some 2, none, .p (.alloc [.k (C.int .i64 0), .k (C.int .i64 0), .k (C.int .i64 0), .k (C.int .i64 0), .k (C.int .i64 0), .k (C.int .i64 0), .k (C.int .i64 0), .k (C.int .i64 0), .k (C.int .i64 0), .k (C.int .i64 0), .k (C.int .i64 0), .k (C.int .i64 0), .k (C.int .i64 0), .k (C.int .i64 0), .k (C.int .i64 0), .k (C.int .i64 0), .k (C.int .i64 0), .k (C.int .i64 0), .k (C.int .i64 0), .k (C.int .i64 0), .k (C.int .i64 0), .k (C.int .i64 0), .k (C.int .i64 0), .k (C.int .i64 0), .sl 2])⟩,
    ⟨some 3, none, .p (.mv (.k (.c (C.bool false))))⟩] [1, 2])
  (.seq (.seq (.region [⟨some 10, none, .h (.load 25 true (.t 1))⟩,
    ⟨some 11, none, .h (.call (.f 48) [.t 10])⟩,
    ⟨some 12, none, .p (.un .not (.t 11))⟩] [1, 2, 12])
  (.cond (.t 12)
  (.seq (.region [⟨some 13, none, .p (.build [.k (C.int .i64 0), .k (C.int .i64 0), .k (C.int .i64 0), .k (C.int .i64 0), .k (C.int .i64 0), .k (C.int .i64 0), .k (C.int .i64 0), .k (C.int .i64 0), .k (C.int .i64 0), .k (C.int .i64 0), .k (C.int .i64 0), .k (C.int .i64 0), .k (C.int .i64 0), .k (C.int .i64 0), .k (C.int .i64 0), .k (C.int .i64 0), .k (C.int .i64 0), .k (C.int .i64 0), .k (C.int .i64 0), .k (C.int .i64 0), .k (C.int .i64 0), .k (C.int .i64 0), .k (C.int .i64 0), .k (C.int .i64 0), .sl 2] [])⟩,
    ⟨none, none, .h (.store 25 (.t 2) (.t 13))⟩,
    ⟨some 3, none, .p (.mv (.k (.c (C.bool false))))⟩] [2, 3])
  .ret)
  .skip))
  (.seq (.regionD [⟨some 14, none, .h (.load 25 true (.t 1))⟩,
    ⟨some 15, none, .h (.call (.f 168) [.t 14, .k (.c (C.int .i64 0))])⟩,
    ⟨some 16, none, .p (.fld 0 (.t 1))⟩,
    ⟨some 17, none, .h (.load 24 true (.t 16))⟩,
    ⟨some 4, none, .p (.alloc [.k (C.int .i64 0), .k (C.int .i64 0), .k (C.int .i64 0), .k (C.int .i64 0), .k (C.int .i64 0), .k (C.int .i64 0), .k (C.int .i64 0), .k (C.int .i64 0), .k (C.int .i64 0), .k (C.int .i64 0), .k (C.int .i64 0), .k (C.int .i64 0), .k (C.int .i64 0), .k (C.int .i64 0), .k (C.int .i64 0), .k (C.int .i64 0), .k (C.int .i64 0), .k (C.int .i64 0), .k (C.int .i64 0), .k (C.int .i64 0), .k (C.int .i64 0), .k (C.int .i64 0), .k (C.int .i64 0), .k (C.int .i64 0), .sl 2])⟩,
    ⟨some 5, none, .p (.alloc (List.replicate 24 (.k (C.int .i64 0))))⟩,
    ⟨none, none, .h (.store 25 (.t 4) (.t 15))⟩,
    ⟨none, none, .h (.store 24 (.t 5) (.t 17))⟩] [1, 2, 4, 5] [(.t 16, .t 4)])
  (.seq (.seq (.region [⟨some 6, none, .p (.mv (.k (.c (C.int .i64 0))))⟩] [1, 2, 4, 5, 6])
  (.block 0 (.loop (.seq (.seq (.region [⟨some 18, none, .p (.mv (.t 6))⟩,
    ⟨some 19, none, .p (.fld 24 (.t 1))⟩,
    ⟨some 20, none, .h (.load 1 false (.t 19))⟩,
    ⟨some 21, none, .p (.len (.t 20))⟩,
    ⟨some 22, none, .p (.bin .lss (.t 18) (.t 21))⟩] [1, 2, 4, 5, 6, 22])
  (.cond (.t 22)
  .skip
  (.exit 0)))
  (.seq (.block 1 (.seq (.region [⟨some 25, none, .p (.fld 24 (.t 1))⟩,
    ⟨some 26, none, .h (.load 1 false (.t 25))⟩,
    ⟨some 27, none, .p (.mv (.t 6))⟩,
    ⟨some 28, none, .p (.ixS 2 (.t 26) (.t 27))⟩,
    ⟨some 29, none, .h (.load 2 true (.t 28))⟩,
    ⟨some 7, none, .p (.alloc [.k (C.int .i64 0), .k (C.int .i64 0)])⟩,
    ⟨none, none, .h (.store 2 (.t 7) (.t 29))⟩] [1, 2, 4, 5, 6, 7])
  (.seq (.region [⟨some 30, none, .h (.load 24 true (.t 5))⟩,
    ⟨some 31, none, .h (.load 2 true (.t 7))⟩,
    ⟨some 32, none, .h (.call (.f 154) [.t 30, .t 31])⟩,
    ⟨some 33, none, .p (.mv (.t 32))⟩,
    ⟨some 34, some (33, true), .h (.load 24 true (.t 5))⟩,
    ⟨some 35, some (33, true), .p (.ixA 2 1 (.t 7) (.k (.c (C.int .i64 0))))⟩,
    ⟨some 36, some (33, true), .h (.load 1 false (.t 35))⟩,
    ⟨some 37, some (33, true), .p (.ixA 2 1 (.t 7) (.k (.c (C.int .i64 1))))⟩,
    ⟨some 38, some (33, true), .h (.load 1 false (.t 37))⟩,
    ⟨some 39, some (33, true), .h (.call (.f 155) [.t 34, .t 36, .t 38])⟩,
    ⟨some 40, some (33, true), .p (.un .not (.t 39))⟩,
    ⟨some 41, none, .p (.pick (.t 33) (.t 40) (.k (.c (C.bool false))))⟩] [1, 2, 4, 5, 6, 7, 41])
  (.cond (.t 41)
  (.seq (.region [⟨some 43, none, .h (.load 24 true (.t 5))⟩,
    ⟨some 44, none, .p (.ixA 2 1 (.t 7) (.k (.c (C.int .i64 0))))⟩,
    ⟨some 45, none, .h (.load 1 false (.t 44))⟩,
    ⟨some 46, none, .p (.ixA 2 1 (.t 7) (.k (.c (C.int .i64 1))))⟩,
    ⟨some 47, none, .h (.load 1 false (.t 46))⟩,
    ⟨some 48, none, .h (.call (.f 148) [.t 43, .t 45, .t 47])⟩,
    ⟨some 42, none, .p (.mv (.t 48))⟩,
    ⟨some 49, none, .p (.ext (.t 42) 0)⟩,
    ⟨some 50, none, .p (.ext (.t 42) 1)⟩,
    ⟨some 8, none, .p (.alloc (List.replicate 24 (.k (C.int .i64 0))))⟩,
    ⟨none, none, .h (.store 24 (.t 8) (.t 49))⟩,
    ⟨some 9, none, .p (.mv (.t 50))⟩] [1, 2, 4, 5, 6, 7, 8])
  (.seq (.region [⟨some 51, none, .p (.fld 24 (.t 4))⟩,
    ⟨some 52, none, .h (.load 1 false (.t 51))⟩,
    ⟨some 53, none, .h (.load 2 true (.t 7))⟩,
    ⟨some 54, none, .p (.mksl 2 1 [.k (C.int .i64 0), .k (C.int .i64 0)] [(0, 2, .t 53)])⟩,
    ⟨some 55, none, .h (.app 2 (.t 52) (.t 54))⟩,
    ⟨some 56, none, .p (.fld 24 (.t 4))⟩,
    ⟨none, none, .h (.store 1 (.t 56) (.t 55))⟩] [1, 2, 4, 5, 6, 8])
  (.region [⟨some 57, none, .h (.load 24 true (.t 8))⟩,
    ⟨none, none, .h (.store 24 (.t 5) (.t 57))⟩] [1, 2, 4, 5, 6])))
  .skip))))
  (.region [⟨some 23, none, .p (.mv (.t 6))⟩,
    ⟨some 24, none, .p (.bin .add (.t 23) (.k (.c (C.int .i64 1))))⟩,
    ⟨some 6, none, .p (.mv (.t 24))⟩] [1, 2, 4, 5, 6]))) [1, 2, 4, 5, 6])))
  (.seq (.region [⟨some 58, none, .h (.load 25 true (.t 4))⟩,
    ⟨none, none, .h (.store 25 (.t 2) (.t 58))⟩,
    ⟨some 3, none, .p (.mv (.k (.c (C.bool true))))⟩] [2, 3])
  .ret))))) }
theorem a93_ok : okFn Try.prog 93 a93 = true := by kernel_rfl
/-- loop.example/g01215/impl.DropIdle -/
def a94 : AFn := { np := 1, nt := 50, res := [.cell 2 25 true, .t 3], body :=
  (.seq (.region [⟨some 1, none, .p (.box 25 (.t 0))⟩,
    ⟨some 2, none, .p (.alloc [.k (C.int .i64 0), .k (C.int .i64 0), .k (C.int .i64 0), .k (C.int .i64 0), .k (C.int .i64 0), .k (C.int .i64 0), .k (C.int .i64 0), .k (C.int .i64 0), .k (C.int .i64 0), .k (C.int .i64 0), .k (C.int .i64 0), .k (C.int .i64 0), .k (C.int .i64 0), .k (C.int .i64 0), .k (C.int .i64 0), .k (C.int .i64 0), .k (C.int .i64 0), .k (C.int .i64 0), .k (C.int .i64 0), .k (C.int .i64 0), .k (C.int .i64 0), .k (C.int .i64 0), .k (C.int .i64 0), .k (C.int .i64 0), .sl 2])⟩,
    ⟨some 3, none, .p (.mv (.k (.c (C.bool false))))⟩] [1, 2])
  (.seq (.seq (.region [⟨some 8, none, .h (.load 25 true (.t 1))⟩,
    ⟨some 9, none, .h (.call (.f 50) [.t 8])⟩,
    ⟨some 10, none, .p (.un .not (.t 9))⟩] [1, 2, 10])
  (.cond (.t 10)
  (.seq (.region [⟨some 11, none, .p (.build [.k (C.int .i64 0), .k (C.int .i64 0), .k (C.int .i64 0), .k (C.int .i64 0), .k (C.int .i64 0), .k (C.int .i64 0), .k (C.int .i64 0), .k (C.int .i64 0), .k (C.int .i64 0), .k (C.int .i64 0), .k (C.int .i64 0), .k (C.int .i64 0), .k (C.int .i64 0), .k (C.int .i64 0), .k (C.int .i64 0), .k (C.int .i64 0), .k (C.int .i64 0), .k (C.int .i64 0), .k (C.int .i64 0), .k (C.int .i64 0), .k (C.int .i64 0), .k (C.int .i64 0), .k (C.int .i64 0), .k (C.int .i64 0), .sl 2] [])⟩,
    ⟨none, none, .h (.store 25 (.t 2) (.t 11))⟩,
    ⟨some 3, none, .p (.mv (.k (.c (C.bool false))))⟩] [2, 3])
  .ret)
  .skip))
  (.seq (.regionD [⟨some 12, none, .p (.fld 0 (.t 1))⟩,
    ⟨some 13, none, .h (.load 24 true (.t 12))⟩,
    ⟨some 14, none, .p (.build [.k (C.int .i64 0), .k (C.int .i64 0), .k (C.int .i64 0), .k (C.int .i64 0), .k (C.int .i64 0), .k (C.int .i64 0), .k (C.int .i64 0), .k (C.int .i64 0), .k (C.int .i64 0), .k (C.int .i64 0), .k (C.int .i64 0), .k (C.int .i64 0), .k (C.int .i64 0), .k (C.int .i64 0), .k (C.int .i64 0), .k (C.int .i64 0), .k (C.int .i64 0), .k (C.int .i64 0), .k (C.int .i64 0), .k (C.int .i64 0), .k (C.int .i64 0), .k (C.int .i64 0), .k (C.int .i64 0), .k (C.int .i64 0), .sl 2] [(0, 24, .t 13)])⟩,
    ⟨some 15, none, .p (.fld 0 (.t 1))⟩,
    ⟨some 16, none, .h (.load 24 true (.t 15))⟩,
    ⟨some 4, none, .p (.alloc [.k (C.int .i64 0), .k (C.int .i64 0), .k (C.int .i64 0), .k (C.int .i64 0), .k (C.int .i64 0), .k (C.int .i64 0), .k (C.int .i64 0), .k (C.int .i64 0), .k (C.int .i64 0), .k (C.int .i64 0), .k (C.int .i64 0), .k (C.int .i64 0), .k (C.int .i64 0), .k (C.int .i64 0), .k (C.int .i64 0), .k (C.int .i64 0), .k (C.int .i64 0), .k (C.int .i64 0), .k (C.int .i64 0), .k (C.int .i64 0), .k (C.int .i64 0), .k (C.int .i64 0), .k (C.int .i64 0), .k (C.int .i64 0), .sl 2])⟩,
    ⟨some 5, none, .p (.alloc (List.replicate 24 (.k (C.int .i64 0))))⟩,
    ⟨none, none, .h (.store 25 (.t 4) (.t 14))⟩,
    ⟨none, none, .h (.store 24 (.t 5) (.t 16))⟩] [1, 2, 4, 5] [(.t 15, .t 4)])
  (.seq (.seq (.region [⟨some 17, none, .p (.fld 24 (.t 1))⟩,
    ⟨some 18, none, .h (.load 1 false (.t 17))⟩,
    ⟨some 19, none, .p (.len (.t 18))⟩,
    ⟨some 20, none, .p (.mv (.k (.c (C.int .i64 0))))⟩] [2, 4, 5, 18, 19, 20])
  (.block 0 (.loop (.seq (.region [⟨some 21, none, .p (.bin .lss (.t 20) (.t 19))⟩] [2, 4, 5, 18, 19, 20, 21])
  (.seq (.cond (.t 21)
  .skip
  (.exit 0))
  (.seq (.block 1 (.seq (.region [⟨some 22, none, .p (.ixS 2 (.t 18) (.t 20))⟩,
    ⟨some 23, none, .h (.load 2 true (.t 22))⟩,
    ⟨some 7, none, .p (.alloc [.k (C.int .i64 0), .k (C.int .i64 0)])⟩,
    ⟨none, none, .h (.store 2 (.t 7) (.t 23))⟩] [2, 4, 5, 7, 18, 19, 20])
  (.seq (.region [⟨some 24, none, .h (.load 24 true (.t 5))⟩,
    ⟨some 25, none, .h (.load 2 true (.t 7))⟩,
    ⟨some 26, none, .h (.call (.f 157) [.t 24, .t 25])⟩,
    ⟨some 27, none, .p (.mv (.t 26))⟩,
    ⟨some 28, some (27, true), .h (.load 24 true (.t 5))⟩,
    ⟨some 29, some (27, true), .h (.load 2 true (.t 7))⟩,
    ⟨some 30, some (27, true), .h (.call (.f 158) [.t 28, .t 29])⟩,
    ⟨some 31, some (27, true), .p (.un .not (.t 30))⟩,
    ⟨some 32, none, .p (.pick (.t 27) (.t 31) (.k (.c (C.bool false))))⟩] [2, 4, 5, 7, 18, 19, 20, 32])
  (.cond (.t 32)
  (.seq (.region [⟨some 33, none, .p (.fld 24 (.t 4))⟩,
    ⟨some 34, none, .h (.load 1 false (.t 33))⟩,
    ⟨some 35, none, .h (.load 2 true (.t 7))⟩,
    ⟨some 36, none, .p (.mksl 2 1 [.k (C.int .i64 0), .k (C.int .i64 0)] [(0, 2, .t 35)])⟩,
    ⟨some 37, none, .h (.app 2 (.t 34) (.t 36))⟩,
    ⟨some 38, none, .p (.fld 24 (.t 4))⟩,
    ⟨none, none, .h (.store 1 (.t 38) (.t 37))⟩] [2, 4, 5, 7, 18, 19, 20])
  (.region [⟨some 40, none, .h (.load 24 true (.t 5))⟩,
    ⟨some 41, none, .p (.ixA 2 1 (.t 7) (.k (.c (C.int .i64 0))))⟩,
    ⟨some 42, none, .h (.load 1 false (.t 41))⟩,
    ⟨some 43, none, .p (.ixA 2 1 (.t 7) (.k (.c (C.int .i64 1))))⟩,
    ⟨some 44, none, .h (.load 1 false (.t 43))⟩,
    ⟨some 45, none, .h (.call (.f 149) [.t 40, .t 42, .t 44])⟩,
    ⟨some 39, none, .p (.mv (.t 45))⟩,
    ⟨some 46, none, .p (.ext (.t 39) 0)⟩,
    ⟨some 47, none, .p (.ext (.t 39) 1)⟩,
    ⟨none, none, .h (.store 24 (.t 5) (.t 46))⟩] [2, 4, 5, 18, 19, 20]))
  .skip))))
  (.region [⟨some 48, none, .p (.bin .add (.t 20) (.k (.c (C.int .i64 1))))⟩,
    ⟨some 20, none, .p (.mv (.t 48))⟩] [2, 4, 5, 18, 19, 20])))) [2, 4, 5, 18, 19, 20])))
  (.seq (.region [⟨some 49, none, .h (.load 25 true (.t 4))⟩,
    ⟨none, none, .h (.store 25 (.t 2) (.t 49))⟩,
    ⟨some 3, none, .p (.mv (.k (.c (C.bool true))))⟩] [2, 3])
  .ret))))) }
theorem a94_ok : okFn Try.prog 94 a94 = true := by kernel_rfl
/-- loop.example/g01215/spec.BestParty -/
def a95 : AFn := { np := 2, nt := 52, res := [.t 4, .t 5], body :=
  (.seq (.region [⟨some 2, none, .p (.box 24 (.t 0))⟩,
    ⟨some 4, none, .p (.nilsl 2)⟩,
    ⟨some 5, none, .p (.mv (.k (.c (C.bool false))))⟩] [1, 2])
  (.seq (.region [⟨some 10, none, .p (.mksl 2 0 [.k (C.int .i64 0), .k (C.int .i64 0)] [])⟩,
    ⟨some 6, none, .p (.mv (.t 10))⟩] [1, 2, 6])
  (.seq (.seq (.region [⟨some 11, none, .h (.load 24 true (.t 2))⟩,
    ⟨some 12, none, .h (.call (.f 140) [.t 11])⟩,
    ⟨some 13, none, .p (.un .not (.t 12))⟩,
    ⟨some 14, none, .p (.mv (.t 13))⟩,
    ⟨some 15, some (14, false), .p (.mv (.t 1))⟩,
    ⟨some 16, some (14, false), .h (.call (.f 144) [.t 15, .k (.c (C.int .i64 0)), .k (.c (C.int .i64 3))])⟩,
    ⟨some 17, some (14, false), .p (.un .not (.t 16))⟩,
    ⟨some 18, none, .p (.pick (.t 14) (.k (.c (C.bool true))) (.t 17))⟩] [1, 2, 6, 18])
  (.cond (.t 18)
  (.seq (.region [⟨some 19, none, .p (.mv (.t 6))⟩,
    ⟨some 4, none, .p (.mv (.t 19))⟩,
    ⟨some 5, none, .p (.mv (.k (.c (C.bool false))))⟩] [4, 5])
  .ret)
  .skip))
  (.seq (.block 0 (.loop (.seq (.seq (.region [⟨some 20, none, .p (.mv (.t 1))⟩,
    ⟨some 21, none, .p (.bin .gtr (.t 20) (.k (.c (C.int .i64 0))))⟩] [1, 2, 6, 21])
  (.cond (.t 21)
  .skip
  (.exit 0)))
  (.seq (.block 1 (.seq (.region [⟨some 24, none, .h (.load 24 true (.t 2))⟩,
    ⟨some 25, none, .p (.mv (.t 1))⟩,
    ⟨some 26, none, .h (.call (.f 174) [.t 24, .t 25])⟩,
    ⟨some 7, none, .p (.mv (.t 26))⟩] [1, 2, 6, 7])
  (.seq (.seq (.region [⟨some 27, none, .p (.mv (.t 7))⟩,
    ⟨some 28, none, .p (.len (.t 27))⟩,
    ⟨some 29, none, .p (.bin .eql (.t 28) (.k (.c (C.int .i64 0))))⟩] [1, 2, 6, 7, 29])
  (.cond (.t 29)
  (.seq (.region [⟨some 30, none, .p (.mv (.t 6))⟩,
    ⟨some 4, none, .p (.mv (.t 30))⟩,
    ⟨some 5, none, .p (.mv (.k (.c (C.bool true))))⟩] [4, 5])
  .ret)
  .skip))
  (.seq (.regionD [⟨some 32, none, .h (.load 24 true (.t 2))⟩,
    ⟨some 33, none, .p (.mv (.t 7))⟩,
    ⟨some 34, none, .p (.ixS 2 (.t 33) (.k (.c (C.int .i64 0))))⟩,
    ⟨some 35, none, .p (.ixA 2 1 (.t 34) (.k (.c (C.int .i64 0))))⟩,
    ⟨some 36, none, .h (.load 1 false (.t 35))⟩,
    ⟨some 37, none, .p (.mv (.t 7))⟩,
    ⟨some 38, none, .p (.ixS 2 (.t 37) (.k (.c (C.int .i64 0))))⟩,
    ⟨some 39, none, .p (.ixA 2 1 (.t 38) (.k (.c (C.int .i64 1))))⟩,
    ⟨some 40, none, .h (.load 1 false (.t 39))⟩,
    ⟨some 41, none, .h (.call (.f 148) [.t 32, .t 36, .t 40])⟩,
    ⟨some 31, none, .p (.mv (.t 41))⟩,
    ⟨some 42, none, .p (.ext (.t 31) 0)⟩,
    ⟨some 43, none, .p (.ext (.t 31) 1)⟩,
    ⟨some 8, none, .p (.alloc (List.replicate 24 (.k (C.int .i64 0))))⟩,
    ⟨none, none, .h (.store 24 (.t 8) (.t 42))⟩,
    ⟨some 9, none, .p (.mv (.t 43))⟩] [1, 2, 6, 7, 8] [])
  (.seq (.region [⟨some 44, none, .p (.mv (.t 6))⟩,
    ⟨some 45, none, .p (.mv (.t 7))⟩,
    ⟨some 46, none, .p (.ixS 2 (.t 45) (.k (.c (C.int .i64 0))))⟩,
    ⟨some 47, none, .h (.load 2 true (.t 46))⟩,
    ⟨some 48, none, .p (.mksl 2 1 [.k (C.int .i64 0), .k (C.int .i64 0)] [(0, 2, .t 47)])⟩,
    ⟨some 49, none, .h (.app 2 (.t 44) (.t 48))⟩,
    ⟨some 6, none, .p (.mv (.t 49))⟩] [1, 2, 6, 8])
  (.region [⟨some 50, none, .h (.load 24 true (.t 8))⟩,
    ⟨none, none, .h (.store 24 (.t 2) (.t 50))⟩] [1, 2, 6]))))))
  (.region [⟨some 22, none, .p (.mv (.t 1))⟩,
    ⟨some 23, none, .p (.bin .sub (.t 22) (.k (.c (C.int .i64 1))))⟩,
    ⟨some 1, none, .p (.mv (.t 23))⟩] [1, 2, 6]))) [1, 2, 6]))
  (.seq (.region [⟨some 51, none, .p (.mv (.t 6))⟩,
    ⟨some 4, none, .p (.mv (.t 51))⟩,
    ⟨some 5, none, .p (.mv (.k (.c (C.bool true))))⟩] [4, 5])
  .ret))))) }
theorem a95_ok : okFn Try.prog 95 a95 = true := by kernel_rfl
/-- loop.example/g01215/impl.BestParty -/
def a96 : AFn := { np := 2, nt := 46, res := [.t 4, .t 5], body :=
  (.seq (.region [⟨some 2, none, .p (.box 24 (.t 0))⟩,
    ⟨some 4, none, .p (.nilsl 2)⟩,
    ⟨some 5, none, .p (.mv (.k (.c (C.bool false))))⟩] [1, 2])
  (.seq (.seq (.region [⟨some 9, none, .h (.load 24 true (.t 2))⟩,
    ⟨some 10, none, .p (.mv (.t 1))⟩,
    ⟨some 11, none, .h (.call (.f 146) [.t 9, .t 10, .k (.c (C.int .i64 0))])⟩,
    ⟨some 12, none, .p (.un .not (.t 11))⟩] [1, 2, 12])
  (.cond (.t 12)
  (.seq (.region [⟨some 4, none, .p (.nilsl 2)⟩,
    ⟨some 5, none, .p (.mv (.k (.c (C.bool false))))⟩] [4, 5])
  .ret)
  .skip))
  (.seq (.region [⟨some 6, none, .p (.nilsl 2)⟩] [1, 2, 6])
  (.seq (.block 0 (.loop (.seq (.seq (.region [⟨some 13, none, .p (.mv (.t 1))⟩,
    ⟨some 14, none, .p (.bin .gtr (.t 13) (.k (.c (C.int .i64 0))))⟩] [1, 2, 6, 14])
  (.cond (.t 14)
  .skip
  (.exit 0)))
  (.seq (.block 1 (.seq (.region [⟨some 18, none, .h (.load 24 true (.t 2))⟩,
    ⟨some 19, none, .p (.mv (.t 1))⟩,
    ⟨some 20, none, .h (.call (.f 161) [.t 18, .t 19])⟩,
    ⟨some 17, none, .p (.mv (.t 20))⟩,
    ⟨some 21, none, .p (.ext (.t 17) 0)⟩,
    ⟨some 22, none, .p (.ext (.t 17) 1)⟩,
    ⟨some 7, none, .p (.mv (.t 21))⟩,
    ⟨some 8, none, .p (.mv (.t 22))⟩] [1, 2, 6, 8])
  (.seq (.seq (.region [⟨some 23, none, .p (.mv (.t 8))⟩,
    ⟨some 24, none, .p (.len (.t 23))⟩,
    ⟨some 25, none, .p (.bin .eql (.t 24) (.k (.c (C.int .i64 0))))⟩] [1, 2, 6, 8, 25])
  (.cond (.t 25)
  (.exit 0)
  .skip))
  (.seq (.region [⟨some 26, none, .p (.mv (.t 6))⟩,
    ⟨some 27, none, .p (.mv (.t 8))⟩,
    ⟨some 28, none, .p (.ixS 2 (.t 27) (.k (.c (C.int .i64 0))))⟩,
    ⟨some 29, none, .h (.load 2 true (.t 28))⟩,
    ⟨some 30, none, .p (.mksl 2 1 [.k (C.int .i64 0), .k (C.int .i64 0)] [(0, 2, .t 29)])⟩,
    ⟨some 31, none, .h (.app 2 (.t 26) (.t 30))⟩,
    ⟨some 6, none, .p (.mv (.t 31))⟩] [1, 2, 6, 8])
  (.regionD [⟨some 33, none, .h (.load 24 true (.t 2))⟩,
    ⟨some 34, none, .p (.mv (.t 8))⟩,
    ⟨some 35, none, .p (.ixS 2 (.t 34) (.k (.c (C.int .i64 0))))⟩,
    ⟨some 36, none, .p (.ixA 2 1 (.t 35) (.k (.c (C.int .i64 0))))⟩,
    ⟨some 37, none, .h (.load 1 false (.t 36))⟩,
    ⟨some 38, none, .p (.mv (.t 8))⟩,
    ⟨some 39, none, .p (.ixS 2 (.t 38) (.k (.c (C.int .i64 0))))⟩,
    ⟨some 40, none, .p (.ixA 2 1 (.t 39) (.k (.c (C.int .i64 1))))⟩,
    ⟨some 41, none, .h (.load 1 false (.t 40))⟩,
    ⟨some 42, none, .h (.call (.f 149) [.t 33, .t 37, .t 41])⟩,
    ⟨some 32, none, .p (.mv (.t 42))⟩,
    ⟨some 43, none, .p (.ext (.t 32) 0)⟩,
    ⟨some 44, none, .p (.ext (.t 32) 1)⟩,
    ⟨none, none, .h (.store 24 (.t 2) (.t 43))⟩] [1, 2, 6] [])))))
  (.region [⟨some 15, none, .p (.mv (.t 1))⟩,
    ⟨some 16, none, .p (.bin .sub (.t 15) (.k (.c (C.int .i64 1))))⟩,
    ⟨some 1, none, .p (.mv (.t 16))⟩] [1, 2, 6]))) [1, 2, 6]))
  (.seq (.region [⟨some 45, none, .p (.mv (.t 6))⟩,
    ⟨some 4, none, .p (.mv (.t 45))⟩,
    ⟨some 5, none, .p (.mv (.k (.c (C.bool true))))⟩] [4, 5])
  .ret))))) }
theorem a96_ok : okFn Try.prog 96 a96 = true := by kernel_rfl
/-- loop.example/g01215/spec.BestChance -/
def a97 : AFn := { np := 2, nt := 78, res := [.cell 4 2 true, .cell 5 2 true, .t 6], body :=
  (.seq (.region [⟨some 2, none, .p (.box 24 (.t 0))⟩,
    ⟨some 4, none, .p (.alloc [.k (C.int .i64 0), .k (C.int .i64 0)])⟩,
    ⟨some 5, none, .p (.alloc [.k (C.int .i64 0), .k (C.int .i64 0)])⟩,
    ⟨some 6, none, .p (.mv (.k (.c (C.bool false))))⟩] [1, 2, 4, 5])
  (.seq (.seq (.region [⟨some 14, none, .h (.load 24 true (.t 2))⟩,
    ⟨some 15, none, .h (.call (.f 140) [.t 14])⟩,
    ⟨some 16, none, .p (.un .not (.t 15))⟩,
    ⟨some 17, none, .p (.mv (.t 16))⟩,
    ⟨some 18, some (17, false), .p (.mv (.t 1))⟩,
    ⟨some 19, some (17, false), .h (.call (.f 144) [.t 18, .k (.c (C.int .i64 0)), .k (.c (C.int .i64 1))])⟩,
    ⟨some 20, some (17, false), .p (.un .not (.t 19))⟩,
    ⟨some 21, none, .p (.pick (.t 17) (.k (.c (C.bool true))) (.t 20))⟩,
    ⟨some 22, none, .p (.mv (.t 21))⟩,
    ⟨some 23, some (22, false), .h (.load 24 true (.t 2))⟩,
    ⟨some 24, some (22, false), .h (.call (.f 183) [.t 23])⟩,
    ⟨some 25, some (22, false), .p (.len (.t 24))⟩,
    ⟨some 26, some (22, false), .p (.bin .eql (.t 25) (.k (.c (C.int .i64 0))))⟩,
    ⟨some 27, none, .p (.pick (.t 22) (.k (.c (C.bool true))) (.t 26))⟩] [1, 2, 4, 5, 27])
  (.cond (.t 27)
  (.seq (.region [⟨some 28, none, .p (.build [.k (C.int .i64 0), .k (C.int .i64 0)] [])⟩,
    ⟨some 29, none, .p (.build [.k (C.int .i64 0), .k (C.int .i64 0)] [])⟩,
    ⟨none, none, .h (.store 2 (.t 4) (.t 28))⟩,
    ⟨none, none, .h (.store 2 (.t 5) (.t 29))⟩,
    ⟨some 6, none, .p (.mv (.k (.c (C.bool false))))⟩] [4, 5, 6])
  .ret)
  .skip))
  (.seq (.region [⟨some 30, none, .h (.load 24 true (.t 2))⟩,
    ⟨some 31, none, .h (.call (.f 183) [.t 30])⟩,
    ⟨some 7, none, .p (.mv (.t 31))⟩] [1, 2, 4, 5, 7])
  (.seq (.region [⟨some 32, none, .p (.mv (.t 7))⟩,
    ⟨some 33, none, .p (.ixS 2 (.t 32) (.k (.c (C.int .i64 0))))⟩,
    ⟨some 34, none, .h (.load 2 true (.t 33))⟩,
    ⟨some 35, none, .p (.build [.k (C.int .i64 0), .k (C.int .i64 0)] [(0, 1, .k (.c (C.int .i64 (-1)))), (1, 1, .k (.c (C.int .i64 1)))])⟩,
    ⟨some 8, none, .p (.alloc [.k (C.int .i64 0), .k (C.int .i64 0)])⟩,
    ⟨some 9, none, .p (.alloc [.k (C.int .i64 0), .k (C.int .i64 0)])⟩,
    ⟨none, none, .h (.store 2 (.t 8) (.t 34))⟩,
    ⟨none, none, .h (.store 2 (.t 9) (.t 35))⟩] [1, 2, 4, 5, 7, 8, 9])
  (.seq (.seq (.region [⟨some 10, none, .p (.mv (.k (.c (C.int .i64 0))))⟩] [1, 2, 4, 5, 7, 8, 9, 10])
  (.block 0 (.loop (.seq (.seq (.region [⟨some 36, none, .p (.mv (.t 10))⟩,
    ⟨some 37, none, .p (.mv (.t 7))⟩,
    ⟨some 38, none, .p (.len (.t 37))⟩,
    ⟨some 39, none, .p (.bin .lss (.t 36) (.t 38))⟩] [1, 2, 4, 5, 7, 8, 9, 10, 39])
  (.cond (.t 39)
  .skip
  (.exit 0)))
  (.seq (.block 1 (.seq (.regionD [⟨some 43, none, .h (.load 24 true (.t 2))⟩,
    ⟨some 44, none, .p (.mv (.t 7))⟩,
    ⟨some 45, none, .p (.mv (.t 10))⟩,
    ⟨some 46, none, .p (.ixS 2 (.t 44) (.t 45))⟩,
    ⟨some 47, none, .p (.ixA 2 1 (.t 46) (.k (.c (C.int .i64 0))))⟩,
    ⟨some 48, none, .h (.load 1 false (.t 47))⟩,
    ⟨some 49, none, .p (.mv (.t 7))⟩,
    ⟨some 50, none, .p (.mv (.t 10))⟩,
    ⟨some 51, none, .p (.ixS 2 (.t 49) (.t 50))⟩,
    ⟨some 52, none, .p (.ixA 2 1 (.t 51) (.k (.c (C.int .i64 1))))⟩,
    ⟨some 53, none, .h (.load 1 false (.t 52))⟩,
    ⟨some 54, none, .h (.call (.f 148) [.t 43, .t 48, .t 53])⟩,
    ⟨some 42, none, .p (.mv (.t 54))⟩,
    ⟨some 55, none, .p (.ext (.t 42) 0)⟩,
    ⟨some 56, none, .p (.ext (.t 42) 1)⟩,
    ⟨some 11, none, .p (.alloc (List.replicate 24 (.k (C.int .i64 0))))⟩,
    ⟨none, none, .h (.store 24 (.t 11) (.t 55))⟩,
    ⟨some 12, none, .p (.mv (.t 56))⟩] [1, 2, 4, 5, 7, 8, 9, 10, 11] [])
  (.seq (.region [⟨some 57, none, .h (.load 24 true (.t 11))⟩,
    ⟨some 58, none, .p (.mv (.t 1))⟩,
    ⟨some 59, none, .h (.call (.f 176) [.t 57, .t 58, .k (.c (C.int .i64 1))])⟩,
    ⟨some 13, none, .p (.alloc [.k (C.int .i64 0), .k (C.int .i64 0)])⟩,
    ⟨none, none, .h (.store 2 (.t 13) (.t 59))⟩] [1, 2, 4, 5, 7, 8, 9, 10, 13])
  (.seq (.region [⟨some 60, none, .p (.ixA 2 1 (.t 9) (.k (.c (C.int .i64 0))))⟩,
    ⟨some 61, none, .h (.load 1 false (.t 60))⟩,
    ⟨some 62, none, .p (.ixA 2 1 (.t 13) (.k (.c (C.int .i64 1))))⟩,
    ⟨some 63, none, .h (.load 1 false (.t 62))⟩,
    ⟨some 64, none, .p (.bin .mul (.t 61) (.t 63))⟩,
    ⟨some 65, none, .p (.ixA 2 1 (.t 13) (.k (.c (C.int .i64 0))))⟩,
    ⟨some 66, none, .h (.load 1 false (.t 65))⟩,
    ⟨some 67, none, .p (.ixA 2 1 (.t 9) (.k (.c (C.int .i64 1))))⟩,
    ⟨some 68, none, .h (.load 1 false (.t 67))⟩,
    ⟨some 69, none, .p (.bin .mul (.t 66) (.t 68))⟩,
    ⟨some 70, none, .p (.bin .lss (.t 64) (.t 69))⟩] [1, 2, 4, 5, 7, 8, 9, 10, 13, 70])
  (.cond (.t 70)
  (.seq (.region [⟨some 71, none, .p (.mv (.t 7))⟩,
    ⟨some 72, none, .p (.mv (.t 10))⟩,
    ⟨some 73, none, .p (.ixS 2 (.t 71) (.t 72))⟩,
    ⟨some 74, none, .h (.load 2 true (.t 73))⟩,
    ⟨none, none, .h (.store 2 (.t 8) (.t 74))⟩] [1, 2, 4, 5, 7, 8, 9, 10, 13])
  (.region [⟨some 75, none, .h (.load 2 true (.t 13))⟩,
    ⟨none, none, .h (.store 2 (.t 9) (.t 75))⟩] [1, 2, 4, 5, 7, 8, 9, 10]))
  .skip)))))
  (.region [⟨some 40, none, .p (.mv (.t 10))⟩,
    ⟨some 41, none, .p (.bin .add (.t 40) (.k (.c (C.int .i64 1))))⟩,
    ⟨some 10, none, .p (.mv (.t 41))⟩] [1, 2, 4, 5, 7, 8, 9, 10]))) [1, 2, 4, 5, 7, 8, 9, 10])))
  (.seq (.regionD [⟨some 76, none, .h (.load 2 true (.t 8))⟩,
    ⟨some 77, none, .h (.load 2 true (.t 9))⟩,
    ⟨none, none, .h (.store 2 (.t 4) (.t 76))⟩,
    ⟨none, none, .h (.store 2 (.t 5) (.t 77))⟩,
    ⟨some 6, none, .p (.mv (.k (.c (C.bool true))))⟩] [4, 5, 6] [(.t 9, .t 4)])
  .ret)))))) }
theorem a97_ok : okFn Try.prog 97 a97 = true := by kernel_rfl
/-- loop.example/g01215/impl.BestChance -/
def a98 : AFn := { np := 2, nt := 60, res := [.cell 4 2 true, .cell 5 2 true, .t 6], body :=
  (.seq (.region [⟨some 2, none, .p (.box 24 (.t 0))⟩,
    ⟨some 4, none, .p (.alloc [.k (C.int .i64 0), .k (C.int .i64 0)])⟩,
    ⟨some 5, none, .p (.alloc [.k (C.int .i64 0), .k (C.int .i64 0)])⟩,
    ⟨some 6, none, .p (.mv (.k (.c (C.bool false))))⟩] [1, 2, 4, 5])
  (.seq (.seq (.region [⟨some 14, none, .h (.load 24 true (.t 2))⟩,
    ⟨some 15, none, .p (.mv (.t 1))⟩,
    ⟨some 16, none, .h (.call (.f 177) [.t 14, .t 15, .k (.c (C.int .i64 1))])⟩,
    ⟨some 17, none, .p (.un .not (.t 16))⟩,
    ⟨some 18, none, .p (.mv (.t 17))⟩,
    ⟨some 19, some (18, false), .h (.load 24 true (.t 2))⟩,
    ⟨some 20, some (18, false), .h (.call (.f 184) [.t 19])⟩,
    ⟨some 21, none, .p (.pick (.t 18) (.k (.c (C.bool true))) (.t 20))⟩] [1, 2, 4, 5, 21])
  (.cond (.t 21)
  (.seq (.region [⟨some 22, none, .p (.build [.k (C.int .i64 0), .k (C.int .i64 0)] [])⟩,
    ⟨some 23, none, .p (.build [.k (C.int .i64 0), .k (C.int .i64 0)] [])⟩,
    ⟨none, none, .h (.store 2 (.t 4) (.t 22))⟩,
    ⟨none, none, .h (.store 2 (.t 5) (.t 23))⟩,
    ⟨some 6, none, .p (.mv (.k (.c (C.bool false))))⟩] [4, 5, 6])
  .ret)
  .skip))
  (.seq (.region [⟨some 7, none, .p (.alloc [.k (C.int .i64 0), .k (C.int .i64 0)])⟩] [1, 2, 4, 5, 7])
  (.seq (.region [⟨some 24, none, .p (.build [.k (C.int .i64 0), .k (C.int .i64 0)] [(0, 1, .k (.c (C.int .i64 (-1)))), (1, 1, .k (.c (C.int .i64 1)))])⟩,
    ⟨some 8, none, .p (.alloc [.k (C.int .i64 0), .k (C.int .i64 0)])⟩,
    ⟨none, none, .h (.store 2 (.t 8) (.t 24))⟩] [1, 2, 4, 5, 7, 8])
  (.seq (.seq (.region [⟨some 25, none, .h (.load 24 true (.t 2))⟩,
    ⟨some 26, none, .h (.call (.f 143) [.t 25])⟩,
    ⟨some 27, none, .p (.len (.t 26))⟩,
    ⟨some 28, none, .p (.mv (.k (.c (C.int .i64 0))))⟩] [1, 2, 4, 5, 7, 8, 26, 27, 28])
  (.block 0 (.loop (.seq (.region [⟨some 29, none, .p (.bin .lss (.t 28) (.t 27))⟩] [1, 2, 4, 5, 7, 8, 26, 27, 28, 29])
  (.seq (.cond (.t 29)
  .skip
  (.exit 0))
  (.seq (.block 1 (.seq (.region [⟨some 30, none, .p (.ixS 2 (.t 26) (.t 28))⟩,
    ⟨some 31, none, .h (.load 2 true (.t 30))⟩,
    ⟨some 10, none, .p (.alloc [.k (C.int .i64 0), .k (C.int .i64 0)])⟩,
    ⟨none, none, .h (.store 2 (.t 10) (.t 31))⟩] [1, 2, 4, 5, 7, 8, 10, 26, 27, 28])
  (.seq (.region [⟨some 33, none, .h (.load 24 true (.t 2))⟩,
    ⟨some 34, none, .p (.ixA 2 1 (.t 10) (.k (.c (C.int .i64 0))))⟩,
    ⟨some 35, none, .h (.load 1 false (.t 34))⟩,
    ⟨some 36, none, .p (.ixA 2 1 (.t 10) (.k (.c (C.int .i64 1))))⟩,
    ⟨some 37, none, .h (.load 1 false (.t 36))⟩,
    ⟨some 38, none, .h (.call (.f 149) [.t 33, .t 35, .t 37])⟩,
    ⟨some 32, none, .p (.mv (.t 38))⟩,
    ⟨some 39, none, .p (.ext (.t 32) 0)⟩,
    ⟨some 40, none, .p (.ext (.t 32) 1)⟩,
    ⟨some 11, none, .p (.alloc (List.replicate 24 (.k (C.int .i64 0))))⟩,
    ⟨none, none, .h (.store 24 (.t 11) (.t 39))⟩,
    ⟨some 12, none, .p (.mv (.t 40))⟩] [1, 2, 4, 5, 7, 8, 10, 11, 26, 27, 28])
  (.seq (.region [⟨some 41, none, .h (.load 24 true (.t 11))⟩,
    ⟨some 42, none, .p (.mv (.t 1))⟩,
    ⟨some 43, none, .h (.call (.f 182) [.t 41, .t 42])⟩,
    ⟨some 13, none, .p (.alloc [.k (C.int .i64 0), .k (C.int .i64 0)])⟩,
    ⟨none, none, .h (.store 2 (.t 13) (.t 43))⟩] [1, 2, 4, 5, 7, 8, 10, 13, 26, 27, 28])
  (.seq (.region [⟨some 44, none, .p (.ixA 2 1 (.t 13) (.k (.c (C.int .i64 0))))⟩,
    ⟨some 45, none, .h (.load 1 false (.t 44))⟩,
    ⟨some 46, none, .p (.ixA 2 1 (.t 8) (.k (.c (C.int .i64 1))))⟩,
    ⟨some 47, none, .h (.load 1 false (.t 46))⟩,
    ⟨some 48, none, .p (.bin .mul (.t 45) (.t 47))⟩,
    ⟨some 49, none, .p (.ixA 2 1 (.t 8) (.k (.c (C.int .i64 0))))⟩,
    ⟨some 50, none, .h (.load 1 false (.t 49))⟩,
    ⟨some 51, none, .p (.ixA 2 1 (.t 13) (.k (.c (C.int .i64 1))))⟩,
    ⟨some 52, none, .h (.load 1 false (.t 51))⟩,
    ⟨some 53, none, .p (.bin .mul (.t 50) (.t 52))⟩,
    ⟨some 54, none, .p (.bin .gtr (.t 48) (.t 53))⟩] [1, 2, 4, 5, 7, 8, 10, 13, 26, 27, 28, 54])
  (.cond (.t 54)
  (.regionD [⟨some 55, none, .h (.load 2 true (.t 10))⟩,
    ⟨some 56, none, .h (.load 2 true (.t 13))⟩,
    ⟨none, none, .h (.store 2 (.t 7) (.t 55))⟩,
    ⟨none, none, .h (.store 2 (.t 8) (.t 56))⟩] [1, 2, 4, 5, 7, 8, 26, 27, 28] [(.t 13, .t 7)])
  .skip))))))
  (.region [⟨some 57, none, .p (.bin .add (.t 28) (.k (.c (C.int .i64 1))))⟩,
    ⟨some 28, none, .p (.mv (.t 57))⟩] [1, 2, 4, 5, 7, 8, 26, 27, 28])))) [1, 2, 4, 5, 7, 8, 26, 27, 28])))
  (.seq (.regionD [⟨some 58, none, .h (.load 2 true (.t 7))⟩,
    ⟨some 59, none, .h (.load 2 true (.t 8))⟩,
    ⟨none, none, .h (.store 2 (.t 4) (.t 58))⟩,
    ⟨none, none, .h (.store 2 (.t 5) (.t 59))⟩,
    ⟨some 6, none, .p (.mv (.k (.c (C.bool true))))⟩] [4, 5, 6] [(.t 8, .t 4)])
  .ret)))))) }
theorem a98_ok : okFn Try.prog 98 a98 = true := by kernel_rfl
/-- loop.example/g01215/spec.CertifyReplay -/
def a99 : AFn := { np := 1, nt := 30, res := [.t 2, .t 3], body :=
  (.seq (.region [⟨some 1, none, .p (.box 25 (.t 0))⟩,
    ⟨some 2, none, .p (.mv (.k (.c (C.int .i64 0))))⟩,
    ⟨some 3, none, .p (.mv (.k (.c (C.bool false))))⟩] [1])
  (.seq (.region [⟨some 7, none, .h (.load 25 true (.t 1))⟩,
    ⟨some 8, none, .h (.call (.f 150) [.t 7])⟩,
    ⟨some 6, none, .p (.mv (.t 8))⟩,
    ⟨some 9, none, .p (.ext (.t 6) 0)⟩,
    ⟨some 10, none, .p (.ext (.t 6) 1)⟩,
    ⟨some 4, none, .p (.mv (.t 9))⟩,
    ⟨some 5, none, .p (.mv (.t 10))⟩] [1, 4, 5])
  (.seq (.seq (.region [⟨some 11, none, .p (.mv (.t 5))⟩,
    ⟨some 12, none, .p (.un .not (.t 11))⟩,
    ⟨some 13, none, .p (.mv (.t 12))⟩,
    ⟨some 14, some (13, false), .p (.mv (.t 4))⟩,
    ⟨some 15, some (13, false), .p (.mv (.t 4))⟩,
    ⟨some 16, some (13, false), .p (.len (.t 15))⟩,
    ⟨some 17, some (13, false), .p (.bin .sub (.t 16) (.k (.c (C.int .i64 1))))⟩,
    ⟨some 18, some (13, false), .p (.ixS 24 (.t 14) (.t 17))⟩,
    ⟨some 19, some (13, false), .h (.load 24 true (.t 18))⟩,
    ⟨some 20, some (13, false), .h (.call (.f 172) [.t 19])⟩,
    ⟨some 21, some (13, false), .p (.un .not (.t 20))⟩,
    ⟨some 22, none, .p (.pick (.t 13) (.k (.c (C.bool true))) (.t 21))⟩] [1, 22])
  (.cond (.t 22)
  (.seq (.region [⟨some 2, none, .p (.mv (.k (.c (C.int .i64 0))))⟩,
    ⟨some 3, none, .p (.mv (.k (.c (C.bool false))))⟩] [2, 3])
  .ret)
  .skip))
  (.seq (.regionD [⟨some 23, none, .p (.fld 24 (.t 1))⟩,
    ⟨some 24, none, .h (.load 1 false (.t 23))⟩,
    ⟨some 25, none, .p (.len (.t 24))⟩,
    ⟨some 26, none, .p (.fld 0 (.t 1))⟩,
    ⟨some 27, none, .h (.load 24 true (.t 26))⟩,
    ⟨some 28, none, .h (.call (.f 185) [.t 27])⟩,
    ⟨some 29, none, .p (.bin .sub (.t 25) (.t 28))⟩,
    ⟨some 2, none, .p (.mv (.t 29))⟩,
    ⟨some 3, none, .p (.mv (.k (.c (C.bool true))))⟩] [2, 3] [])
  .ret)))) }
theorem a99_ok : okFn Try.prog 99 a99 = true := by kernel_rfl
/-- loop.example/g01215/impl.CertifyReplay -/
def a100 : AFn := { np := 1, nt := 14, res := [.t 2, .t 3], body :=
  (.seq (.region [⟨some 1, none, .p (.box 25 (.t 0))⟩,
    ⟨some 2, none, .p (.mv (.k (.c (C.int .i64 0))))⟩,
    ⟨some 3, none, .p (.mv (.k (.c (C.bool false))))⟩] [1])
  (.seq (.seq (.region [⟨some 4, none, .h (.load 25 true (.t 1))⟩,
    ⟨some 5, none, .h (.call (.f 173) [.t 4])⟩,
    ⟨some 6, none, .p (.un .not (.t 5))⟩] [1, 6])
  (.cond (.t 6)
  (.seq (.region [⟨some 2, none, .p (.mv (.k (.c (C.int .i64 0))))⟩,
    ⟨some 3, none, .p (.mv (.k (.c (C.bool false))))⟩] [2, 3])
  .ret)
  .skip))
  (.seq (.regionD [⟨some 7, none, .p (.fld 24 (.t 1))⟩,
    ⟨some 8, none, .h (.load 1 false (.t 7))⟩,
    ⟨some 9, none, .p (.len (.t 8))⟩,
    ⟨some 10, none, .p (.fld 0 (.t 1))⟩,
    ⟨some 11, none, .h (.load 24 true (.t 10))⟩,
    ⟨some 12, none, .h (.call (.f 186) [.t 11])⟩,
    ⟨some 13, none, .p (.bin .sub (.t 9) (.t 12))⟩,
    ⟨some 2, none, .p (.mv (.t 13))⟩,
    ⟨some 3, none, .p (.mv (.k (.c (C.bool true))))⟩] [2, 3] [])
  .ret))) }
theorem a100_ok : okFn Try.prog 100 a100 = true := by kernel_rfl
/-- loop.example/g01215/spec.CutLoops -/
def a101 : AFn := { np := 1, nt := 77, res := [.cell 2 25 true, .t 3], body :=
  (.seq (.region [⟨some 1, none, .p (.box 25 (.t 0))⟩,
    ⟨some 2, none, .p (.alloc [.k (C.int .i64 0), .k (C.int .i64 0), .k (C.int .i64 0), .k (C.int .i64 0), .k (C.int .i64 0), .k (C.int .i64 0), .k (C.int .i64 0), .k (C.int .i64 0), .k (C.int .i64 0), .k (C.int .i64 0), .k (C.int .i64 0), .k (C.int .i64 0), .k (C.int .i64 0), .k (C.int .i64 0), .k (C.int .i64 0), .k (C.int .i64 0), .k (C.int .i64 0), .k (C.int .i64 0), .k (C.int .i64 0), .k (C.int .i64 0), .k (C.int .i64 0), .k (C.int .i64 0), .k (C.int .i64 0), .k (C.int .i64 0), .sl 2])⟩,
    ⟨some 3, none, .p (.mv (.k (.c (C.bool false))))⟩] [1, 2])
  (.seq (.region [⟨some 12, none, .h (.load 25 true (.t 1))⟩,
    ⟨some 13, none, .h (.call (.f 150) [.t 12])⟩,
    ⟨some 11, none, .p (.mv (.t 13))⟩,
    ⟨some 14, none, .p (.ext (.t 11) 0)⟩,
    ⟨some 15, none, .p (.ext (.t 11) 1)⟩,
    ⟨some 4, none, .p (.mv (.t 14))⟩,
    ⟨some 5, none, .p (.mv (.t 15))⟩] [1, 2, 4, 5])
  (.seq (.seq (.region [⟨some 16, none, .p (.mv (.t 5))⟩,
    ⟨some 17, none, .p (.un .not (.t 16))⟩] [1, 2, 4, 17])
  (.cond (.t 17)
  (.seq (.region [⟨some 18, none, .p (.build [.k (C.int .i64 0), .k (C.int .i64 0), .k (C.int .i64 0), .k (C.int .i64 0), .k (C.int .i64 0), .k (C.int .i64 0), .k (C.int .i64 0), .k (C.int .i64 0), .k (C.int .i64 0), .k (C.int .i64 0), .k (C.int .i64 0), .k (C.int .i64 0), .k (C.int .i64 0), .k (C.int .i64 0), .k (C.int .i64 0), .k (C.int .i64 0), .k (C.int .i64 0), .k (C.int .i64 0), .k (C.int .i64 0), .k (C.int .i64 0), .k (C.int .i64 0), .k (C.int .i64 0), .k (C.int .i64 0), .k (C.int .i64 0), .sl 2] [])⟩,
    ⟨none, none, .h (.store 25 (.t 2) (.t 18))⟩,
    ⟨some 3, none, .p (.mv (.k (.c (C.bool false))))⟩] [2, 3])
  .ret)
  .skip))
  (.seq (.region [⟨some 19, none, .h (.load 25 true (.t 1))⟩,
    ⟨some 20, none, .p (.fld 24 (.t 1))⟩,
    ⟨some 21, none, .h (.load 1 false (.t 20))⟩,
    ⟨some 22, none, .p (.len (.t 21))⟩,
    ⟨some 23, none, .h (.call (.f 168) [.t 19, .t 22])⟩,
    ⟨some 6, none, .p (.alloc [.k (C.int .i64 0), .k (C.int .i64 0), .k (C.int .i64 0), .k (C.int .i64 0), .k (C.int .i64 0), .k (C.int .i64 0), .k (C.int .i64 0), .k (C.int .i64 0), .k (C.int .i64 0), .k (C.int .i64 0), .k (C.int .i64 0), .k (C.int .i64 0), .k (C.int .i64 0), .k (C.int .i64 0), .k (C.int .i64 0), .k (C.int .i64 0), .k (C.int .i64 0), .k (C.int .i64 0), .k (C.int .i64 0), .k (C.int .i64 0), .k (C.int .i64 0), .k (C.int .i64 0), .k (C.int .i64 0), .k (C.int .i64 0), .sl 2])⟩,
    ⟨none, none, .h (.store 25 (.t 6) (.t 23))⟩] [2, 4, 6])
  (.seq (.seq (.region [⟨some 24, none, .p (.mv (.t 4))⟩,
    ⟨some 25, none, .h (.call (.f 170) [.t 24])⟩,
    ⟨some 7, none, .p (.mv (.t 25))⟩] [2, 6, 7])
  (.block 0 (.loop (.seq (.seq (.region [⟨some 26, none, .p (.mv (.t 7))⟩,
    ⟨some 27, none, .p (.len (.t 26))⟩,
    ⟨some 28, none, .p (.bin .gtr (.t 27) (.k (.c (C.int .i64 0))))⟩] [2, 6, 7, 28])
  (.cond (.t 28)
  .skip
  (.exit 0)))
  (.seq (.block 1 (.seq (.regionD [⟨some 31, none, .p (.mv (.t 7))⟩,
    ⟨some 32, none, .p (.ixS 2 (.t 31) (.k (.c (C.int .i64 0))))⟩,
    ⟨some 33, none, .p (.ixA 2 1 (.t 32) (.k (.c (C.int .i64 0))))⟩,
    ⟨some 34, none, .h (.load 1 false (.t 33))⟩,
    ⟨some 35, none, .p (.mv (.t 7))⟩,
    ⟨some 36, none, .p (.ixS 2 (.t 35) (.k (.c (C.int .i64 0))))⟩,
    ⟨some 37, none, .p (.ixA 2 1 (.t 36) (.k (.c (C.int .i64 1))))⟩,
    ⟨some 38, none, .h (.load 1 false (.t 37))⟩,
    ⟨some 8, none, .p (.mv (.t 34))⟩,
    ⟨some 9, none, .p (.mv (.t 38))⟩] [2, 6, 7, 8, 9] [])
  (.seq (.seq (.region [⟨some 10, none, .p (.mv (.k (.c (C.int .i64 1))))⟩] [2, 6, 7, 8, 9, 10])
  (.block 2 (.loop (.seq (.seq (.region [⟨some 39, none, .p (.mv (.t 10))⟩,
    ⟨some 40, none, .p (.mv (.t 7))⟩,
    ⟨some 41, none, .p (.len (.t 40))⟩,
    ⟨some 42, none, .p (.bin .lss (.t 39) (.t 41))⟩,
    ⟨some 43, none, .p (.mv (.t 42))⟩,
    ⟨some 44, some (43, true), .p (.mv (.t 7))⟩,
    ⟨some 45, some (43, true), .p (.mv (.t 10))⟩,
    ⟨some 46, some (43, true), .p (.ixS 2 (.t 44) (.t 45))⟩,
    ⟨some 47, some (43, true), .p (.ixA 2 1 (.t 46) (.k (.c (C.int .i64 0))))⟩,
    ⟨some 48, some (43, true), .h (.load 1 false (.t 47))⟩,
    ⟨some 49, some (43, true), .p (.mv (.t 8))⟩,
    ⟨some 50, some (43, true), .p (.bin .eql (.t 48) (.t 49))⟩,
    ⟨some 51, none, .p (.pick (.t 43) (.t 50) (.k (.c (C.bool false))))⟩] [2, 6, 7, 8, 9, 10, 51])
  (.cond (.t 51)
  .skip
  (.exit 2)))
  (.seq (.block 3 (.region [⟨some 54, none, .p (.mv (.t 7))⟩,
    ⟨some 55, none, .p (.mv (.t 10))⟩,
    ⟨some 56, none, .p (.ixS 2 (.t 54) (.t 55))⟩,
    ⟨some 57, none, .p (.ixA 2 1 (.t 56) (.k (.c (C.int .i64 1))))⟩,
    ⟨some 58, none, .h (.load 1 false (.t 57))⟩,
    ⟨some 9, none, .p (.mv (.t 58))⟩] [2, 6, 7, 8, 9, 10]))
  (.region [⟨some 52, none, .p (.mv (.t 10))⟩,
    ⟨some 53, none, .p (.bin .add (.t 52) (.k (.c (C.int .i64 1))))⟩,
    ⟨some 10, none, .p (.mv (.t 53))⟩] [2, 6, 7, 8, 9, 10]))) [2, 6, 7, 8, 9, 10])))
  (.seq (.regionD [⟨some 59, none, .p (.mksl 2 0 [.k (C.int .i64 0), .k (C.int .i64 0)] [])⟩,
    ⟨some 60, none, .p (.fld 24 (.t 6))⟩,
    ⟨some 61, none, .h (.load 1 false (.t 60))⟩,
    ⟨some 62, none, .p (.mv (.t 8))⟩,
    ⟨some 63, none, .p (.slS 2 (.t 61) none (some (.t 62)))⟩,
    ⟨some 64, none, .h (.app 2 (.t 59) (.t 63))⟩,
    ⟨some 65, none, .p (.fld 24 (.t 6))⟩,
    ⟨some 66, none, .h (.load 1 false (.t 65))⟩,
    ⟨some 67, none, .p (.mv (.t 9))⟩,
    ⟨some 68, none, .p (.slS 2 (.t 66) (some (.t 67)) none)⟩,
    ⟨some 69, none, .h (.app 2 (.t 64) (.t 68))⟩,
    ⟨some 70, none, .p (.fld 24 (.t 6))⟩,
    ⟨none, none, .h (.store 1 (.t 70) (.t 69))⟩] [2, 6] [(.t 59, .t 65)])
  (.region [⟨some 72, none, .h (.load 25 true (.t 6))⟩,
    ⟨some 73, none, .h (.call (.f 150) [.t 72])⟩,
    ⟨some 71, none, .p (.mv (.t 73))⟩,
    ⟨some 74, none, .p (.ext (.t 71) 0)⟩,
    ⟨some 75, none, .p (.ext (.t 71) 1)⟩,
    ⟨some 4, none, .p (.mv (.t 74))⟩] [2, 4, 6])))))
  (.region [⟨some 29, none, .p (.mv (.t 4))⟩,
    ⟨some 30, none, .h (.call (.f 170) [.t 29])⟩,
    ⟨some 7, none, .p (.mv (.t 30))⟩] [2, 6, 7]))) [2, 6, 7])))
  (.seq (.region [⟨some 76, none, .h (.load 25 true (.t 6))⟩,
    ⟨none, none, .h (.store 25 (.t 2) (.t 76))⟩,
    ⟨some 3, none, .p (.mv (.k (.c (C.bool true))))⟩] [2, 3])
  .ret)))))) }
theorem a101_ok : okFn Try.prog 101 a101 = true := by kernel_rfl
/-- loop.example/g01215/impl.CutLoops -/
def a102 : AFn := { np := 1, nt := 55, res := [.cell 2 25 true, .t 3], body :=
  (.seq (.region [⟨some 1, none, .p (.box 25 (.t 0))⟩,
    ⟨some 2, none, .p (.alloc [.k (C.int .i64 0), .k (C.int .i64 0), .k (C.int .i64 0), .k (C.int .i64 0), .k (C.int .i64 0), .k (C.int .i64 0), .k (C.int .i64 0), .k (C.int .i64 0), .k (C.int .i64 0), .k (C.int .i64 0), .k (C.int .i64 0), .k (C.int .i64 0), .k (C.int .i64 0), .k (C.int .i64 0), .k (C.int .i64 0), .k (C.int .i64 0), .k (C.int .i64 0), .k (C.int .i64 0), .k (C.int .i64 0), .k (C.int .i64 0), .k (C.int .i64 0), .k (C.int .i64 0), .k (C.int .i64 0), .k (C.int .i64 0), .sl 2])⟩,
    ⟨some 3, none, .p (.mv (.k (.c (C.bool false))))⟩] [1, 2])
  (.seq (.seq (.region [⟨some 9, none, .h (.load 25 true (.t 1))⟩,
    ⟨some 10, none, .h (.call (.f 50) [.t 9])⟩,
    ⟨some 11, none, .p (.un .not (.t 10))⟩] [1, 2, 11])
  (.cond (.t 11)
  (.seq (.region [⟨some 12, none, .p (.build [.k (C.int .i64 0), .k (C.int .i64 0), .k (C.int .i64 0), .k (C.int .i64 0), .k (C.int .i64 0), .k (C.int .i64 0), .k (C.int .i64 0), .k (C.int .i64 0), .k (C.int .i64 0), .k (C.int .i64 0), .k (C.int .i64 0), .k (C.int .i64 0), .k (C.int .i64 0), .k (C.int .i64 0), .k (C.int .i64 0), .k (C.int .i64 0), .k (C.int .i64 0), .k (C.int .i64 0), .k (C.int .i64 0), .k (C.int .i64 0), .k (C.int .i64 0), .k (C.int .i64 0), .k (C.int .i64 0), .k (C.int .i64 0), .sl 2] [])⟩,
    ⟨none, none, .h (.store 25 (.t 2) (.t 12))⟩,
    ⟨some 3, none, .p (.mv (.k (.c (C.bool false))))⟩] [2, 3])
  .ret)
  .skip))
  (.seq (.region [⟨some 13, none, .h (.load 25 true (.t 1))⟩,
    ⟨some 14, none, .p (.fld 24 (.t 1))⟩,
    ⟨some 15, none, .h (.load 1 false (.t 14))⟩,
    ⟨some 16, none, .p (.mksl 1 1 [.sl 2] [(0, 1, .t 15)])⟩,
    ⟨some 17, none, .h (.call (.f 169) [.t 13, .t 16])⟩,
    ⟨some 4, none, .p (.alloc [.k (C.int .i64 0), .k (C.int .i64 0), .k (C.int .i64 0), .k (C.int .i64 0), .k (C.int .i64 0), .k (C.int .i64 0), .k (C.int .i64 0), .k (C.int .i64 0), .k (C.int .i64 0), .k (C.int .i64 0), .k (C.int .i64 0), .k (C.int .i64 0), .k (C.int .i64 0), .k (C.int .i64 0), .k (C.int .i64 0), .k (C.int .i64 0), .k (C.int .i64 0), .k (C.int .i64 0), .k (C.int .i64 0), .k (C.int .i64 0), .k (C.int .i64 0), .k (C.int .i64 0), .k (C.int .i64 0), .k (C.int .i64 0), .sl 2])⟩,
    ⟨none, none, .h (.store 25 (.t 4) (.t 17))⟩] [2, 4])
  (.seq (.seq (.region [⟨some 18, none, .h (.load 25 true (.t 4))⟩,
    ⟨some 19, none, .h (.call (.f 171) [.t 18])⟩,
    ⟨some 5, none, .p (.mv (.t 19))⟩] [2, 4, 5])
  (.block 0 (.loop (.seq (.seq (.region [⟨some 20, none, .p (.mv (.t 5))⟩,
    ⟨some 21, none, .p (.len (.t 20))⟩,
    ⟨some 22, none, .p (.bin .gtr (.t 21) (.k (.c (C.int .i64 0))))⟩] [2, 4, 5, 22])
  (.cond (.t 22)
  .skip
  (.exit 0)))
  (.seq (.block 1 (.seq (.region [⟨some 25, none, .p (.mv (.t 5))⟩,
    ⟨some 26, none, .p (.ixS 2 (.t 25) (.k (.c (C.int .i64 0))))⟩,
    ⟨some 27, none, .h (.load 2 true (.t 26))⟩,
    ⟨some 6, none, .p (.alloc [.k (C.int .i64 0), .k (C.int .i64 0)])⟩,
    ⟨none, none, .h (.store 2 (.t 6) (.t 27))⟩] [2, 4, 5, 6])
  (.seq (.seq (.region [⟨some 28, none, .p (.mv (.t 5))⟩,
    ⟨some 29, none, .p (.len (.t 28))⟩,
    ⟨some 30, none, .p (.mv (.k (.c (C.int .i64 0))))⟩] [2, 4, 6, 28, 29, 30])
  (.block 2 (.loop (.seq (.region [⟨some 31, none, .p (.bin .lss (.t 30) (.t 29))⟩] [2, 4, 6, 28, 29, 30, 31])
  (.seq (.cond (.t 31)
  .skip
  (.exit 2))
  (.seq (.block 3 (.seq (.region [⟨some 32, none, .p (.ixS 2 (.t 28) (.t 30))⟩,
    ⟨some 33, none, .h (.load 2 true (.t 32))⟩,
    ⟨some 8, none, .p (.alloc [.k (C.int .i64 0), .k (C.int .i64 0)])⟩,
    ⟨none, none, .h (.store 2 (.t 8) (.t 33))⟩] [2, 4, 6, 8, 28, 29, 30])
  (.seq (.region [⟨some 34, none, .p (.ixA 2 1 (.t 8) (.k (.c (C.int .i64 0))))⟩,
    ⟨some 35, none, .h (.load 1 false (.t 34))⟩,
    ⟨some 36, none, .p (.ixA 2 1 (.t 6) (.k (.c (C.int .i64 0))))⟩,
    ⟨some 37, none, .h (.load 1 false (.t 36))⟩,
    ⟨some 38, none, .p (.bin .eql (.t 35) (.t 37))⟩] [2, 4, 6, 8, 28, 29, 30, 38])
  (.cond (.t 38)
  (.region [⟨some 39, none, .h (.load 2 true (.t 8))⟩,
    ⟨none, none, .h (.store 2 (.t 6) (.t 39))⟩] [2, 4, 6, 28, 29, 30])
  .skip))))
  (.region [⟨some 40, none, .p (.bin .add (.t 30) (.k (.c (C.int .i64 1))))⟩,
    ⟨some 30, none, .p (.mv (.t 40))⟩] [2, 4, 6, 28, 29, 30])))) [2, 4, 6, 28, 29, 30])))
  (.regionE [⟨some 41, none, .h (.load 25 true (.t 4))⟩,
    ⟨some 42, none, .p (.fld 24 (.t 4))⟩,
    ⟨some 43, none, .h (.load 1 false (.t 42))⟩,
    ⟨some 44, none, .p (.ixA 2 1 (.t 6) (.k (.c (C.int .i64 0))))⟩,
    ⟨some 45, none, .h (.load 1 false (.t 44))⟩,
    ⟨some 46, none, .p (.slS 2 (.t 43) none (some (.t 45)))⟩,
    ⟨some 47, none, .p (.fld 24 (.t 4))⟩,
    ⟨some 48, none, .h (.load 1 false (.t 47))⟩,
    ⟨some 49, none, .p (.ixA 2 1 (.t 6) (.k (.c (C.int .i64 1))))⟩,
    ⟨some 50, none, .h (.load 1 false (.t 49))⟩,
    ⟨some 51, none, .p (.slS 2 (.t 48) (some (.t 50)) none)⟩,
    ⟨some 52, none, .p (.mksl 1 2 [.sl 2] [(0, 1, .t 46), (1, 1, .t 51)])⟩,
    ⟨some 53, none, .h (.call (.f 169) [.t 41, .t 52])⟩,
    ⟨none, none, .h (.store 25 (.t 4) (.t 53))⟩] [2, 4] [] [[], [], [], [], [], [], [], [], [], [], [], [], [11]]))))
  (.region [⟨some 23, none, .h (.load 25 true (.t 4))⟩,
    ⟨some 24, none, .h (.call (.f 171) [.t 23])⟩,
    ⟨some 5, none, .p (.mv (.t 24))⟩] [2, 4, 5]))) [2, 4, 5])))
  (.seq (.region [⟨some 54, none, .h (.load 25 true (.t 4))⟩,
    ⟨none, none, .h (.store 25 (.t 2) (.t 54))⟩,
    ⟨some 3, none, .p (.mv (.k (.c (C.bool true))))⟩] [2, 3])
  .ret))))) }
theorem a102_ok : okFn Try.prog 102 a102 = true := by kernel_rfl
/-- loop.example/g01215/laws.vBig -/
def a103 : AFn := { np := 1, nt := 6, res := [.t 2], body :=
  (.seq (.region [⟨some 2, none, .p (.mv (.k (.c (C.bool false))))⟩] [0])
  (.seq (.region [⟨some 3, none, .p (.mv (.t 0))⟩,
    ⟨some 4, none, .p (.len (.t 3))⟩,
    ⟨some 5, none, .p (.bin .gtr (.t 4) (.k (.c (C.int .i64 65536))))⟩,
    ⟨some 2, none, .p (.mv (.t 5))⟩] [2])
  .ret)) }
theorem a103_ok : okFn Try.prog 103 a103 = true := by kernel_rfl
/-- loop.example/g01215/spec.DrawDealRuns -/
def a104 : AFn := { np := 1, nt := 12, res := [.cell 2 6 true, .cell 3 6 true], body :=
  (.seq (.region [⟨some 2, none, .p (.alloc [.k (C.int .i64 0), .k (C.int .i64 0), .k (C.int .i64 0), .k (C.int .i64 0), .k (C.int .i64 0), .k (C.int .i64 0)])⟩,
    ⟨some 3, none, .p (.alloc [.k (C.int .i64 0), .k (C.int .i64 0), .k (C.int .i64 0), .k (C.int .i64 0), .k (C.int .i64 0), .k (C.int .i64 0)])⟩] [0, 2, 3])
  (.seq (.region [⟨some 5, none, .p (.mv (.t 0))⟩,
    ⟨some 6, none, .p (.build [.sl 1, .k (C.int .i64 0), .k (C.int .u64 0)] [(0, 1, .t 5)])⟩,
    ⟨some 7, none, .p (.box 3 (.t 6))⟩,
    ⟨some 4, none, .p (.mv (.t 7))⟩] [2, 3, 4])
  (.seq (.region [⟨some 8, none, .p (.mv (.t 4))⟩,
    ⟨some 9, none, .h (.call (.f 187) [.t 8])⟩,
    ⟨some 10, none, .p (.ext (.t 9) 0)⟩,
    ⟨some 11, none, .p (.ext (.t 9) 1)⟩,
    ⟨none, none, .h (.store 6 (.t 2) (.t 10))⟩,
    ⟨none, none, .h (.store 6 (.t 3) (.t 11))⟩] [2, 3])
  .ret))) }
theorem a104_ok : okFn Try.prog 104 a104 = true := by kernel_rfl
/-- loop.example/g01215/impl.DealRuns -/
def a105 : AFn := { np := 2, nt := 50, res := [.cell 4 2 true, .t 5], body :=
  (.seq (.region [⟨some 2, none, .p (.box 6 (.t 0))⟩,
    ⟨some 3, none, .p (.box 6 (.t 1))⟩,
    ⟨some 4, none, .p (.alloc [.k (C.int .i64 0), .k (C.int .i64 0)])⟩,
    ⟨some 5, none, .p (.mv (.k (.c (C.bool false))))⟩] [2, 3, 4])
  (.seq (.seq (.region [⟨some 12, none, .h (.load 6 true (.t 2))⟩,
    ⟨some 13, none, .h (.load 6 true (.t 3))⟩,
    ⟨some 14, none, .h (.call (.f 136) [.t 12, .t 13])⟩,
    ⟨some 15, none, .p (.un .not (.t 14))⟩] [2, 3, 4, 15])
  (.cond (.t 15)
  (.seq (.region [⟨some 16, none, .p (.build [.k (C.int .i64 0), .k (C.int .i64 0)] [])⟩,
    ⟨none, none, .h (.store 2 (.t 4) (.t 16))⟩,
    ⟨some 5, none, .p (.mv (.k (.c (C.bool false))))⟩] [4, 5])
  .ret)
  .skip))
  (.seq (.region [⟨some 6, none, .p (.mv (.k (.c (C.int .i64 0))))⟩,
    ⟨some 7, none, .p (.mv (.k (.c (C.int .i64 0))))⟩] [2, 3, 4, 6, 7])
  (.seq (.seq (.region [⟨some 17, none, .h (.load 6 true (.t 2))⟩,
    ⟨some 18, none, .p (.mv (.k (.c (C.int .i64 0))))⟩] [3, 4, 6, 7, 17, 18])
  (.block 0 (.loop (.seq (.region [⟨some 19, none, .p (.bin .lss (.t 18) (.k (.c (C.int .i64 6))))⟩] [3, 4, 6, 7, 17, 18, 19])
  (.seq (.cond (.t 19)
  .skip
  (.exit 0))
  (.seq (.block 1 (.seq (.region [⟨some 20, none, .p (.ixV 6 1 false (.t 17) (.t 18))⟩,
    ⟨some 9, none, .p (.mv (.t 20))⟩] [3, 4, 6, 7, 9, 17, 18])
  (.seq (.region [⟨some 21, none, .p (.mv (.t 6))⟩,
    ⟨some 22, none, .p (.mv (.t 9))⟩,
    ⟨some 23, none, .p (.mnmx false [.t 22, .k (.c (C.int .i64 1))])⟩,
    ⟨some 24, none, .p (.bin .add (.t 21) (.t 23))⟩,
    ⟨some 6, none, .p (.mv (.t 24))⟩] [3, 4, 6, 7, 9, 17, 18])
  (.region [⟨some 25, none, .p (.mv (.t 7))⟩,
    ⟨some 26, none, .p (.mv (.t 9))⟩,
    ⟨some 27, none, .p (.bin .sub (.t 26) (.k (.c (C.int .i64 1))))⟩,
    ⟨some 28, none, .p (.mnmx true [.t 27, .k (.c (C.int .i64 0))])⟩,
    ⟨some 29, none, .p (.bin .add (.t 25) (.t 28))⟩,
    ⟨some 7, none, .p (.mv (.t 29))⟩] [3, 4, 6, 7, 17, 18]))))
  (.region [⟨some 30, none, .p (.bin .add (.t 18) (.k (.c (C.int .i64 1))))⟩,
    ⟨some 18, none, .p (.mv (.t 30))⟩] [3, 4, 6, 7, 17, 18])))) [3, 4, 6, 7, 17, 18])))
  (.seq (.seq (.region [⟨some 31, none, .p (.mv (.t 7))⟩,
    ⟨some 32, none, .p (.bin .eql (.t 31) (.k (.c (C.int .i64 0))))⟩] [3, 4, 6, 7, 32])
  (.cond (.t 32)
  (.seq (.region [⟨some 33, none, .p (.mv (.t 6))⟩,
    ⟨some 34, none, .p (.build [.k (C.int .i64 0), .k (C.int .i64 0)] [(0, 1, .t 33), (1, 1, .k (.c (C.int .i64 1)))])⟩,
    ⟨none, none, .h (.store 2 (.t 4) (.t 34))⟩,
    ⟨some 5, none, .p (.mv (.k (.c (C.bool true))))⟩] [4, 5])
  .ret)
  .skip))
  (.seq (.region [⟨some 36, none, .h (.load 6 true (.t 3))⟩,
    ⟨some 37, none, .h (.call (.f 188) [.t 36])⟩,
    ⟨some 35, none, .p (.mv (.t 37))⟩,
    ⟨some 38, none, .p (.ext (.t 35) 0)⟩,
    ⟨some 39, none, .p (.ext (.t 35) 1)⟩,
    ⟨some 10, none, .p (.mv (.t 38))⟩,
    ⟨some 11, none, .p (.mv (.t 39))⟩] [4, 6, 7, 10, 11])
  (.seq (.region [⟨some 40, none, .p (.mv (.t 6))⟩,
    ⟨some 41, none, .p (.build [.k (C.int .i64 0), .k (C.int .i64 0)] [(0, 1, .t 40), (1, 1, .k (.c (C.int .i64 1)))])⟩,
    ⟨some 42, none, .p (.mv (.t 7))⟩,
    ⟨some 43, none, .p (.mv (.t 11))⟩,
    ⟨some 44, none, .p (.mv (.t 10))⟩,
    ⟨some 45, none, .p (.bin .sub (.t 43) (.t 44))⟩,
    ⟨some 46, none, .p (.bin .mul (.t 42) (.t 45))⟩,
    ⟨some 47, none, .p (.mv (.t 11))⟩,
    ⟨some 48, none, .h (.call (.f 137) [.t 46, .t 47])⟩,
    ⟨some 49, none, .h (.call (.f 189) [.t 41, .t 48])⟩,
    ⟨none, none, .h (.store 2 (.t 4) (.t 49))⟩,
    ⟨some 5, none, .p (.mv (.k (.c (C.bool true))))⟩] [4, 5])
  .ret))))))) }
theorem a105_ok : okFn Try.prog 105 a105 = true := by kernel_rfl
/-- loop.example/g01215/spec.DealRuns -/
def a106 : AFn := { np := 2, nt := 52, res := [.cell 4 2 true, .t 5], body :=
  (.seq (.region [⟨some 2, none, .p (.box 6 (.t 0))⟩,
    ⟨some 3, none, .p (.box 6 (.t 1))⟩,
    ⟨some 4, none, .p (.alloc [.k (C.int .i64 0), .k (C.int .i64 0)])⟩,
    ⟨some 5, none, .p (.mv (.k (.c (C.bool false))))⟩] [2, 3, 4])
  (.seq (.region [⟨some 12, none, .h (.load 6 true (.t 2))⟩,
    ⟨some 13, none, .h (.load 6 true (.t 3))⟩,
    ⟨some 14, none, .h (.call (.f 132) [.t 12, .t 13])⟩,
    ⟨some 11, none, .p (.mv (.t 14))⟩,
    ⟨some 15, none, .p (.ext (.t 11) 0)⟩,
    ⟨some 16, none, .p (.ext (.t 11) 1)⟩,
    ⟨some 6, none, .p (.mv (.t 15))⟩,
    ⟨some 7, none, .p (.mv (.t 16))⟩] [2, 3, 4, 6, 7])
  (.seq (.seq (.region [⟨some 17, none, .p (.mv (.t 7))⟩,
    ⟨some 18, none, .p (.un .not (.t 17))⟩] [2, 3, 4, 6, 18])
  (.cond (.t 18)
  (.seq (.region [⟨some 19, none, .p (.build [.k (C.int .i64 0), .k (C.int .i64 0)] [])⟩,
    ⟨none, none, .h (.store 2 (.t 4) (.t 19))⟩,
    ⟨some 5, none, .p (.mv (.k (.c (C.bool false))))⟩] [4, 5])
  .ret)
  .skip))
  (.seq (.region [⟨some 8, none, .p (.mv (.k (.c (C.int .i64 0))))⟩] [2, 3, 4, 6, 8])
  (.seq (.seq (.region [⟨some 9, none, .p (.mv (.k (.c (C.int .i64 0))))⟩] [2, 3, 4, 6, 8, 9])
  (.block 0 (.loop (.seq (.seq (.region [⟨some 20, none, .p (.mv (.t 9))⟩,
    ⟨some 21, none, .p (.bin .lss (.t 20) (.k (.c (C.int .i64 6))))⟩] [2, 3, 4, 6, 8, 9, 21])
  (.cond (.t 21)
  .skip
  (.exit 0)))
  (.seq (.block 1 (.seq (.region [⟨some 24, none, .p (.mv (.t 9))⟩,
    ⟨some 25, none, .p (.ixA 6 1 (.t 2) (.t 24))⟩,
    ⟨some 26, none, .h (.load 1 false (.t 25))⟩,
    ⟨some 27, none, .p (.bin .gtr (.t 26) (.k (.c (C.int .i64 0))))⟩] [2, 3, 4, 6, 8, 9, 27])
  (.cond (.t 27)
  (.region [⟨some 28, none, .p (.mv (.t 8))⟩,
    ⟨some 29, none, .p (.bin .add (.t 28) (.k (.c (C.int .i64 1))))⟩,
    ⟨some 8, none, .p (.mv (.t 29))⟩] [2, 3, 4, 6, 8, 9])
  .skip)))
  (.region [⟨some 22, none, .p (.mv (.t 9))⟩,
    ⟨some 23, none, .p (.bin .add (.t 22) (.k (.c (C.int .i64 1))))⟩,
    ⟨some 9, none, .p (.mv (.t 23))⟩] [2, 3, 4, 6, 8, 9]))) [2, 3, 4, 6, 8, 9])))
  (.seq (.seq (.region [⟨some 30, none, .p (.mv (.t 6))⟩,
    ⟨some 31, none, .p (.mv (.t 8))⟩,
    ⟨some 32, none, .p (.bin .eql (.t 30) (.t 31))⟩] [3, 4, 6, 8, 32])
  (.cond (.t 32)
  (.seq (.region [⟨some 33, none, .p (.mv (.t 8))⟩,
    ⟨some 34, none, .p (.build [.k (C.int .i64 0), .k (C.int .i64 0)] [(0, 1, .t 33), (1, 1, .k (.c (C.int .i64 1)))])⟩,
    ⟨none, none, .h (.store 2 (.t 4) (.t 34))⟩,
    ⟨some 5, none, .p (.mv (.k (.c (C.bool true))))⟩] [4, 5])
  .ret)
  .skip))
  (.seq (.region [⟨some 35, none, .p (.mv (.t 6))⟩,
    ⟨some 36, none, .p (.mv (.t 6))⟩,
    ⟨some 37, none, .p (.bin .sub (.t 36) (.k (.c (C.int .i64 1))))⟩,
    ⟨some 38, none, .p (.bin .mul (.t 35) (.t 37))⟩,
    ⟨some 10, none, .p (.mv (.t 38))⟩] [3, 4, 6, 8, 10])
  (.seq (.region [⟨some 39, none, .p (.mv (.t 8))⟩,
    ⟨some 40, none, .p (.build [.k (C.int .i64 0), .k (C.int .i64 0)] [(0, 1, .t 39), (1, 1, .k (.c (C.int .i64 1)))])⟩,
    ⟨some 41, none, .p (.mv (.t 6))⟩,
    ⟨some 42, none, .p (.mv (.t 8))⟩,
    ⟨some 43, none, .p (.bin .sub (.t 41) (.t 42))⟩,
    ⟨some 44, none, .p (.mv (.t 10))⟩,
    ⟨some 45, none, .h (.load 6 true (.t 3))⟩,
    ⟨some 46, none, .h (.call (.f 191) [.t 45])⟩,
    ⟨some 47, none, .p (.bin .sub (.t 44) (.t 46))⟩,
    ⟨some 48, none, .p (.bin .mul (.t 43) (.t 47))⟩,
    ⟨some 49, none, .p (.mv (.t 10))⟩,
    ⟨some 50, none, .h (.call (.f 133) [.t 48, .t 49])⟩,
    ⟨some 51, none, .h (.call (.f 190) [.t 40, .t 50])⟩,
    ⟨none, none, .h (.store 2 (.t 4) (.t 51))⟩,
    ⟨some 5, none, .p (.mv (.k (.c (C.bool true))))⟩] [4, 5])
  .ret)))))))) }
theorem a106_ok : okFn Try.prog 106 a106 = true := by kernel_rfl
/-- loop.example/g01215/impl.CountDeals -/
def a107 : AFn := { np := 2, nt := 12, res := [.t 4, .t 5], body :=
  (.seq (.region [⟨some 2, none, .p (.box 6 (.t 0))⟩,
    ⟨some 3, none, .p (.box 6 (.t 1))⟩,
    ⟨some 4, none, .p (.mv (.k (.c (C.int .i64 0))))⟩,
    ⟨some 5, none, .p (.mv (.k (.c (C.bool false))))⟩] [2, 3])
  (.seq (.seq (.region [⟨some 6, none, .h (.load 6 true (.t 2))⟩,
    ⟨some 7, none, .h (.load 6 true (.t 3))⟩,
    ⟨some 8, none, .h (.call (.f 136) [.t 6, .t 7])⟩,
    ⟨some 9, none, .p (.un .not (.t 8))⟩] [3, 9])
  (.cond (.t 9)
  (.seq (.region [⟨some 4, none, .p (.mv (.k (.c (C.int .i64 0))))⟩,
    ⟨some 5, none, .p (.mv (.k (.c (C.bool false))))⟩] [4, 5])
  .ret)
  .skip))
  (.seq (.region [⟨some 10, none, .h (.load 6 true (.t 3))⟩,
    ⟨some 11, none, .h (.call (.f 139) [.t 10])⟩,
    ⟨some 4, none, .p (.mv (.t 11))⟩,
    ⟨some 5, none, .p (.mv (.k (.c (C.bool true))))⟩] [4, 5])
  .ret))) }
theorem a107_ok : okFn Try.prog 107 a107 = true := by kernel_rfl
/-- loop.example/g01215/spec.CountDeals -/
def a108 : AFn := { np := 2, nt := 18, res := [.t 4, .t 5], body :=
  (.seq (.region [⟨some 2, none, .p (.box 6 (.t 0))⟩,
    ⟨some 3, none, .p (.box 6 (.t 1))⟩,
    ⟨some 4, none, .p (.mv (.k (.c (C.int .i64 0))))⟩,
    ⟨some 5, none, .p (.mv (.k (.c (C.bool false))))⟩] [2, 3])
  (.seq (.seq (.region [⟨some 9, none, .h (.load 6 true (.t 2))⟩,
    ⟨some 10, none, .h (.load 6 true (.t 3))⟩,
    ⟨some 11, none, .h (.call (.f 132) [.t 9, .t 10])⟩,
    ⟨some 8, none, .p (.mv (.t 11))⟩,
    ⟨some 12, none, .p (.ext (.t 8) 0)⟩,
    ⟨some 13, none, .p (.ext (.t 8) 1)⟩,
    ⟨some 6, none, .p (.mv (.t 12))⟩,
    ⟨some 7, none, .p (.mv (.t 13))⟩] [3, 7])
  (.seq (.region [⟨some 14, none, .p (.mv (.t 7))⟩,
    ⟨some 15, none, .p (.un .not (.t 14))⟩] [3, 15])
  (.cond (.t 15)
  (.seq (.region [⟨some 4, none, .p (.mv (.k (.c (C.int .i64 0))))⟩,
    ⟨some 5, none, .p (.mv (.k (.c (C.bool false))))⟩] [4, 5])
  .ret)
  .skip)))
  (.seq (.region [⟨some 16, none, .h (.load 6 true (.t 3))⟩,
    ⟨some 17, none, .h (.call (.f 135) [.t 16])⟩,
    ⟨some 4, none, .p (.mv (.t 17))⟩,
    ⟨some 5, none, .p (.mv (.k (.c (C.bool true))))⟩] [4, 5])
  .ret))) }
theorem a108_ok : okFn Try.prog 108 a108 = true := by kernel_rfl
/-- loop.example/g01215/spec.DrawDealTop -/
def a109 : AFn := { np := 1, nt := 23, res := [.cell 2 6 true, .cell 3 6 true, .t 4, .t 5], body :=
  (.seq (.region [⟨some 2, none, .p (.alloc [.k (C.int .i64 0), .k (C.int .i64 0), .k (C.int .i64 0), .k (C.int .i64 0), .k (C.int .i64 0), .k (C.int .i64 0)])⟩,
    ⟨some 3, none, .p (.alloc [.k (C.int .i64 0), .k (C.int .i64 0), .k (C.int .i64 0), .k (C.int .i64 0), .k (C.int .i64 0), .k (C.int .i64 0)])⟩,
    ⟨some 4, none, .p (.mv (.k (.c (C.int .i64 0))))⟩,
    ⟨some 5, none, .p (.mv (.k (.c (C.int .i64 0))))⟩] [0, 2, 3])
  (.seq (.region [⟨some 9, none, .p (.mv (.t 0))⟩,
    ⟨some 10, none, .p (.build [.sl 1, .k (C.int .i64 0), .k (C.int .u64 0)] [(0, 1, .t 9)])⟩,
    ⟨some 11, none, .p (.box 3 (.t 10))⟩,
    ⟨some 6, none, .p (.mv (.t 11))⟩] [2, 3, 6])
  (.seq (.region [⟨some 13, none, .p (.mv (.t 6))⟩,
    ⟨some 14, none, .h (.call (.f 187) [.t 13])⟩,
    ⟨some 12, none, .p (.mv (.t 14))⟩,
    ⟨some 15, none, .p (.ext (.t 12) 0)⟩,
    ⟨some 16, none, .p (.ext (.t 12) 1)⟩,
    ⟨some 7, none, .p (.alloc [.k (C.int .i64 0), .k (C.int .i64 0), .k (C.int .i64 0), .k (C.int .i64 0), .k (C.int .i64 0), .k (C.int .i64 0)])⟩,
    ⟨some 8, none, .p (.alloc [.k (C.int .i64 0), .k (C.int .i64 0), .k (C.int .i64 0), .k (C.int .i64 0), .k (C.int .i64 0), .k (C.int .i64 0)])⟩,
    ⟨none, none, .h (.store 6 (.t 7) (.t 15))⟩,
    ⟨none, none, .h (.store 6 (.t 8) (.t 16))⟩] [2, 3, 6, 7, 8])
  (.seq (.regionD [⟨some 17, none, .h (.load 6 true (.t 7))⟩,
    ⟨some 18, none, .h (.load 6 true (.t 8))⟩,
    ⟨some 19, none, .p (.mv (.t 6))⟩,
    ⟨some 20, none, .h (.call (.f 192) [.t 19])⟩,
    ⟨some 21, none, .p (.mv (.t 6))⟩,
    ⟨some 22, none, .h (.call (.f 193) [.t 21])⟩,
    ⟨none, none, .h (.store 6 (.t 2) (.t 17))⟩,
    ⟨none, none, .h (.store 6 (.t 3) (.t 18))⟩,
    ⟨some 4, none, .p (.mv (.t 20))⟩,
    ⟨some 5, none, .p (.mv (.t 22))⟩] [2, 3, 4, 5] [(.t 8, .t 2)])
  .ret)))) }
theorem a109_ok : okFn Try.prog 109 a109 = true := by kernel_rfl
/-- loop.example/g01215/laws.vCut -/
def a110 : AFn := { np := 2, nt := 20, res := [.t 4], body :=
  (.seq (.region [⟨some 4, none, .p (.nilsl 1)⟩] [0, 1])
  (.seq (.seq (.region [⟨some 5, none, .p (.mv (.t 1))⟩,
    ⟨some 6, none, .p (.mv (.t 0))⟩,
    ⟨some 7, none, .p (.len (.t 6))⟩,
    ⟨some 8, none, .p (.bin .gtr (.t 5) (.t 7))⟩] [0, 1, 8])
  (.cond (.t 8)
  (.region [⟨some 9, none, .p (.mv (.t 0))⟩,
    ⟨some 10, none, .p (.len (.t 9))⟩,
    ⟨some 1, none, .p (.mv (.t 10))⟩] [0, 1])
  .skip))
  (.seq (.region [⟨some 11, none, .p (.mksl 1 0 [.k (C.int .u8 0)] [])⟩,
    ⟨some 12, none, .p (.mv (.t 0))⟩,
    ⟨some 13, none, .p (.mv (.t 1))⟩,
    ⟨some 14, none, .p (.slS 1 (.t 12) (some (.t 13)) none)⟩,
    ⟨some 15, none, .h (.app 1 (.t 11) (.t 14))⟩,
    ⟨some 16, none, .p (.mv (.t 1))⟩,
    ⟨some 17, none, .p (.conv .u8 (.t 16))⟩,
    ⟨some 18, none, .p (.mksl 1 1 [.k (C.int .u8 0)] [(0, 1, .t 17)])⟩,
    ⟨some 19, none, .h (.app 1 (.t 15) (.t 18))⟩,
    ⟨some 4, none, .p (.mv (.t 19))⟩] [4])
  .ret))) }
theorem a110_ok : okFn Try.prog 110 a110 = true := by kernel_rfl
/-- loop.example/g01215/impl.DealTop -/
def a111 : AFn := { np := 4, nt := 36, res := [.cell 8 2 true, .t 9], body :=
  (.seq (.region [⟨some 4, none, .p (.box 6 (.t 0))⟩,
    ⟨some 5, none, .p (.box 6 (.t 1))⟩,
    ⟨some 8, none, .p (.alloc [.k (C.int .i64 0), .k (C.int .i64 0)])⟩,
    ⟨some 9, none, .p (.mv (.k (.c (C.bool false))))⟩] [2, 3, 4, 5, 8])
  (.seq (.seq (.region [⟨some 10, none, .h (.load 6 true (.t 4))⟩,
    ⟨some 11, none, .h (.load 6 true (.t 5))⟩,
    ⟨some 12, none, .h (.call (.f 136) [.t 10, .t 11])⟩,
    ⟨some 13, none, .p (.un .not (.t 12))⟩,
    ⟨some 14, none, .p (.mv (.t 13))⟩,
    ⟨some 15, some (14, false), .p (.mv (.t 2))⟩,
    ⟨some 16, some (14, false), .h (.call (.f 194) [.t 15])⟩,
    ⟨some 17, some (14, false), .p (.un .not (.t 16))⟩,
    ⟨some 18, none, .p (.pick (.t 14) (.k (.c (C.bool true))) (.t 17))⟩,
    ⟨some 19, none, .p (.mv (.t 18))⟩,
    ⟨some 20, some (19, false), .p (.mv (.t 3))⟩,
    ⟨some 21, some (19, false), .h (.call (.f 195) [.t 20])⟩,
    ⟨some 22, some (19, false), .p (.un .not (.t 21))⟩,
    ⟨some 23, none, .p (.pick (.t 19) (.k (.c (C.bool true))) (.t 22))⟩] [2, 3, 4, 5, 8, 23])
  (.cond (.t 23)
  (.seq (.region [⟨some 24, none, .p (.build [.k (C.int .i64 0), .k (C.int .i64 0)] [])⟩,
    ⟨none, none, .h (.store 2 (.t 8) (.t 24))⟩,
    ⟨some 9, none, .p (.mv (.k (.c (C.bool false))))⟩] [8, 9])
  .ret)
  .skip))
  (.seq (.seq (.region [⟨some 25, none, .p (.mv (.t 2))⟩,
    ⟨some 26, none, .p (.ixA 6 1 (.t 4) (.t 25))⟩,
    ⟨some 27, none, .h (.load 1 false (.t 26))⟩,
    ⟨some 28, none, .p (.bin .eql (.t 27) (.k (.c (C.int .i64 0))))⟩] [3, 5, 8, 28])
  (.cond (.t 28)
  (.seq (.region [⟨some 29, none, .p (.build [.k (C.int .i64 0), .k (C.int .i64 0)] [(0, 1, .k (.c (C.int .i64 0))), (1, 1, .k (.c (C.int .i64 1)))])⟩,
    ⟨none, none, .h (.store 2 (.t 8) (.t 29))⟩,
    ⟨some 9, none, .p (.mv (.k (.c (C.bool true))))⟩] [8, 9])
  .ret)
  .skip))
  (.seq (.regionD [⟨some 30, none, .p (.mv (.t 3))⟩,
    ⟨some 31, none, .p (.ixA 6 1 (.t 5) (.t 30))⟩,
    ⟨some 32, none, .h (.load 1 false (.t 31))⟩,
    ⟨some 33, none, .h (.slA 6 1 (.t 5) none none)⟩,
    ⟨some 34, none, .h (.call (.f 196) [.t 33])⟩,
    ⟨some 35, none, .h (.call (.f 137) [.t 32, .t 34])⟩,
    ⟨none, none, .h (.store 2 (.t 8) (.t 35))⟩,
    ⟨some 9, none, .p (.mv (.k (.c (C.bool true))))⟩] [8, 9] [])
  .ret)))) }
theorem a111_ok : okFn Try.prog 111 a111 = true := by kernel_rfl
/-- loop.example/g01215/spec.DealTop -/
def a112 : AFn := { np := 4, nt := 41, res := [.cell 8 2 true, .t 9], body :=
  (.seq (.region [⟨some 4, none, .p (.box 6 (.t 0))⟩,
    ⟨some 5, none, .p (.box 6 (.t 1))⟩,
    ⟨some 8, none, .p (.alloc [.k (C.int .i64 0), .k (C.int .i64 0)])⟩,
    ⟨some 9, none, .p (.mv (.k (.c (C.bool false))))⟩] [2, 3, 4, 5, 8])
  (.seq (.region [⟨some 13, none, .h (.load 6 true (.t 4))⟩,
    ⟨some 14, none, .h (.load 6 true (.t 5))⟩,
    ⟨some 15, none, .h (.call (.f 132) [.t 13, .t 14])⟩,
    ⟨some 12, none, .p (.mv (.t 15))⟩,
    ⟨some 16, none, .p (.ext (.t 12) 0)⟩,
    ⟨some 17, none, .p (.ext (.t 12) 1)⟩,
    ⟨some 10, none, .p (.mv (.t 16))⟩,
    ⟨some 11, none, .p (.mv (.t 17))⟩] [2, 3, 4, 5, 8, 10, 11])
  (.seq (.seq (.region [⟨some 18, none, .p (.mv (.t 11))⟩,
    ⟨some 19, none, .p (.un .not (.t 18))⟩,
    ⟨some 20, none, .p (.mv (.t 19))⟩,
    ⟨some 21, some (20, false), .p (.mv (.t 2))⟩,
    ⟨some 22, some (20, false), .h (.call (.f 197) [.t 21])⟩,
    ⟨some 23, some (20, false), .p (.un .not (.t 22))⟩,
    ⟨some 24, none, .p (.pick (.t 20) (.k (.c (C.bool true))) (.t 23))⟩,
    ⟨some 25, none, .p (.mv (.t 24))⟩,
    ⟨some 26, some (25, false), .p (.mv (.t 3))⟩,
    ⟨some 27, some (25, false), .h (.call (.f 144) [.t 26, .k (.c (C.int .i64 1)), .k (.c (C.int .i64 5))])⟩,
    ⟨some 28, some (25, false), .p (.un .not (.t 27))⟩,
    ⟨some 29, none, .p (.pick (.t 25) (.k (.c (C.bool true))) (.t 28))⟩] [2, 3, 4, 5, 8, 10, 29])
  (.cond (.t 29)
  (.seq (.region [⟨some 30, none, .p (.build [.k (C.int .i64 0), .k (C.int .i64 0)] [])⟩,
    ⟨none, none, .h (.store 2 (.t 8) (.t 30))⟩,
    ⟨some 9, none, .p (.mv (.k (.c (C.bool false))))⟩] [8, 9])
  .ret)
  .skip))
  (.seq (.seq (.region [⟨some 31, none, .p (.mv (.t 2))⟩,
    ⟨some 32, none, .p (.ixA 6 1 (.t 4) (.t 31))⟩,
    ⟨some 33, none, .h (.load 1 false (.t 32))⟩,
    ⟨some 34, none, .p (.bin .eql (.t 33) (.k (.c (C.int .i64 0))))⟩] [3, 5, 8, 10, 34])
  (.cond (.t 34)
  (.seq (.region [⟨some 35, none, .p (.build [.k (C.int .i64 0), .k (C.int .i64 0)] [(0, 1, .k (.c (C.int .i64 0))), (1, 1, .k (.c (C.int .i64 1)))])⟩,
    ⟨none, none, .h (.store 2 (.t 8) (.t 35))⟩,
    ⟨some 9, none, .p (.mv (.k (.c (C.bool true))))⟩] [8, 9])
  .ret)
  .skip))
  (.seq (.region [⟨some 36, none, .p (.mv (.t 3))⟩,
    ⟨some 37, none, .p (.ixA 6 1 (.t 5) (.t 36))⟩,
    ⟨some 38, none, .h (.load 1 false (.t 37))⟩,
    ⟨some 39, none, .p (.mv (.t 10))⟩,
    ⟨some 40, none, .h (.call (.f 133) [.t 38, .t 39])⟩,
    ⟨none, none, .h (.store 2 (.t 8) (.t 40))⟩,
    ⟨some 9, none, .p (.mv (.k (.c (C.bool true))))⟩] [8, 9])
  .ret))))) }
theorem a112_ok : okFn Try.prog 112 a112 = true := by kernel_rfl
/-- loop.example/g01215/spec.DrawDealAlike -/
def a113 : AFn := { np := 1, nt := 23, res := [.cell 2 6 true, .cell 3 6 true, .t 4, .t 5], body :=
  (.seq (.region [⟨some 2, none, .p (.alloc [.k (C.int .i64 0), .k (C.int .i64 0), .k (C.int .i64 0), .k (C.int .i64 0), .k (C.int .i64 0), .k (C.int .i64 0)])⟩,
    ⟨some 3, none, .p (.alloc [.k (C.int .i64 0), .k (C.int .i64 0), .k (C.int .i64 0), .k (C.int .i64 0), .k (C.int .i64 0), .k (C.int .i64 0)])⟩,
    ⟨some 4, none, .p (.mv (.k (.c (C.int .i64 0))))⟩,
    ⟨some 5, none, .p (.mv (.k (.c (C.int .i64 0))))⟩] [0, 2, 3])
  (.seq (.region [⟨some 9, none, .p (.mv (.t 0))⟩,
    ⟨some 10, none, .p (.build [.sl 1, .k (C.int .i64 0), .k (C.int .u64 0)] [(0, 1, .t 9)])⟩,
    ⟨some 11, none, .p (.box 3 (.t 10))⟩,
    ⟨some 6, none, .p (.mv (.t 11))⟩] [2, 3, 6])
  (.seq (.region [⟨some 13, none, .p (.mv (.t 6))⟩,
    ⟨some 14, none, .h (.call (.f 187) [.t 13])⟩,
    ⟨some 12, none, .p (.mv (.t 14))⟩,
    ⟨some 15, none, .p (.ext (.t 12) 0)⟩,
    ⟨some 16, none, .p (.ext (.t 12) 1)⟩,
    ⟨some 7, none, .p (.alloc [.k (C.int .i64 0), .k (C.int .i64 0), .k (C.int .i64 0), .k (C.int .i64 0), .k (C.int .i64 0), .k (C.int .i64 0)])⟩,
    ⟨some 8, none, .p (.alloc [.k (C.int .i64 0), .k (C.int .i64 0), .k (C.int .i64 0), .k (C.int .i64 0), .k (C.int .i64 0), .k (C.int .i64 0)])⟩,
    ⟨none, none, .h (.store 6 (.t 7) (.t 15))⟩,
    ⟨none, none, .h (.store 6 (.t 8) (.t 16))⟩] [2, 3, 6, 7, 8])
  (.seq (.regionD [⟨some 17, none, .h (.load 6 true (.t 7))⟩,
    ⟨some 18, none, .h (.load 6 true (.t 8))⟩,
    ⟨some 19, none, .p (.mv (.t 6))⟩,
    ⟨some 20, none, .h (.call (.f 192) [.t 19])⟩,
    ⟨some 21, none, .p (.mv (.t 6))⟩,
    ⟨some 22, none, .h (.call (.f 192) [.t 21])⟩,
    ⟨none, none, .h (.store 6 (.t 2) (.t 17))⟩,
    ⟨none, none, .h (.store 6 (.t 3) (.t 18))⟩,
    ⟨some 4, none, .p (.mv (.t 20))⟩,
    ⟨some 5, none, .p (.mv (.t 22))⟩] [2, 3, 4, 5] [(.t 8, .t 2)])
  .ret)))) }
theorem a113_ok : okFn Try.prog 113 a113 = true := by kernel_rfl
/-- loop.example/g01215/impl.DealAlike -/
def a114 : AFn := { np := 4, nt := 52, res := [.cell 8 2 true, .t 9], body :=
  (.seq (.region [⟨some 4, none, .p (.box 6 (.t 0))⟩,
    ⟨some 5, none, .p (.box 6 (.t 1))⟩,
    ⟨some 8, none, .p (.alloc [.k (C.int .i64 0), .k (C.int .i64 0)])⟩,
    ⟨some 9, none, .p (.mv (.k (.c (C.bool false))))⟩] [2, 3, 4, 5, 8])
  (.seq (.seq (.region [⟨some 12, none, .h (.load 6 true (.t 4))⟩,
    ⟨some 13, none, .h (.load 6 true (.t 5))⟩,
    ⟨some 14, none, .h (.call (.f 136) [.t 12, .t 13])⟩,
    ⟨some 15, none, .p (.un .not (.t 14))⟩,
    ⟨some 16, none, .p (.mv (.t 15))⟩,
    ⟨some 17, some (16, false), .p (.mv (.t 2))⟩,
    ⟨some 18, some (16, false), .h (.call (.f 194) [.t 17])⟩,
    ⟨some 19, some (16, false), .p (.un .not (.t 18))⟩,
    ⟨some 20, none, .p (.pick (.t 16) (.k (.c (C.bool true))) (.t 19))⟩,
    ⟨some 21, none, .p (.mv (.t 20))⟩,
    ⟨some 22, some (21, false), .p (.mv (.t 3))⟩,
    ⟨some 23, some (21, false), .h (.call (.f 194) [.t 22])⟩,
    ⟨some 24, some (21, false), .p (.un .not (.t 23))⟩,
    ⟨some 25, none, .p (.pick (.t 21) (.k (.c (C.bool true))) (.t 24))⟩,
    ⟨some 26, none, .p (.mv (.t 25))⟩,
    ⟨some 27, some (26, false), .p (.mv (.t 2))⟩,
    ⟨some 28, some (26, false), .p (.mv (.t 3))⟩,
    ⟨some 29, some (26, false), .p (.bin .eql (.t 27) (.t 28))⟩,
    ⟨some 30, none, .p (.pick (.t 26) (.k (.c (C.bool true))) (.t 29))⟩,
    ⟨some 31, none, .p (.mv (.t 30))⟩,
    ⟨some 32, some (31, false), .p (.mv (.t 2))⟩,
    ⟨some 33, some (31, false), .p (.ixA 6 1 (.t 4) (.t 32))⟩,
    ⟨some 34, some (31, false), .h (.load 1 false (.t 33))⟩,
    ⟨some 35, some (31, false), .p (.bin .eql (.t 34) (.k (.c (C.int .i64 0))))⟩,
    ⟨some 36, none, .p (.pick (.t 31) (.k (.c (C.bool true))) (.t 35))⟩,
    ⟨some 37, none, .p (.mv (.t 36))⟩,
    ⟨some 38, some (37, false), .p (.mv (.t 3))⟩,
    ⟨some 39, some (37, false), .p (.ixA 6 1 (.t 4) (.t 38))⟩,
    ⟨some 40, some (37, false), .h (.load 1 false (.t 39))⟩,
    ⟨some 41, some (37, false), .p (.bin .eql (.t 40) (.k (.c (C.int .i64 0))))⟩,
    ⟨some 42, none, .p (.pick (.t 37) (.k (.c (C.bool true))) (.t 41))⟩] [5, 8, 42])
  (.cond (.t 42)
  (.seq (.region [⟨some 43, none, .p (.build [.k (C.int .i64 0), .k (C.int .i64 0)] [])⟩,
    ⟨none, none, .h (.store 2 (.t 8) (.t 43))⟩,
    ⟨some 9, none, .p (.mv (.k (.c (C.bool false))))⟩] [8, 9])
  .ret)
  .skip))
  (.seq (.region [⟨some 45, none, .h (.load 6 true (.t 5))⟩,
    ⟨some 46, none, .h (.call (.f 188) [.t 45])⟩,
    ⟨some 44, none, .p (.mv (.t 46))⟩,
    ⟨some 47, none, .p (.ext (.t 44) 0)⟩,
    ⟨some 48, none, .p (.ext (.t 44) 1)⟩,
    ⟨some 10, none, .p (.mv (.t 47))⟩,
    ⟨some 11, none, .p (.mv (.t 48))⟩] [8, 10, 11])
  (.seq (.region [⟨some 49, none, .p (.mv (.t 10))⟩,
    ⟨some 50, none, .p (.mv (.t 11))⟩,
    ⟨some 51, none, .h (.call (.f 137) [.t 49, .t 50])⟩,
    ⟨none, none, .h (.store 2 (.t 8) (.t 51))⟩,
    ⟨some 9, none, .p (.mv (.k (.c (C.bool true))))⟩] [8, 9])
  .ret)))) }
theorem a114_ok : okFn Try.prog 114 a114 = true := by kernel_rfl
/-- loop.example/g01215/spec.DealAlike -/
def a115 : AFn := { np := 4, nt := 55, res := [.cell 8 2 true, .t 9], body :=
  (.seq (.region [⟨some 4, none, .p (.box 6 (.t 0))⟩,
    ⟨some 5, none, .p (.box 6 (.t 1))⟩,
    ⟨some 8, none, .p (.alloc [.k (C.int .i64 0), .k (C.int .i64 0)])⟩,
    ⟨some 9, none, .p (.mv (.k (.c (C.bool false))))⟩] [2, 3, 4, 5, 8])
  (.seq (.region [⟨some 13, none, .h (.load 6 true (.t 4))⟩,
    ⟨some 14, none, .h (.load 6 true (.t 5))⟩,
    ⟨some 15, none, .h (.call (.f 132) [.t 13, .t 14])⟩,
    ⟨some 12, none, .p (.mv (.t 15))⟩,
    ⟨some 16, none, .p (.ext (.t 12) 0)⟩,
    ⟨some 17, none, .p (.ext (.t 12) 1)⟩,
    ⟨some 10, none, .p (.mv (.t 16))⟩,
    ⟨some 11, none, .p (.mv (.t 17))⟩] [2, 3, 4, 5, 8, 10, 11])
  (.seq (.seq (.region [⟨some 18, none, .p (.mv (.t 11))⟩,
    ⟨some 19, none, .p (.un .not (.t 18))⟩,
    ⟨some 20, none, .p (.mv (.t 19))⟩,
    ⟨some 21, some (20, false), .p (.mv (.t 2))⟩,
    ⟨some 22, some (20, false), .h (.call (.f 197) [.t 21])⟩,
    ⟨some 23, some (20, false), .p (.un .not (.t 22))⟩,
    ⟨some 24, none, .p (.pick (.t 20) (.k (.c (C.bool true))) (.t 23))⟩,
    ⟨some 25, none, .p (.mv (.t 24))⟩,
    ⟨some 26, some (25, false), .p (.mv (.t 3))⟩,
    ⟨some 27, some (25, false), .h (.call (.f 197) [.t 26])⟩,
    ⟨some 28, some (25, false), .p (.un .not (.t 27))⟩,
    ⟨some 29, none, .p (.pick (.t 25) (.k (.c (C.bool true))) (.t 28))⟩,
    ⟨some 30, none, .p (.mv (.t 29))⟩,
    ⟨some 31, some (30, false), .p (.mv (.t 2))⟩,
    ⟨some 32, some (30, false), .p (.mv (.t 3))⟩,
    ⟨some 33, some (30, false), .p (.bin .eql (.t 31) (.t 32))⟩,
    ⟨some 34, none, .p (.pick (.t 30) (.k (.c (C.bool true))) (.t 33))⟩,
    ⟨some 35, none, .p (.mv (.t 34))⟩,
    ⟨some 36, some (35, false), .p (.mv (.t 2))⟩,
    ⟨some 37, some (35, false), .p (.ixA 6 1 (.t 4) (.t 36))⟩,
    ⟨some 38, some (35, false), .h (.load 1 false (.t 37))⟩,
    ⟨some 39, some (35, false), .p (.bin .eql (.t 38) (.k (.c (C.int .i64 0))))⟩,
    ⟨some 40, none, .p (.pick (.t 35) (.k (.c (C.bool true))) (.t 39))⟩,
    ⟨some 41, none, .p (.mv (.t 40))⟩,
    ⟨some 42, some (41, false), .p (.mv (.t 3))⟩,
    ⟨some 43, some (41, false), .p (.ixA 6 1 (.t 4) (.t 42))⟩,
    ⟨some 44, some (41, false), .h (.load 1 false (.t 43))⟩,
    ⟨some 45, some (41, false), .p (.bin .eql (.t 44) (.k (.c (C.int .i64 0))))⟩,
    ⟨some 46, none, .p (.pick (.t 41) (.k (.c (C.bool true))) (.t 45))⟩] [5, 8, 10, 46])
  (.cond (.t 46)
  (.seq (.region [⟨some 47, none, .p (.build [.k (C.int .i64 0), .k (C.int .i64 0)] [])⟩,
    ⟨none, none, .h (.store 2 (.t 8) (.t 47))⟩,
    ⟨some 9, none, .p (.mv (.k (.c (C.bool false))))⟩] [8, 9])
  .ret)
  .skip))
  (.seq (.region [⟨some 48, none, .h (.load 6 true (.t 5))⟩,
    ⟨some 49, none, .h (.call (.f 191) [.t 48])⟩,
    ⟨some 50, none, .p (.mv (.t 10))⟩,
    ⟨some 51, none, .p (.mv (.t 10))⟩,
    ⟨some 52, none, .p (.bin .sub (.t 51) (.k (.c (C.int .i64 1))))⟩,
    ⟨some 53, none, .p (.bin .mul (.t 50) (.t 52))⟩,
    ⟨some 54, none, .h (.call (.f 133) [.t 49, .t 53])⟩,
    ⟨none, none, .h (.store 2 (.t 8) (.t 54))⟩,
    ⟨some 9, none, .p (.mv (.k (.c (C.bool true))))⟩] [8, 9])
  .ret)))) }
theorem a115_ok : okFn Try.prog 115 a115 = true := by kernel_rfl
/-- loop.example/g01215/laws.vPlus -/
def a116 : AFn := { np := 2, nt := 56, res := [.cell 4 2 true], body :=
  (.seq (.region [⟨some 2, none, .p (.box 2 (.t 0))⟩,
    ⟨some 3, none, .p (.box 2 (.t 1))⟩,
    ⟨some 4, none, .p (.alloc [.k (C.int .i64 0), .k (C.int .i64 0)])⟩] [2, 3, 4])
  (.seq (.regionD [⟨some 9, none, .p (.ixA 2 1 (.t 2) (.k (.c (C.int .i64 1))))⟩,
    ⟨some 10, none, .h (.load 1 false (.t 9))⟩,
    ⟨some 11, none, .p (.ixA 2 1 (.t 3) (.k (.c (C.int .i64 1))))⟩,
    ⟨some 12, none, .h (.load 1 false (.t 11))⟩,
    ⟨some 5, none, .p (.mv (.t 10))⟩,
    ⟨some 6, none, .p (.mv (.t 12))⟩] [2, 3, 4, 5, 6] [])
  (.seq (.block 0 (.loop (.seq (.seq (.region [⟨some 13, none, .p (.mv (.t 6))⟩,
    ⟨some 14, none, .p (.bin .gtr (.t 13) (.k (.c (C.int .i64 0))))⟩] [2, 3, 4, 5, 6, 14])
  (.cond (.t 14)
  .skip
  (.exit 0)))
  (.block 1 (.regionD [⟨some 15, none, .p (.mv (.t 6))⟩,
    ⟨some 16, none, .p (.mv (.t 5))⟩,
    ⟨some 17, none, .p (.mv (.t 6))⟩,
    ⟨some 18, none, .p (.bin .rem (.t 16) (.t 17))⟩,
    ⟨some 5, none, .p (.mv (.t 15))⟩,
    ⟨some 6, none, .p (.mv (.t 18))⟩] [2, 3, 4, 5, 6] []))) [2, 3, 4, 5, 6]))
  (.seq (.regionD [⟨some 19, none, .p (.ixA 2 1 (.t 2) (.k (.c (C.int .i64 0))))⟩,
    ⟨some 20, none, .h (.load 1 false (.t 19))⟩,
    ⟨some 21, none, .p (.ixA 2 1 (.t 3) (.k (.c (C.int .i64 1))))⟩,
    ⟨some 22, none, .h (.load 1 false (.t 21))⟩,
    ⟨some 23, none, .p (.mv (.t 5))⟩,
    ⟨some 24, none, .p (.bin .quo (.t 22) (.t 23))⟩,
    ⟨some 25, none, .p (.bin .mul (.t 20) (.t 24))⟩,
    ⟨some 26, none, .p (.ixA 2 1 (.t 3) (.k (.c (C.int .i64 0))))⟩,
    ⟨some 27, none, .h (.load 1 false (.t 26))⟩,
    ⟨some 28, none, .p (.ixA 2 1 (.t 2) (.k (.c (C.int .i64 1))))⟩,
    ⟨some 29, none, .h (.load 1 false (.t 28))⟩,
    ⟨some 30, none, .p (.mv (.t 5))⟩,
    ⟨some 31, none, .p (.bin .quo (.t 29) (.t 30))⟩,
    ⟨some 32, none, .p (.bin .mul (.t 27) (.t 31))⟩,
    ⟨some 33, none, .p (.bin .add (.t 25) (.t 32))⟩,
    ⟨some 34, none, .p (.ixA 2 1 (.t 2) (.k (.c (C.int .i64 1))))⟩,
    ⟨some 35, none, .h (.load 1 false (.t 34))⟩,
    ⟨some 36, none, .p (.mv (.t 5))⟩,
    ⟨some 37, none, .p (.bin .quo (.t 35) (.t 36))⟩,
    ⟨some 38, none, .p (.ixA 2 1 (.t 3) (.k (.c (C.int .i64 1))))⟩,
    ⟨some 39, none, .h (.load 1 false (.t 38))⟩,
    ⟨some 40, none, .p (.bin .mul (.t 37) (.t 39))⟩,
    ⟨some 7, none, .p (.mv (.t 33))⟩,
    ⟨some 8, none, .p (.mv (.t 40))⟩] [4, 7, 8] [])
  (.seq (.region [⟨some 41, none, .p (.mv (.t 7))⟩,
    ⟨some 42, none, .p (.mv (.t 8))⟩,
    ⟨some 5, none, .p (.mv (.t 41))⟩,
    ⟨some 6, none, .p (.mv (.t 42))⟩] [4, 5, 6, 7, 8])
  (.seq (.block 2 (.loop (.seq (.seq (.region [⟨some 43, none, .p (.mv (.t 6))⟩,
    ⟨some 44, none, .p (.bin .gtr (.t 43) (.k (.c (C.int .i64 0))))⟩] [4, 5, 6, 7, 8, 44])
  (.cond (.t 44)
  .skip
  (.exit 2)))
  (.block 3 (.regionD [⟨some 45, none, .p (.mv (.t 6))⟩,
    ⟨some 46, none, .p (.mv (.t 5))⟩,
    ⟨some 47, none, .p (.mv (.t 6))⟩,
    ⟨some 48, none, .p (.bin .rem (.t 46) (.t 47))⟩,
    ⟨some 5, none, .p (.mv (.t 45))⟩,
    ⟨some 6, none, .p (.mv (.t 48))⟩] [4, 5, 6, 7, 8] []))) [4, 5, 6, 7, 8]))
  (.seq (.regionD [⟨some 49, none, .p (.mv (.t 7))⟩,
    ⟨some 50, none, .p (.mv (.t 5))⟩,
    ⟨some 51, none, .p (.bin .quo (.t 49) (.t 50))⟩,
    ⟨some 52, none, .p (.mv (.t 8))⟩,
    ⟨some 53, none, .p (.mv (.t 5))⟩,
    ⟨some 54, none, .p (.bin .quo (.t 52) (.t 53))⟩,
    ⟨some 55, none, .p (.build [.k (C.int .i64 0), .k (C.int .i64 0)] [(0, 1, .t 51), (1, 1, .t 54)])⟩,
    ⟨none, none, .h (.store 2 (.t 4) (.t 55))⟩] [4] [])
  .ret))))))) }
theorem a116_ok : okFn Try.prog 116 a116 = true := by kernel_rfl
/-- loop.example/g01215/laws.vLess -/
def a117 : AFn := { np := 2, nt := 16, res := [.t 4], body :=
  (.seq (.region [⟨some 2, none, .p (.box 2 (.t 0))⟩,
    ⟨some 3, none, .p (.box 2 (.t 1))⟩,
    ⟨some 4, none, .p (.mv (.k (.c (C.bool false))))⟩] [2, 3])
  (.seq (.region [⟨some 5, none, .p (.ixA 2 1 (.t 2) (.k (.c (C.int .i64 0))))⟩,
    ⟨some 6, none, .h (.load 1 false (.t 5))⟩,
    ⟨some 7, none, .p (.ixA 2 1 (.t 3) (.k (.c (C.int .i64 1))))⟩,
    ⟨some 8, none, .h (.load 1 false (.t 7))⟩,
    ⟨some 9, none, .p (.bin .mul (.t 6) (.t 8))⟩,
    ⟨some 10, none, .p (.ixA 2 1 (.t 3) (.k (.c (C.int .i64 0))))⟩,
    ⟨some 11, none, .h (.load 1 false (.t 10))⟩,
    ⟨some 12, none, .p (.ixA 2 1 (.t 2) (.k (.c (C.int .i64 1))))⟩,
    ⟨some 13, none, .h (.load 1 false (.t 12))⟩,
    ⟨some 14, none, .p (.bin .mul (.t 11) (.t 13))⟩,
    ⟨some 15, none, .p (.bin .lss (.t 9) (.t 14))⟩,
    ⟨some 4, none, .p (.mv (.t 15))⟩] [4])
  .ret)) }
theorem a117_ok : okFn Try.prog 117 a117 = true := by kernel_rfl
/-- loop.example/g01215/laws.rBig -/
def a118 : AFn := { np := 1, nt := 6, res := [.t 2], body :=
  (.seq (.region [⟨some 2, none, .p (.mv (.k (.c (C.bool false))))⟩] [0])
  (.seq (.region [⟨some 3, none, .p (.mv (.t 0))⟩,
    ⟨some 4, none, .p (.len (.t 3))⟩,
    ⟨some 5, none, .p (.bin .gtr (.t 4) (.k (.c (C.int .i64 65536))))⟩,
    ⟨some 2, none, .p (.mv (.t 5))⟩] [2])
  .ret)) }
theorem a118_ok : okFn Try.prog 118 a118 = true := by kernel_rfl
/-- loop.example/g01215/spec.DrawEndValue -/
def a119 : AFn := { np := 1, nt := 15, res := [.cell 2 24 true, .t 3], body :=
  (.seq (.region [⟨some 2, none, .p (.alloc (List.replicate 24 (.k (C.int .i64 0))))⟩,
    ⟨some 3, none, .p (.mv (.k (.c (C.int .i64 0))))⟩] [0, 2])
  (.seq (.region [⟨some 6, none, .p (.mv (.t 0))⟩,
    ⟨some 7, none, .p (.build [.sl 1, .k (C.int .i64 0), .k (C.int .u64 0)] [(0, 1, .t 6)])⟩,
    ⟨some 8, none, .p (.box 3 (.t 7))⟩,
    ⟨some 4, none, .p (.mv (.t 8))⟩] [2, 4])
  (.seq (.region [⟨some 9, none, .p (.mv (.t 4))⟩,
    ⟨some 10, none, .p (.mksl 1 7 [.k (C.int .i64 0)] [(0, 1, .k (.c (C.int .i64 2))), (1, 1, .k (.c (C.int .i64 3))), (2, 1, .k (.c (C.int .i64 1))), (3, 1, .k (.c (C.int .i64 0))), (4, 1, .k (.c (C.int .i64 3))), (5, 1, .k (.c (C.int .i64 4))), (6, 1, .k (.c (C.int .i64 (-1))))])⟩,
    ⟨some 11, none, .h (.call (.f 198) [.t 9, .t 10])⟩,
    ⟨some 5, none, .p (.mv (.t 11))⟩] [2, 4, 5])
  (.seq (.region [⟨some 12, none, .p (.mv (.t 4))⟩,
    ⟨some 13, none, .h (.call (.f 199) [.t 12])⟩,
    ⟨some 14, none, .p (.mv (.t 5))⟩,
    ⟨none, none, .h (.store 24 (.t 2) (.t 13))⟩,
    ⟨some 3, none, .p (.mv (.t 14))⟩] [2, 3])
  .ret)))) }
theorem a119_ok : okFn Try.prog 119 a119 = true := by kernel_rfl
/-- loop.example/g01215/laws.rPairs -/
def a120 : AFn := { np := 2, nt := 26, res := [.t 4], body :=
  (.seq (.region [⟨some 4, none, .p (.mv (.k (.c (C.bool false))))⟩] [0, 1])
  (.seq (.seq (.region [⟨some 6, none, .p (.mv (.t 0))⟩,
    ⟨some 7, none, .p (.len (.t 6))⟩,
    ⟨some 8, none, .p (.mv (.t 1))⟩,
    ⟨some 9, none, .p (.len (.t 8))⟩,
    ⟨some 10, none, .p (.bin .neq (.t 7) (.t 9))⟩] [0, 1, 10])
  (.cond (.t 10)
  (.seq (.region [⟨some 4, none, .p (.mv (.k (.c (C.bool false))))⟩] [4])
  .ret)
  .skip))
  (.seq (.seq (.region [⟨some 5, none, .p (.mv (.k (.c (C.int .i64 0))))⟩] [0, 1, 5])
  (.block 0 (.loop (.seq (.seq (.region [⟨some 11, none, .p (.mv (.t 5))⟩,
    ⟨some 12, none, .p (.mv (.t 0))⟩,
    ⟨some 13, none, .p (.len (.t 12))⟩,
    ⟨some 14, none, .p (.bin .lss (.t 11) (.t 13))⟩] [0, 1, 5, 14])
  (.cond (.t 14)
  .skip
  (.exit 0)))
  (.seq (.block 1 (.seq (.regionD [⟨some 17, none, .p (.mv (.t 0))⟩,
    ⟨some 18, none, .p (.mv (.t 5))⟩,
    ⟨some 19, none, .p (.ixS 2 (.t 17) (.t 18))⟩,
    ⟨some 20, none, .h (.load 2 true (.t 19))⟩,
    ⟨some 21, none, .p (.mv (.t 1))⟩,
    ⟨some 22, none, .p (.mv (.t 5))⟩,
    ⟨some 23, none, .p (.ixS 2 (.t 21) (.t 22))⟩,
    ⟨some 24, none, .h (.load 2 true (.t 23))⟩,
    ⟨some 25, none, .p (.eqv true [.int .i64, .int .i64] (.t 20) (.t 24))⟩] [0, 1, 5, 25] [])
  (.cond (.t 25)
  (.seq (.region [⟨some 4, none, .p (.mv (.k (.c (C.bool false))))⟩] [4])
  .ret)
  .skip)))
  (.region [⟨some 15, none, .p (.mv (.t 5))⟩,
    ⟨some 16, none, .p (.bin .add (.t 15) (.k (.c (C.int .i64 1))))⟩,
    ⟨some 5, none, .p (.mv (.t 16))⟩] [0, 1, 5]))) [0, 1, 5])))
  (.seq (.region [⟨some 4, none, .p (.mv (.k (.c (C.bool true))))⟩] [4])
  .ret)))) }
theorem a120_ok : okFn Try.prog 120 a120 = true := by kernel_rfl
/-- loop.example/g01215/impl.IsRack -/
def a121 : AFn := { np := 1, nt := 6, res := [.t 2], body :=
  (.seq (.region [⟨some 1, none, .p (.box 24 (.t 0))⟩,
    ⟨some 2, none, .p (.mv (.k (.c (C.bool false))))⟩] [1])
  (.seq (.region [⟨some 3, none, .p (.fld 0 (.t 1))⟩,
    ⟨some 4, none, .h (.slA 6 4 (.t 3) none none)⟩,
    ⟨some 5, none, .h (.call (.f 200) [.t 4, .f 201])⟩,
    ⟨some 2, none, .p (.mv (.t 5))⟩] [2])
  .ret)) }
theorem a121_ok : okFn Try.prog 121 a121 = true := by kernel_rfl
/-- loop.example/g01215/laws.rInts -/
def a122 : AFn := { np := 2, nt := 26, res := [.t 4], body :=
  (.seq (.region [⟨some 4, none, .p (.mv (.k (.c (C.bool false))))⟩] [0, 1])
  (.seq (.seq (.region [⟨some 6, none, .p (.mv (.t 0))⟩,
    ⟨some 7, none, .p (.len (.t 6))⟩,
    ⟨some 8, none, .p (.mv (.t 1))⟩,
    ⟨some 9, none, .p (.len (.t 8))⟩,
    ⟨some 10, none, .p (.bin .neq (.t 7) (.t 9))⟩] [0, 1, 10])
  (.cond (.t 10)
  (.seq (.region [⟨some 4, none, .p (.mv (.k (.c (C.bool false))))⟩] [4])
  .ret)
  .skip))
  (.seq (.seq (.region [⟨some 5, none, .p (.mv (.k (.c (C.int .i64 0))))⟩] [0, 1, 5])
  (.block 0 (.loop (.seq (.seq (.region [⟨some 11, none, .p (.mv (.t 5))⟩,
    ⟨some 12, none, .p (.mv (.t 0))⟩,
    ⟨some 13, none, .p (.len (.t 12))⟩,
    ⟨some 14, none, .p (.bin .lss (.t 11) (.t 13))⟩] [0, 1, 5, 14])
  (.cond (.t 14)
  .skip
  (.exit 0)))
  (.seq (.block 1 (.seq (.regionD [⟨some 17, none, .p (.mv (.t 0))⟩,
    ⟨some 18, none, .p (.mv (.t 5))⟩,
    ⟨some 19, none, .p (.ixS 1 (.t 17) (.t 18))⟩,
    ⟨some 20, none, .h (.load 1 false (.t 19))⟩,
    ⟨some 21, none, .p (.mv (.t 1))⟩,
    ⟨some 22, none, .p (.mv (.t 5))⟩,
    ⟨some 23, none, .p (.ixS 1 (.t 21) (.t 22))⟩,
    ⟨some 24, none, .h (.load 1 false (.t 23))⟩,
    ⟨some 25, none, .p (.bin .neq (.t 20) (.t 24))⟩] [0, 1, 5, 25] [])
  (.cond (.t 25)
  (.seq (.region [⟨some 4, none, .p (.mv (.k (.c (C.bool false))))⟩] [4])
  .ret)
  .skip)))
  (.region [⟨some 15, none, .p (.mv (.t 5))⟩,
    ⟨some 16, none, .p (.bin .add (.t 15) (.k (.c (C.int .i64 1))))⟩,
    ⟨some 5, none, .p (.mv (.t 16))⟩] [0, 1, 5]))) [0, 1, 5])))
  (.seq (.region [⟨some 4, none, .p (.mv (.k (.c (C.bool true))))⟩] [4])
  .ret)))) }
theorem a122_ok : okFn Try.prog 122 a122 = true := by kernel_rfl
/-- loop.example/g01215/impl.Pour -/
def a123 : AFn := { np := 3, nt := 34, res := [.cell 6 24 true, .t 7, .t 8], body :=
  (.seq (.region [⟨some 3, none, .p (.box 24 (.t 0))⟩,
    ⟨some 6, none, .p (.alloc (List.replicate 24 (.k (C.int .i64 0))))⟩,
    ⟨some 7, none, .p (.mv (.k (.c (C.int .i64 0))))⟩,
    ⟨some 8, none, .p (.mv (.k (.c (C.bool false))))⟩] [1, 2, 3, 6])
  (.seq (.seq (.region [⟨some 11, none, .h (.load 24 true (.t 3))⟩,
    ⟨some 12, none, .p (.mv (.t 1))⟩,
    ⟨some 13, none, .p (.mv (.t 2))⟩,
    ⟨some 14, none, .p (.mksl 1 2 [.k (C.int .i64 0)] [(0, 1, .t 12), (1, 1, .t 13)])⟩,
    ⟨some 15, none, .h (.call (.f 202) [.t 11, .t 14])⟩,
    ⟨some 16, none, .p (.un .not (.t 15))⟩,
    ⟨some 17, none, .p (.mv (.t 16))⟩,
    ⟨some 18, some (17, false), .h (.load 24 true (.t 3))⟩,
    ⟨some 19, some (17, false), .p (.mv (.t 1))⟩,
    ⟨some 20, some (17, false), .p (.mv (.t 2))⟩,
    ⟨some 21, some (17, false), .h (.call (.f 203) [.t 18, .t 19, .t 20])⟩,
    ⟨some 22, some (17, false), .p (.un .not (.t 21))⟩,
    ⟨some 23, none, .p (.pick (.t 17) (.k (.c (C.bool true))) (.t 22))⟩] [1, 2, 3, 6, 23])
  (.cond (.t 23)
  (.seq (.region [⟨some 24, none, .p (.build (List.replicate 24 (.k (C.int .i64 0))) [])⟩,
    ⟨none, none, .h (.store 24 (.t 6) (.t 24))⟩,
    ⟨some 7, none, .p (.mv (.k (.c (C.int .i64 0))))⟩,
    ⟨some 8, none, .p (.mv (.k (.c (C.bool false))))⟩] [6, 7, 8])
  .ret)
  .skip))
  (.seq (.region [⟨some 26, none, .h (.load 24 true (.t 3))⟩,
    ⟨some 27, none, .p (.mv (.t 1))⟩,
    ⟨some 28, none, .p (.mv (.t 2))⟩,
    ⟨some 29, none, .h (.call (.f 149) [.t 26, .t 27, .t 28])⟩,
    ⟨some 25, none, .p (.mv (.t 29))⟩,
    ⟨some 30, none, .p (.ext (.t 25) 0)⟩,
    ⟨some 31, none, .p (.ext (.t 25) 1)⟩,
    ⟨some 9, none, .p (.alloc (List.replicate 24 (.k (C.int .i64 0))))⟩,
    ⟨none, none, .h (.store 24 (.t 9) (.t 30))⟩,
    ⟨some 10, none, .p (.mv (.t 31))⟩] [6, 9, 10])
  (.seq (.region [⟨some 32, none, .h (.load 24 true (.t 9))⟩,
    ⟨some 33, none, .p (.mv (.t 10))⟩,
    ⟨none, none, .h (.store 24 (.t 6) (.t 32))⟩,
    ⟨some 7, none, .p (.mv (.t 33))⟩,
    ⟨some 8, none, .p (.mv (.k (.c (C.bool true))))⟩] [6, 7, 8])
  .ret)))) }
theorem a123_ok : okFn Try.prog 123 a123 = true := by kernel_rfl
/-- loop.example/g01215/impl.UsefulPours -/
def a124 : AFn := { np := 1, nt := 9, res := [.t 2, .t 3], body :=
  (.seq (.region [⟨some 1, none, .p (.box 24 (.t 0))⟩,
    ⟨some 2, none, .p (.nilsl 2)⟩,
    ⟨some 3, none, .p (.mv (.k (.c (C.bool false))))⟩] [1])
  (.seq (.seq (.region [⟨some 4, none, .h (.load 24 true (.t 1))⟩,
    ⟨some 5, none, .h (.call (.f 121) [.t 4])⟩,
    ⟨some 6, none, .p (.un .not (.t 5))⟩] [1, 6])
  (.cond (.t 6)
  (.seq (.region [⟨some 2, none, .p (.nilsl 2)⟩,
    ⟨some 3, none, .p (.mv (.k (.c (C.bool false))))⟩] [2, 3])
  .ret)
  .skip))
  (.seq (.region [⟨some 7, none, .h (.load 24 true (.t 1))⟩,
    ⟨some 8, none, .h (.call (.f 143) [.t 7])⟩,
    ⟨some 2, none, .p (.mv (.t 8))⟩,
    ⟨some 3, none, .p (.mv (.k (.c (C.bool true))))⟩] [2, 3])
  .ret))) }
theorem a124_ok : okFn Try.prog 124 a124 = true := by kernel_rfl
/-- loop.example/g01215/spec.DrawCutLoops -/
def a125 : AFn := { np := 1, nt := 5, res := [.cell 2 25 true], body :=
  (.seq (.region [⟨some 2, none, .p (.alloc [.k (C.int .i64 0), .k (C.int .i64 0), .k (C.int .i64 0), .k (C.int .i64 0), .k (C.int .i64 0), .k (C.int .i64 0), .k (C.int .i64 0), .k (C.int .i64 0), .k (C.int .i64 0), .k (C.int .i64 0), .k (C.int .i64 0), .k (C.int .i64 0), .k (C.int .i64 0), .k (C.int .i64 0), .k (C.int .i64 0), .k (C.int .i64 0), .k (C.int .i64 0), .k (C.int .i64 0), .k (C.int .i64 0), .k (C.int .i64 0), .k (C.int .i64 0), .k (C.int .i64 0), .k (C.int .i64 0), .k (C.int .i64 0), .sl 2])⟩] [0, 2])
  (.seq (.region [⟨some 3, none, .p (.mv (.t 0))⟩,
    ⟨some 4, none, .h (.call (.f 204) [.t 3])⟩,
    ⟨none, none, .h (.store 25 (.t 2) (.t 4))⟩] [2])
  .ret)) }
theorem a125_ok : okFn Try.prog 125 a125 = true := by kernel_rfl
/-- loop.example/g01215/laws.rReplay -/
def a126 : AFn := { np := 2, nt := 17, res := [.t 4], body :=
  (.seq (.region [⟨some 2, none, .p (.box 25 (.t 0))⟩,
    ⟨some 3, none, .p (.box 25 (.t 1))⟩,
    ⟨some 4, none, .p (.mv (.k (.c (C.bool false))))⟩] [2, 3])
  (.seq (.region [⟨some 5, none, .p (.fld 0 (.t 2))⟩,
    ⟨some 6, none, .h (.load 24 true (.t 5))⟩,
    ⟨some 7, none, .p (.fld 0 (.t 3))⟩,
    ⟨some 8, none, .h (.load 24 true (.t 7))⟩,
    ⟨some 9, none, .p (.eqv false (List.replicate 24 (.int .i64)) (.t 6) (.t 8))⟩,
    ⟨some 10, none, .p (.mv (.t 9))⟩,
    ⟨some 11, some (10, true), .p (.fld 24 (.t 2))⟩,
    ⟨some 12, some (10, true), .h (.load 1 false (.t 11))⟩,
    ⟨some 13, some (10, true), .p (.fld 24 (.t 3))⟩,
    ⟨some 14, some (10, true), .h (.load 1 false (.t 13))⟩,
    ⟨some 15, some (10, true), .h (.call (.f 120) [.t 12, .t 14])⟩,
    ⟨some 16, none, .p (.pick (.t 10) (.t 15) (.k (.c (C.bool false))))⟩,
    ⟨some 4, none, .p (.mv (.t 16))⟩] [4])
  .ret)) }
theorem a126_ok : okFn Try.prog 126 a126 = true := by kernel_rfl
/-- loop.example/g01215/spec.DrawTubeValue -/
def a127 : AFn := { np := 1, nt := 8, res := [.cell 2 24 true, .t 3], body :=
  (.seq (.region [⟨some 2, none, .p (.alloc (List.replicate 24 (.k (C.int .i64 0))))⟩,
    ⟨some 3, none, .p (.mv (.k (.c (C.int .i64 0))))⟩] [0, 2])
  (.seq (.region [⟨some 4, none, .p (.mv (.t 0))⟩,
    ⟨some 5, none, .h (.call (.f 119) [.t 4])⟩,
    ⟨some 6, none, .p (.ext (.t 5) 0)⟩,
    ⟨some 7, none, .p (.ext (.t 5) 1)⟩,
    ⟨none, none, .h (.store 24 (.t 2) (.t 6))⟩,
    ⟨some 3, none, .p (.mv (.t 7))⟩] [2, 3])
  .ret)) }
theorem a127_ok : okFn Try.prog 127 a127 = true := by kernel_rfl
/-- loop.example/g01215/spec.DrawPlayParty -/
def a128 : AFn := { np := 1, nt := 21, res := [.cell 2 24 true, .t 3], body :=
  (.seq (.region [⟨some 2, none, .p (.alloc (List.replicate 24 (.k (C.int .i64 0))))⟩,
    ⟨some 3, none, .p (.nilsl 2)⟩] [0, 2])
  (.seq (.region [⟨some 6, none, .p (.mv (.t 0))⟩,
    ⟨some 7, none, .p (.build [.sl 1, .k (C.int .i64 0), .k (C.int .u64 0)] [(0, 1, .t 6)])⟩,
    ⟨some 8, none, .p (.box 3 (.t 7))⟩,
    ⟨some 4, none, .p (.mv (.t 8))⟩] [2, 4])
  (.seq (.region [⟨some 9, none, .p (.mv (.t 4))⟩,
    ⟨some 10, none, .h (.call (.f 199) [.t 9])⟩,
    ⟨some 5, none, .p (.alloc (List.replicate 24 (.k (C.int .i64 0))))⟩,
    ⟨none, none, .h (.store 24 (.t 5) (.t 10))⟩] [2, 4, 5])
  (.seq (.seq (.region [⟨some 11, none, .h (.load 24 true (.t 5))⟩,
    ⟨some 12, none, .h (.call (.f 140) [.t 11])⟩,
    ⟨some 13, none, .p (.un .not (.t 12))⟩] [2, 4, 5, 13])
  (.cond (.t 13)
  (.seq (.region [⟨some 14, none, .h (.load 24 true (.t 5))⟩,
    ⟨some 15, none, .p (.build [.k (C.int .i64 0), .k (C.int .i64 0)] [(0, 1, .k (.c (C.int .i64 0))), (1, 1, .k (.c (C.int .i64 1)))])⟩,
    ⟨some 16, none, .p (.mksl 2 1 [.k (C.int .i64 0), .k (C.int .i64 0)] [(0, 2, .t 15)])⟩,
    ⟨none, none, .h (.store 24 (.t 2) (.t 14))⟩,
    ⟨some 3, none, .p (.mv (.t 16))⟩] [2, 3])
  .ret)
  .skip))
  (.seq (.regionD [⟨some 17, none, .h (.load 24 true (.t 5))⟩,
    ⟨some 18, none, .p (.mv (.t 4))⟩,
    ⟨some 19, none, .h (.load 24 true (.t 5))⟩,
    ⟨some 20, none, .h (.call (.f 205) [.t 18, .t 19])⟩,
    ⟨none, none, .h (.store 24 (.t 2) (.t 17))⟩,
    ⟨some 3, none, .p (.mv (.t 20))⟩] [2, 3] [])
  .ret))))) }
theorem a128_ok : okFn Try.prog 128 a128 = true := by kernel_rfl
/-- loop.example/g01215/impl.CompleteTubes -/
def a129 : AFn := { np := 1, nt := 9, res := [.t 2, .t 3], body :=
  (.seq (.region [⟨some 1, none, .p (.box 24 (.t 0))⟩,
    ⟨some 2, none, .p (.nilsl 1)⟩,
    ⟨some 3, none, .p (.mv (.k (.c (C.bool false))))⟩] [1])
  (.seq (.seq (.region [⟨some 4, none, .h (.load 24 true (.t 1))⟩,
    ⟨some 5, none, .h (.call (.f 121) [.t 4])⟩,
    ⟨some 6, none, .p (.un .not (.t 5))⟩] [1, 6])
  (.cond (.t 6)
  (.seq (.region [⟨some 2, none, .p (.nilsl 1)⟩,
    ⟨some 3, none, .p (.mv (.k (.c (C.bool false))))⟩] [2, 3])
  .ret)
  .skip))
  (.seq (.region [⟨some 7, none, .h (.load 24 true (.t 1))⟩,
    ⟨some 8, none, .h (.call (.f 206) [.t 7])⟩,
    ⟨some 2, none, .p (.mv (.t 8))⟩,
    ⟨some 3, none, .p (.mv (.k (.c (C.bool true))))⟩] [2, 3])
  .ret))) }
theorem a129_ok : okFn Try.prog 129 a129 = true := by kernel_rfl
/-- loop.example/g01215/spec.CompleteTubes -/
def a130 : AFn := { np := 1, nt := 10, res := [.t 2, .t 3], body :=
  (.seq (.region [⟨some 1, none, .p (.box 24 (.t 0))⟩,
    ⟨some 2, none, .p (.nilsl 1)⟩,
    ⟨some 3, none, .p (.mv (.k (.c (C.bool false))))⟩] [1])
  (.seq (.seq (.region [⟨some 4, none, .h (.load 24 true (.t 1))⟩,
    ⟨some 5, none, .h (.call (.f 140) [.t 4])⟩,
    ⟨some 6, none, .p (.un .not (.t 5))⟩] [1, 6])
  (.cond (.t 6)
  (.seq (.region [⟨some 7, none, .p (.mksl 1 0 [.k (C.int .i64 0)] [])⟩,
    ⟨some 2, none, .p (.mv (.t 7))⟩,
    ⟨some 3, none, .p (.mv (.k (.c (C.bool false))))⟩] [2, 3])
  .ret)
  .skip))
  (.seq (.region [⟨some 8, none, .h (.load 24 true (.t 1))⟩,
    ⟨some 9, none, .h (.call (.f 207) [.t 8])⟩,
    ⟨some 2, none, .p (.mv (.t 9))⟩,
    ⟨some 3, none, .p (.mv (.k (.c (C.bool true))))⟩] [2, 3])
  .ret))) }
theorem a130_ok : okFn Try.prog 130 a130 = true := by kernel_rfl
/-- loop.example/g01215/laws.rHas -/
def a131 : AFn := { np := 2, nt := 18, res := [.t 4], body :=
  (.seq (.region [⟨some 4, none, .p (.mv (.k (.c (C.bool false))))⟩] [0, 1])
  (.seq (.seq (.region [⟨some 5, none, .p (.mv (.k (.c (C.int .i64 0))))⟩] [0, 1, 5])
  (.block 0 (.loop (.seq (.seq (.region [⟨some 6, none, .p (.mv (.t 5))⟩,
    ⟨some 7, none, .p (.mv (.t 0))⟩,
    ⟨some 8, none, .p (.len (.t 7))⟩,
    ⟨some 9, none, .p (.bin .lss (.t 6) (.t 8))⟩] [0, 1, 5, 9])
  (.cond (.t 9)
  .skip
  (.exit 0)))
  (.seq (.block 1 (.seq (.region [⟨some 12, none, .p (.mv (.t 0))⟩,
    ⟨some 13, none, .p (.mv (.t 5))⟩,
    ⟨some 14, none, .p (.ixS 1 (.t 12) (.t 13))⟩,
    ⟨some 15, none, .h (.load 1 false (.t 14))⟩,
    ⟨some 16, none, .p (.mv (.t 1))⟩,
    ⟨some 17, none, .p (.bin .eql (.t 15) (.t 16))⟩] [0, 1, 5, 17])
  (.cond (.t 17)
  (.seq (.region [⟨some 4, none, .p (.mv (.k (.c (C.bool true))))⟩] [4])
  .ret)
  .skip)))
  (.region [⟨some 10, none, .p (.mv (.t 5))⟩,
    ⟨some 11, none, .p (.bin .add (.t 10) (.k (.c (C.int .i64 1))))⟩,
    ⟨some 5, none, .p (.mv (.t 11))⟩] [0, 1, 5]))) [0, 1, 5])))
  (.seq (.region [⟨some 4, none, .p (.mv (.k (.c (C.bool false))))⟩] [4])
  .ret))) }
theorem a131_ok : okFn Try.prog 131 a131 = true := by kernel_rfl
/-- loop.example/g01215/spec.l9Deal -/
def a132 : AFn := { np := 2, nt := 47, res := [.t 4, .t 5], body :=
  (.seq (.region [⟨some 2, none, .p (.box 6 (.t 0))⟩,
    ⟨some 3, none, .p (.box 6 (.t 1))⟩,
    ⟨some 4, none, .p (.mv (.k (.c (C.int .i64 0))))⟩,
    ⟨some 5, none, .p (.mv (.k (.c (C.bool false))))⟩] [2, 3])
  (.seq (.region [⟨some 6, none, .p (.mv (.k (.c (C.int .i64 0))))⟩,
    ⟨some 7, none, .p (.mv (.k (.c (C.int .i64 0))))⟩] [2, 3, 6, 7])
  (.seq (.seq (.region [⟨some 8, none, .p (.mv (.k (.c (C.int .i64 0))))⟩] [2, 3, 6, 7, 8])
  (.block 0 (.loop (.seq (.seq (.region [⟨some 10, none, .p (.mv (.t 8))⟩,
    ⟨some 11, none, .p (.bin .lss (.t 10) (.k (.c (C.int .i64 6))))⟩] [2, 3, 6, 7, 8, 11])
  (.cond (.t 11)
  .skip
  (.exit 0)))
  (.seq (.block 1 (.seq (.seq (.region [⟨some 14, none, .p (.mv (.t 8))⟩,
    ⟨some 15, none, .p (.ixA 6 1 (.t 2) (.t 14))⟩,
    ⟨some 16, none, .h (.load 1 false (.t 15))⟩,
    ⟨some 17, none, .h (.call (.f 144) [.t 16, .k (.c (C.int .i64 0)), .k (.c (C.int .i64 4))])⟩,
    ⟨some 18, none, .p (.un .not (.t 17))⟩] [2, 3, 6, 7, 8, 18])
  (.cond (.t 18)
  (.seq (.region [⟨some 4, none, .p (.mv (.k (.c (C.int .i64 0))))⟩,
    ⟨some 5, none, .p (.mv (.k (.c (C.bool false))))⟩] [4, 5])
  .ret)
  .skip))
  (.region [⟨some 19, none, .p (.mv (.t 6))⟩,
    ⟨some 20, none, .p (.mv (.t 8))⟩,
    ⟨some 21, none, .p (.ixA 6 1 (.t 2) (.t 20))⟩,
    ⟨some 22, none, .h (.load 1 false (.t 21))⟩,
    ⟨some 23, none, .p (.bin .add (.t 19) (.t 22))⟩,
    ⟨some 6, none, .p (.mv (.t 23))⟩] [2, 3, 6, 7, 8])))
  (.region [⟨some 12, none, .p (.mv (.t 8))⟩,
    ⟨some 13, none, .p (.bin .add (.t 12) (.k (.c (C.int .i64 1))))⟩,
    ⟨some 8, none, .p (.mv (.t 13))⟩] [2, 3, 6, 7, 8]))) [2, 3, 6, 7, 8])))
  (.seq (.seq (.region [⟨some 9, none, .p (.mv (.k (.c (C.int .i64 1))))⟩] [3, 6, 7, 9])
  (.block 2 (.loop (.seq (.seq (.region [⟨some 24, none, .p (.mv (.t 9))⟩,
    ⟨some 25, none, .p (.bin .leq (.t 24) (.k (.c (C.int .i64 5))))⟩] [3, 6, 7, 9, 25])
  (.cond (.t 25)
  .skip
  (.exit 2)))
  (.seq (.block 3 (.seq (.seq (.region [⟨some 28, none, .p (.mv (.t 9))⟩,
    ⟨some 29, none, .p (.ixA 6 1 (.t 3) (.t 28))⟩,
    ⟨some 30, none, .h (.load 1 false (.t 29))⟩,
    ⟨some 31, none, .h (.call (.f 144) [.t 30, .k (.c (C.int .i64 0)), .k (.c (C.int .i64 24))])⟩,
    ⟨some 32, none, .p (.un .not (.t 31))⟩] [3, 6, 7, 9, 32])
  (.cond (.t 32)
  (.seq (.region [⟨some 4, none, .p (.mv (.k (.c (C.int .i64 0))))⟩,
    ⟨some 5, none, .p (.mv (.k (.c (C.bool false))))⟩] [4, 5])
  .ret)
  .skip))
  (.region [⟨some 33, none, .p (.mv (.t 7))⟩,
    ⟨some 34, none, .p (.mv (.t 9))⟩,
    ⟨some 35, none, .p (.ixA 6 1 (.t 3) (.t 34))⟩,
    ⟨some 36, none, .h (.load 1 false (.t 35))⟩,
    ⟨some 37, none, .p (.bin .add (.t 33) (.t 36))⟩,
    ⟨some 7, none, .p (.mv (.t 37))⟩] [3, 6, 7, 9])))
  (.region [⟨some 26, none, .p (.mv (.t 9))⟩,
    ⟨some 27, none, .p (.bin .add (.t 26) (.k (.c (C.int .i64 1))))⟩,
    ⟨some 9, none, .p (.mv (.t 27))⟩] [3, 6, 7, 9]))) [3, 6, 7, 9])))
  (.seq (.region [⟨some 38, none, .p (.mv (.t 6))⟩,
    ⟨some 39, none, .p (.ixA 6 1 (.t 3) (.k (.c (C.int .i64 0))))⟩,
    ⟨some 40, none, .h (.load 1 false (.t 39))⟩,
    ⟨some 41, none, .p (.bin .eql (.t 40) (.k (.c (C.int .i64 0))))⟩,
    ⟨some 42, none, .p (.mv (.t 41))⟩,
    ⟨some 43, some (42, true), .p (.mv (.t 6))⟩,
    ⟨some 44, some (42, true), .p (.mv (.t 7))⟩,
    ⟨some 45, some (42, true), .p (.bin .eql (.t 43) (.t 44))⟩,
    ⟨some 46, none, .p (.pick (.t 42) (.t 45) (.k (.c (C.bool false))))⟩,
    ⟨some 4, none, .p (.mv (.t 38))⟩,
    ⟨some 5, none, .p (.mv (.t 46))⟩] [4, 5])
  .ret))))) }
theorem a132_ok : okFn Try.prog 132 a132 = true := by kernel_rfl
/-- loop.example/g01215/spec.l7Cut -/
def a133 : AFn := { np := 2, nt := 24, res := [.cell 4 2 true], body :=
  (.seq (.region [⟨some 4, none, .p (.alloc [.k (C.int .i64 0), .k (C.int .i64 0)])⟩] [0, 1, 4])
  (.seq (.region [⟨some 7, none, .p (.mv (.t 0))⟩,
    ⟨some 8, none, .p (.mv (.t 1))⟩,
    ⟨some 5, none, .p (.mv (.t 7))⟩,
    ⟨some 6, none, .p (.mv (.t 8))⟩] [0, 1, 4, 5, 6])
  (.seq (.block 0 (.loop (.seq (.seq (.region [⟨some 9, none, .p (.mv (.t 6))⟩,
    ⟨some 10, none, .p (.bin .gtr (.t 9) (.k (.c (C.int .i64 0))))⟩] [0, 1, 4, 5, 6, 10])
  (.cond (.t 10)
  .skip
  (.exit 0)))
  (.block 1 (.regionD [⟨some 11, none, .p (.mv (.t 6))⟩,
    ⟨some 12, none, .p (.mv (.t 5))⟩,
    ⟨some 13, none, .p (.mv (.t 6))⟩,
    ⟨some 14, none, .p (.bin .rem (.t 12) (.t 13))⟩,
    ⟨some 5, none, .p (.mv (.t 11))⟩,
    ⟨some 6, none, .p (.mv (.t 14))⟩] [0, 1, 4, 5, 6] []))) [0, 1, 4, 5, 6]))
  (.seq (.regionD [⟨some 15, none, .p (.mv (.t 0))⟩,
    ⟨some 16, none, .p (.mv (.t 5))⟩,
    ⟨some 17, none, .h (.call (.f 208) [.t 16, .k (.c (C.int .i64 1))])⟩,
    ⟨some 18, none, .p (.bin .quo (.t 15) (.t 17))⟩,
    ⟨some 19, none, .p (.mv (.t 1))⟩,
    ⟨some 20, none, .p (.mv (.t 5))⟩,
    ⟨some 21, none, .h (.call (.f 208) [.t 20, .k (.c (C.int .i64 1))])⟩,
    ⟨some 22, none, .p (.bin .quo (.t 19) (.t 21))⟩,
    ⟨some 23, none, .p (.build [.k (C.int .i64 0), .k (C.int .i64 0)] [(0, 1, .t 18), (1, 1, .t 22)])⟩,
    ⟨none, none, .h (.store 2 (.t 4) (.t 23))⟩] [4] [])
  .ret)))) }
theorem a133_ok : okFn Try.prog 133 a133 = true := by kernel_rfl
/-- loop.example/g01215/spec.l9Same -/
def a134 : AFn := { np := 3, nt := 50, res := [.t 6], body :=
  (.seq (.region [⟨some 3, none, .p (.box 6 (.t 0))⟩,
    ⟨some 4, none, .p (.box 6 (.t 1))⟩,
    ⟨some 6, none, .p (.mv (.k (.c (C.int .i64 0))))⟩] [2, 3, 4])
  (.seq (.seq (.region [⟨some 10, none, .p (.mv (.t 2))⟩,
    ⟨some 11, none, .p (.bin .eql (.t 10) (.k (.c (C.int .i64 6))))⟩] [2, 3, 4, 11])
  (.cond (.t 11)
  (.seq (.region [⟨some 6, none, .p (.mv (.k (.c (C.int .i64 1))))⟩] [6])
  .ret)
  .skip))
  (.seq (.seq (.region [⟨some 12, none, .p (.mv (.t 2))⟩,
    ⟨some 13, none, .p (.ixA 6 1 (.t 3) (.t 12))⟩,
    ⟨some 14, none, .h (.load 1 false (.t 13))⟩,
    ⟨some 15, none, .p (.bin .eql (.t 14) (.k (.c (C.int .i64 0))))⟩] [2, 3, 4, 15])
  (.cond (.t 15)
  (.seq (.region [⟨some 16, none, .h (.load 6 true (.t 3))⟩,
    ⟨some 17, none, .h (.load 6 true (.t 4))⟩,
    ⟨some 18, none, .p (.mv (.t 2))⟩,
    ⟨some 19, none, .p (.bin .add (.t 18) (.k (.c (C.int .i64 1))))⟩,
    ⟨some 20, none, .h (.call (.f 134) [.t 16, .t 17, .t 19])⟩,
    ⟨some 6, none, .p (.mv (.t 20))⟩] [6])
  .ret)
  .skip))
  (.seq (.region [⟨some 7, none, .p (.mv (.k (.c (C.int .i64 0))))⟩] [2, 3, 4, 7])
  (.seq (.seq (.region [⟨some 8, none, .p (.mv (.k (.c (C.int .i64 1))))⟩] [2, 3, 4, 7, 8])
  (.block 0 (.loop (.seq (.seq (.region [⟨some 21, none, .p (.mv (.t 8))⟩,
    ⟨some 22, none, .p (.bin .leq (.t 21) (.k (.c (C.int .i64 5))))⟩] [2, 3, 4, 7, 8, 22])
  (.cond (.t 22)
  .skip
  (.exit 0)))
  (.seq (.block 1 (.seq (.regionD [⟨some 25, none, .p (.mv (.t 8))⟩,
    ⟨some 26, none, .p (.ixA 6 1 (.t 4) (.t 25))⟩,
    ⟨some 27, none, .h (.load 1 false (.t 26))⟩,
    ⟨some 28, none, .p (.mv (.t 2))⟩,
    ⟨some 29, none, .p (.ixA 6 1 (.t 3) (.t 28))⟩,
    ⟨some 30, none, .h (.load 1 false (.t 29))⟩,
    ⟨some 31, none, .p (.bin .geq (.t 27) (.t 30))⟩] [2, 3, 4, 7, 8, 31] [])
  (.cond (.t 31)
  (.seq (.region [⟨some 32, none, .h (.load 6 true (.t 4))⟩,
    ⟨some 9, none, .p (.alloc [.k (C.int .i64 0), .k (C.int .i64 0), .k (C.int .i64 0), .k (C.int .i64 0), .k (C.int .i64 0), .k (C.int .i64 0)])⟩,
    ⟨none, none, .h (.store 6 (.t 9) (.t 32))⟩] [2, 3, 4, 7, 8, 9])
  (.seq (.regionD [⟨some 33, none, .p (.mv (.t 8))⟩,
    ⟨some 34, none, .p (.mv (.t 8))⟩,
    ⟨some 35, none, .p (.ixA 6 1 (.t 9) (.t 34))⟩,
    ⟨some 36, none, .h (.load 1 false (.t 35))⟩,
    ⟨some 37, none, .p (.mv (.t 2))⟩,
    ⟨some 38, none, .p (.ixA 6 1 (.t 3) (.t 37))⟩,
    ⟨some 39, none, .h (.load 1 false (.t 38))⟩,
    ⟨some 40, none, .p (.bin .sub (.t 36) (.t 39))⟩,
    ⟨some 41, none, .p (.ixA 6 1 (.t 9) (.t 33))⟩,
    ⟨none, none, .h (.store 1 (.t 41) (.t 40))⟩] [2, 3, 4, 7, 8, 9] [])
  (.region [⟨some 42, none, .p (.mv (.t 7))⟩,
    ⟨some 43, none, .h (.load 6 true (.t 3))⟩,
    ⟨some 44, none, .h (.load 6 true (.t 9))⟩,
    ⟨some 45, none, .p (.mv (.t 2))⟩,
    ⟨some 46, none, .p (.bin .add (.t 45) (.k (.c (C.int .i64 1))))⟩,
    ⟨some 47, none, .h (.call (.f 134) [.t 43, .t 44, .t 46])⟩,
    ⟨some 48, none, .p (.bin .add (.t 42) (.t 47))⟩,
    ⟨some 7, none, .p (.mv (.t 48))⟩] [2, 3, 4, 7, 8])))
  .skip)))
  (.region [⟨some 23, none, .p (.mv (.t 8))⟩,
    ⟨some 24, none, .p (.bin .add (.t 23) (.k (.c (C.int .i64 1))))⟩,
    ⟨some 8, none, .p (.mv (.t 24))⟩] [2, 3, 4, 7, 8]))) [2, 3, 4, 7, 8])))
  (.seq (.region [⟨some 49, none, .p (.mv (.t 7))⟩,
    ⟨some 6, none, .p (.mv (.t 49))⟩] [6])
  .ret)))))) }
theorem a134_ok : okFn Try.prog 134 a134 = true := by kernel_rfl
/-- loop.example/g01215/spec.l7Ways -/
def a135 : AFn := { np := 1, nt := 26, res := [.t 2], body :=
  (.seq (.region [⟨some 1, none, .p (.box 6 (.t 0))⟩,
    ⟨some 2, none, .p (.mv (.k (.c (C.int .i64 0))))⟩] [1])
  (.seq (.region [⟨some 3, none, .p (.mv (.k (.c (C.int .i64 1))))⟩,
    ⟨some 4, none, .p (.mv (.k (.c (C.int .i64 0))))⟩] [1, 3, 4])
  (.seq (.seq (.region [⟨some 5, none, .p (.mv (.k (.c (C.int .i64 1))))⟩] [1, 3, 4, 5])
  (.block 0 (.loop (.seq (.seq (.region [⟨some 7, none, .p (.mv (.t 5))⟩,
    ⟨some 8, none, .p (.bin .leq (.t 7) (.k (.c (C.int .i64 5))))⟩] [1, 3, 4, 5, 8])
  (.cond (.t 8)
  .skip
  (.exit 0)))
  (.seq (.block 1 (.seq (.region [⟨some 6, none, .p (.mv (.k (.c (C.int .i64 1))))⟩] [1, 3, 4, 5, 6])
  (.block 2 (.loop (.seq (.seq (.region [⟨some 11, none, .p (.mv (.t 6))⟩,
    ⟨some 12, none, .p (.mv (.t 5))⟩,
    ⟨some 13, none, .p (.ixA 6 1 (.t 1) (.t 12))⟩,
    ⟨some 14, none, .h (.load 1 false (.t 13))⟩,
    ⟨some 15, none, .p (.bin .leq (.t 11) (.t 14))⟩] [1, 3, 4, 5, 6, 15])
  (.cond (.t 15)
  .skip
  (.exit 2)))
  (.seq (.block 3 (.seq (.region [⟨some 18, none, .p (.mv (.t 4))⟩,
    ⟨some 19, none, .p (.bin .add (.t 18) (.k (.c (C.int .i64 1))))⟩,
    ⟨some 4, none, .p (.mv (.t 19))⟩] [1, 3, 4, 5, 6])
  (.region [⟨some 20, none, .p (.mv (.t 3))⟩,
    ⟨some 21, none, .p (.mv (.t 4))⟩,
    ⟨some 22, none, .p (.bin .mul (.t 20) (.t 21))⟩,
    ⟨some 23, none, .p (.mv (.t 6))⟩,
    ⟨some 24, none, .p (.bin .quo (.t 22) (.t 23))⟩,
    ⟨some 3, none, .p (.mv (.t 24))⟩] [1, 3, 4, 5, 6])))
  (.region [⟨some 16, none, .p (.mv (.t 6))⟩,
    ⟨some 17, none, .p (.bin .add (.t 16) (.k (.c (C.int .i64 1))))⟩,
    ⟨some 6, none, .p (.mv (.t 17))⟩] [1, 3, 4, 5, 6]))) [1, 3, 4, 5, 6]))))
  (.region [⟨some 9, none, .p (.mv (.t 5))⟩,
    ⟨some 10, none, .p (.bin .add (.t 9) (.k (.c (C.int .i64 1))))⟩,
    ⟨some 5, none, .p (.mv (.t 10))⟩] [1, 3, 4, 5]))) [1, 3, 4, 5])))
  (.seq (.region [⟨some 25, none, .p (.mv (.t 3))⟩,
    ⟨some 2, none, .p (.mv (.t 25))⟩] [2])
  .ret)))) }
theorem a135_ok : okFn Try.prog 135 a135 = true := by kernel_rfl
/-- loop.example/g01215/impl.isDeal -/
def a136 : AFn := { np := 2, nt := 23, res := [.t 4], body :=
  (.seq (.region [⟨some 2, none, .p (.box 6 (.t 0))⟩,
    ⟨some 3, none, .p (.box 6 (.t 1))⟩,
    ⟨some 4, none, .p (.mv (.k (.c (C.bool false))))⟩] [2, 3])
  (.seq (.regionD [⟨some 5, none, .p (.ixA 6 1 (.t 3) (.k (.c (C.int .i64 0))))⟩,
    ⟨some 6, none, .h (.load 1 false (.t 5))⟩,
    ⟨some 7, none, .p (.bin .eql (.t 6) (.k (.c (C.int .i64 0))))⟩,
    ⟨some 8, none, .p (.mv (.t 7))⟩,
    ⟨some 9, some (8, true), .h (.slA 6 1 (.t 2) none none)⟩,
    ⟨some 10, some (8, true), .h (.call (.f 209) [.t 9, .f 210])⟩,
    ⟨some 11, none, .p (.pick (.t 8) (.t 10) (.k (.c (C.bool false))))⟩,
    ⟨some 12, none, .p (.mv (.t 11))⟩,
    ⟨some 13, some (12, true), .h (.slA 6 1 (.t 3) none none)⟩,
    ⟨some 14, some (12, true), .h (.call (.f 209) [.t 13, .f 211])⟩,
    ⟨some 15, none, .p (.pick (.t 12) (.t 14) (.k (.c (C.bool false))))⟩,
    ⟨some 16, none, .p (.mv (.t 15))⟩,
    ⟨some 17, some (16, true), .h (.slA 6 1 (.t 2) none none)⟩,
    ⟨some 18, some (16, true), .h (.call (.f 196) [.t 17])⟩,
    ⟨some 19, some (16, true), .h (.slA 6 1 (.t 3) none none)⟩,
    ⟨some 20, some (16, true), .h (.call (.f 196) [.t 19])⟩,
    ⟨some 21, some (16, true), .p (.bin .eql (.t 18) (.t 20))⟩,
    ⟨some 22, none, .p (.pick (.t 16) (.t 21) (.k (.c (C.bool false))))⟩,
    ⟨some 4, none, .p (.mv (.t 22))⟩] [4] [])
  .ret)) }
theorem a136_ok : okFn Try.prog 136 a136 = true := by kernel_rfl
/-- loop.example/g01215/impl.fraction -/
def a137 : AFn := { np := 2, nt := 16, res := [.cell 4 2 true], body :=
  (.seq (.region [⟨some 4, none, .p (.alloc [.k (C.int .i64 0), .k (C.int .i64 0)])⟩] [0, 1, 4])
  (.seq (.region [⟨some 6, none, .p (.mv (.t 0))⟩,
    ⟨some 7, none, .p (.mv (.t 1))⟩,
    ⟨some 8, none, .h (.call (.f 212) [.t 6, .t 7])⟩,
    ⟨some 5, none, .p (.mv (.t 8))⟩] [0, 1, 4, 5])
  (.seq (.regionD [⟨some 9, none, .p (.mv (.t 0))⟩,
    ⟨some 10, none, .p (.mv (.t 5))⟩,
    ⟨some 11, none, .p (.bin .quo (.t 9) (.t 10))⟩,
    ⟨some 12, none, .p (.mv (.t 1))⟩,
    ⟨some 13, none, .p (.mv (.t 5))⟩,
    ⟨some 14, none, .p (.bin .quo (.t 12) (.t 13))⟩,
    ⟨some 15, none, .p (.build [.k (C.int .i64 0), .k (C.int .i64 0)] [(0, 1, .t 11), (1, 1, .t 14)])⟩,
    ⟨none, none, .h (.store 2 (.t 4) (.t 15))⟩] [4] [])
  .ret))) }
theorem a137_ok : okFn Try.prog 137 a137 = true := by kernel_rfl
/-- loop.example/g01215/impl.plain -/
def a138 : AFn := { np := 2, nt := 47, res := [.t 4], body :=
  (.seq (.region [⟨some 3, none, .p (.box 6 (.t 1))⟩,
    ⟨some 4, none, .p (.mv (.k (.c (C.int .i64 0))))⟩] [0, 3])
  (.seq (.seq (.region [⟨some 9, none, .p (.mv (.t 0))⟩,
    ⟨some 10, none, .p (.len (.t 9))⟩,
    ⟨some 11, none, .p (.bin .eql (.t 10) (.k (.c (C.int .i64 0))))⟩] [0, 3, 11])
  (.cond (.t 11)
  (.seq (.region [⟨some 4, none, .p (.mv (.k (.c (C.int .i64 1))))⟩] [4])
  .ret)
  .skip))
  (.seq (.seq (.region [⟨some 12, none, .p (.mv (.t 0))⟩,
    ⟨some 13, none, .p (.ixS 1 (.t 12) (.k (.c (C.int .i64 0))))⟩,
    ⟨some 14, none, .h (.load 1 false (.t 13))⟩,
    ⟨some 15, none, .p (.bin .eql (.t 14) (.k (.c (C.int .i64 0))))⟩] [0, 3, 15])
  (.cond (.t 15)
  (.seq (.regionD [⟨some 16, none, .p (.mv (.t 0))⟩,
    ⟨some 17, none, .p (.slS 1 (.t 16) (some (.k (.c (C.int .i64 1)))) none)⟩,
    ⟨some 18, none, .h (.load 6 true (.t 3))⟩,
    ⟨some 19, none, .h (.call (.f 138) [.t 17, .t 18])⟩,
    ⟨some 4, none, .p (.mv (.t 19))⟩] [4] [])
  .ret)
  .skip))
  (.seq (.region [⟨some 5, none, .p (.mv (.k (.c (C.int .i64 0))))⟩] [0, 3, 5])
  (.seq (.seq (.region [⟨some 20, none, .h (.load 6 true (.t 3))⟩,
    ⟨some 21, none, .p (.mv (.k (.c (C.int .i64 0))))⟩] [0, 3, 5, 20, 21])
  (.block 0 (.loop (.seq (.region [⟨some 22, none, .p (.bin .lss (.t 21) (.k (.c (C.int .i64 6))))⟩] [0, 3, 5, 20, 21, 22])
  (.seq (.cond (.t 22)
  .skip
  (.exit 0))
  (.seq (.block 1 (.seq (.region [⟨some 23, none, .p (.mv (.t 21))⟩,
    ⟨some 24, none, .p (.ixV 6 1 false (.t 20) (.t 21))⟩,
    ⟨some 6, none, .p (.mv (.t 23))⟩,
    ⟨some 7, none, .p (.mv (.t 24))⟩] [0, 3, 5, 6, 7, 20, 21])
  (.seq (.region [⟨some 25, none, .p (.mv (.t 7))⟩,
    ⟨some 26, none, .p (.mv (.t 0))⟩,
    ⟨some 27, none, .p (.ixS 1 (.t 26) (.k (.c (C.int .i64 0))))⟩,
    ⟨some 28, none, .h (.load 1 false (.t 27))⟩,
    ⟨some 29, none, .p (.bin .geq (.t 25) (.t 28))⟩] [0, 3, 5, 6, 20, 21, 29])
  (.cond (.t 29)
  (.seq (.region [⟨some 30, none, .h (.load 6 true (.t 3))⟩,
    ⟨some 8, none, .p (.alloc [.k (C.int .i64 0), .k (C.int .i64 0), .k (C.int .i64 0), .k (C.int .i64 0), .k (C.int .i64 0), .k (C.int .i64 0)])⟩,
    ⟨none, none, .h (.store 6 (.t 8) (.t 30))⟩] [0, 3, 5, 6, 8, 20, 21])
  (.seq (.regionD [⟨some 31, none, .p (.mv (.t 6))⟩,
    ⟨some 32, none, .p (.ixA 6 1 (.t 8) (.t 31))⟩,
    ⟨some 33, none, .h (.load 1 false (.t 32))⟩,
    ⟨some 34, none, .p (.mv (.t 0))⟩,
    ⟨some 35, none, .p (.ixS 1 (.t 34) (.k (.c (C.int .i64 0))))⟩,
    ⟨some 36, none, .h (.load 1 false (.t 35))⟩,
    ⟨some 37, none, .p (.bin .sub (.t 33) (.t 36))⟩,
    ⟨some 38, none, .p (.ixA 6 1 (.t 8) (.t 31))⟩,
    ⟨none, none, .h (.store 1 (.t 38) (.t 37))⟩] [0, 3, 5, 8, 20, 21] [])
  (.regionD [⟨some 39, none, .p (.mv (.t 5))⟩,
    ⟨some 40, none, .p (.mv (.t 0))⟩,
    ⟨some 41, none, .p (.slS 1 (.t 40) (some (.k (.c (C.int .i64 1)))) none)⟩,
    ⟨some 42, none, .h (.load 6 true (.t 8))⟩,
    ⟨some 43, none, .h (.call (.f 138) [.t 41, .t 42])⟩,
    ⟨some 44, none, .p (.bin .add (.t 39) (.t 43))⟩,
    ⟨some 5, none, .p (.mv (.t 44))⟩] [0, 3, 5, 20, 21] [])))
  .skip))))
  (.region [⟨some 45, none, .p (.bin .add (.t 21) (.k (.c (C.int .i64 1))))⟩,
    ⟨some 21, none, .p (.mv (.t 45))⟩] [0, 3, 5, 20, 21])))) [0, 3, 5, 20, 21])))
  (.seq (.region [⟨some 46, none, .p (.mv (.t 5))⟩,
    ⟨some 4, none, .p (.mv (.t 46))⟩] [4])
  .ret)))))) }
theorem a138_ok : okFn Try.prog 138 a138 = true := by kernel_rfl
/-- loop.example/g01215/impl.arrangements -/
def a139 : AFn := { np := 1, nt := 27, res := [.t 2], body :=
  (.seq (.region [⟨some 1, none, .p (.box 6 (.t 0))⟩,
    ⟨some 2, none, .p (.mv (.k (.c (C.int .i64 0))))⟩] [1])
  (.seq (.region [⟨some 3, none, .p (.mv (.k (.c (C.int .i64 1))))⟩,
    ⟨some 4, none, .p (.mv (.k (.c (C.int .i64 0))))⟩] [1, 3, 4])
  (.seq (.seq (.region [⟨some 8, none, .h (.load 6 true (.t 1))⟩,
    ⟨some 9, none, .p (.mv (.k (.c (C.int .i64 0))))⟩] [3, 4, 8, 9])
  (.block 0 (.loop (.seq (.region [⟨some 10, none, .p (.bin .lss (.t 9) (.k (.c (C.int .i64 6))))⟩] [3, 4, 8, 9, 10])
  (.seq (.cond (.t 10)
  .skip
  (.exit 0))
  (.seq (.block 1 (.seq (.region [⟨some 11, none, .p (.ixV 6 1 false (.t 8) (.t 9))⟩,
    ⟨some 6, none, .p (.mv (.t 11))⟩] [3, 4, 6, 8, 9])
  (.seq (.region [⟨some 12, none, .p (.mv (.t 6))⟩,
    ⟨some 13, none, .p (.mv (.k (.c (C.int .i64 0))))⟩] [3, 4, 8, 9, 12, 13])
  (.block 2 (.loop (.seq (.region [⟨some 14, none, .p (.bin .lss (.t 13) (.t 12))⟩] [3, 4, 8, 9, 12, 13, 14])
  (.seq (.cond (.t 14)
  .skip
  (.exit 2))
  (.seq (.block 3 (.seq (.region [⟨some 15, none, .p (.mv (.t 13))⟩,
    ⟨some 7, none, .p (.mv (.t 15))⟩] [3, 4, 7, 8, 9, 12, 13])
  (.seq (.region [⟨some 16, none, .p (.mv (.t 4))⟩,
    ⟨some 17, none, .p (.bin .add (.t 16) (.k (.c (C.int .i64 1))))⟩,
    ⟨some 4, none, .p (.mv (.t 17))⟩] [3, 4, 7, 8, 9, 12, 13])
  (.region [⟨some 18, none, .p (.mv (.t 3))⟩,
    ⟨some 19, none, .p (.mv (.t 4))⟩,
    ⟨some 20, none, .p (.bin .mul (.t 18) (.t 19))⟩,
    ⟨some 21, none, .p (.mv (.t 7))⟩,
    ⟨some 22, none, .p (.bin .add (.t 21) (.k (.c (C.int .i64 1))))⟩,
    ⟨some 23, none, .p (.bin .quo (.t 20) (.t 22))⟩,
    ⟨some 3, none, .p (.mv (.t 23))⟩] [3, 4, 8, 9, 12, 13]))))
  (.region [⟨some 24, none, .p (.bin .add (.t 13) (.k (.c (C.int .i64 1))))⟩,
    ⟨some 13, none, .p (.mv (.t 24))⟩] [3, 4, 8, 9, 12, 13])))) [3, 4, 8, 9, 12, 13])))))
  (.region [⟨some 25, none, .p (.bin .add (.t 9) (.k (.c (C.int .i64 1))))⟩,
    ⟨some 9, none, .p (.mv (.t 25))⟩] [3, 4, 8, 9])))) [3, 4, 8, 9])))
  (.seq (.region [⟨some 26, none, .p (.mv (.t 3))⟩,
    ⟨some 2, none, .p (.mv (.t 26))⟩] [2])
  .ret)))) }
theorem a139_ok : okFn Try.prog 139 a139 = true := by kernel_rfl
/-- loop.example/g01215/spec.l2Rack -/
def a140 : AFn := { np := 1, nt := 44, res := [.t 2], body :=
  (.seq (.region [⟨some 1, none, .p (.box 24 (.t 0))⟩,
    ⟨some 2, none, .p (.mv (.k (.c (C.bool false))))⟩] [1])
  (.seq (.seq (.region [⟨some 3, none, .p (.mv (.k (.c (C.int .i64 0))))⟩] [1, 3])
  (.block 0 (.loop (.seq (.seq (.region [⟨some 5, none, .p (.mv (.t 3))⟩,
    ⟨some 6, none, .p (.bin .lss (.t 5) (.k (.c (C.int .i64 6))))⟩] [1, 3, 6])
  (.cond (.t 6)
  .skip
  (.exit 0)))
  (.seq (.block 1 (.seq (.region [⟨some 4, none, .p (.mv (.k (.c (C.int .i64 0))))⟩] [1, 3, 4])
  (.block 2 (.loop (.seq (.seq (.region [⟨some 9, none, .p (.mv (.t 4))⟩,
    ⟨some 10, none, .p (.bin .lss (.t 9) (.k (.c (C.int .i64 4))))⟩] [1, 3, 4, 10])
  (.cond (.t 10)
  .skip
  (.exit 2)))
  (.seq (.block 3 (.seq (.region [⟨some 13, none, .p (.mv (.t 3))⟩,
    ⟨some 14, none, .p (.mv (.t 4))⟩,
    ⟨some 15, none, .p (.fld 0 (.t 1))⟩,
    ⟨some 16, none, .p (.ixA 6 4 (.t 15) (.t 13))⟩,
    ⟨some 17, none, .p (.ixA 4 1 (.t 16) (.t 14))⟩,
    ⟨some 18, none, .h (.load 1 false (.t 17))⟩,
    ⟨some 19, none, .h (.call (.f 144) [.t 18, .k (.c (C.int .i64 0)), .k (.c (C.int .i64 5))])⟩,
    ⟨some 20, none, .p (.un .not (.t 19))⟩,
    ⟨some 21, none, .p (.mv (.t 20))⟩,
    ⟨some 22, some (21, false), .p (.mv (.t 4))⟩,
    ⟨some 23, some (21, false), .p (.bin .gtr (.t 22) (.k (.c (C.int .i64 0))))⟩,
    ⟨some 24, some (21, false), .p (.mv (.t 23))⟩,
    ⟨some 25, some (24, true), .p (.mv (.t 3))⟩,
    ⟨some 26, some (24, true), .p (.mv (.t 4))⟩,
    ⟨some 27, some (24, true), .p (.fld 0 (.t 1))⟩,
    ⟨some 28, some (24, true), .p (.ixA 6 4 (.t 27) (.t 25))⟩,
    ⟨some 29, some (24, true), .p (.ixA 4 1 (.t 28) (.t 26))⟩,
    ⟨some 30, some (24, true), .h (.load 1 false (.t 29))⟩,
    ⟨some 31, some (24, true), .p (.bin .gtr (.t 30) (.k (.c (C.int .i64 0))))⟩,
    ⟨some 32, some (21, false), .p (.pick (.t 24) (.t 31) (.k (.c (C.bool false))))⟩,
    ⟨some 33, some (21, false), .p (.mv (.t 32))⟩,
    ⟨some 34, some (33, true), .p (.mv (.t 3))⟩,
    ⟨some 35, some (33, true), .p (.mv (.t 4))⟩,
    ⟨some 36, some (33, true), .p (.bin .sub (.t 35) (.k (.c (C.int .i64 1))))⟩,
    ⟨some 37, some (33, true), .p (.fld 0 (.t 1))⟩,
    ⟨some 38, some (33, true), .p (.ixA 6 4 (.t 37) (.t 34))⟩,
    ⟨some 39, some (33, true), .p (.ixA 4 1 (.t 38) (.t 36))⟩,
    ⟨some 40, some (33, true), .h (.load 1 false (.t 39))⟩,
    ⟨some 41, some (33, true), .p (.bin .eql (.t 40) (.k (.c (C.int .i64 0))))⟩,
    ⟨some 42, some (21, false), .p (.pick (.t 33) (.t 41) (.k (.c (C.bool false))))⟩,
    ⟨some 43, none, .p (.pick (.t 21) (.k (.c (C.bool true))) (.t 42))⟩] [1, 3, 4, 43])
  (.cond (.t 43)
  (.seq (.region [⟨some 2, none, .p (.mv (.k (.c (C.bool false))))⟩] [2])
  .ret)
  .skip)))
  (.region [⟨some 11, none, .p (.mv (.t 4))⟩,
    ⟨some 12, none, .p (.bin .add (.t 11) (.k (.c (C.int .i64 1))))⟩,
    ⟨some 4, none, .p (.mv (.t 12))⟩] [1, 3, 4]))) [1, 3, 4]))))
  (.region [⟨some 7, none, .p (.mv (.t 3))⟩,
    ⟨some 8, none, .p (.bin .add (.t 7) (.k (.c (C.int .i64 1))))⟩,
    ⟨some 3, none, .p (.mv (.t 8))⟩] [1, 3]))) [1, 3])))
  (.seq (.region [⟨some 2, none, .p (.mv (.k (.c (C.bool true))))⟩] [2])
  .ret))) }
theorem a140_ok : okFn Try.prog 140 a140 = true := by kernel_rfl
/-- loop.example/g01215/spec.l2Useful -/
def a141 : AFn := { np := 1, nt := 36, res := [.t 2], body :=
  (.seq (.region [⟨some 1, none, .p (.box 24 (.t 0))⟩,
    ⟨some 2, none, .p (.nilsl 2)⟩] [1])
  (.seq (.region [⟨some 6, none, .p (.mksl 2 0 [.k (C.int .i64 0), .k (C.int .i64 0)] [])⟩,
    ⟨some 7, none, .h (.load 24 true (.t 1))⟩,
    ⟨some 8, none, .h (.call (.f 213) [.t 7])⟩,
    ⟨some 3, none, .p (.mv (.t 6))⟩,
    ⟨some 4, none, .p (.mv (.t 8))⟩] [1, 3, 4])
  (.seq (.seq (.region [⟨some 5, none, .p (.mv (.k (.c (C.int .i64 0))))⟩] [1, 3, 4, 5])
  (.block 0 (.loop (.seq (.seq (.region [⟨some 9, none, .p (.mv (.t 5))⟩,
    ⟨some 10, none, .p (.mv (.t 4))⟩,
    ⟨some 11, none, .p (.len (.t 10))⟩,
    ⟨some 12, none, .p (.bin .lss (.t 9) (.t 11))⟩] [1, 3, 4, 5, 12])
  (.cond (.t 12)
  .skip
  (.exit 0)))
  (.seq (.block 1 (.seq (.regionD [⟨some 15, none, .h (.load 24 true (.t 1))⟩,
    ⟨some 16, none, .p (.mv (.t 4))⟩,
    ⟨some 17, none, .p (.mv (.t 5))⟩,
    ⟨some 18, none, .p (.ixS 2 (.t 16) (.t 17))⟩,
    ⟨some 19, none, .p (.ixA 2 1 (.t 18) (.k (.c (C.int .i64 0))))⟩,
    ⟨some 20, none, .h (.load 1 false (.t 19))⟩,
    ⟨some 21, none, .p (.mv (.t 4))⟩,
    ⟨some 22, none, .p (.mv (.t 5))⟩,
    ⟨some 23, none, .p (.ixS 2 (.t 21) (.t 22))⟩,
    ⟨some 24, none, .p (.ixA 2 1 (.t 23) (.k (.c (C.int .i64 1))))⟩,
    ⟨some 25, none, .h (.load 1 false (.t 24))⟩,
    ⟨some 26, none, .h (.call (.f 155) [.t 15, .t 20, .t 25])⟩,
    ⟨some 27, none, .p (.un .not (.t 26))⟩] [1, 3, 4, 5, 27] [])
  (.cond (.t 27)
  (.region [⟨some 28, none, .p (.mv (.t 3))⟩,
    ⟨some 29, none, .p (.mv (.t 4))⟩,
    ⟨some 30, none, .p (.mv (.t 5))⟩,
    ⟨some 31, none, .p (.ixS 2 (.t 29) (.t 30))⟩,
    ⟨some 32, none, .h (.load 2 true (.t 31))⟩,
    ⟨some 33, none, .p (.mksl 2 1 [.k (C.int .i64 0), .k (C.int .i64 0)] [(0, 2, .t 32)])⟩,
    ⟨some 34, none, .h (.app 2 (.t 28) (.t 33))⟩,
    ⟨some 3, none, .p (.mv (.t 34))⟩] [1, 3, 4, 5])
  .skip)))
  (.region [⟨some 13, none, .p (.mv (.t 5))⟩,
    ⟨some 14, none, .p (.bin .add (.t 13) (.k (.c (C.int .i64 1))))⟩,
    ⟨some 5, none, .p (.mv (.t 14))⟩] [1, 3, 4, 5]))) [1, 3, 4, 5])))
  (.seq (.region [⟨some 35, none, .p (.mv (.t 3))⟩,
    ⟨some 2, none, .p (.mv (.t 35))⟩] [2])
  .ret)))) }
theorem a141_ok : okFn Try.prog 141 a141 = true := by kernel_rfl
/-- loop.example/g01215/laws.toIntA4A6 -/
def a142 : AFn := { np := 1, nt := 16, res := [.cell 2 24 true], body :=
  (.seq (.region [⟨some 1, none, .p (.box 24 (.t 0))⟩,
    ⟨some 2, none, .p (.alloc (List.replicate 24 (.k (C.int .i64 0))))⟩] [1, 2])
  (.seq (.region [⟨some 3, none, .p (.alloc (List.replicate 24 (.k (C.int .i64 0))))⟩] [1, 2, 3])
  (.seq (.seq (.region [⟨some 4, none, .p (.mv (.k (.c (C.int .i64 0))))⟩] [1, 2, 3, 4])
  (.block 0 (.loop (.seq (.seq (.region [⟨some 5, none, .p (.mv (.t 4))⟩,
    ⟨some 6, none, .p (.bin .lss (.t 5) (.k (.c (C.int .i64 6))))⟩] [1, 2, 3, 4, 6])
  (.cond (.t 6)
  .skip
  (.exit 0)))
  (.seq (.block 1 (.region [⟨some 9, none, .p (.mv (.t 4))⟩,
    ⟨some 10, none, .p (.mv (.t 4))⟩,
    ⟨some 11, none, .p (.ixA 6 4 (.t 1) (.t 10))⟩,
    ⟨some 12, none, .h (.load 4 true (.t 11))⟩,
    ⟨some 13, none, .h (.call (.f 214) [.t 12])⟩,
    ⟨some 14, none, .p (.ixA 6 4 (.t 3) (.t 9))⟩,
    ⟨none, none, .h (.store 4 (.t 14) (.t 13))⟩] [1, 2, 3, 4]))
  (.region [⟨some 7, none, .p (.mv (.t 4))⟩,
    ⟨some 8, none, .p (.bin .add (.t 7) (.k (.c (C.int .i64 1))))⟩,
    ⟨some 4, none, .p (.mv (.t 8))⟩] [1, 2, 3, 4]))) [1, 2, 3, 4])))
  (.seq (.region [⟨some 15, none, .h (.load 24 true (.t 3))⟩,
    ⟨none, none, .h (.store 24 (.t 2) (.t 15))⟩] [2])
  .ret)))) }
theorem a142_ok : okFn Try.prog 142 a142 = true := by kernel_rfl
/-- loop.example/g01215/impl.useful -/
def a143 : AFn := { np := 1, nt := 7, res := [.t 2], body :=
  (.seq (.region [⟨some 1, none, .p (.box 24 (.t 0))⟩,
    ⟨some 2, none, .p (.nilsl 2)⟩] [1])
  (.seq (.region [⟨some 3, none, .h (.load 24 true (.t 1))⟩,
    ⟨some 4, none, .h (.call (.f 215) [.t 3])⟩,
    ⟨some 5, none, .p (.mkfn 216 [.t 1])⟩,
    ⟨some 6, none, .h (.call (.f 163) [.t 4, .t 5])⟩,
    ⟨some 2, none, .p (.mv (.t 6))⟩] [2])
  .ret)) }
theorem a143_ok : okFn Try.prog 143 a143 = true := by kernel_rfl
/-- loop.example/g01215/spec.l1In -/
def a144 : AFn := { np := 3, nt := 15, res := [.t 6], body :=
  (.seq (.region [⟨some 6, none, .p (.mv (.k (.c (C.bool false))))⟩] [0, 1, 2])
  (.seq (.region [⟨some 7, none, .p (.mv (.t 0))⟩,
    ⟨some 8, none, .p (.mv (.t 1))⟩,
    ⟨some 9, none, .p (.bin .geq (.t 7) (.t 8))⟩,
    ⟨some 10, none, .p (.mv (.t 9))⟩,
    ⟨some 11, some (10, true), .p (.mv (.t 0))⟩,
    ⟨some 12, some (10, true), .p (.mv (.t 2))⟩,
    ⟨some 13, some (10, true), .p (.bin .leq (.t 11) (.t 12))⟩,
    ⟨some 14, none, .p (.pick (.t 10) (.t 13) (.k (.c (C.bool false))))⟩,
    ⟨some 6, none, .p (.mv (.t 14))⟩] [6])
  .ret)) }
theorem a144_ok : okFn Try.prog 144 a144 = true := by kernel_rfl
/-- loop.example/g01215/spec.l10End -/
def a145 : AFn := { np := 2, nt := 47, res := [.t 4], body :=
  (.seq (.region [⟨some 2, none, .p (.box 24 (.t 0))⟩,
    ⟨some 4, none, .p (.mv (.k (.c (C.int .i64 0))))⟩] [1, 2])
  (.seq (.seq (.region [⟨some 10, none, .p (.mv (.t 1))⟩,
    ⟨some 11, none, .p (.bin .eql (.t 10) (.k (.c (C.int .i64 0))))⟩] [1, 2, 11])
  (.cond (.t 11)
  (.seq (.region [⟨some 4, none, .p (.mv (.k (.c (C.int .i64 0))))⟩] [4])
  .ret)
  .skip))
  (.seq (.region [⟨some 12, none, .h (.load 24 true (.t 2))⟩,
    ⟨some 13, none, .h (.call (.f 141) [.t 12])⟩,
    ⟨some 5, none, .p (.mv (.k (.c (C.int .i64 (-1)))))⟩,
    ⟨some 6, none, .p (.mv (.t 13))⟩] [1, 2, 5, 6])
  (.seq (.seq (.region [⟨some 7, none, .p (.mv (.k (.c (C.int .i64 0))))⟩] [1, 2, 5, 6, 7])
  (.block 0 (.loop (.seq (.seq (.region [⟨some 14, none, .p (.mv (.t 7))⟩,
    ⟨some 15, none, .p (.mv (.t 6))⟩,
    ⟨some 16, none, .p (.len (.t 15))⟩,
    ⟨some 17, none, .p (.bin .lss (.t 14) (.t 16))⟩,
    ⟨some 18, none, .p (.mv (.t 17))⟩,
    ⟨some 19, some (18, true), .p (.mv (.t 5))⟩,
    ⟨some 20, some (18, true), .p (.bin .lss (.t 19) (.k (.c (C.int .i64 1))))⟩,
    ⟨some 21, none, .p (.pick (.t 18) (.t 20) (.k (.c (C.bool false))))⟩] [1, 2, 5, 6, 7, 21])
  (.cond (.t 21)
  .skip
  (.exit 0)))
  (.seq (.block 1 (.seq (.regionD [⟨some 25, none, .h (.load 24 true (.t 2))⟩,
    ⟨some 26, none, .p (.mv (.t 6))⟩,
    ⟨some 27, none, .p (.mv (.t 7))⟩,
    ⟨some 28, none, .p (.ixS 2 (.t 26) (.t 27))⟩,
    ⟨some 29, none, .p (.ixA 2 1 (.t 28) (.k (.c (C.int .i64 0))))⟩,
    ⟨some 30, none, .h (.load 1 false (.t 29))⟩,
    ⟨some 31, none, .p (.mv (.t 6))⟩,
    ⟨some 32, none, .p (.mv (.t 7))⟩,
    ⟨some 33, none, .p (.ixS 2 (.t 31) (.t 32))⟩,
    ⟨some 34, none, .p (.ixA 2 1 (.t 33) (.k (.c (C.int .i64 1))))⟩,
    ⟨some 35, none, .h (.load 1 false (.t 34))⟩,
    ⟨some 36, none, .h (.call (.f 148) [.t 25, .t 30, .t 35])⟩,
    ⟨some 24, none, .p (.mv (.t 36))⟩,
    ⟨some 37, none, .p (.ext (.t 24) 0)⟩,
    ⟨some 38, none, .p (.ext (.t 24) 1)⟩,
    ⟨some 8, none, .p (.alloc (List.replicate 24 (.k (C.int .i64 0))))⟩,
    ⟨none, none, .h (.store 24 (.t 8) (.t 37))⟩,
    ⟨some 9, none, .p (.mv (.t 38))⟩] [1, 2, 5, 6, 7, 8] [])
  (.region [⟨some 39, none, .p (.mv (.t 5))⟩,
    ⟨some 40, none, .h (.load 24 true (.t 8))⟩,
    ⟨some 41, none, .p (.mv (.t 1))⟩,
    ⟨some 42, none, .p (.bin .sub (.t 41) (.k (.c (C.int .i64 1))))⟩,
    ⟨some 43, none, .h (.call (.f 145) [.t 40, .t 42])⟩,
    ⟨some 44, none, .p (.un .neg (.t 43))⟩,
    ⟨some 45, none, .h (.call (.f 208) [.t 39, .t 44])⟩,
    ⟨some 5, none, .p (.mv (.t 45))⟩] [1, 2, 5, 6, 7])))
  (.region [⟨some 22, none, .p (.mv (.t 7))⟩,
    ⟨some 23, none, .p (.bin .add (.t 22) (.k (.c (C.int .i64 1))))⟩,
    ⟨some 7, none, .p (.mv (.t 23))⟩] [1, 2, 5, 6, 7]))) [1, 2, 5, 6, 7])))
  (.seq (.region [⟨some 46, none, .p (.mv (.t 5))⟩,
    ⟨some 4, none, .p (.mv (.t 46))⟩] [4])
  .ret))))) }
theorem a145_ok : okFn Try.prog 145 a145 = true := by kernel_rfl
/-- loop.example/g01215/impl.isGame -/
def a146 : AFn := { np := 3, nt := 14, res := [.t 6], body :=
  (.seq (.region [⟨some 3, none, .p (.box 24 (.t 0))⟩,
    ⟨some 6, none, .p (.mv (.k (.c (C.bool false))))⟩] [1, 2, 3])
  (.seq (.region [⟨some 7, none, .h (.load 24 true (.t 3))⟩,
    ⟨some 8, none, .h (.call (.f 121) [.t 7])⟩,
    ⟨some 9, none, .p (.mv (.t 8))⟩,
    ⟨some 10, some (9, true), .p (.mv (.t 1))⟩,
    ⟨some 11, some (9, true), .p (.mv (.t 2))⟩,
    ⟨some 12, some (9, true), .h (.call (.f 152) [.t 10, .t 11, .k (.c (C.int .i64 3))])⟩,
    ⟨some 13, none, .p (.pick (.t 9) (.t 12) (.k (.c (C.bool false))))⟩,
    ⟨some 6, none, .p (.mv (.t 13))⟩] [6])
  .ret)) }
theorem a146_ok : okFn Try.prog 146 a146 = true := by kernel_rfl
/-- loop.example/g01215/impl.endValue -/
def a147 : AFn := { np := 2, nt := 37, res := [.t 4], body :=
  (.seq (.region [⟨some 2, none, .p (.box 24 (.t 0))⟩,
    ⟨some 4, none, .p (.mv (.k (.c (C.int .i64 0))))⟩] [1, 2])
  (.seq (.seq (.region [⟨some 10, none, .p (.mv (.t 1))⟩,
    ⟨some 11, none, .p (.bin .eql (.t 10) (.k (.c (C.int .i64 0))))⟩] [1, 2, 11])
  (.cond (.t 11)
  (.seq (.region [⟨some 4, none, .p (.mv (.k (.c (C.int .i64 0))))⟩] [4])
  .ret)
  .skip))
  (.seq (.region [⟨some 5, none, .p (.mv (.k (.c (C.int .i64 (-1)))))⟩] [1, 2, 5])
  (.seq (.seq (.region [⟨some 12, none, .h (.load 24 true (.t 2))⟩,
    ⟨some 13, none, .h (.call (.f 143) [.t 12])⟩,
    ⟨some 14, none, .p (.len (.t 13))⟩,
    ⟨some 15, none, .p (.mv (.k (.c (C.int .i64 0))))⟩] [1, 2, 5, 13, 14, 15])
  (.block 0 (.loop (.seq (.region [⟨some 16, none, .p (.bin .lss (.t 15) (.t 14))⟩] [1, 2, 5, 13, 14, 15, 16])
  (.seq (.cond (.t 16)
  .skip
  (.exit 0))
  (.seq (.block 1 (.seq (.region [⟨some 17, none, .p (.ixS 2 (.t 13) (.t 15))⟩,
    ⟨some 18, none, .h (.load 2 true (.t 17))⟩,
    ⟨some 7, none, .p (.alloc [.k (C.int .i64 0), .k (C.int .i64 0)])⟩,
    ⟨none, none, .h (.store 2 (.t 7) (.t 18))⟩] [1, 2, 5, 7, 13, 14, 15])
  (.seq (.region [⟨some 20, none, .h (.load 24 true (.t 2))⟩,
    ⟨some 21, none, .p (.ixA 2 1 (.t 7) (.k (.c (C.int .i64 0))))⟩,
    ⟨some 22, none, .h (.load 1 false (.t 21))⟩,
    ⟨some 23, none, .p (.ixA 2 1 (.t 7) (.k (.c (C.int .i64 1))))⟩,
    ⟨some 24, none, .h (.load 1 false (.t 23))⟩,
    ⟨some 25, none, .h (.call (.f 149) [.t 20, .t 22, .t 24])⟩,
    ⟨some 19, none, .p (.mv (.t 25))⟩,
    ⟨some 26, none, .p (.ext (.t 19) 0)⟩,
    ⟨some 27, none, .p (.ext (.t 19) 1)⟩,
    ⟨some 8, none, .p (.alloc (List.replicate 24 (.k (C.int .i64 0))))⟩,
    ⟨none, none, .h (.store 24 (.t 8) (.t 26))⟩,
    ⟨some 9, none, .p (.mv (.t 27))⟩] [1, 2, 5, 8, 13, 14, 15])
  (.region [⟨some 28, none, .p (.mv (.t 5))⟩,
    ⟨some 29, none, .h (.load 24 true (.t 8))⟩,
    ⟨some 30, none, .p (.mv (.t 1))⟩,
    ⟨some 31, none, .p (.bin .sub (.t 30) (.k (.c (C.int .i64 1))))⟩,
    ⟨some 32, none, .h (.call (.f 147) [.t 29, .t 31])⟩,
    ⟨some 33, none, .p (.un .neg (.t 32))⟩,
    ⟨some 34, none, .p (.mnmx true [.t 28, .t 33])⟩,
    ⟨some 5, none, .p (.mv (.t 34))⟩] [1, 2, 5, 13, 14, 15]))))
  (.region [⟨some 35, none, .p (.bin .add (.t 15) (.k (.c (C.int .i64 1))))⟩,
    ⟨some 15, none, .p (.mv (.t 35))⟩] [1, 2, 5, 13, 14, 15])))) [1, 2, 5, 13, 14, 15])))
  (.seq (.region [⟨some 36, none, .p (.mv (.t 5))⟩,
    ⟨some 4, none, .p (.mv (.t 36))⟩] [4])
  .ret))))) }
theorem a147_ok : okFn Try.prog 147 a147 = true := by kernel_rfl
/-- loop.example/g01215/spec.l2Pour -/
def a148 : AFn := { np := 3, nt := 59, res := [.cell 6 24 true, .t 7], body :=
  (.seq (.region [⟨some 3, none, .p (.box 24 (.t 0))⟩,
    ⟨some 6, none, .p (.alloc (List.replicate 24 (.k (C.int .i64 0))))⟩,
    ⟨some 7, none, .p (.mv (.k (.c (C.int .i64 0))))⟩] [1, 2, 3, 6])
  (.seq (.region [⟨some 15, none, .p (.mv (.t 1))⟩,
    ⟨some 16, none, .p (.fld 0 (.t 3))⟩,
    ⟨some 17, none, .p (.ixA 6 4 (.t 16) (.t 15))⟩,
    ⟨some 18, none, .h (.load 4 true (.t 17))⟩,
    ⟨some 19, none, .h (.call (.f 217) [.t 18])⟩,
    ⟨some 14, none, .p (.mv (.t 19))⟩,
    ⟨some 20, none, .p (.ext (.t 14) 0)⟩,
    ⟨some 21, none, .p (.ext (.t 14) 1)⟩,
    ⟨some 8, none, .p (.mv (.t 20))⟩,
    ⟨some 9, none, .p (.mv (.t 21))⟩] [1, 2, 3, 6, 8, 9])
  (.seq (.regionD [⟨some 22, none, .p (.mv (.t 1))⟩,
    ⟨some 23, none, .p (.fld 0 (.t 3))⟩,
    ⟨some 24, none, .p (.ixA 6 4 (.t 23) (.t 22))⟩,
    ⟨some 25, none, .h (.load 4 true (.t 24))⟩,
    ⟨some 26, none, .h (.call (.f 218) [.t 25])⟩,
    ⟨some 27, none, .p (.mv (.t 2))⟩,
    ⟨some 28, none, .p (.fld 0 (.t 3))⟩,
    ⟨some 29, none, .p (.ixA 6 4 (.t 28) (.t 27))⟩,
    ⟨some 30, none, .h (.load 4 true (.t 29))⟩,
    ⟨some 31, none, .h (.call (.f 218) [.t 30])⟩,
    ⟨some 10, none, .p (.mv (.t 26))⟩,
    ⟨some 11, none, .p (.mv (.t 31))⟩] [1, 2, 3, 6, 8, 9, 10, 11] [])
  (.seq (.region [⟨some 32, none, .p (.mv (.t 9))⟩,
    ⟨some 33, none, .p (.mv (.t 11))⟩,
    ⟨some 34, none, .p (.bin .sub (.k (.c (C.int .i64 4))) (.t 33))⟩,
    ⟨some 35, none, .h (.call (.f 219) [.t 32, .t 34])⟩,
    ⟨some 12, none, .p (.mv (.t 35))⟩] [1, 2, 3, 6, 8, 10, 11, 12])
  (.seq (.seq (.region [⟨some 13, none, .p (.mv (.k (.c (C.int .i64 0))))⟩] [1, 2, 3, 6, 8, 10, 11, 12, 13])
  (.block 0 (.loop (.seq (.seq (.region [⟨some 36, none, .p (.mv (.t 13))⟩,
    ⟨some 37, none, .p (.mv (.t 12))⟩,
    ⟨some 38, none, .p (.bin .lss (.t 36) (.t 37))⟩] [1, 2, 3, 6, 8, 10, 11, 12, 13, 38])
  (.cond (.t 38)
  .skip
  (.exit 0)))
  (.seq (.block 1 (.seq (.region [⟨some 41, none, .p (.mv (.t 1))⟩,
    ⟨some 42, none, .p (.mv (.t 10))⟩,
    ⟨some 43, none, .p (.bin .sub (.t 42) (.k (.c (C.int .i64 1))))⟩,
    ⟨some 44, none, .p (.mv (.t 13))⟩,
    ⟨some 45, none, .p (.bin .sub (.t 43) (.t 44))⟩,
    ⟨some 46, none, .p (.fld 0 (.t 3))⟩,
    ⟨some 47, none, .p (.ixA 6 4 (.t 46) (.t 41))⟩,
    ⟨some 48, none, .p (.ixA 4 1 (.t 47) (.t 45))⟩,
    ⟨none, none, .h (.store 1 (.t 48) (.k (.c (C.int .i64 0))))⟩] [1, 2, 3, 6, 8, 10, 11, 12, 13])
  (.region [⟨some 49, none, .p (.mv (.t 2))⟩,
    ⟨some 50, none, .p (.mv (.t 11))⟩,
    ⟨some 51, none, .p (.mv (.t 13))⟩,
    ⟨some 52, none, .p (.bin .add (.t 50) (.t 51))⟩,
    ⟨some 53, none, .p (.mv (.t 8))⟩,
    ⟨some 54, none, .p (.fld 0 (.t 3))⟩,
    ⟨some 55, none, .p (.ixA 6 4 (.t 54) (.t 49))⟩,
    ⟨some 56, none, .p (.ixA 4 1 (.t 55) (.t 52))⟩,
    ⟨none, none, .h (.store 1 (.t 56) (.t 53))⟩] [1, 2, 3, 6, 8, 10, 11, 12, 13])))
  (.region [⟨some 39, none, .p (.mv (.t 13))⟩,
    ⟨some 40, none, .p (.bin .add (.t 39) (.k (.c (C.int .i64 1))))⟩,
    ⟨some 13, none, .p (.mv (.t 40))⟩] [1, 2, 3, 6, 8, 10, 11, 12, 13]))) [1, 2, 3, 6, 8, 10, 11, 12, 13])))
  (.seq (.region [⟨some 57, none, .h (.load 24 true (.t 3))⟩,
    ⟨some 58, none, .p (.mv (.t 12))⟩,
    ⟨none, none, .h (.store 24 (.t 6) (.t 57))⟩,
    ⟨some 7, none, .p (.mv (.t 58))⟩] [6, 7])
  .ret)))))) }
theorem a148_ok : okFn Try.prog 148 a148 = true := by kernel_rfl
/-- loop.example/g01215/impl.pour -/
def a149 : AFn := { np := 3, nt := 58, res := [.cell 6 24 true, .t 7], body :=
  (.seq (.region [⟨some 3, none, .p (.box 24 (.t 0))⟩,
    ⟨some 6, none, .p (.alloc (List.replicate 24 (.k (C.int .i64 0))))⟩,
    ⟨some 7, none, .p (.mv (.k (.c (C.int .i64 0))))⟩] [1, 2, 3, 6])
  (.seq (.region [⟨some 14, none, .p (.mv (.t 1))⟩,
    ⟨some 15, none, .p (.fld 0 (.t 3))⟩,
    ⟨some 16, none, .p (.ixA 6 4 (.t 15) (.t 14))⟩,
    ⟨some 17, none, .h (.load 4 true (.t 16))⟩,
    ⟨some 18, none, .h (.call (.f 220) [.t 17])⟩,
    ⟨some 13, none, .p (.mv (.t 18))⟩,
    ⟨some 19, none, .p (.ext (.t 13) 0)⟩,
    ⟨some 20, none, .p (.ext (.t 13) 1)⟩,
    ⟨some 8, none, .p (.mv (.t 19))⟩,
    ⟨some 9, none, .p (.mv (.t 20))⟩] [1, 2, 3, 6, 8, 9])
  (.seq (.regionD [⟨some 21, none, .p (.mv (.t 1))⟩,
    ⟨some 22, none, .p (.fld 0 (.t 3))⟩,
    ⟨some 23, none, .p (.ixA 6 4 (.t 22) (.t 21))⟩,
    ⟨some 24, none, .h (.load 4 true (.t 23))⟩,
    ⟨some 25, none, .h (.call (.f 221) [.t 24])⟩,
    ⟨some 26, none, .p (.mv (.t 2))⟩,
    ⟨some 27, none, .p (.fld 0 (.t 3))⟩,
    ⟨some 28, none, .p (.ixA 6 4 (.t 27) (.t 26))⟩,
    ⟨some 29, none, .h (.load 4 true (.t 28))⟩,
    ⟨some 30, none, .h (.call (.f 221) [.t 29])⟩,
    ⟨some 10, none, .p (.mv (.t 25))⟩,
    ⟨some 11, none, .p (.mv (.t 30))⟩] [1, 2, 3, 6, 8, 9, 10, 11] [])
  (.seq (.region [⟨some 31, none, .p (.mv (.t 9))⟩,
    ⟨some 32, none, .p (.mv (.t 11))⟩,
    ⟨some 33, none, .p (.bin .sub (.k (.c (C.int .i64 4))) (.t 32))⟩,
    ⟨some 34, none, .p (.mnmx false [.t 31, .t 33])⟩,
    ⟨some 9, none, .p (.mv (.t 34))⟩] [1, 2, 3, 6, 8, 9, 10, 11])
  (.seq (.seq (.region [⟨some 35, none, .p (.mv (.t 9))⟩,
    ⟨some 36, none, .p (.mv (.k (.c (C.int .i64 0))))⟩] [1, 2, 3, 6, 8, 9, 10, 11, 35, 36])
  (.block 0 (.loop (.seq (.region [⟨some 37, none, .p (.bin .lss (.t 36) (.t 35))⟩] [1, 2, 3, 6, 8, 9, 10, 11, 35, 36, 37])
  (.seq (.cond (.t 37)
  .skip
  (.exit 0))
  (.seq (.block 1 (.seq (.region [⟨some 38, none, .p (.mv (.t 36))⟩,
    ⟨some 12, none, .p (.mv (.t 38))⟩] [1, 2, 3, 6, 8, 9, 10, 11, 12, 35, 36])
  (.seq (.region [⟨some 39, none, .p (.mv (.t 1))⟩,
    ⟨some 40, none, .p (.mv (.t 10))⟩,
    ⟨some 41, none, .p (.bin .sub (.t 40) (.k (.c (C.int .i64 1))))⟩,
    ⟨some 42, none, .p (.mv (.t 12))⟩,
    ⟨some 43, none, .p (.bin .sub (.t 41) (.t 42))⟩,
    ⟨some 44, none, .p (.fld 0 (.t 3))⟩,
    ⟨some 45, none, .p (.ixA 6 4 (.t 44) (.t 39))⟩,
    ⟨some 46, none, .p (.ixA 4 1 (.t 45) (.t 43))⟩,
    ⟨none, none, .h (.store 1 (.t 46) (.k (.c (C.int .i64 0))))⟩] [1, 2, 3, 6, 8, 9, 10, 11, 12, 35, 36])
  (.region [⟨some 47, none, .p (.mv (.t 2))⟩,
    ⟨some 48, none, .p (.mv (.t 11))⟩,
    ⟨some 49, none, .p (.mv (.t 12))⟩,
    ⟨some 50, none, .p (.bin .add (.t 48) (.t 49))⟩,
    ⟨some 51, none, .p (.mv (.t 8))⟩,
    ⟨some 52, none, .p (.fld 0 (.t 3))⟩,
    ⟨some 53, none, .p (.ixA 6 4 (.t 52) (.t 47))⟩,
    ⟨some 54, none, .p (.ixA 4 1 (.t 53) (.t 50))⟩,
    ⟨none, none, .h (.store 1 (.t 54) (.t 51))⟩] [1, 2, 3, 6, 8, 9, 10, 11, 35, 36]))))
  (.region [⟨some 55, none, .p (.bin .add (.t 36) (.k (.c (C.int .i64 1))))⟩,
    ⟨some 36, none, .p (.mv (.t 55))⟩] [1, 2, 3, 6, 8, 9, 10, 11, 35, 36])))) [1, 2, 3, 6, 8, 9, 10, 11, 35, 36])))
  (.seq (.region [⟨some 56, none, .h (.load 24 true (.t 3))⟩,
    ⟨some 57, none, .p (.mv (.t 9))⟩,
    ⟨none, none, .h (.store 24 (.t 6) (.t 56))⟩,
    ⟨some 7, none, .p (.mv (.t 57))⟩] [6, 7])
  .ret)))))) }
theorem a149_ok : okFn Try.prog 149 a149 = true := by kernel_rfl
/-- loop.example/g01215/spec.l11Racks -/
def a150 : AFn := { np := 1, nt := 66, res := [.t 2, .t 3], body :=
  (.seq (.region [⟨some 1, none, .p (.box 25 (.t 0))⟩,
    ⟨some 2, none, .p (.nilsl 24)⟩,
    ⟨some 3, none, .p (.mv (.k (.c (C.bool false))))⟩] [1])
  (.seq (.seq (.region [⟨some 8, none, .p (.fld 0 (.t 1))⟩,
    ⟨some 9, none, .h (.load 24 true (.t 8))⟩,
    ⟨some 10, none, .h (.call (.f 140) [.t 9])⟩,
    ⟨some 11, none, .p (.un .not (.t 10))⟩,
    ⟨some 12, none, .p (.mv (.t 11))⟩,
    ⟨some 13, some (12, false), .p (.fld 24 (.t 1))⟩,
    ⟨some 14, some (12, false), .h (.load 1 false (.t 13))⟩,
    ⟨some 15, some (12, false), .p (.len (.t 14))⟩,
    ⟨some 16, some (12, false), .p (.bin .gtr (.t 15) (.k (.c (C.int .i64 60))))⟩,
    ⟨some 17, none, .p (.pick (.t 12) (.k (.c (C.bool true))) (.t 16))⟩] [1, 17])
  (.cond (.t 17)
  (.seq (.region [⟨some 18, none, .p (.mksl 24 0 (List.replicate 24 (.k (C.int .i64 0))) [])⟩,
    ⟨some 2, none, .p (.mv (.t 18))⟩,
    ⟨some 3, none, .p (.mv (.k (.c (C.bool false))))⟩] [2, 3])
  .ret)
  .skip))
  (.seq (.region [⟨some 19, none, .p (.fld 0 (.t 1))⟩,
    ⟨some 20, none, .h (.load 24 true (.t 19))⟩,
    ⟨some 21, none, .p (.mksl 24 1 (List.replicate 24 (.k (C.int .i64 0))) [(0, 24, .t 20)])⟩,
    ⟨some 4, none, .p (.mv (.t 21))⟩] [1, 4])
  (.seq (.seq (.region [⟨some 5, none, .p (.mv (.k (.c (C.int .i64 0))))⟩] [1, 4, 5])
  (.block 0 (.loop (.seq (.seq (.region [⟨some 22, none, .p (.mv (.t 5))⟩,
    ⟨some 23, none, .p (.fld 24 (.t 1))⟩,
    ⟨some 24, none, .h (.load 1 false (.t 23))⟩,
    ⟨some 25, none, .p (.len (.t 24))⟩,
    ⟨some 26, none, .p (.bin .lss (.t 22) (.t 25))⟩] [1, 4, 5, 26])
  (.cond (.t 26)
  .skip
  (.exit 0)))
  (.seq (.block 1 (.seq (.seq (.regionD [⟨some 29, none, .p (.mv (.t 4))⟩,
    ⟨some 30, none, .p (.mv (.t 5))⟩,
    ⟨some 31, none, .p (.ixS 24 (.t 29) (.t 30))⟩,
    ⟨some 32, none, .h (.load 24 true (.t 31))⟩,
    ⟨some 33, none, .p (.fld 24 (.t 1))⟩,
    ⟨some 34, none, .h (.load 1 false (.t 33))⟩,
    ⟨some 35, none, .p (.mv (.t 5))⟩,
    ⟨some 36, none, .p (.ixS 2 (.t 34) (.t 35))⟩,
    ⟨some 37, none, .h (.load 2 true (.t 36))⟩,
    ⟨some 38, none, .h (.call (.f 154) [.t 32, .t 37])⟩,
    ⟨some 39, none, .p (.un .not (.t 38))⟩] [1, 4, 5, 39] [])
  (.cond (.t 39)
  (.seq (.region [⟨some 40, none, .p (.mksl 24 0 (List.replicate 24 (.k (C.int .i64 0))) [])⟩,
    ⟨some 2, none, .p (.mv (.t 40))⟩,
    ⟨some 3, none, .p (.mv (.k (.c (C.bool false))))⟩] [2, 3])
  .ret)
  .skip))
  (.seq (.regionD [⟨some 42, none, .p (.mv (.t 4))⟩,
    ⟨some 43, none, .p (.mv (.t 5))⟩,
    ⟨some 44, none, .p (.ixS 24 (.t 42) (.t 43))⟩,
    ⟨some 45, none, .h (.load 24 true (.t 44))⟩,
    ⟨some 46, none, .p (.fld 24 (.t 1))⟩,
    ⟨some 47, none, .h (.load 1 false (.t 46))⟩,
    ⟨some 48, none, .p (.mv (.t 5))⟩,
    ⟨some 49, none, .p (.ixS 2 (.t 47) (.t 48))⟩,
    ⟨some 50, none, .p (.ixA 2 1 (.t 49) (.k (.c (C.int .i64 0))))⟩,
    ⟨some 51, none, .h (.load 1 false (.t 50))⟩,
    ⟨some 52, none, .p (.fld 24 (.t 1))⟩,
    ⟨some 53, none, .h (.load 1 false (.t 52))⟩,
    ⟨some 54, none, .p (.mv (.t 5))⟩,
    ⟨some 55, none, .p (.ixS 2 (.t 53) (.t 54))⟩,
    ⟨some 56, none, .p (.ixA 2 1 (.t 55) (.k (.c (C.int .i64 1))))⟩,
    ⟨some 57, none, .h (.load 1 false (.t 56))⟩,
    ⟨some 58, none, .h (.call (.f 148) [.t 45, .t 51, .t 57])⟩,
    ⟨some 41, none, .p (.mv (.t 58))⟩,
    ⟨some 59, none, .p (.ext (.t 41) 0)⟩,
    ⟨some 60, none, .p (.ext (.t 41) 1)⟩,
    ⟨some 6, none, .p (.alloc (List.replicate 24 (.k (C.int .i64 0))))⟩,
    ⟨none, none, .h (.store 24 (.t 6) (.t 59))⟩,
    ⟨some 7, none, .p (.mv (.t 60))⟩] [1, 4, 5, 6] [])
  (.region [⟨some 61, none, .p (.mv (.t 4))⟩,
    ⟨some 62, none, .h (.load 24 true (.t 6))⟩,
    ⟨some 63, none, .p (.mksl 24 1 (List.replicate 24 (.k (C.int .i64 0))) [(0, 24, .t 62)])⟩,
    ⟨some 64, none, .h (.app 24 (.t 61) (.t 63))⟩,
    ⟨some 4, none, .p (.mv (.t 64))⟩] [1, 4, 5]))))
  (.region [⟨some 27, none, .p (.mv (.t 5))⟩,
    ⟨some 28, none, .p (.bin .add (.t 27) (.k (.c (C.int .i64 1))))⟩,
    ⟨some 5, none, .p (.mv (.t 28))⟩] [1, 4, 5]))) [1, 4, 5])))
  (.seq (.region [⟨some 65, none, .p (.mv (.t 4))⟩,
    ⟨some 2, none, .p (.mv (.t 65))⟩,
    ⟨some 3, none, .p (.mv (.k (.c (C.bool true))))⟩] [2, 3])
  .ret))))) }
theorem a150_ok : okFn Try.prog 150 a150 = true := by kernel_rfl
/-- (loop.example/g01215/impl.Replay).racks -/
def a151 : AFn := { np := 1, nt := 55, res := [.t 2, .t 3], body :=
  (.seq (.region [⟨some 1, none, .p (.box 25 (.t 0))⟩,
    ⟨some 2, none, .p (.nilsl 24)⟩,
    ⟨some 3, none, .p (.mv (.k (.c (C.bool false))))⟩] [1])
  (.seq (.seq (.region [⟨some 9, none, .p (.fld 0 (.t 1))⟩,
    ⟨some 10, none, .h (.load 24 true (.t 9))⟩,
    ⟨some 11, none, .h (.call (.f 121) [.t 10])⟩,
    ⟨some 12, none, .p (.un .not (.t 11))⟩,
    ⟨some 13, none, .p (.mv (.t 12))⟩,
    ⟨some 14, some (13, false), .p (.fld 24 (.t 1))⟩,
    ⟨some 15, some (13, false), .h (.load 1 false (.t 14))⟩,
    ⟨some 16, some (13, false), .p (.len (.t 15))⟩,
    ⟨some 17, some (13, false), .p (.bin .gtr (.t 16) (.k (.c (C.int .i64 60))))⟩,
    ⟨some 18, none, .p (.pick (.t 13) (.k (.c (C.bool true))) (.t 17))⟩] [1, 18])
  (.cond (.t 18)
  (.seq (.region [⟨some 2, none, .p (.nilsl 24)⟩,
    ⟨some 3, none, .p (.mv (.k (.c (C.bool false))))⟩] [2, 3])
  .ret)
  .skip))
  (.seq (.region [⟨some 19, none, .p (.fld 0 (.t 1))⟩,
    ⟨some 20, none, .h (.load 24 true (.t 19))⟩,
    ⟨some 21, none, .p (.mksl 24 1 (List.replicate 24 (.k (C.int .i64 0))) [(0, 24, .t 20)])⟩,
    ⟨some 4, none, .p (.mv (.t 21))⟩] [1, 4])
  (.seq (.seq (.region [⟨some 22, none, .p (.fld 24 (.t 1))⟩,
    ⟨some 23, none, .h (.load 1 false (.t 22))⟩,
    ⟨some 24, none, .p (.len (.t 23))⟩,
    ⟨some 25, none, .p (.mv (.k (.c (C.int .i64 0))))⟩] [4, 23, 24, 25])
  (.block 0 (.loop (.seq (.region [⟨some 26, none, .p (.bin .lss (.t 25) (.t 24))⟩] [4, 23, 24, 25, 26])
  (.seq (.cond (.t 26)
  .skip
  (.exit 0))
  (.seq (.block 1 (.seq (.region [⟨some 27, none, .p (.mv (.t 25))⟩,
    ⟨some 28, none, .p (.ixS 2 (.t 23) (.t 25))⟩,
    ⟨some 29, none, .h (.load 2 true (.t 28))⟩,
    ⟨some 6, none, .p (.alloc [.k (C.int .i64 0), .k (C.int .i64 0)])⟩,
    ⟨some 5, none, .p (.mv (.t 27))⟩,
    ⟨none, none, .h (.store 2 (.t 6) (.t 29))⟩] [4, 5, 6, 23, 24, 25])
  (.seq (.seq (.regionD [⟨some 30, none, .p (.mv (.t 4))⟩,
    ⟨some 31, none, .p (.mv (.t 5))⟩,
    ⟨some 32, none, .p (.ixS 24 (.t 30) (.t 31))⟩,
    ⟨some 33, none, .h (.load 24 true (.t 32))⟩,
    ⟨some 34, none, .h (.load 2 true (.t 6))⟩,
    ⟨some 35, none, .h (.call (.f 157) [.t 33, .t 34])⟩,
    ⟨some 36, none, .p (.un .not (.t 35))⟩] [4, 5, 6, 23, 24, 25, 36] [])
  (.cond (.t 36)
  (.seq (.region [⟨some 2, none, .p (.nilsl 24)⟩,
    ⟨some 3, none, .p (.mv (.k (.c (C.bool false))))⟩] [2, 3])
  .ret)
  .skip))
  (.seq (.regionD [⟨some 38, none, .p (.mv (.t 4))⟩,
    ⟨some 39, none, .p (.mv (.t 5))⟩,
    ⟨some 40, none, .p (.ixS 24 (.t 38) (.t 39))⟩,
    ⟨some 41, none, .h (.load 24 true (.t 40))⟩,
    ⟨some 42, none, .p (.ixA 2 1 (.t 6) (.k (.c (C.int .i64 0))))⟩,
    ⟨some 43, none, .h (.load 1 false (.t 42))⟩,
    ⟨some 44, none, .p (.ixA 2 1 (.t 6) (.k (.c (C.int .i64 1))))⟩,
    ⟨some 45, none, .h (.load 1 false (.t 44))⟩,
    ⟨some 46, none, .h (.call (.f 149) [.t 41, .t 43, .t 45])⟩,
    ⟨some 37, none, .p (.mv (.t 46))⟩,
    ⟨some 47, none, .p (.ext (.t 37) 0)⟩,
    ⟨some 48, none, .p (.ext (.t 37) 1)⟩,
    ⟨some 7, none, .p (.alloc (List.replicate 24 (.k (C.int .i64 0))))⟩,
    ⟨none, none, .h (.store 24 (.t 7) (.t 47))⟩,
    ⟨some 8, none, .p (.mv (.t 48))⟩] [4, 7, 23, 24, 25] [])
  (.region [⟨some 49, none, .p (.mv (.t 4))⟩,
    ⟨some 50, none, .h (.load 24 true (.t 7))⟩,
    ⟨some 51, none, .p (.mksl 24 1 (List.replicate 24 (.k (C.int .i64 0))) [(0, 24, .t 50)])⟩,
    ⟨some 52, none, .h (.app 24 (.t 49) (.t 51))⟩,
    ⟨some 4, none, .p (.mv (.t 52))⟩] [4, 23, 24, 25])))))
  (.region [⟨some 53, none, .p (.bin .add (.t 25) (.k (.c (C.int .i64 1))))⟩,
    ⟨some 25, none, .p (.mv (.t 53))⟩] [4, 23, 24, 25])))) [4, 23, 24, 25])))
  (.seq (.region [⟨some 54, none, .p (.mv (.t 4))⟩,
    ⟨some 2, none, .p (.mv (.t 54))⟩,
    ⟨some 3, none, .p (.mv (.k (.c (C.bool true))))⟩] [2, 3])
  .ret))))) }
theorem a151_ok : okFn Try.prog 151 a151 = true := by kernel_rfl
/-- loop.example/g01215/impl.within -/
def a152 : AFn := { np := 3, nt := 15, res := [.t 6], body :=
  (.seq (.region [⟨some 6, none, .p (.mv (.k (.c (C.bool false))))⟩] [0, 1, 2])
  (.seq (.region [⟨some 7, none, .p (.mv (.t 1))⟩,
    ⟨some 8, none, .p (.mv (.t 0))⟩,
    ⟨some 9, none, .p (.bin .leq (.t 7) (.t 8))⟩,
    ⟨some 10, none, .p (.mv (.t 9))⟩,
    ⟨some 11, some (10, true), .p (.mv (.t 0))⟩,
    ⟨some 12, some (10, true), .p (.mv (.t 2))⟩,
    ⟨some 13, some (10, true), .p (.bin .leq (.t 11) (.t 12))⟩,
    ⟨some 14, none, .p (.pick (.t 10) (.t 13) (.k (.c (C.bool false))))⟩,
    ⟨some 6, none, .p (.mv (.t 14))⟩] [6])
  .ret)) }
theorem a152_ok : okFn Try.prog 152 a152 = true := by kernel_rfl
def prB : Prog
  | 52 => some a52
  | 53 => some a53
  | 54 => some a54
  | 55 => some a55
  | 56 => some a56
  | 57 => some a57
  | 58 => some a58
  | 59 => some a59
  | 60 => some a60
  | 61 => some a61
  | 62 => some a62
  | 63 => some a63
  | 64 => some a64
  | 65 => some a65
  | 66 => some a66
  | 67 => some a67
  | 68 => some a68
  | 69 => some a69
  | 70 => some a70
  | 71 => some a71
  | 72 => some a72
  | 73 => some a73
  | 74 => some a74
  | 75 => some a75
  | 76 => some a76
  | 77 => some a77
  | 78 => some a78
  | 79 => some a79
  | 80 => some a80
  | 81 => some a81
  | 82 => some a82
  | 83 => some a83
  | 84 => some a84
  | 85 => some a85
  | 86 => some a86
  | 87 => some a87
  | 88 => some a88
  | 89 => some a89
  | 90 => some a90
  | 91 => some a91
  | 92 => some a92
  | 93 => some a93
  | 94 => some a94
  | 95 => some a95
  | 96 => some a96
  | 97 => some a97
  | 98 => some a98
  | 99 => some a99
  | 100 => some a100
  | 101 => some a101
  | 102 => some a102
  | 103 => some a103
  | 104 => some a104
  | 105 => some a105
  | 106 => some a106
  | 107 => some a107
  | 108 => some a108
  | 109 => some a109
  | 110 => some a110
  | 111 => some a111
  | 112 => some a112
  | 113 => some a113
  | 114 => some a114
  | 115 => some a115
  | 116 => some a116
  | 117 => some a117
  | 118 => some a118
  | 119 => some a119
  | 120 => some a120
  | 121 => some a121
  | 122 => some a122
  | 123 => some a123
  | 124 => some a124
  | 125 => some a125
  | 126 => some a126
  | 127 => some a127
  | 128 => some a128
  | 129 => some a129
  | 130 => some a130
  | 131 => some a131
  | 132 => some a132
  | 133 => some a133
  | 134 => some a134
  | 135 => some a135
  | 136 => some a136
  | 137 => some a137
  | 138 => some a138
  | 139 => some a139
  | 140 => some a140
  | 141 => some a141
  | 142 => some a142
  | 143 => some a143
  | 144 => some a144
  | 145 => some a145
  | 146 => some a146
  | 147 => some a147
  | 148 => some a148
  | 149 => some a149
  | 150 => some a150
  | 151 => some a151
  | 152 => some a152
  | _ => none
theorem prB_ok : ProgOK Try.prog prB := by
  intro f fn h
  unfold prB at h
  split at h
  · injection h with h; subst h; exact a52_ok
  · injection h with h; subst h; exact a53_ok
  · injection h with h; subst h; exact a54_ok
  · injection h with h; subst h; exact a55_ok
  · injection h with h; subst h; exact a56_ok
  · injection h with h; subst h; exact a57_ok
  · injection h with h; subst h; exact a58_ok
  · injection h with h; subst h; exact a59_ok
  · injection h with h; subst h; exact a60_ok
  · injection h with h; subst h; exact a61_ok
  · injection h with h; subst h; exact a62_ok
  · injection h with h; subst h; exact a63_ok
  · injection h with h; subst h; exact a64_ok
  · injection h with h; subst h; exact a65_ok
  · injection h with h; subst h; exact a66_ok
  · injection h with h; subst h; exact a67_ok
  · injection h with h; subst h; exact a68_ok
  · injection h with h; subst h; exact a69_ok
  · injection h with h; subst h; exact a70_ok
  · injection h with h; subst h; exact a71_ok
  · injection h with h; subst h; exact a72_ok
  · injection h with h; subst h; exact a73_ok
  · injection h with h; subst h; exact a74_ok
  · injection h with h; subst h; exact a75_ok
  · injection h with h; subst h; exact a76_ok
  · injection h with h; subst h; exact a77_ok
  · injection h with h; subst h; exact a78_ok
  · injection h with h; subst h; exact a79_ok
  · injection h with h; subst h; exact a80_ok
  · injection h with h; subst h; exact a81_ok
  · injection h with h; subst h; exact a82_ok
  · injection h with h; subst h; exact a83_ok
  · injection h with h; subst h; exact a84_ok
  · injection h with h; subst h; exact a85_ok
  · injection h with h; subst h; exact a86_ok
  · injection h with h; subst h; exact a87_ok
  · injection h with h; subst h; exact a88_ok
  · injection h with h; subst h; exact a89_ok
  · injection h with h; subst h; exact a90_ok
  · injection h with h; subst h; exact a91_ok
  · injection h with h; subst h; exact a92_ok
  · injection h with h; subst h; exact a93_ok
  · injection h with h; subst h; exact a94_ok
  · injection h with h; subst h; exact a95_ok
  · injection h with h; subst h; exact a96_ok
  · injection h with h; subst h; exact a97_ok
  · injection h with h; subst h; exact a98_ok
  · injection h with h; subst h; exact a99_ok
  · injection h with h; subst h; exact a100_ok
  · injection h with h; subst h; exact a101_ok
  · injection h with h; subst h; exact a102_ok
  · injection h with h; subst h; exact a103_ok
  · injection h with h; subst h; exact a104_ok
  · injection h with h; subst h; exact a105_ok
  · injection h with h; subst h; exact a106_ok
  · injection h with h; subst h; exact a107_ok
  · injection h with h; subst h; exact a108_ok
  · injection h with h; subst h; exact a109_ok
  · injection h with h; subst h; exact a110_ok
  · injection h with h; subst h; exact a111_ok
  · injection h with h; subst h; exact a112_ok
  · injection h with h; subst h; exact a113_ok
  · injection h with h; subst h; exact a114_ok
  · injection h with h; subst h; exact a115_ok
  · injection h with h; subst h; exact a116_ok
  · injection h with h; subst h; exact a117_ok
  · injection h with h; subst h; exact a118_ok
  · injection h with h; subst h; exact a119_ok
  · injection h with h; subst h; exact a120_ok
  · injection h with h; subst h; exact a121_ok
  · injection h with h; subst h; exact a122_ok
  · injection h with h; subst h; exact a123_ok
  · injection h with h; subst h; exact a124_ok
  · injection h with h; subst h; exact a125_ok
  · injection h with h; subst h; exact a126_ok
  · injection h with h; subst h; exact a127_ok
  · injection h with h; subst h; exact a128_ok
  · injection h with h; subst h; exact a129_ok
  · injection h with h; subst h; exact a130_ok
  · injection h with h; subst h; exact a131_ok
  · injection h with h; subst h; exact a132_ok
  · injection h with h; subst h; exact a133_ok
  · injection h with h; subst h; exact a134_ok
  · injection h with h; subst h; exact a135_ok
  · injection h with h; subst h; exact a136_ok
  · injection h with h; subst h; exact a137_ok
  · injection h with h; subst h; exact a138_ok
  · injection h with h; subst h; exact a139_ok
  · injection h with h; subst h; exact a140_ok
  · injection h with h; subst h; exact a141_ok
  · injection h with h; subst h; exact a142_ok
  · injection h with h; subst h; exact a143_ok
  · injection h with h; subst h; exact a144_ok
  · injection h with h; subst h; exact a145_ok
  · injection h with h; subst h; exact a146_ok
  · injection h with h; subst h; exact a147_ok
  · injection h with h; subst h; exact a148_ok
  · injection h with h; subst h; exact a149_ok
  · injection h with h; subst h; exact a150_ok
  · injection h with h; subst h; exact a151_ok
  · injection h with h; subst h; exact a152_ok
  · cases h
end Go.Proofs.Ytgmamngkkpadhaa.AM
