/- the functions' code in the abstract machine: printed by a program (wip/tools/genparts.py) out of the loaded program -/
import Derived.Test.YtoaidbmkfdpagaaAmD
import Derived.Test.YtoaidbmkfdpagaaProg
import Derived.KernelRfl
namespace Go.Proofs.Ytoaidbmkfdpagaa.AM
open Go
set_option maxRecDepth 100000
/-- loop.example/g01215/impl.pour -/
def a99 : AFn := { np := 3, nt := 58, res := [.cell 6 24 true, .t 7], body :=
  (.seq (.region [⟨some 3, none, .p (.box 24 (.t 0))⟩,
    ⟨some 6, none, .p (.alloc (List.replicate 24 (.k (C.int .i64 0))))⟩,
    ⟨some 7, none, .p (.mv (.k (.c (C.int .i64 0))))⟩] [1, 2, 3, 6])
  (.seq (.region [⟨some 14, none, .p (.mv (.t 1))⟩,
    ⟨some 15, none, .p (.fld 0 (.t 3))⟩,
    ⟨some 16, none, .p (.ixA 6 4 (.t 15) (.t 14))⟩,
    ⟨some 17, none, .h (.load 4 true (.t 16))⟩,
    ⟨some 18, none, .h (.call (.f 187) [.t 17])⟩,
    ⟨some 13, none, .p (.mv (.t 18))⟩,
    ⟨some 19, none, .p (.ext (.t 13) 0)⟩,
    ⟨some 20, none, .p (.ext (.t 13) 1)⟩,
    ⟨some 8, none, .p (.mv (.t 19))⟩,
    ⟨some 9, none, .p (.mv (.t 20))⟩] [1, 2, 3, 6, 8, 9])
  (.seq (.regionD [⟨some 21, none, .p (.mv (.t 1))⟩,
    ⟨some 22, none, .p (.fld 0 (.t 3))⟩,
    ⟨some 23, none, .p (.ixA 6 4 (.t 22) (.t 21))⟩,
    ⟨some 24, none, .h (.load 4 true (.t 23))⟩,
    ⟨some 25, none, .h (.call (.f 188) [.t 24])⟩,
    ⟨some 26, none, .p (.mv (.t 2))⟩,
    ⟨some 27, none, .p (.fld 0 (.t 3))⟩,
    ⟨some 28, none, .p (.ixA 6 4 (.t 27) (.t 26))⟩,
    ⟨some 29, none, .h (.load 4 true (.t 28))⟩,
    ⟨some 30, none, .h (.call (.f 188) [.t 29])⟩,
    ⟨some 10, none, .p (.mv (.t 25))⟩,
    ⟨some 11, none, .p (.mv (.t 30))⟩] [1, 2, 3, 6, 8, 9, 10, 11] [])
  (.seq (.region [⟨some 31, none, .p (.mv (.t 9))⟩,
    ⟨some 32, none, .p (.mv (.t 11))⟩,
    ⟨some 33, none, .p (.bin .sub (.k (.c (C.int .i64 4))) (.t 32))⟩,
    ⟨some 34, none, .p (.mnmx false [.t 31, .t 33])⟩,
    ⟨some 9, none, .p (.mv (.t 34))⟩] [1, 2, 3, 6, 8, 9, 10, 11])
  (.seq (.seq (.region [⟨some 35, none, .p (.mv (.t 9))⟩,
    ⟨some 36, none, .p (.mv (.k (.c (C.int .i64 0))))⟩] [1, 2, 3, 6, 8, 9, 10, 11, 35, 36])
  (.block 0 (.loop (.seq (.region [⟨some 37, none, .p (.bin .lss (.t 36) (.t 35))⟩] [1, 2, 3, 6, 8, 9, 10, 11, 35, 36, 37])
  (.seq (.cond (.t 37)
  .skip
  (.exit 0))
  (.seq (.block 1 (.seq (.region [⟨some 38, none, .p (.mv (.t 36))⟩,
    ⟨some 12, none, .p (.mv (.t 38))⟩] [1, 2, 3, 6, 8, 9, 10, 11, 12, 35, 36])
  (.seq (.region [⟨some 39, none, .p (.mv (.t 1))⟩,
    ⟨some 40, none, .p (.mv (.t 10))⟩,
    ⟨some 41, none, .p (.bin .sub (.t 40) (.k (.c (C.int .i64 1))))⟩,
    ⟨some 42, none, .p (.mv (.t 12))⟩,
    ⟨some 43, none, .p (.bin .sub (.t 41) (.t 42))⟩,
    ⟨some 44, none, .p (.fld 0 (.t 3))⟩,
    ⟨some 45, none, .p (.ixA 6 4 (.t 44) (.t 39))⟩,
    ⟨some 46, none, .p (.ixA 4 1 (.t 45) (.t 43))⟩,
    ⟨none, none, .h (.store 1 (.t 46) (.k (.c (C.int .i64 0))))⟩] [1, 2, 3, 6, 8, 9, 10, 11, 12, 35, 36])
  (.region [⟨some 47, none, .p (.mv (.t 2))⟩,
    ⟨some 48, none, .p (.mv (.t 11))⟩,
    ⟨some 49, none, .p (.mv (.t 12))⟩,
    ⟨some 50, none, .p (.bin .add (.t 48) (.t 49))⟩,
    ⟨some 51, none, .p (.mv (.t 8))⟩,
    ⟨some 52, none, .p (.fld 0 (.t 3))⟩,
    ⟨some 53, none, .p (.ixA 6 4 (.t 52) (.t 47))⟩,
    ⟨some 54, none, .p (.ixA 4 1 (.t 53) (.t 50))⟩,
    ⟨none, none, .h (.store 1 (.t 54) (.t 51))⟩] [1, 2, 3, 6, 8, 9, 10, 11, 35, 36]))))
  (.region [⟨some 55, none, .p (.bin .add (.t 36) (.k (.c (C.int .i64 1))))⟩,
    ⟨some 36, none, .p (.mv (.t 55))⟩] [1, 2, 3, 6, 8, 9, 10, 11, 35, 36])))) [1, 2, 3, 6, 8, 9, 10, 11, 35, 36])))
  (.seq (.region [⟨some 56, none, .h (.load 24 true (.t 3))⟩,
    ⟨some 57, none, .p (.mv (.t 9))⟩,
    ⟨none, none, .h (.store 24 (.t 6) (.t 56))⟩,
    ⟨some 7, none, .p (.mv (.t 57))⟩] [6, 7])
  .ret)))))) }
theorem a99_ok : okFn Try.prog 99 a99 = true := by kernel_rfl
/-- (*loop.example/g01215/spec.l1Cur).deal9 -/
def a100 : AFn := { np := 1, nt := 40, res := [.cell 2 6 true, .cell 3 6 true], body :=
  (.seq (.region [⟨some 2, none, .p (.alloc [.k (C.int .i64 0), .k (C.int .i64 0), .k (C.int .i64 0), .k (C.int .i64 0), .k (C.int .i64 0), .k (C.int .i64 0)])⟩,
    ⟨some 3, none, .p (.alloc [.k (C.int .i64 0), .k (C.int .i64 0), .k (C.int .i64 0), .k (C.int .i64 0), .k (C.int .i64 0), .k (C.int .i64 0)])⟩] [0, 2, 3])
  (.seq (.region [⟨some 8, none, .p (.build [.k (C.int .i64 0), .k (C.int .i64 0), .k (C.int .i64 0), .k (C.int .i64 0), .k (C.int .i64 0), .k (C.int .i64 0)] [])⟩,
    ⟨some 9, none, .p (.build [.k (C.int .i64 0), .k (C.int .i64 0), .k (C.int .i64 0), .k (C.int .i64 0), .k (C.int .i64 0), .k (C.int .i64 0)] [])⟩,
    ⟨some 4, none, .p (.alloc [.k (C.int .i64 0), .k (C.int .i64 0), .k (C.int .i64 0), .k (C.int .i64 0), .k (C.int .i64 0), .k (C.int .i64 0)])⟩,
    ⟨some 5, none, .p (.alloc [.k (C.int .i64 0), .k (C.int .i64 0), .k (C.int .i64 0), .k (C.int .i64 0), .k (C.int .i64 0), .k (C.int .i64 0)])⟩,
    ⟨none, none, .h (.store 6 (.t 4) (.t 8))⟩,
    ⟨none, none, .h (.store 6 (.t 5) (.t 9))⟩] [0, 2, 3, 4, 5])
  (.seq (.seq (.region [⟨some 10, none, .p (.mv (.t 0))⟩,
    ⟨some 11, none, .h (.call (.f 159) [.t 10])⟩,
    ⟨some 6, none, .p (.alloc (List.replicate 24 (.k (C.int .i64 0))))⟩,
    ⟨none, none, .h (.store 24 (.t 6) (.t 11))⟩] [0, 2, 3, 4, 5, 6])
  (.seq (.region [⟨some 12, none, .h (.load 24 true (.t 6))⟩,
    ⟨some 13, none, .h (.call (.f 141) [.t 12])⟩] [0, 2, 3, 4, 5, 6, 13])
  (.cond (.t 13)
  (.seq (.region [⟨some 14, none, .h (.load 24 true (.t 6))⟩,
    ⟨some 15, none, .h (.call (.f 189) [.t 14])⟩,
    ⟨some 7, none, .p (.alloc (List.replicate 18 (.k (C.int .i64 0))))⟩,
    ⟨none, none, .h (.store 18 (.t 7) (.t 15))⟩] [0, 2, 3, 4, 5, 7])
  (.seq (.region [⟨some 16, none, .p (.fld 6 (.t 7))⟩,
    ⟨some 17, none, .h (.load 6 true (.t 16))⟩,
    ⟨none, none, .h (.store 6 (.t 4) (.t 17))⟩] [0, 2, 3, 4, 5, 7])
  (.region [⟨some 18, none, .p (.fld 12 (.t 7))⟩,
    ⟨some 19, none, .h (.load 6 true (.t 18))⟩,
    ⟨none, none, .h (.store 6 (.t 5) (.t 19))⟩] [0, 2, 3, 4, 5])))
  .skip)))
  (.seq (.seq (.region [⟨some 20, none, .p (.mv (.t 0))⟩,
    ⟨some 21, none, .h (.call (.f 165) [.t 20, .k (.c (C.int .i64 30))])⟩] [0, 2, 3, 4, 5, 21])
  (.block 0 (.seq (.region [⟨some 23, none, .p (.bin .eql (.t 21) (.k (.c (C.int .i64 0))))⟩,
    ⟨some 22, none, .p (.mv (.t 23))⟩] [0, 2, 3, 4, 5, 21, 22])
  (.cond (.t 22)
  (.region [⟨some 24, none, .p (.mv (.t 0))⟩,
    ⟨some 25, none, .h (.call (.f 165) [.t 24, .k (.c (C.int .i64 6))])⟩,
    ⟨some 26, none, .p (.mv (.t 0))⟩,
    ⟨some 27, none, .p (.mksl 1 4 [.k (C.int .i64 0)] [(0, 1, .k (.c (C.int .i64 (-1)))), (1, 1, .k (.c (C.int .i64 5))), (2, 1, .k (.c (C.int .i64 1))), (3, 1, .k (.c (C.int .i64 4611686018427387904)))])⟩,
    ⟨some 28, none, .h (.call (.f 181) [.t 26, .t 27])⟩,
    ⟨some 29, none, .p (.ixA 6 1 (.t 4) (.t 25))⟩,
    ⟨none, none, .h (.store 1 (.t 29) (.t 28))⟩] [2, 3, 4, 5])
  (.seq (.region [⟨some 31, none, .p (.bin .eql (.t 21) (.k (.c (C.int .i64 1))))⟩,
    ⟨some 30, none, .p (.mv (.t 31))⟩] [0, 2, 3, 4, 5, 30])
  (.cond (.t 30)
  (.region [⟨some 32, none, .p (.mv (.t 0))⟩,
    ⟨some 33, none, .h (.call (.f 165) [.t 32, .k (.c (C.int .i64 6))])⟩,
    ⟨some 34, none, .p (.mv (.t 0))⟩,
    ⟨some 35, none, .p (.mksl 1 4 [.k (C.int .i64 0)] [(0, 1, .k (.c (C.int .i64 (-1)))), (1, 1, .k (.c (C.int .i64 25))), (2, 1, .k (.c (C.int .i64 1))), (3, 1, .k (.c (C.int .i64 4611686018427387904)))])⟩,
    ⟨some 36, none, .h (.call (.f 181) [.t 34, .t 35])⟩,
    ⟨some 37, none, .p (.ixA 6 1 (.t 5) (.t 33))⟩,
    ⟨none, none, .h (.store 1 (.t 37) (.t 36))⟩] [2, 3, 4, 5])
  .skip))))))
  (.seq (.regionD [⟨some 38, none, .h (.load 6 true (.t 4))⟩,
    ⟨some 39, none, .h (.load 6 true (.t 5))⟩,
    ⟨none, none, .h (.store 6 (.t 2) (.t 38))⟩,
    ⟨none, none, .h (.store 6 (.t 3) (.t 39))⟩] [2, 3] [(.t 5, .t 2)])
  .ret))))) }
theorem a100_ok : okFn Try.prog 100 a100 = true := by kernel_rfl
/-- loop.example/g01215/impl.isDeal -/
def a101 : AFn := { np := 2, nt := 23, res := [.t 4], body :=
  (.seq (.region [⟨some 2, none, .p (.box 6 (.t 0))⟩,
    ⟨some 3, none, .p (.box 6 (.t 1))⟩,
    ⟨some 4, none, .p (.mv (.k (.c (C.bool false))))⟩] [2, 3])
  (.seq (.regionD [⟨some 5, none, .p (.ixA 6 1 (.t 3) (.k (.c (C.int .i64 0))))⟩,
    ⟨some 6, none, .h (.load 1 false (.t 5))⟩,
    ⟨some 7, none, .p (.bin .eql (.t 6) (.k (.c (C.int .i64 0))))⟩,
    ⟨some 8, none, .p (.mv (.t 7))⟩,
    ⟨some 9, some (8, true), .h (.slA 6 1 (.t 2) none none)⟩,
    ⟨some 10, some (8, true), .h (.call (.f 190) [.t 9, .f 191])⟩,
    ⟨some 11, none, .p (.pick (.t 8) (.t 10) (.k (.c (C.bool false))))⟩,
    ⟨some 12, none, .p (.mv (.t 11))⟩,
    ⟨some 13, some (12, true), .h (.slA 6 1 (.t 3) none none)⟩,
    ⟨some 14, some (12, true), .h (.call (.f 190) [.t 13, .f 192])⟩,
    ⟨some 15, none, .p (.pick (.t 12) (.t 14) (.k (.c (C.bool false))))⟩,
    ⟨some 16, none, .p (.mv (.t 15))⟩,
    ⟨some 17, some (16, true), .h (.slA 6 1 (.t 2) none none)⟩,
    ⟨some 18, some (16, true), .h (.call (.f 117) [.t 17])⟩,
    ⟨some 19, some (16, true), .h (.slA 6 1 (.t 3) none none)⟩,
    ⟨some 20, some (16, true), .h (.call (.f 117) [.t 19])⟩,
    ⟨some 21, some (16, true), .p (.bin .eql (.t 18) (.t 20))⟩,
    ⟨some 22, none, .p (.pick (.t 16) (.t 21) (.k (.c (C.bool false))))⟩,
    ⟨some 4, none, .p (.mv (.t 22))⟩] [4] [])
  .ret)) }
theorem a101_ok : okFn Try.prog 101 a101 = true := by kernel_rfl
/-- loop.example/g01215/impl.pairs -/
def a102 : AFn := { np := 1, nt := 26, res := [.t 2, .t 3], body :=
  (.seq (.region [⟨some 1, none, .p (.box 6 (.t 0))⟩,
    ⟨some 2, none, .p (.mv (.k (.c (C.int .i64 0))))⟩,
    ⟨some 3, none, .p (.mv (.k (.c (C.int .i64 0))))⟩] [1])
  (.seq (.region [⟨some 8, none, .h (.slA 6 1 (.t 1) none none)⟩,
    ⟨some 9, none, .h (.call (.f 117) [.t 8])⟩,
    ⟨some 4, none, .p (.mv (.t 9))⟩] [1, 4])
  (.seq (.region [⟨some 5, none, .p (.mv (.k (.c (C.int .i64 0))))⟩] [1, 4, 5])
  (.seq (.seq (.region [⟨some 10, none, .h (.load 6 true (.t 1))⟩,
    ⟨some 11, none, .p (.mv (.k (.c (C.int .i64 0))))⟩] [4, 5, 10, 11])
  (.block 0 (.loop (.seq (.region [⟨some 12, none, .p (.bin .lss (.t 11) (.k (.c (C.int .i64 6))))⟩] [4, 5, 10, 11, 12])
  (.seq (.cond (.t 12)
  .skip
  (.exit 0))
  (.seq (.block 1 (.seq (.region [⟨some 13, none, .p (.ixV 6 1 false (.t 10) (.t 11))⟩,
    ⟨some 7, none, .p (.mv (.t 13))⟩] [4, 5, 7, 10, 11])
  (.region [⟨some 14, none, .p (.mv (.t 5))⟩,
    ⟨some 15, none, .p (.mv (.t 7))⟩,
    ⟨some 16, none, .p (.mv (.t 7))⟩,
    ⟨some 17, none, .p (.bin .sub (.t 16) (.k (.c (C.int .i64 1))))⟩,
    ⟨some 18, none, .p (.bin .mul (.t 15) (.t 17))⟩,
    ⟨some 19, none, .p (.bin .add (.t 14) (.t 18))⟩,
    ⟨some 5, none, .p (.mv (.t 19))⟩] [4, 5, 10, 11])))
  (.region [⟨some 20, none, .p (.bin .add (.t 11) (.k (.c (C.int .i64 1))))⟩,
    ⟨some 11, none, .p (.mv (.t 20))⟩] [4, 5, 10, 11])))) [4, 5, 10, 11])))
  (.seq (.region [⟨some 21, none, .p (.mv (.t 5))⟩,
    ⟨some 22, none, .p (.mv (.t 4))⟩,
    ⟨some 23, none, .p (.mv (.t 4))⟩,
    ⟨some 24, none, .p (.bin .sub (.t 23) (.k (.c (C.int .i64 1))))⟩,
    ⟨some 25, none, .p (.bin .mul (.t 22) (.t 24))⟩,
    ⟨some 2, none, .p (.mv (.t 21))⟩,
    ⟨some 3, none, .p (.mv (.t 25))⟩] [2, 3])
  .ret))))) }
theorem a102_ok : okFn Try.prog 102 a102 = true := by kernel_rfl
/-- loop.example/g01215/impl.plus -/
def a103 : AFn := { np := 2, nt := 22, res := [.cell 4 2 true], body :=
  (.seq (.region [⟨some 2, none, .p (.box 2 (.t 0))⟩,
    ⟨some 3, none, .p (.box 2 (.t 1))⟩,
    ⟨some 4, none, .p (.alloc [.k (C.int .i64 0), .k (C.int .i64 0)])⟩] [2, 3, 4])
  (.seq (.region [⟨some 5, none, .p (.ixA 2 1 (.t 2) (.k (.c (C.int .i64 0))))⟩,
    ⟨some 6, none, .h (.load 1 false (.t 5))⟩,
    ⟨some 7, none, .p (.ixA 2 1 (.t 3) (.k (.c (C.int .i64 1))))⟩,
    ⟨some 8, none, .h (.load 1 false (.t 7))⟩,
    ⟨some 9, none, .p (.bin .mul (.t 6) (.t 8))⟩,
    ⟨some 10, none, .p (.ixA 2 1 (.t 3) (.k (.c (C.int .i64 0))))⟩,
    ⟨some 11, none, .h (.load 1 false (.t 10))⟩,
    ⟨some 12, none, .p (.ixA 2 1 (.t 2) (.k (.c (C.int .i64 1))))⟩,
    ⟨some 13, none, .h (.load 1 false (.t 12))⟩,
    ⟨some 14, none, .p (.bin .mul (.t 11) (.t 13))⟩,
    ⟨some 15, none, .p (.bin .add (.t 9) (.t 14))⟩,
    ⟨some 16, none, .p (.ixA 2 1 (.t 2) (.k (.c (C.int .i64 1))))⟩,
    ⟨some 17, none, .h (.load 1 false (.t 16))⟩,
    ⟨some 18, none, .p (.ixA 2 1 (.t 3) (.k (.c (C.int .i64 1))))⟩,
    ⟨some 19, none, .h (.load 1 false (.t 18))⟩,
    ⟨some 20, none, .p (.bin .mul (.t 17) (.t 19))⟩,
    ⟨some 21, none, .h (.call (.f 104) [.t 15, .t 20])⟩,
    ⟨none, none, .h (.store 2 (.t 4) (.t 21))⟩] [4])
  .ret)) }
theorem a103_ok : okFn Try.prog 103 a103 = true := by kernel_rfl
/-- loop.example/g01215/impl.fraction -/
def a104 : AFn := { np := 2, nt := 16, res := [.cell 4 2 true], body :=
  (.seq (.region [⟨some 4, none, .p (.alloc [.k (C.int .i64 0), .k (C.int .i64 0)])⟩] [0, 1, 4])
  (.seq (.region [⟨some 6, none, .p (.mv (.t 0))⟩,
    ⟨some 7, none, .p (.mv (.t 1))⟩,
    ⟨some 8, none, .h (.call (.f 193) [.t 6, .t 7])⟩,
    ⟨some 5, none, .p (.mv (.t 8))⟩] [0, 1, 4, 5])
  (.seq (.regionD [⟨some 9, none, .p (.mv (.t 0))⟩,
    ⟨some 10, none, .p (.mv (.t 5))⟩,
    ⟨some 11, none, .p (.bin .quo (.t 9) (.t 10))⟩,
    ⟨some 12, none, .p (.mv (.t 1))⟩,
    ⟨some 13, none, .p (.mv (.t 5))⟩,
    ⟨some 14, none, .p (.bin .quo (.t 12) (.t 13))⟩,
    ⟨some 15, none, .p (.build [.k (C.int .i64 0), .k (C.int .i64 0)] [(0, 1, .t 11), (1, 1, .t 14)])⟩,
    ⟨none, none, .h (.store 2 (.t 4) (.t 15))⟩] [4] [])
  .ret))) }
theorem a104_ok : okFn Try.prog 104 a104 = true := by kernel_rfl
/-- loop.example/g01215/spec.l9Deal -/
def a105 : AFn := { np := 2, nt := 47, res := [.t 4, .t 5], body :=
  (.seq (.region [⟨some 2, none, .p (.box 6 (.t 0))⟩,
    ⟨some 3, none, .p (.box 6 (.t 1))⟩,
    ⟨some 4, none, .p (.mv (.k (.c (C.int .i64 0))))⟩,
    ⟨some 5, none, .p (.mv (.k (.c (C.bool false))))⟩] [2, 3])
  (.seq (.region [⟨some 6, none, .p (.mv (.k (.c (C.int .i64 0))))⟩,
    ⟨some 7, none, .p (.mv (.k (.c (C.int .i64 0))))⟩] [2, 3, 6, 7])
  (.seq (.seq (.region [⟨some 8, none, .p (.mv (.k (.c (C.int .i64 0))))⟩] [2, 3, 6, 7, 8])
  (.block 0 (.loop (.seq (.seq (.region [⟨some 10, none, .p (.mv (.t 8))⟩,
    ⟨some 11, none, .p (.bin .lss (.t 10) (.k (.c (C.int .i64 6))))⟩] [2, 3, 6, 7, 8, 11])
  (.cond (.t 11)
  .skip
  (.exit 0)))
  (.seq (.block 1 (.seq (.seq (.region [⟨some 14, none, .p (.mv (.t 8))⟩,
    ⟨some 15, none, .p (.ixA 6 1 (.t 2) (.t 14))⟩,
    ⟨some 16, none, .h (.load 1 false (.t 15))⟩,
    ⟨some 17, none, .h (.call (.f 119) [.t 16, .k (.c (C.int .i64 0)), .k (.c (C.int .i64 4))])⟩,
    ⟨some 18, none, .p (.un .not (.t 17))⟩] [2, 3, 6, 7, 8, 18])
  (.cond (.t 18)
  (.seq (.region [⟨some 4, none, .p (.mv (.k (.c (C.int .i64 0))))⟩,
    ⟨some 5, none, .p (.mv (.k (.c (C.bool false))))⟩] [4, 5])
  .ret)
  .skip))
  (.region [⟨some 19, none, .p (.mv (.t 6))⟩,
    ⟨some 20, none, .p (.mv (.t 8))⟩,
    ⟨some 21, none, .p (.ixA 6 1 (.t 2) (.t 20))⟩,
    ⟨some 22, none, .h (.load 1 false (.t 21))⟩,
    ⟨some 23, none, .p (.bin .add (.t 19) (.t 22))⟩,
    ⟨some 6, none, .p (.mv (.t 23))⟩] [2, 3, 6, 7, 8])))
  (.region [⟨some 12, none, .p (.mv (.t 8))⟩,
    ⟨some 13, none, .p (.bin .add (.t 12) (.k (.c (C.int .i64 1))))⟩,
    ⟨some 8, none, .p (.mv (.t 13))⟩] [2, 3, 6, 7, 8]))) [2, 3, 6, 7, 8])))
  (.seq (.seq (.region [⟨some 9, none, .p (.mv (.k (.c (C.int .i64 1))))⟩] [3, 6, 7, 9])
  (.block 2 (.loop (.seq (.seq (.region [⟨some 24, none, .p (.mv (.t 9))⟩,
    ⟨some 25, none, .p (.bin .leq (.t 24) (.k (.c (C.int .i64 5))))⟩] [3, 6, 7, 9, 25])
  (.cond (.t 25)
  .skip
  (.exit 2)))
  (.seq (.block 3 (.seq (.seq (.region [⟨some 28, none, .p (.mv (.t 9))⟩,
    ⟨some 29, none, .p (.ixA 6 1 (.t 3) (.t 28))⟩,
    ⟨some 30, none, .h (.load 1 false (.t 29))⟩,
    ⟨some 31, none, .h (.call (.f 119) [.t 30, .k (.c (C.int .i64 0)), .k (.c (C.int .i64 24))])⟩,
    ⟨some 32, none, .p (.un .not (.t 31))⟩] [3, 6, 7, 9, 32])
  (.cond (.t 32)
  (.seq (.region [⟨some 4, none, .p (.mv (.k (.c (C.int .i64 0))))⟩,
    ⟨some 5, none, .p (.mv (.k (.c (C.bool false))))⟩] [4, 5])
  .ret)
  .skip))
  (.region [⟨some 33, none, .p (.mv (.t 7))⟩,
    ⟨some 34, none, .p (.mv (.t 9))⟩,
    ⟨some 35, none, .p (.ixA 6 1 (.t 3) (.t 34))⟩,
    ⟨some 36, none, .h (.load 1 false (.t 35))⟩,
    ⟨some 37, none, .p (.bin .add (.t 33) (.t 36))⟩,
    ⟨some 7, none, .p (.mv (.t 37))⟩] [3, 6, 7, 9])))
  (.region [⟨some 26, none, .p (.mv (.t 9))⟩,
    ⟨some 27, none, .p (.bin .add (.t 26) (.k (.c (C.int .i64 1))))⟩,
    ⟨some 9, none, .p (.mv (.t 27))⟩] [3, 6, 7, 9]))) [3, 6, 7, 9])))
  (.seq (.region [⟨some 38, none, .p (.mv (.t 6))⟩,
    ⟨some 39, none, .p (.ixA 6 1 (.t 3) (.k (.c (C.int .i64 0))))⟩,
    ⟨some 40, none, .h (.load 1 false (.t 39))⟩,
    ⟨some 41, none, .p (.bin .eql (.t 40) (.k (.c (C.int .i64 0))))⟩,
    ⟨some 42, none, .p (.mv (.t 41))⟩,
    ⟨some 43, some (42, true), .p (.mv (.t 6))⟩,
    ⟨some 44, some (42, true), .p (.mv (.t 7))⟩,
    ⟨some 45, some (42, true), .p (.bin .eql (.t 43) (.t 44))⟩,
    ⟨some 46, none, .p (.pick (.t 42) (.t 45) (.k (.c (C.bool false))))⟩,
    ⟨some 4, none, .p (.mv (.t 38))⟩,
    ⟨some 5, none, .p (.mv (.t 46))⟩] [4, 5])
  .ret))))) }
theorem a105_ok : okFn Try.prog 105 a105 = true := by kernel_rfl
/-- loop.example/g01215/spec.l7Plus -/
def a106 : AFn := { np := 2, nt := 22, res := [.cell 4 2 true], body :=
  (.seq (.region [⟨some 2, none, .p (.box 2 (.t 0))⟩,
    ⟨some 3, none, .p (.box 2 (.t 1))⟩,
    ⟨some 4, none, .p (.alloc [.k (C.int .i64 0), .k (C.int .i64 0)])⟩] [2, 3, 4])
  (.seq (.region [⟨some 5, none, .p (.ixA 2 1 (.t 2) (.k (.c (C.int .i64 0))))⟩,
    ⟨some 6, none, .h (.load 1 false (.t 5))⟩,
    ⟨some 7, none, .p (.ixA 2 1 (.t 3) (.k (.c (C.int .i64 1))))⟩,
    ⟨some 8, none, .h (.load 1 false (.t 7))⟩,
    ⟨some 9, none, .p (.bin .mul (.t 6) (.t 8))⟩,
    ⟨some 10, none, .p (.ixA 2 1 (.t 3) (.k (.c (C.int .i64 0))))⟩,
    ⟨some 11, none, .h (.load 1 false (.t 10))⟩,
    ⟨some 12, none, .p (.ixA 2 1 (.t 2) (.k (.c (C.int .i64 1))))⟩,
    ⟨some 13, none, .h (.load 1 false (.t 12))⟩,
    ⟨some 14, none, .p (.bin .mul (.t 11) (.t 13))⟩,
    ⟨some 15, none, .p (.bin .add (.t 9) (.t 14))⟩,
    ⟨some 16, none, .p (.ixA 2 1 (.t 2) (.k (.c (C.int .i64 1))))⟩,
    ⟨some 17, none, .h (.load 1 false (.t 16))⟩,
    ⟨some 18, none, .p (.ixA 2 1 (.t 3) (.k (.c (C.int .i64 1))))⟩,
    ⟨some 19, none, .h (.load 1 false (.t 18))⟩,
    ⟨some 20, none, .p (.bin .mul (.t 17) (.t 19))⟩,
    ⟨some 21, none, .h (.call (.f 107) [.t 15, .t 20])⟩,
    ⟨none, none, .h (.store 2 (.t 4) (.t 21))⟩] [4])
  .ret)) }
theorem a106_ok : okFn Try.prog 106 a106 = true := by kernel_rfl
/-- loop.example/g01215/spec.l7Cut -/
def a107 : AFn := { np := 2, nt := 24, res := [.cell 4 2 true], body :=
  (.seq (.region [⟨some 4, none, .p (.alloc [.k (C.int .i64 0), .k (C.int .i64 0)])⟩] [0, 1, 4])
  (.seq (.region [⟨some 7, none, .p (.mv (.t 0))⟩,
    ⟨some 8, none, .p (.mv (.t 1))⟩,
    ⟨some 5, none, .p (.mv (.t 7))⟩,
    ⟨some 6, none, .p (.mv (.t 8))⟩] [0, 1, 4, 5, 6])
  (.seq (.block 0 (.loop (.seq (.seq (.region [⟨some 9, none, .p (.mv (.t 6))⟩,
    ⟨some 10, none, .p (.bin .gtr (.t 9) (.k (.c (C.int .i64 0))))⟩] [0, 1, 4, 5, 6, 10])
  (.cond (.t 10)
  .skip
  (.exit 0)))
  (.block 1 (.regionD [⟨some 11, none, .p (.mv (.t 6))⟩,
    ⟨some 12, none, .p (.mv (.t 5))⟩,
    ⟨some 13, none, .p (.mv (.t 6))⟩,
    ⟨some 14, none, .p (.bin .rem (.t 12) (.t 13))⟩,
    ⟨some 5, none, .p (.mv (.t 11))⟩,
    ⟨some 6, none, .p (.mv (.t 14))⟩] [0, 1, 4, 5, 6] []))) [0, 1, 4, 5, 6]))
  (.seq (.regionD [⟨some 15, none, .p (.mv (.t 0))⟩,
    ⟨some 16, none, .p (.mv (.t 5))⟩,
    ⟨some 17, none, .h (.call (.f 194) [.t 16, .k (.c (C.int .i64 1))])⟩,
    ⟨some 18, none, .p (.bin .quo (.t 15) (.t 17))⟩,
    ⟨some 19, none, .p (.mv (.t 1))⟩,
    ⟨some 20, none, .p (.mv (.t 5))⟩,
    ⟨some 21, none, .h (.call (.f 194) [.t 20, .k (.c (C.int .i64 1))])⟩,
    ⟨some 22, none, .p (.bin .quo (.t 19) (.t 21))⟩,
    ⟨some 23, none, .p (.build [.k (C.int .i64 0), .k (C.int .i64 0)] [(0, 1, .t 18), (1, 1, .t 22)])⟩,
    ⟨none, none, .h (.store 2 (.t 4) (.t 23))⟩] [4] [])
  .ret)))) }
theorem a107_ok : okFn Try.prog 107 a107 = true := by kernel_rfl
/-- loop.example/g01215/spec.l9Pairs -/
def a108 : AFn := { np := 1, nt := 20, res := [.t 2], body :=
  (.seq (.region [⟨some 1, none, .p (.box 6 (.t 0))⟩,
    ⟨some 2, none, .p (.mv (.k (.c (C.int .i64 0))))⟩] [1])
  (.seq (.region [⟨some 3, none, .p (.mv (.k (.c (C.int .i64 0))))⟩] [1, 3])
  (.seq (.seq (.region [⟨some 4, none, .p (.mv (.k (.c (C.int .i64 1))))⟩] [1, 3, 4])
  (.block 0 (.loop (.seq (.seq (.region [⟨some 5, none, .p (.mv (.t 4))⟩,
    ⟨some 6, none, .p (.bin .leq (.t 5) (.k (.c (C.int .i64 5))))⟩] [1, 3, 4, 6])
  (.cond (.t 6)
  .skip
  (.exit 0)))
  (.seq (.block 1 (.regionD [⟨some 9, none, .p (.mv (.t 3))⟩,
    ⟨some 10, none, .p (.mv (.t 4))⟩,
    ⟨some 11, none, .p (.ixA 6 1 (.t 1) (.t 10))⟩,
    ⟨some 12, none, .h (.load 1 false (.t 11))⟩,
    ⟨some 13, none, .p (.mv (.t 4))⟩,
    ⟨some 14, none, .p (.ixA 6 1 (.t 1) (.t 13))⟩,
    ⟨some 15, none, .h (.load 1 false (.t 14))⟩,
    ⟨some 16, none, .p (.bin .sub (.t 15) (.k (.c (C.int .i64 1))))⟩,
    ⟨some 17, none, .p (.bin .mul (.t 12) (.t 16))⟩,
    ⟨some 18, none, .p (.bin .add (.t 9) (.t 17))⟩,
    ⟨some 3, none, .p (.mv (.t 18))⟩] [1, 3, 4] []))
  (.region [⟨some 7, none, .p (.mv (.t 4))⟩,
    ⟨some 8, none, .p (.bin .add (.t 7) (.k (.c (C.int .i64 1))))⟩,
    ⟨some 4, none, .p (.mv (.t 8))⟩] [1, 3, 4]))) [1, 3, 4])))
  (.seq (.region [⟨some 19, none, .p (.mv (.t 3))⟩,
    ⟨some 2, none, .p (.mv (.t 19))⟩] [2])
  .ret)))) }
theorem a108_ok : okFn Try.prog 108 a108 = true := by kernel_rfl
/-- loop.example/g01215/impl.plain -/
def a109 : AFn := { np := 2, nt := 47, res := [.t 4], body :=
  (.seq (.region [⟨some 3, none, .p (.box 6 (.t 1))⟩,
    ⟨some 4, none, .p (.mv (.k (.c (C.int .i64 0))))⟩] [0, 3])
  (.seq (.seq (.region [⟨some 9, none, .p (.mv (.t 0))⟩,
    ⟨some 10, none, .p (.len (.t 9))⟩,
    ⟨some 11, none, .p (.bin .eql (.t 10) (.k (.c (C.int .i64 0))))⟩] [0, 3, 11])
  (.cond (.t 11)
  (.seq (.region [⟨some 4, none, .p (.mv (.k (.c (C.int .i64 1))))⟩] [4])
  .ret)
  .skip))
  (.seq (.seq (.region [⟨some 12, none, .p (.mv (.t 0))⟩,
    ⟨some 13, none, .p (.ixS 1 (.t 12) (.k (.c (C.int .i64 0))))⟩,
    ⟨some 14, none, .h (.load 1 false (.t 13))⟩,
    ⟨some 15, none, .p (.bin .eql (.t 14) (.k (.c (C.int .i64 0))))⟩] [0, 3, 15])
  (.cond (.t 15)
  (.seq (.regionD [⟨some 16, none, .p (.mv (.t 0))⟩,
    ⟨some 17, none, .p (.slS 1 (.t 16) (some (.k (.c (C.int .i64 1)))) none)⟩,
    ⟨some 18, none, .h (.load 6 true (.t 3))⟩,
    ⟨some 19, none, .h (.call (.f 109) [.t 17, .t 18])⟩,
    ⟨some 4, none, .p (.mv (.t 19))⟩] [4] [])
  .ret)
  .skip))
  (.seq (.region [⟨some 5, none, .p (.mv (.k (.c (C.int .i64 0))))⟩] [0, 3, 5])
  (.seq (.seq (.region [⟨some 20, none, .h (.load 6 true (.t 3))⟩,
    ⟨some 21, none, .p (.mv (.k (.c (C.int .i64 0))))⟩] [0, 3, 5, 20, 21])
  (.block 0 (.loop (.seq (.region [⟨some 22, none, .p (.bin .lss (.t 21) (.k (.c (C.int .i64 6))))⟩] [0, 3, 5, 20, 21, 22])
  (.seq (.cond (.t 22)
  .skip
  (.exit 0))
  (.seq (.block 1 (.seq (.region [⟨some 23, none, .p (.mv (.t 21))⟩,
    ⟨some 24, none, .p (.ixV 6 1 false (.t 20) (.t 21))⟩,
    ⟨some 6, none, .p (.mv (.t 23))⟩,
    ⟨some 7, none, .p (.mv (.t 24))⟩] [0, 3, 5, 6, 7, 20, 21])
  (.seq (.region [⟨some 25, none, .p (.mv (.t 7))⟩,
    ⟨some 26, none, .p (.mv (.t 0))⟩,
    ⟨some 27, none, .p (.ixS 1 (.t 26) (.k (.c (C.int .i64 0))))⟩,
    ⟨some 28, none, .h (.load 1 false (.t 27))⟩,
    ⟨some 29, none, .p (.bin .geq (.t 25) (.t 28))⟩] [0, 3, 5, 6, 20, 21, 29])
  (.cond (.t 29)
  (.seq (.region [⟨some 30, none, .h (.load 6 true (.t 3))⟩,
    ⟨some 8, none, .p (.alloc [.k (C.int .i64 0), .k (C.int .i64 0), .k (C.int .i64 0), .k (C.int .i64 0), .k (C.int .i64 0), .k (C.int .i64 0)])⟩,
    ⟨none, none, .h (.store 6 (.t 8) (.t 30))⟩] [0, 3, 5, 6, 8, 20, 21])
  (.seq (.regionD [⟨some 31, none, .p (.mv (.t 6))⟩,
    ⟨some 32, none, .p (.ixA 6 1 (.t 8) (.t 31))⟩,
    ⟨some 33, none, .h (.load 1 false (.t 32))⟩,
    ⟨some 34, none, .p (.mv (.t 0))⟩,
    ⟨some 35, none, .p (.ixS 1 (.t 34) (.k (.c (C.int .i64 0))))⟩,
    ⟨some 36, none, .h (.load 1 false (.t 35))⟩,
    ⟨some 37, none, .p (.bin .sub (.t 33) (.t 36))⟩,
    ⟨some 38, none, .p (.ixA 6 1 (.t 8) (.t 31))⟩,
    ⟨none, none, .h (.store 1 (.t 38) (.t 37))⟩] [0, 3, 5, 8, 20, 21] [])
  (.regionD [⟨some 39, none, .p (.mv (.t 5))⟩,
    ⟨some 40, none, .p (.mv (.t 0))⟩,
    ⟨some 41, none, .p (.slS 1 (.t 40) (some (.k (.c (C.int .i64 1)))) none)⟩,
    ⟨some 42, none, .h (.load 6 true (.t 8))⟩,
    ⟨some 43, none, .h (.call (.f 109) [.t 41, .t 42])⟩,
    ⟨some 44, none, .p (.bin .add (.t 39) (.t 43))⟩,
    ⟨some 5, none, .p (.mv (.t 44))⟩] [0, 3, 5, 20, 21] [])))
  .skip))))
  (.region [⟨some 45, none, .p (.bin .add (.t 21) (.k (.c (C.int .i64 1))))⟩,
    ⟨some 21, none, .p (.mv (.t 45))⟩] [0, 3, 5, 20, 21])))) [0, 3, 5, 20, 21])))
  (.seq (.region [⟨some 46, none, .p (.mv (.t 5))⟩,
    ⟨some 4, none, .p (.mv (.t 46))⟩] [4])
  .ret)))))) }
theorem a109_ok : okFn Try.prog 109 a109 = true := by kernel_rfl
/-- loop.example/g01215/impl.arrangements -/
def a110 : AFn := { np := 1, nt := 27, res := [.t 2], body :=
  (.seq (.region [⟨some 1, none, .p (.box 6 (.t 0))⟩,
    ⟨some 2, none, .p (.mv (.k (.c (C.int .i64 0))))⟩] [1])
  (.seq (.region [⟨some 3, none, .p (.mv (.k (.c (C.int .i64 1))))⟩,
    ⟨some 4, none, .p (.mv (.k (.c (C.int .i64 0))))⟩] [1, 3, 4])
  (.seq (.seq (.region [⟨some 8, none, .h (.load 6 true (.t 1))⟩,
    ⟨some 9, none, .p (.mv (.k (.c (C.int .i64 0))))⟩] [3, 4, 8, 9])
  (.block 0 (.loop (.seq (.region [⟨some 10, none, .p (.bin .lss (.t 9) (.k (.c (C.int .i64 6))))⟩] [3, 4, 8, 9, 10])
  (.seq (.cond (.t 10)
  .skip
  (.exit 0))
  (.seq (.block 1 (.seq (.region [⟨some 11, none, .p (.ixV 6 1 false (.t 8) (.t 9))⟩,
    ⟨some 6, none, .p (.mv (.t 11))⟩] [3, 4, 6, 8, 9])
  (.seq (.region [⟨some 12, none, .p (.mv (.t 6))⟩,
    ⟨some 13, none, .p (.mv (.k (.c (C.int .i64 0))))⟩] [3, 4, 8, 9, 12, 13])
  (.block 2 (.loop (.seq (.region [⟨some 14, none, .p (.bin .lss (.t 13) (.t 12))⟩] [3, 4, 8, 9, 12, 13, 14])
  (.seq (.cond (.t 14)
  .skip
  (.exit 2))
  (.seq (.block 3 (.seq (.region [⟨some 15, none, .p (.mv (.t 13))⟩,
    ⟨some 7, none, .p (.mv (.t 15))⟩] [3, 4, 7, 8, 9, 12, 13])
  (.seq (.region [⟨some 16, none, .p (.mv (.t 4))⟩,
    ⟨some 17, none, .p (.bin .add (.t 16) (.k (.c (C.int .i64 1))))⟩,
    ⟨some 4, none, .p (.mv (.t 17))⟩] [3, 4, 7, 8, 9, 12, 13])
  (.region [⟨some 18, none, .p (.mv (.t 3))⟩,
    ⟨some 19, none, .p (.mv (.t 4))⟩,
    ⟨some 20, none, .p (.bin .mul (.t 18) (.t 19))⟩,
    ⟨some 21, none, .p (.mv (.t 7))⟩,
    ⟨some 22, none, .p (.bin .add (.t 21) (.k (.c (C.int .i64 1))))⟩,
    ⟨some 23, none, .p (.bin .quo (.t 20) (.t 22))⟩,
    ⟨some 3, none, .p (.mv (.t 23))⟩] [3, 4, 8, 9, 12, 13]))))
  (.region [⟨some 24, none, .p (.bin .add (.t 13) (.k (.c (C.int .i64 1))))⟩,
    ⟨some 13, none, .p (.mv (.t 24))⟩] [3, 4, 8, 9, 12, 13])))) [3, 4, 8, 9, 12, 13])))))
  (.region [⟨some 25, none, .p (.bin .add (.t 9) (.k (.c (C.int .i64 1))))⟩,
    ⟨some 9, none, .p (.mv (.t 25))⟩] [3, 4, 8, 9])))) [3, 4, 8, 9])))
  (.seq (.region [⟨some 26, none, .p (.mv (.t 3))⟩,
    ⟨some 2, none, .p (.mv (.t 26))⟩] [2])
  .ret)))) }
theorem a110_ok : okFn Try.prog 110 a110 = true := by kernel_rfl
/-- loop.example/g01215/spec.l9Same -/
def a111 : AFn := { np := 3, nt := 50, res := [.t 6], body :=
  (.seq (.region [⟨some 3, none, .p (.box 6 (.t 0))⟩,
    ⟨some 4, none, .p (.box 6 (.t 1))⟩,
    ⟨some 6, none, .p (.mv (.k (.c (C.int .i64 0))))⟩] [2, 3, 4])
  (.seq (.seq (.region [⟨some 10, none, .p (.mv (.t 2))⟩,
    ⟨some 11, none, .p (.bin .eql (.t 10) (.k (.c (C.int .i64 6))))⟩] [2, 3, 4, 11])
  (.cond (.t 11)
  (.seq (.region [⟨some 6, none, .p (.mv (.k (.c (C.int .i64 1))))⟩] [6])
  .ret)
  .skip))
  (.seq (.seq (.region [⟨some 12, none, .p (.mv (.t 2))⟩,
    ⟨some 13, none, .p (.ixA 6 1 (.t 3) (.t 12))⟩,
    ⟨some 14, none, .h (.load 1 false (.t 13))⟩,
    ⟨some 15, none, .p (.bin .eql (.t 14) (.k (.c (C.int .i64 0))))⟩] [2, 3, 4, 15])
  (.cond (.t 15)
  (.seq (.region [⟨some 16, none, .h (.load 6 true (.t 3))⟩,
    ⟨some 17, none, .h (.load 6 true (.t 4))⟩,
    ⟨some 18, none, .p (.mv (.t 2))⟩,
    ⟨some 19, none, .p (.bin .add (.t 18) (.k (.c (C.int .i64 1))))⟩,
    ⟨some 20, none, .h (.call (.f 111) [.t 16, .t 17, .t 19])⟩,
    ⟨some 6, none, .p (.mv (.t 20))⟩] [6])
  .ret)
  .skip))
  (.seq (.region [⟨some 7, none, .p (.mv (.k (.c (C.int .i64 0))))⟩] [2, 3, 4, 7])
  (.seq (.seq (.region [⟨some 8, none, .p (.mv (.k (.c (C.int .i64 1))))⟩] [2, 3, 4, 7, 8])
  (.block 0 (.loop (.seq (.seq (.region [⟨some 21, none, .p (.mv (.t 8))⟩,
    ⟨some 22, none, .p (.bin .leq (.t 21) (.k (.c (C.int .i64 5))))⟩] [2, 3, 4, 7, 8, 22])
  (.cond (.t 22)
  .skip
  (.exit 0)))
  (.seq (.block 1 (.seq (.regionD [⟨some 25, none, .p (.mv (.t 8))⟩,
    ⟨some 26, none, .p (.ixA 6 1 (.t 4) (.t 25))⟩,
    ⟨some 27, none, .h (.load 1 false (.t 26))⟩,
    ⟨some 28, none, .p (.mv (.t 2))⟩,
    ⟨some 29, none, .p (.ixA 6 1 (.t 3) (.t 28))⟩,
    ⟨some 30, none, .h (.load 1 false (.t 29))⟩,
    ⟨some 31, none, .p (.bin .geq (.t 27) (.t 30))⟩] [2, 3, 4, 7, 8, 31] [])
  (.cond (.t 31)
  (.seq (.region [⟨some 32, none, .h (.load 6 true (.t 4))⟩,
    ⟨some 9, none, .p (.alloc [.k (C.int .i64 0), .k (C.int .i64 0), .k (C.int .i64 0), .k (C.int .i64 0), .k (C.int .i64 0), .k (C.int .i64 0)])⟩,
    ⟨none, none, .h (.store 6 (.t 9) (.t 32))⟩] [2, 3, 4, 7, 8, 9])
  (.seq (.regionD [⟨some 33, none, .p (.mv (.t 8))⟩,
    ⟨some 34, none, .p (.mv (.t 8))⟩,
    ⟨some 35, none, .p (.ixA 6 1 (.t 9) (.t 34))⟩,
    ⟨some 36, none, .h (.load 1 false (.t 35))⟩,
    ⟨some 37, none, .p (.mv (.t 2))⟩,
    ⟨some 38, none, .p (.ixA 6 1 (.t 3) (.t 37))⟩,
    ⟨some 39, none, .h (.load 1 false (.t 38))⟩,
    ⟨some 40, none, .p (.bin .sub (.t 36) (.t 39))⟩,
    ⟨some 41, none, .p (.ixA 6 1 (.t 9) (.t 33))⟩,
    ⟨none, none, .h (.store 1 (.t 41) (.t 40))⟩] [2, 3, 4, 7, 8, 9] [])
  (.region [⟨some 42, none, .p (.mv (.t 7))⟩,
    ⟨some 43, none, .h (.load 6 true (.t 3))⟩,
    ⟨some 44, none, .h (.load 6 true (.t 9))⟩,
    ⟨some 45, none, .p (.mv (.t 2))⟩,
    ⟨some 46, none, .p (.bin .add (.t 45) (.k (.c (C.int .i64 1))))⟩,
    ⟨some 47, none, .h (.call (.f 111) [.t 43, .t 44, .t 46])⟩,
    ⟨some 48, none, .p (.bin .add (.t 42) (.t 47))⟩,
    ⟨some 7, none, .p (.mv (.t 48))⟩] [2, 3, 4, 7, 8])))
  .skip)))
  (.region [⟨some 23, none, .p (.mv (.t 8))⟩,
    ⟨some 24, none, .p (.bin .add (.t 23) (.k (.c (C.int .i64 1))))⟩,
    ⟨some 8, none, .p (.mv (.t 24))⟩] [2, 3, 4, 7, 8]))) [2, 3, 4, 7, 8])))
  (.seq (.region [⟨some 49, none, .p (.mv (.t 7))⟩,
    ⟨some 6, none, .p (.mv (.t 49))⟩] [6])
  .ret)))))) }
theorem a111_ok : okFn Try.prog 111 a111 = true := by kernel_rfl
/-- loop.example/g01215/spec.l7Ways -/
def a112 : AFn := { np := 1, nt := 26, res := [.t 2], body :=
  (.seq (.region [⟨some 1, none, .p (.box 6 (.t 0))⟩,
    ⟨some 2, none, .p (.mv (.k (.c (C.int .i64 0))))⟩] [1])
  (.seq (.region [⟨some 3, none, .p (.mv (.k (.c (C.int .i64 1))))⟩,
    ⟨some 4, none, .p (.mv (.k (.c (C.int .i64 0))))⟩] [1, 3, 4])
  (.seq (.seq (.region [⟨some 5, none, .p (.mv (.k (.c (C.int .i64 1))))⟩] [1, 3, 4, 5])
  (.block 0 (.loop (.seq (.seq (.region [⟨some 7, none, .p (.mv (.t 5))⟩,
    ⟨some 8, none, .p (.bin .leq (.t 7) (.k (.c (C.int .i64 5))))⟩] [1, 3, 4, 5, 8])
  (.cond (.t 8)
  .skip
  (.exit 0)))
  (.seq (.block 1 (.seq (.region [⟨some 6, none, .p (.mv (.k (.c (C.int .i64 1))))⟩] [1, 3, 4, 5, 6])
  (.block 2 (.loop (.seq (.seq (.region [⟨some 11, none, .p (.mv (.t 6))⟩,
    ⟨some 12, none, .p (.mv (.t 5))⟩,
    ⟨some 13, none, .p (.ixA 6 1 (.t 1) (.t 12))⟩,
    ⟨some 14, none, .h (.load 1 false (.t 13))⟩,
    ⟨some 15, none, .p (.bin .leq (.t 11) (.t 14))⟩] [1, 3, 4, 5, 6, 15])
  (.cond (.t 15)
  .skip
  (.exit 2)))
  (.seq (.block 3 (.seq (.region [⟨some 18, none, .p (.mv (.t 4))⟩,
    ⟨some 19, none, .p (.bin .add (.t 18) (.k (.c (C.int .i64 1))))⟩,
    ⟨some 4, none, .p (.mv (.t 19))⟩] [1, 3, 4, 5, 6])
  (.region [⟨some 20, none, .p (.mv (.t 3))⟩,
    ⟨some 21, none, .p (.mv (.t 4))⟩,
    ⟨some 22, none, .p (.bin .mul (.t 20) (.t 21))⟩,
    ⟨some 23, none, .p (.mv (.t 6))⟩,
    ⟨some 24, none, .p (.bin .quo (.t 22) (.t 23))⟩,
    ⟨some 3, none, .p (.mv (.t 24))⟩] [1, 3, 4, 5, 6])))
  (.region [⟨some 16, none, .p (.mv (.t 6))⟩,
    ⟨some 17, none, .p (.bin .add (.t 16) (.k (.c (C.int .i64 1))))⟩,
    ⟨some 6, none, .p (.mv (.t 17))⟩] [1, 3, 4, 5, 6]))) [1, 3, 4, 5, 6]))))
  (.region [⟨some 9, none, .p (.mv (.t 5))⟩,
    ⟨some 10, none, .p (.bin .add (.t 9) (.k (.c (C.int .i64 1))))⟩,
    ⟨some 5, none, .p (.mv (.t 10))⟩] [1, 3, 4, 5]))) [1, 3, 4, 5])))
  (.seq (.region [⟨some 25, none, .p (.mv (.t 3))⟩,
    ⟨some 2, none, .p (.mv (.t 25))⟩] [2])
  .ret)))) }
theorem a112_ok : okFn Try.prog 112 a112 = true := by kernel_rfl
/-- (*loop.example/g01215/spec.l1Cur).place -/
def a113 : AFn := { np := 1, nt := 10, res := [.t 2], body :=
  (.seq (.region [⟨some 2, none, .p (.mv (.k (.c (C.int .i64 0))))⟩] [0])
  (.seq (.seq (.region [⟨some 3, none, .p (.mv (.t 0))⟩,
    ⟨some 4, none, .h (.call (.f 172) [.t 3, .k (.c (C.int .i64 40))])⟩] [0, 4])
  (.cond (.t 4)
  (.seq (.region [⟨some 5, none, .p (.mv (.t 0))⟩,
    ⟨some 6, none, .p (.mksl 1 3 [.k (C.int .i64 0)] [(0, 1, .k (.c (C.int .i64 (-1)))), (1, 1, .k (.c (C.int .i64 6))), (2, 1, .k (.c (C.int .i64 4611686018427387904)))])⟩,
    ⟨some 7, none, .h (.call (.f 181) [.t 5, .t 6])⟩,
    ⟨some 2, none, .p (.mv (.t 7))⟩] [2])
  .ret)
  .skip))
  (.seq (.region [⟨some 8, none, .p (.mv (.t 0))⟩,
    ⟨some 9, none, .h (.call (.f 165) [.t 8, .k (.c (C.int .i64 6))])⟩,
    ⟨some 2, none, .p (.mv (.t 9))⟩] [2])
  .ret))) }
theorem a113_ok : okFn Try.prog 113 a113 = true := by kernel_rfl
/-- (*loop.example/g01215/spec.l1Cur).color -/
def a114 : AFn := { np := 1, nt := 14, res := [.t 2], body :=
  (.seq (.region [⟨some 2, none, .p (.mv (.k (.c (C.int .i64 0))))⟩] [0])
  (.seq (.seq (.region [⟨some 3, none, .p (.mv (.t 0))⟩,
    ⟨some 4, none, .h (.call (.f 172) [.t 3, .k (.c (C.int .i64 40))])⟩] [0, 4])
  (.cond (.t 4)
  (.seq (.region [⟨some 5, none, .p (.mv (.t 0))⟩,
    ⟨some 6, none, .p (.mksl 1 4 [.k (C.int .i64 0)] [(0, 1, .k (.c (C.int .i64 (-1)))), (1, 1, .k (.c (C.int .i64 0))), (2, 1, .k (.c (C.int .i64 6))), (3, 1, .k (.c (C.int .i64 4611686018427387904)))])⟩,
    ⟨some 7, none, .h (.call (.f 181) [.t 5, .t 6])⟩,
    ⟨some 2, none, .p (.mv (.t 7))⟩] [2])
  .ret)
  .skip))
  (.seq (.region [⟨some 8, none, .p (.mv (.t 0))⟩,
    ⟨some 9, none, .p (.mv (.t 0))⟩,
    ⟨some 10, none, .p (.mksl 1 4 [.k (C.int .i64 0)] [(0, 1, .k (.c (C.int .i64 3))), (1, 1, .k (.c (C.int .i64 2))), (2, 1, .k (.c (C.int .i64 5))), (3, 1, .k (.c (C.int .i64 3)))])⟩,
    ⟨some 11, none, .h (.call (.f 181) [.t 9, .t 10])⟩,
    ⟨some 12, none, .h (.call (.f 165) [.t 8, .t 11])⟩,
    ⟨some 13, none, .p (.bin .add (.k (.c (C.int .i64 1))) (.t 12))⟩,
    ⟨some 2, none, .p (.mv (.t 13))⟩] [2])
  .ret))) }
theorem a114_ok : okFn Try.prog 114 a114 = true := by kernel_rfl
/-- loop.example/g01215/impl.isPlace -/
def a115 : AFn := { np := 1, nt := 5, res := [.t 2], body :=
  (.seq (.region [⟨some 2, none, .p (.mv (.k (.c (C.bool false))))⟩] [0])
  (.seq (.region [⟨some 3, none, .p (.mv (.t 0))⟩,
    ⟨some 4, none, .h (.call (.f 137) [.t 3, .k (.c (C.int .i64 0)), .k (.c (C.int .i64 5))])⟩,
    ⟨some 2, none, .p (.mv (.t 4))⟩] [2])
  .ret)) }
theorem a115_ok : okFn Try.prog 115 a115 = true := by kernel_rfl
/-- loop.example/g01215/impl.isColor -/
def a116 : AFn := { np := 1, nt := 5, res := [.t 2], body :=
  (.seq (.region [⟨some 2, none, .p (.mv (.k (.c (C.bool false))))⟩] [0])
  (.seq (.region [⟨some 3, none, .p (.mv (.t 0))⟩,
    ⟨some 4, none, .h (.call (.f 137) [.t 3, .k (.c (C.int .i64 1)), .k (.c (C.int .i64 5))])⟩,
    ⟨some 2, none, .p (.mv (.t 4))⟩] [2])
  .ret)) }
theorem a116_ok : okFn Try.prog 116 a116 = true := by kernel_rfl
/-- loop.example/g01215/impl.sum -/
def a117 : AFn := { np := 1, nt := 17, res := [.t 2], body :=
  (.seq (.region [⟨some 2, none, .p (.mv (.k (.c (C.int .i64 0))))⟩] [0])
  (.seq (.region [⟨some 3, none, .p (.mv (.k (.c (C.int .i64 0))))⟩] [0, 3])
  (.seq (.seq (.region [⟨some 6, none, .p (.mv (.t 0))⟩,
    ⟨some 7, none, .p (.len (.t 6))⟩,
    ⟨some 8, none, .p (.mv (.k (.c (C.int .i64 0))))⟩] [3, 6, 7, 8])
  (.block 0 (.loop (.seq (.region [⟨some 9, none, .p (.bin .lss (.t 8) (.t 7))⟩] [3, 6, 7, 8, 9])
  (.seq (.cond (.t 9)
  .skip
  (.exit 0))
  (.seq (.block 1 (.seq (.region [⟨some 10, none, .p (.ixS 1 (.t 6) (.t 8))⟩,
    ⟨some 11, none, .h (.load 1 false (.t 10))⟩,
    ⟨some 5, none, .p (.mv (.t 11))⟩] [3, 5, 6, 7, 8])
  (.region [⟨some 12, none, .p (.mv (.t 3))⟩,
    ⟨some 13, none, .p (.mv (.t 5))⟩,
    ⟨some 14, none, .p (.bin .add (.t 12) (.t 13))⟩,
    ⟨some 3, none, .p (.mv (.t 14))⟩] [3, 6, 7, 8])))
  (.region [⟨some 15, none, .p (.bin .add (.t 8) (.k (.c (C.int .i64 1))))⟩,
    ⟨some 8, none, .p (.mv (.t 15))⟩] [3, 6, 7, 8])))) [3, 6, 7, 8])))
  (.seq (.region [⟨some 16, none, .p (.mv (.t 3))⟩,
    ⟨some 2, none, .p (.mv (.t 16))⟩] [2])
  .ret)))) }
theorem a117_ok : okFn Try.prog 117 a117 = true := by kernel_rfl
/-- loop.example/g01215/spec.l2Place -/
def a118 : AFn := { np := 1, nt := 5, res := [.t 2], body :=
  (.seq (.region [⟨some 2, none, .p (.mv (.k (.c (C.bool false))))⟩] [0])
  (.seq (.region [⟨some 3, none, .p (.mv (.t 0))⟩,
    ⟨some 4, none, .h (.call (.f 119) [.t 3, .k (.c (C.int .i64 0)), .k (.c (C.int .i64 5))])⟩,
    ⟨some 2, none, .p (.mv (.t 4))⟩] [2])
  .ret)) }
theorem a118_ok : okFn Try.prog 118 a118 = true := by kernel_rfl
/-- loop.example/g01215/spec.l1In -/
def a119 : AFn := { np := 3, nt := 15, res := [.t 6], body :=
  (.seq (.region [⟨some 6, none, .p (.mv (.k (.c (C.bool false))))⟩] [0, 1, 2])
  (.seq (.region [⟨some 7, none, .p (.mv (.t 0))⟩,
    ⟨some 8, none, .p (.mv (.t 1))⟩,
    ⟨some 9, none, .p (.bin .geq (.t 7) (.t 8))⟩,
    ⟨some 10, none, .p (.mv (.t 9))⟩,
    ⟨some 11, some (10, true), .p (.mv (.t 0))⟩,
    ⟨some 12, some (10, true), .p (.mv (.t 2))⟩,
    ⟨some 13, some (10, true), .p (.bin .leq (.t 11) (.t 12))⟩,
    ⟨some 14, none, .p (.pick (.t 10) (.t 13) (.k (.c (C.bool false))))⟩,
    ⟨some 6, none, .p (.mv (.t 14))⟩] [6])
  .ret)) }
theorem a119_ok : okFn Try.prog 119 a119 = true := by kernel_rfl
/-- loop.example/g01215/spec.DrawIsReplay -/
def a120 : AFn := { np := 1, nt := 9, res := [.cell 2 25 true], body :=
  (.seq (.region [⟨some 2, none, .p (.alloc [.k (C.int .i64 0), .k (C.int .i64 0), .k (C.int .i64 0), .k (C.int .i64 0), .k (C.int .i64 0), .k (C.int .i64 0), .k (C.int .i64 0), .k (C.int .i64 0), .k (C.int .i64 0), .k (C.int .i64 0), .k (C.int .i64 0), .k (C.int .i64 0), .k (C.int .i64 0), .k (C.int .i64 0), .k (C.int .i64 0), .k (C.int .i64 0), .k (C.int .i64 0), .k (C.int .i64 0), .k (C.int .i64 0), .k (C.int .i64 0), .k (C.int .i64 0), .k (C.int .i64 0), .k (C.int .i64 0), .k (C.int .i64 0), .sl 2])⟩] [0, 2])
  (.seq (.region [⟨some 4, none, .p (.mv (.t 0))⟩,
    ⟨some 5, none, .p (.build [.sl 1, .k (C.int .i64 0), .k (C.int .u64 0)] [(0, 1, .t 4)])⟩,
    ⟨some 6, none, .p (.box 3 (.t 5))⟩,
    ⟨some 3, none, .p (.mv (.t 6))⟩] [2, 3])
  (.seq (.region [⟨some 7, none, .p (.mv (.t 3))⟩,
    ⟨some 8, none, .h (.call (.f 195) [.t 7])⟩,
    ⟨none, none, .h (.store 25 (.t 2) (.t 8))⟩] [2])
  .ret))) }
theorem a120_ok : okFn Try.prog 120 a120 = true := by kernel_rfl
/-- (loop.example/g01215/impl.Replay).with -/
def a121 : AFn := { np := 2, nt := 10, res := [.cell 4 25 true], body :=
  (.seq (.region [⟨some 2, none, .p (.box 25 (.t 0))⟩,
    ⟨some 4, none, .p (.alloc [.k (C.int .i64 0), .k (C.int .i64 0), .k (C.int .i64 0), .k (C.int .i64 0), .k (C.int .i64 0), .k (C.int .i64 0), .k (C.int .i64 0), .k (C.int .i64 0), .k (C.int .i64 0), .k (C.int .i64 0), .k (C.int .i64 0), .k (C.int .i64 0), .k (C.int .i64 0), .k (C.int .i64 0), .k (C.int .i64 0), .k (C.int .i64 0), .k (C.int .i64 0), .k (C.int .i64 0), .k (C.int .i64 0), .k (C.int .i64 0), .k (C.int .i64 0), .k (C.int .i64 0), .k (C.int .i64 0), .k (C.int .i64 0), .sl 2])⟩] [1, 2, 4])
  (.seq (.regionD [⟨some 5, none, .p (.fld 0 (.t 2))⟩,
    ⟨some 6, none, .h (.load 24 true (.t 5))⟩,
    ⟨some 7, none, .p (.mv (.t 1))⟩,
    ⟨some 8, none, .h (.call (.f 196) [.t 7])⟩,
    ⟨some 9, none, .p (.build [.k (C.int .i64 0), .k (C.int .i64 0), .k (C.int .i64 0), .k (C.int .i64 0), .k (C.int .i64 0), .k (C.int .i64 0), .k (C.int .i64 0), .k (C.int .i64 0), .k (C.int .i64 0), .k (C.int .i64 0), .k (C.int .i64 0), .k (C.int .i64 0), .k (C.int .i64 0), .k (C.int .i64 0), .k (C.int .i64 0), .k (C.int .i64 0), .k (C.int .i64 0), .k (C.int .i64 0), .k (C.int .i64 0), .k (C.int .i64 0), .k (C.int .i64 0), .k (C.int .i64 0), .k (C.int .i64 0), .k (C.int .i64 0), .sl 2] [(0, 24, .t 6), (24, 1, .t 8)])⟩,
    ⟨none, none, .h (.store 25 (.t 4) (.t 9))⟩] [4] [])
  .ret)) }
theorem a121_ok : okFn Try.prog 121 a121 = true := by kernel_rfl
/-- (loop.example/g01215/impl.Replay).loops -/
def a122 : AFn := { np := 1, nt := 43, res := [.t 2], body :=
  (.seq (.region [⟨some 1, none, .p (.box 25 (.t 0))⟩,
    ⟨some 2, none, .p (.nilsl 2)⟩] [1])
  (.seq (.region [⟨some 9, none, .h (.load 25 true (.t 1))⟩,
    ⟨some 10, none, .h (.call (.f 126) [.t 9])⟩,
    ⟨some 8, none, .p (.mv (.t 10))⟩,
    ⟨some 11, none, .p (.ext (.t 8) 0)⟩,
    ⟨some 12, none, .p (.ext (.t 8) 1)⟩,
    ⟨some 3, none, .p (.mv (.t 11))⟩,
    ⟨some 4, none, .p (.mv (.t 12))⟩] [3])
  (.seq (.region [⟨some 5, none, .p (.nilsl 2)⟩] [3, 5])
  (.seq (.seq (.region [⟨some 13, none, .p (.mv (.t 3))⟩,
    ⟨some 14, none, .p (.len (.t 13))⟩,
    ⟨some 15, none, .p (.mv (.k (.c (C.int .i64 0))))⟩] [3, 5, 14, 15])
  (.block 0 (.loop (.seq (.region [⟨some 16, none, .p (.bin .lss (.t 15) (.t 14))⟩] [3, 5, 14, 15, 16])
  (.seq (.cond (.t 16)
  .skip
  (.exit 0))
  (.seq (.block 1 (.seq (.region [⟨some 17, none, .p (.mv (.t 15))⟩,
    ⟨some 6, none, .p (.mv (.t 17))⟩] [3, 5, 6, 14, 15])
  (.seq (.region [⟨some 18, none, .p (.mv (.t 6))⟩,
    ⟨some 19, none, .p (.bin .add (.t 18) (.k (.c (C.int .i64 1))))⟩,
    ⟨some 7, none, .p (.mv (.t 19))⟩] [3, 5, 6, 7, 14, 15])
  (.block 2 (.loop (.seq (.seq (.region [⟨some 20, none, .p (.mv (.t 7))⟩,
    ⟨some 21, none, .p (.mv (.t 3))⟩,
    ⟨some 22, none, .p (.len (.t 21))⟩,
    ⟨some 23, none, .p (.bin .lss (.t 20) (.t 22))⟩] [3, 5, 6, 7, 14, 15, 23])
  (.cond (.t 23)
  .skip
  (.exit 2)))
  (.seq (.block 3 (.seq (.regionD [⟨some 26, none, .p (.mv (.t 3))⟩,
    ⟨some 27, none, .p (.mv (.t 6))⟩,
    ⟨some 28, none, .p (.ixS 24 (.t 26) (.t 27))⟩,
    ⟨some 29, none, .h (.load 24 true (.t 28))⟩,
    ⟨some 30, none, .p (.mv (.t 3))⟩,
    ⟨some 31, none, .p (.mv (.t 7))⟩,
    ⟨some 32, none, .p (.ixS 24 (.t 30) (.t 31))⟩,
    ⟨some 33, none, .h (.load 24 true (.t 32))⟩,
    ⟨some 34, none, .p (.eqv false (List.replicate 24 (.int .i64)) (.t 29) (.t 33))⟩] [3, 5, 6, 7, 14, 15, 34] [])
  (.cond (.t 34)
  (.region [⟨some 35, none, .p (.mv (.t 5))⟩,
    ⟨some 36, none, .p (.mv (.t 6))⟩,
    ⟨some 37, none, .p (.mv (.t 7))⟩,
    ⟨some 38, none, .p (.build [.k (C.int .i64 0), .k (C.int .i64 0)] [(0, 1, .t 36), (1, 1, .t 37)])⟩,
    ⟨some 39, none, .p (.mksl 2 1 [.k (C.int .i64 0), .k (C.int .i64 0)] [(0, 2, .t 38)])⟩,
    ⟨some 40, none, .h (.app 2 (.t 35) (.t 39))⟩,
    ⟨some 5, none, .p (.mv (.t 40))⟩] [3, 5, 6, 7, 14, 15])
  .skip)))
  (.region [⟨some 24, none, .p (.mv (.t 7))⟩,
    ⟨some 25, none, .p (.bin .add (.t 24) (.k (.c (C.int .i64 1))))⟩,
    ⟨some 7, none, .p (.mv (.t 25))⟩] [3, 5, 6, 7, 14, 15]))) [3, 5, 6, 7, 14, 15])))))
  (.region [⟨some 41, none, .p (.bin .add (.t 15) (.k (.c (C.int .i64 1))))⟩,
    ⟨some 15, none, .p (.mv (.t 41))⟩] [3, 5, 14, 15])))) [3, 5, 14, 15])))
  (.seq (.region [⟨some 42, none, .p (.mv (.t 5))⟩,
    ⟨some 2, none, .p (.mv (.t 42))⟩] [2])
  .ret))))) }
theorem a122_ok : okFn Try.prog 122 a122 = true := by kernel_rfl
/-- loop.example/g01215/spec.l11Racks -/
def a123 : AFn := { np := 1, nt := 66, res := [.t 2, .t 3], body :=
  (.seq (.region [⟨some 1, none, .p (.box 25 (.t 0))⟩,
    ⟨some 2, none, .p (.nilsl 24)⟩,
    ⟨some 3, none, .p (.mv (.k (.c (C.bool false))))⟩] [1])
  (.seq (.seq (.region [⟨some 8, none, .p (.fld 0 (.t 1))⟩,
    ⟨some 9, none, .h (.load 24 true (.t 8))⟩,
    ⟨some 10, none, .h (.call (.f 141) [.t 9])⟩,
    ⟨some 11, none, .p (.un .not (.t 10))⟩,
    ⟨some 12, none, .p (.mv (.t 11))⟩,
    ⟨some 13, some (12, false), .p (.fld 24 (.t 1))⟩,
    ⟨some 14, some (12, false), .h (.load 1 false (.t 13))⟩,
    ⟨some 15, some (12, false), .p (.len (.t 14))⟩,
    ⟨some 16, some (12, false), .p (.bin .gtr (.t 15) (.k (.c (C.int .i64 60))))⟩,
    ⟨some 17, none, .p (.pick (.t 12) (.k (.c (C.bool true))) (.t 16))⟩] [1, 17])
  (.cond (.t 17)
  (.seq (.region [⟨some 18, none, .p (.mksl 24 0 (List.replicate 24 (.k (C.int .i64 0))) [])⟩,
    ⟨some 2, none, .p (.mv (.t 18))⟩,
    ⟨some 3, none, .p (.mv (.k (.c (C.bool false))))⟩] [2, 3])
  .ret)
  .skip))
  (.seq (.region [⟨some 19, none, .p (.fld 0 (.t 1))⟩,
    ⟨some 20, none, .h (.load 24 true (.t 19))⟩,
    ⟨some 21, none, .p (.mksl 24 1 (List.replicate 24 (.k (C.int .i64 0))) [(0, 24, .t 20)])⟩,
    ⟨some 4, none, .p (.mv (.t 21))⟩] [1, 4])
  (.seq (.seq (.region [⟨some 5, none, .p (.mv (.k (.c (C.int .i64 0))))⟩] [1, 4, 5])
  (.block 0 (.loop (.seq (.seq (.region [⟨some 22, none, .p (.mv (.t 5))⟩,
    ⟨some 23, none, .p (.fld 24 (.t 1))⟩,
    ⟨some 24, none, .h (.load 1 false (.t 23))⟩,
    ⟨some 25, none, .p (.len (.t 24))⟩,
    ⟨some 26, none, .p (.bin .lss (.t 22) (.t 25))⟩] [1, 4, 5, 26])
  (.cond (.t 26)
  .skip
  (.exit 0)))
  (.seq (.block 1 (.seq (.seq (.regionD [⟨some 29, none, .p (.mv (.t 4))⟩,
    ⟨some 30, none, .p (.mv (.t 5))⟩,
    ⟨some 31, none, .p (.ixS 24 (.t 29) (.t 30))⟩,
    ⟨some 32, none, .h (.load 24 true (.t 31))⟩,
    ⟨some 33, none, .p (.fld 24 (.t 1))⟩,
    ⟨some 34, none, .h (.load 1 false (.t 33))⟩,
    ⟨some 35, none, .p (.mv (.t 5))⟩,
    ⟨some 36, none, .p (.ixS 2 (.t 34) (.t 35))⟩,
    ⟨some 37, none, .h (.load 2 true (.t 36))⟩,
    ⟨some 38, none, .h (.call (.f 130) [.t 32, .t 37])⟩,
    ⟨some 39, none, .p (.un .not (.t 38))⟩] [1, 4, 5, 39] [])
  (.cond (.t 39)
  (.seq (.region [⟨some 40, none, .p (.mksl 24 0 (List.replicate 24 (.k (C.int .i64 0))) [])⟩,
    ⟨some 2, none, .p (.mv (.t 40))⟩,
    ⟨some 3, none, .p (.mv (.k (.c (C.bool false))))⟩] [2, 3])
  .ret)
  .skip))
  (.seq (.regionD [⟨some 42, none, .p (.mv (.t 4))⟩,
    ⟨some 43, none, .p (.mv (.t 5))⟩,
    ⟨some 44, none, .p (.ixS 24 (.t 42) (.t 43))⟩,
    ⟨some 45, none, .h (.load 24 true (.t 44))⟩,
    ⟨some 46, none, .p (.fld 24 (.t 1))⟩,
    ⟨some 47, none, .h (.load 1 false (.t 46))⟩,
    ⟨some 48, none, .p (.mv (.t 5))⟩,
    ⟨some 49, none, .p (.ixS 2 (.t 47) (.t 48))⟩,
    ⟨some 50, none, .p (.ixA 2 1 (.t 49) (.k (.c (C.int .i64 0))))⟩,
    ⟨some 51, none, .h (.load 1 false (.t 50))⟩,
    ⟨some 52, none, .p (.fld 24 (.t 1))⟩,
    ⟨some 53, none, .h (.load 1 false (.t 52))⟩,
    ⟨some 54, none, .p (.mv (.t 5))⟩,
    ⟨some 55, none, .p (.ixS 2 (.t 53) (.t 54))⟩,
    ⟨some 56, none, .p (.ixA 2 1 (.t 55) (.k (.c (C.int .i64 1))))⟩,
    ⟨some 57, none, .h (.load 1 false (.t 56))⟩,
    ⟨some 58, none, .h (.call (.f 132) [.t 45, .t 51, .t 57])⟩,
    ⟨some 41, none, .p (.mv (.t 58))⟩,
    ⟨some 59, none, .p (.ext (.t 41) 0)⟩,
    ⟨some 60, none, .p (.ext (.t 41) 1)⟩,
    ⟨some 6, none, .p (.alloc (List.replicate 24 (.k (C.int .i64 0))))⟩,
    ⟨none, none, .h (.store 24 (.t 6) (.t 59))⟩,
    ⟨some 7, none, .p (.mv (.t 60))⟩] [1, 4, 5, 6] [])
  (.region [⟨some 61, none, .p (.mv (.t 4))⟩,
    ⟨some 62, none, .h (.load 24 true (.t 6))⟩,
    ⟨some 63, none, .p (.mksl 24 1 (List.replicate 24 (.k (C.int .i64 0))) [(0, 24, .t 62)])⟩,
    ⟨some 64, none, .h (.app 24 (.t 61) (.t 63))⟩,
    ⟨some 4, none, .p (.mv (.t 64))⟩] [1, 4, 5]))))
  (.region [⟨some 27, none, .p (.mv (.t 5))⟩,
    ⟨some 28, none, .p (.bin .add (.t 27) (.k (.c (C.int .i64 1))))⟩,
    ⟨some 5, none, .p (.mv (.t 28))⟩] [1, 4, 5]))) [1, 4, 5])))
  (.seq (.region [⟨some 65, none, .p (.mv (.t 4))⟩,
    ⟨some 2, none, .p (.mv (.t 65))⟩,
    ⟨some 3, none, .p (.mv (.k (.c (C.bool true))))⟩] [2, 3])
  .ret))))) }
theorem a123_ok : okFn Try.prog 123 a123 = true := by kernel_rfl
/-- loop.example/g01215/spec.l11Cut -/
def a124 : AFn := { np := 2, nt := 14, res := [.cell 4 25 true], body :=
  (.seq (.region [⟨some 2, none, .p (.box 25 (.t 0))⟩,
    ⟨some 4, none, .p (.alloc [.k (C.int .i64 0), .k (C.int .i64 0), .k (C.int .i64 0), .k (C.int .i64 0), .k (C.int .i64 0), .k (C.int .i64 0), .k (C.int .i64 0), .k (C.int .i64 0), .k (C.int .i64 0), .k (C.int .i64 0), .k (C.int .i64 0), .k (C.int .i64 0), .k (C.int .i64 0), .k (C.int .i64 0), .k (C.int .i64 0), .k (C.int .i64 0), .k (C.int .i64 0), .k (C.int .i64 0), .k (C.int .i64 0), .k (C.int .i64 0), .k (C.int .i64 0), .k (C.int .i64 0), .k (C.int .i64 0), .k (C.int .i64 0), .sl 2])⟩] [1, 2, 4])
  (.seq (.regionE [⟨some 5, none, .p (.fld 0 (.t 2))⟩,
    ⟨some 6, none, .h (.load 24 true (.t 5))⟩,
    ⟨some 7, none, .p (.mksl 2 0 [.k (C.int .i64 0), .k (C.int .i64 0)] [])⟩,
    ⟨some 8, none, .p (.fld 24 (.t 2))⟩,
    ⟨some 9, none, .h (.load 1 false (.t 8))⟩,
    ⟨some 10, none, .p (.mv (.t 1))⟩,
    ⟨some 11, none, .p (.slS 2 (.t 9) none (some (.t 10)))⟩,
    ⟨some 12, none, .h (.app 2 (.t 7) (.t 11))⟩,
    ⟨some 13, none, .p (.build [.k (C.int .i64 0), .k (C.int .i64 0), .k (C.int .i64 0), .k (C.int .i64 0), .k (C.int .i64 0), .k (C.int .i64 0), .k (C.int .i64 0), .k (C.int .i64 0), .k (C.int .i64 0), .k (C.int .i64 0), .k (C.int .i64 0), .k (C.int .i64 0), .k (C.int .i64 0), .k (C.int .i64 0), .k (C.int .i64 0), .k (C.int .i64 0), .k (C.int .i64 0), .k (C.int .i64 0), .k (C.int .i64 0), .k (C.int .i64 0), .k (C.int .i64 0), .k (C.int .i64 0), .k (C.int .i64 0), .k (C.int .i64 0), .sl 2] [(0, 24, .t 6), (24, 1, .t 12)])⟩,
    ⟨none, none, .h (.store 25 (.t 4) (.t 13))⟩] [4] [(.t 5, .t 7)] [[], [], [], [], [], [], [], [2]])
  .ret)) }
theorem a124_ok : okFn Try.prog 124 a124 = true := by kernel_rfl
/-- loop.example/g01215/spec.l11Loops -/
def a125 : AFn := { np := 1, nt := 37, res := [.t 2], body :=
  (.seq (.region [⟨some 2, none, .p (.nilsl 2)⟩] [0])
  (.seq (.region [⟨some 6, none, .p (.mksl 2 0 [.k (C.int .i64 0), .k (C.int .i64 0)] [])⟩,
    ⟨some 3, none, .p (.mv (.t 6))⟩] [0, 3])
  (.seq (.seq (.region [⟨some 4, none, .p (.mv (.k (.c (C.int .i64 0))))⟩] [0, 3, 4])
  (.block 0 (.loop (.seq (.seq (.region [⟨some 7, none, .p (.mv (.t 4))⟩,
    ⟨some 8, none, .p (.mv (.t 0))⟩,
    ⟨some 9, none, .p (.len (.t 8))⟩,
    ⟨some 10, none, .p (.bin .lss (.t 7) (.t 9))⟩] [0, 3, 4, 10])
  (.cond (.t 10)
  .skip
  (.exit 0)))
  (.seq (.block 1 (.seq (.region [⟨some 13, none, .p (.mv (.t 4))⟩,
    ⟨some 14, none, .p (.bin .add (.t 13) (.k (.c (C.int .i64 1))))⟩,
    ⟨some 5, none, .p (.mv (.t 14))⟩] [0, 3, 4, 5])
  (.block 2 (.loop (.seq (.seq (.region [⟨some 15, none, .p (.mv (.t 5))⟩,
    ⟨some 16, none, .p (.mv (.t 0))⟩,
    ⟨some 17, none, .p (.len (.t 16))⟩,
    ⟨some 18, none, .p (.bin .lss (.t 15) (.t 17))⟩] [0, 3, 4, 5, 18])
  (.cond (.t 18)
  .skip
  (.exit 2)))
  (.seq (.block 3 (.seq (.regionD [⟨some 21, none, .p (.mv (.t 0))⟩,
    ⟨some 22, none, .p (.mv (.t 4))⟩,
    ⟨some 23, none, .p (.ixS 24 (.t 21) (.t 22))⟩,
    ⟨some 24, none, .h (.load 24 true (.t 23))⟩,
    ⟨some 25, none, .p (.mv (.t 0))⟩,
    ⟨some 26, none, .p (.mv (.t 5))⟩,
    ⟨some 27, none, .p (.ixS 24 (.t 25) (.t 26))⟩,
    ⟨some 28, none, .h (.load 24 true (.t 27))⟩,
    ⟨some 29, none, .p (.eqv false (List.replicate 24 (.int .i64)) (.t 24) (.t 28))⟩] [0, 3, 4, 5, 29] [])
  (.cond (.t 29)
  (.region [⟨some 30, none, .p (.mv (.t 3))⟩,
    ⟨some 31, none, .p (.mv (.t 4))⟩,
    ⟨some 32, none, .p (.mv (.t 5))⟩,
    ⟨some 33, none, .p (.build [.k (C.int .i64 0), .k (C.int .i64 0)] [(0, 1, .t 31), (1, 1, .t 32)])⟩,
    ⟨some 34, none, .p (.mksl 2 1 [.k (C.int .i64 0), .k (C.int .i64 0)] [(0, 2, .t 33)])⟩,
    ⟨some 35, none, .h (.app 2 (.t 30) (.t 34))⟩,
    ⟨some 3, none, .p (.mv (.t 35))⟩] [0, 3, 4, 5])
  .skip)))
  (.region [⟨some 19, none, .p (.mv (.t 5))⟩,
    ⟨some 20, none, .p (.bin .add (.t 19) (.k (.c (C.int .i64 1))))⟩,
    ⟨some 5, none, .p (.mv (.t 20))⟩] [0, 3, 4, 5]))) [0, 3, 4, 5]))))
  (.region [⟨some 11, none, .p (.mv (.t 4))⟩,
    ⟨some 12, none, .p (.bin .add (.t 11) (.k (.c (C.int .i64 1))))⟩,
    ⟨some 4, none, .p (.mv (.t 12))⟩] [0, 3, 4]))) [0, 3, 4])))
  (.seq (.region [⟨some 36, none, .p (.mv (.t 3))⟩,
    ⟨some 2, none, .p (.mv (.t 36))⟩] [2])
  .ret)))) }
theorem a125_ok : okFn Try.prog 125 a125 = true := by kernel_rfl
/-- (loop.example/g01215/impl.Replay).racks -/
def a126 : AFn := { np := 1, nt := 55, res := [.t 2, .t 3], body :=
  (.seq (.region [⟨some 1, none, .p (.box 25 (.t 0))⟩,
    ⟨some 2, none, .p (.nilsl 24)⟩,
    ⟨some 3, none, .p (.mv (.k (.c (C.bool false))))⟩] [1])
  (.seq (.seq (.region [⟨some 9, none, .p (.fld 0 (.t 1))⟩,
    ⟨some 10, none, .h (.load 24 true (.t 9))⟩,
    ⟨some 11, none, .h (.call (.f 59) [.t 10])⟩,
    ⟨some 12, none, .p (.un .not (.t 11))⟩,
    ⟨some 13, none, .p (.mv (.t 12))⟩,
    ⟨some 14, some (13, false), .p (.fld 24 (.t 1))⟩,
    ⟨some 15, some (13, false), .h (.load 1 false (.t 14))⟩,
    ⟨some 16, some (13, false), .p (.len (.t 15))⟩,
    ⟨some 17, some (13, false), .p (.bin .gtr (.t 16) (.k (.c (C.int .i64 60))))⟩,
    ⟨some 18, none, .p (.pick (.t 13) (.k (.c (C.bool true))) (.t 17))⟩] [1, 18])
  (.cond (.t 18)
  (.seq (.region [⟨some 2, none, .p (.nilsl 24)⟩,
    ⟨some 3, none, .p (.mv (.k (.c (C.bool false))))⟩] [2, 3])
  .ret)
  .skip))
  (.seq (.region [⟨some 19, none, .p (.fld 0 (.t 1))⟩,
    ⟨some 20, none, .h (.load 24 true (.t 19))⟩,
    ⟨some 21, none, .p (.mksl 24 1 (List.replicate 24 (.k (C.int .i64 0))) [(0, 24, .t 20)])⟩,
    ⟨some 4, none, .p (.mv (.t 21))⟩] [1, 4])
  (.seq (.seq (.region [⟨some 22, none, .p (.fld 24 (.t 1))⟩,
    ⟨some 23, none, .h (.load 1 false (.t 22))⟩,
    ⟨some 24, none, .p (.len (.t 23))⟩,
    ⟨some 25, none, .p (.mv (.k (.c (C.int .i64 0))))⟩] [4, 23, 24, 25])
  (.block 0 (.loop (.seq (.region [⟨some 26, none, .p (.bin .lss (.t 25) (.t 24))⟩] [4, 23, 24, 25, 26])
  (.seq (.cond (.t 26)
  .skip
  (.exit 0))
  (.seq (.block 1 (.seq (.region [⟨some 27, none, .p (.mv (.t 25))⟩,
    ⟨some 28, none, .p (.ixS 2 (.t 23) (.t 25))⟩,
    ⟨some 29, none, .h (.load 2 true (.t 28))⟩,
    ⟨some 6, none, .p (.alloc [.k (C.int .i64 0), .k (C.int .i64 0)])⟩,
    ⟨some 5, none, .p (.mv (.t 27))⟩,
    ⟨none, none, .h (.store 2 (.t 6) (.t 29))⟩] [4, 5, 6, 23, 24, 25])
  (.seq (.seq (.regionD [⟨some 30, none, .p (.mv (.t 4))⟩,
    ⟨some 31, none, .p (.mv (.t 5))⟩,
    ⟨some 32, none, .p (.ixS 24 (.t 30) (.t 31))⟩,
    ⟨some 33, none, .h (.load 24 true (.t 32))⟩,
    ⟨some 34, none, .h (.load 2 true (.t 6))⟩,
    ⟨some 35, none, .h (.call (.f 127) [.t 33, .t 34])⟩,
    ⟨some 36, none, .p (.un .not (.t 35))⟩] [4, 5, 6, 23, 24, 25, 36] [])
  (.cond (.t 36)
  (.seq (.region [⟨some 2, none, .p (.nilsl 24)⟩,
    ⟨some 3, none, .p (.mv (.k (.c (C.bool false))))⟩] [2, 3])
  .ret)
  .skip))
  (.seq (.regionD [⟨some 38, none, .p (.mv (.t 4))⟩,
    ⟨some 39, none, .p (.mv (.t 5))⟩,
    ⟨some 40, none, .p (.ixS 24 (.t 38) (.t 39))⟩,
    ⟨some 41, none, .h (.load 24 true (.t 40))⟩,
    ⟨some 42, none, .p (.ixA 2 1 (.t 6) (.k (.c (C.int .i64 0))))⟩,
    ⟨some 43, none, .h (.load 1 false (.t 42))⟩,
    ⟨some 44, none, .p (.ixA 2 1 (.t 6) (.k (.c (C.int .i64 1))))⟩,
    ⟨some 45, none, .h (.load 1 false (.t 44))⟩,
    ⟨some 46, none, .h (.call (.f 99) [.t 41, .t 43, .t 45])⟩,
    ⟨some 37, none, .p (.mv (.t 46))⟩,
    ⟨some 47, none, .p (.ext (.t 37) 0)⟩,
    ⟨some 48, none, .p (.ext (.t 37) 1)⟩,
    ⟨some 7, none, .p (.alloc (List.replicate 24 (.k (C.int .i64 0))))⟩,
    ⟨none, none, .h (.store 24 (.t 7) (.t 47))⟩,
    ⟨some 8, none, .p (.mv (.t 48))⟩] [4, 7, 23, 24, 25] [])
  (.region [⟨some 49, none, .p (.mv (.t 4))⟩,
    ⟨some 50, none, .h (.load 24 true (.t 7))⟩,
    ⟨some 51, none, .p (.mksl 24 1 (List.replicate 24 (.k (C.int .i64 0))) [(0, 24, .t 50)])⟩,
    ⟨some 52, none, .h (.app 24 (.t 49) (.t 51))⟩,
    ⟨some 4, none, .p (.mv (.t 52))⟩] [4, 23, 24, 25])))))
  (.region [⟨some 53, none, .p (.bin .add (.t 25) (.k (.c (C.int .i64 1))))⟩,
    ⟨some 25, none, .p (.mv (.t 53))⟩] [4, 23, 24, 25])))) [4, 23, 24, 25])))
  (.seq (.region [⟨some 54, none, .p (.mv (.t 4))⟩,
    ⟨some 2, none, .p (.mv (.t 54))⟩,
    ⟨some 3, none, .p (.mv (.k (.c (C.bool true))))⟩] [2, 3])
  .ret))))) }
theorem a126_ok : okFn Try.prog 126 a126 = true := by kernel_rfl
/-- loop.example/g01215/impl.canPourPath -/
def a127 : AFn := { np := 2, nt := 21, res := [.t 4], body :=
  (.seq (.region [⟨some 2, none, .p (.box 24 (.t 0))⟩,
    ⟨some 3, none, .p (.box 2 (.t 1))⟩,
    ⟨some 4, none, .p (.mv (.k (.c (C.bool false))))⟩] [2, 3])
  (.seq (.region [⟨some 5, none, .p (.ixA 2 1 (.t 3) (.k (.c (C.int .i64 0))))⟩,
    ⟨some 6, none, .h (.load 1 false (.t 5))⟩,
    ⟨some 7, none, .h (.call (.f 115) [.t 6])⟩,
    ⟨some 8, none, .p (.mv (.t 7))⟩,
    ⟨some 9, some (8, true), .p (.ixA 2 1 (.t 3) (.k (.c (C.int .i64 1))))⟩,
    ⟨some 10, some (8, true), .h (.load 1 false (.t 9))⟩,
    ⟨some 11, some (8, true), .h (.call (.f 115) [.t 10])⟩,
    ⟨some 12, none, .p (.pick (.t 8) (.t 11) (.k (.c (C.bool false))))⟩,
    ⟨some 13, none, .p (.mv (.t 12))⟩,
    ⟨some 14, some (13, true), .h (.load 24 true (.t 2))⟩,
    ⟨some 15, some (13, true), .p (.ixA 2 1 (.t 3) (.k (.c (C.int .i64 0))))⟩,
    ⟨some 16, some (13, true), .h (.load 1 false (.t 15))⟩,
    ⟨some 17, some (13, true), .p (.ixA 2 1 (.t 3) (.k (.c (C.int .i64 1))))⟩,
    ⟨some 18, some (13, true), .h (.load 1 false (.t 17))⟩,
    ⟨some 19, some (13, true), .h (.call (.f 158) [.t 14, .t 16, .t 18])⟩,
    ⟨some 20, none, .p (.pick (.t 13) (.t 19) (.k (.c (C.bool false))))⟩,
    ⟨some 4, none, .p (.mv (.t 20))⟩] [4])
  .ret)) }
theorem a127_ok : okFn Try.prog 127 a127 = true := by kernel_rfl
/-- loop.example/g01215/impl.isIdle -/
def a128 : AFn := { np := 2, nt := 22, res := [.t 4], body :=
  (.seq (.region [⟨some 2, none, .p (.box 24 (.t 0))⟩,
    ⟨some 3, none, .p (.box 2 (.t 1))⟩,
    ⟨some 4, none, .p (.mv (.k (.c (C.bool false))))⟩] [2, 3])
  (.seq (.region [⟨some 5, none, .p (.ixA 2 1 (.t 3) (.k (.c (C.int .i64 0))))⟩,
    ⟨some 6, none, .h (.load 1 false (.t 5))⟩,
    ⟨some 7, none, .p (.fld 0 (.t 2))⟩,
    ⟨some 8, none, .p (.ixA 6 4 (.t 7) (.t 6))⟩,
    ⟨some 9, none, .h (.load 4 true (.t 8))⟩,
    ⟨some 10, none, .h (.call (.f 197) [.t 9])⟩,
    ⟨some 11, none, .p (.len (.t 10))⟩,
    ⟨some 12, none, .p (.bin .eql (.t 11) (.k (.c (C.int .i64 1))))⟩,
    ⟨some 13, none, .p (.mv (.t 12))⟩,
    ⟨some 14, some (13, true), .p (.ixA 2 1 (.t 3) (.k (.c (C.int .i64 1))))⟩,
    ⟨some 15, some (13, true), .h (.load 1 false (.t 14))⟩,
    ⟨some 16, some (13, true), .p (.fld 0 (.t 2))⟩,
    ⟨some 17, some (13, true), .p (.ixA 6 4 (.t 16) (.t 15))⟩,
    ⟨some 18, some (13, true), .h (.load 4 true (.t 17))⟩,
    ⟨some 19, some (13, true), .h (.call (.f 188) [.t 18])⟩,
    ⟨some 20, some (13, true), .p (.bin .eql (.t 19) (.k (.c (C.int .i64 0))))⟩,
    ⟨some 21, none, .p (.pick (.t 13) (.t 20) (.k (.c (C.bool false))))⟩,
    ⟨some 4, none, .p (.mv (.t 21))⟩] [4])
  .ret)) }
theorem a128_ok : okFn Try.prog 128 a128 = true := by kernel_rfl
/-- loop.example/g01215/spec.IsReplay -/
def a129 : AFn := { np := 1, nt := 11, res := [.t 2], body :=
  (.seq (.region [⟨some 1, none, .p (.box 25 (.t 0))⟩,
    ⟨some 2, none, .p (.mv (.k (.c (C.bool false))))⟩] [1])
  (.seq (.region [⟨some 6, none, .h (.load 25 true (.t 1))⟩,
    ⟨some 7, none, .h (.call (.f 123) [.t 6])⟩,
    ⟨some 5, none, .p (.mv (.t 7))⟩,
    ⟨some 8, none, .p (.ext (.t 5) 0)⟩,
    ⟨some 9, none, .p (.ext (.t 5) 1)⟩,
    ⟨some 3, none, .p (.mv (.t 8))⟩,
    ⟨some 4, none, .p (.mv (.t 9))⟩] [4])
  (.seq (.region [⟨some 10, none, .p (.mv (.t 4))⟩,
    ⟨some 2, none, .p (.mv (.t 10))⟩] [2])
  .ret))) }
theorem a129_ok : okFn Try.prog 129 a129 = true := by kernel_rfl
/-- loop.example/g01215/spec.l6Can -/
def a130 : AFn := { np := 2, nt := 21, res := [.t 4], body :=
  (.seq (.region [⟨some 2, none, .p (.box 24 (.t 0))⟩,
    ⟨some 3, none, .p (.box 2 (.t 1))⟩,
    ⟨some 4, none, .p (.mv (.k (.c (C.bool false))))⟩] [2, 3])
  (.seq (.region [⟨some 5, none, .p (.ixA 2 1 (.t 3) (.k (.c (C.int .i64 0))))⟩,
    ⟨some 6, none, .h (.load 1 false (.t 5))⟩,
    ⟨some 7, none, .h (.call (.f 118) [.t 6])⟩,
    ⟨some 8, none, .p (.mv (.t 7))⟩,
    ⟨some 9, some (8, true), .p (.ixA 2 1 (.t 3) (.k (.c (C.int .i64 1))))⟩,
    ⟨some 10, some (8, true), .h (.load 1 false (.t 9))⟩,
    ⟨some 11, some (8, true), .h (.call (.f 118) [.t 10])⟩,
    ⟨some 12, none, .p (.pick (.t 8) (.t 11) (.k (.c (C.bool false))))⟩,
    ⟨some 13, none, .p (.mv (.t 12))⟩,
    ⟨some 14, some (13, true), .h (.load 24 true (.t 2))⟩,
    ⟨some 15, some (13, true), .p (.ixA 2 1 (.t 3) (.k (.c (C.int .i64 0))))⟩,
    ⟨some 16, some (13, true), .h (.load 1 false (.t 15))⟩,
    ⟨some 17, some (13, true), .p (.ixA 2 1 (.t 3) (.k (.c (C.int .i64 1))))⟩,
    ⟨some 18, some (13, true), .h (.load 1 false (.t 17))⟩,
    ⟨some 19, some (13, true), .h (.call (.f 198) [.t 14, .t 16, .t 18])⟩,
    ⟨some 20, none, .p (.pick (.t 13) (.t 19) (.k (.c (C.bool false))))⟩,
    ⟨some 4, none, .p (.mv (.t 20))⟩] [4])
  .ret)) }
theorem a130_ok : okFn Try.prog 130 a130 = true := by kernel_rfl
/-- loop.example/g01215/spec.l2Idle -/
def a131 : AFn := { np := 3, nt := 22, res := [.t 6], body :=
  (.seq (.region [⟨some 3, none, .p (.box 24 (.t 0))⟩,
    ⟨some 6, none, .p (.mv (.k (.c (C.bool false))))⟩] [1, 2, 3])
  (.seq (.region [⟨some 7, none, .p (.mv (.t 1))⟩,
    ⟨some 8, none, .p (.fld 0 (.t 3))⟩,
    ⟨some 9, none, .p (.ixA 6 4 (.t 8) (.t 7))⟩,
    ⟨some 10, none, .h (.load 4 true (.t 9))⟩,
    ⟨some 11, none, .h (.call (.f 199) [.t 10])⟩,
    ⟨some 12, none, .p (.len (.t 11))⟩,
    ⟨some 13, none, .p (.bin .eql (.t 12) (.k (.c (C.int .i64 1))))⟩,
    ⟨some 14, none, .p (.mv (.t 13))⟩,
    ⟨some 15, some (14, true), .p (.mv (.t 2))⟩,
    ⟨some 16, some (14, true), .p (.fld 0 (.t 3))⟩,
    ⟨some 17, some (14, true), .p (.ixA 6 4 (.t 16) (.t 15))⟩,
    ⟨some 18, some (14, true), .h (.load 4 true (.t 17))⟩,
    ⟨some 19, some (14, true), .h (.call (.f 200) [.t 18])⟩,
    ⟨some 20, some (14, true), .p (.bin .eql (.t 19) (.k (.c (C.int .i64 0))))⟩,
    ⟨some 21, none, .p (.pick (.t 14) (.t 20) (.k (.c (C.bool false))))⟩,
    ⟨some 6, none, .p (.mv (.t 21))⟩] [6])
  .ret)) }
theorem a131_ok : okFn Try.prog 131 a131 = true := by kernel_rfl
/-- loop.example/g01215/spec.l2Pour -/
def a132 : AFn := { np := 3, nt := 59, res := [.cell 6 24 true, .t 7], body :=
  (.seq (.region [⟨some 3, none, .p (.box 24 (.t 0))⟩,
    ⟨some 6, none, .p (.alloc (List.replicate 24 (.k (C.int .i64 0))))⟩,
    ⟨some 7, none, .p (.mv (.k (.c (C.int .i64 0))))⟩] [1, 2, 3, 6])
  (.seq (.region [⟨some 15, none, .p (.mv (.t 1))⟩,
    ⟨some 16, none, .p (.fld 0 (.t 3))⟩,
    ⟨some 17, none, .p (.ixA 6 4 (.t 16) (.t 15))⟩,
    ⟨some 18, none, .h (.load 4 true (.t 17))⟩,
    ⟨some 19, none, .h (.call (.f 201) [.t 18])⟩,
    ⟨some 14, none, .p (.mv (.t 19))⟩,
    ⟨some 20, none, .p (.ext (.t 14) 0)⟩,
    ⟨some 21, none, .p (.ext (.t 14) 1)⟩,
    ⟨some 8, none, .p (.mv (.t 20))⟩,
    ⟨some 9, none, .p (.mv (.t 21))⟩] [1, 2, 3, 6, 8, 9])
  (.seq (.regionD [⟨some 22, none, .p (.mv (.t 1))⟩,
    ⟨some 23, none, .p (.fld 0 (.t 3))⟩,
    ⟨some 24, none, .p (.ixA 6 4 (.t 23) (.t 22))⟩,
    ⟨some 25, none, .h (.load 4 true (.t 24))⟩,
    ⟨some 26, none, .h (.call (.f 200) [.t 25])⟩,
    ⟨some 27, none, .p (.mv (.t 2))⟩,
    ⟨some 28, none, .p (.fld 0 (.t 3))⟩,
    ⟨some 29, none, .p (.ixA 6 4 (.t 28) (.t 27))⟩,
    ⟨some 30, none, .h (.load 4 true (.t 29))⟩,
    ⟨some 31, none, .h (.call (.f 200) [.t 30])⟩,
    ⟨some 10, none, .p (.mv (.t 26))⟩,
    ⟨some 11, none, .p (.mv (.t 31))⟩] [1, 2, 3, 6, 8, 9, 10, 11] [])
  (.seq (.region [⟨some 32, none, .p (.mv (.t 9))⟩,
    ⟨some 33, none, .p (.mv (.t 11))⟩,
    ⟨some 34, none, .p (.bin .sub (.k (.c (C.int .i64 4))) (.t 33))⟩,
    ⟨some 35, none, .h (.call (.f 202) [.t 32, .t 34])⟩,
    ⟨some 12, none, .p (.mv (.t 35))⟩] [1, 2, 3, 6, 8, 10, 11, 12])
  (.seq (.seq (.region [⟨some 13, none, .p (.mv (.k (.c (C.int .i64 0))))⟩] [1, 2, 3, 6, 8, 10, 11, 12, 13])
  (.block 0 (.loop (.seq (.seq (.region [⟨some 36, none, .p (.mv (.t 13))⟩,
    ⟨some 37, none, .p (.mv (.t 12))⟩,
    ⟨some 38, none, .p (.bin .lss (.t 36) (.t 37))⟩] [1, 2, 3, 6, 8, 10, 11, 12, 13, 38])
  (.cond (.t 38)
  .skip
  (.exit 0)))
  (.seq (.block 1 (.seq (.region [⟨some 41, none, .p (.mv (.t 1))⟩,
    ⟨some 42, none, .p (.mv (.t 10))⟩,
    ⟨some 43, none, .p (.bin .sub (.t 42) (.k (.c (C.int .i64 1))))⟩,
    ⟨some 44, none, .p (.mv (.t 13))⟩,
    ⟨some 45, none, .p (.bin .sub (.t 43) (.t 44))⟩,
    ⟨some 46, none, .p (.fld 0 (.t 3))⟩,
    ⟨some 47, none, .p (.ixA 6 4 (.t 46) (.t 41))⟩,
    ⟨some 48, none, .p (.ixA 4 1 (.t 47) (.t 45))⟩,
    ⟨none, none, .h (.store 1 (.t 48) (.k (.c (C.int .i64 0))))⟩] [1, 2, 3, 6, 8, 10, 11, 12, 13])
  (.region [⟨some 49, none, .p (.mv (.t 2))⟩,
    ⟨some 50, none, .p (.mv (.t 11))⟩,
    ⟨some 51, none, .p (.mv (.t 13))⟩,
    ⟨some 52, none, .p (.bin .add (.t 50) (.t 51))⟩,
    ⟨some 53, none, .p (.mv (.t 8))⟩,
    ⟨some 54, none, .p (.fld 0 (.t 3))⟩,
    ⟨some 55, none, .p (.ixA 6 4 (.t 54) (.t 49))⟩,
    ⟨some 56, none, .p (.ixA 4 1 (.t 55) (.t 52))⟩,
    ⟨none, none, .h (.store 1 (.t 56) (.t 53))⟩] [1, 2, 3, 6, 8, 10, 11, 12, 13])))
  (.region [⟨some 39, none, .p (.mv (.t 13))⟩,
    ⟨some 40, none, .p (.bin .add (.t 39) (.k (.c (C.int .i64 1))))⟩,
    ⟨some 13, none, .p (.mv (.t 40))⟩] [1, 2, 3, 6, 8, 10, 11, 12, 13]))) [1, 2, 3, 6, 8, 10, 11, 12, 13])))
  (.seq (.region [⟨some 57, none, .h (.load 24 true (.t 3))⟩,
    ⟨some 58, none, .p (.mv (.t 12))⟩,
    ⟨none, none, .h (.store 24 (.t 6) (.t 57))⟩,
    ⟨some 7, none, .p (.mv (.t 58))⟩] [6, 7])
  .ret)))))) }
theorem a132_ok : okFn Try.prog 132 a132 = true := by kernel_rfl
/-- (loop.example/g01215/impl.Replay).solves -/
def a133 : AFn := { np := 1, nt := 20, res := [.t 2], body :=
  (.seq (.region [⟨some 1, none, .p (.box 25 (.t 0))⟩,
    ⟨some 2, none, .p (.mv (.k (.c (C.bool false))))⟩] [1])
  (.seq (.region [⟨some 6, none, .h (.load 25 true (.t 1))⟩,
    ⟨some 7, none, .h (.call (.f 126) [.t 6])⟩,
    ⟨some 5, none, .p (.mv (.t 7))⟩,
    ⟨some 8, none, .p (.ext (.t 5) 0)⟩,
    ⟨some 9, none, .p (.ext (.t 5) 1)⟩,
    ⟨some 3, none, .p (.mv (.t 8))⟩,
    ⟨some 4, none, .p (.mv (.t 9))⟩] [3, 4])
  (.seq (.region [⟨some 10, none, .p (.mv (.t 4))⟩,
    ⟨some 11, none, .p (.mv (.t 10))⟩,
    ⟨some 12, some (11, true), .p (.mv (.t 3))⟩,
    ⟨some 13, some (11, true), .p (.mv (.t 3))⟩,
    ⟨some 14, some (11, true), .p (.len (.t 13))⟩,
    ⟨some 15, some (11, true), .p (.bin .sub (.t 14) (.k (.c (C.int .i64 1))))⟩,
    ⟨some 16, some (11, true), .p (.ixS 24 (.t 12) (.t 15))⟩,
    ⟨some 17, some (11, true), .h (.load 24 true (.t 16))⟩,
    ⟨some 18, some (11, true), .h (.call (.f 169) [.t 17])⟩,
    ⟨some 19, none, .p (.pick (.t 11) (.t 18) (.k (.c (C.bool false))))⟩,
    ⟨some 2, none, .p (.mv (.t 19))⟩] [2])
  .ret))) }
theorem a133_ok : okFn Try.prog 133 a133 = true := by kernel_rfl
/-- loop.example/g01215/spec.l2Sorted -/
def a134 : AFn := { np := 1, nt := 42, res := [.t 2], body :=
  (.seq (.region [⟨some 1, none, .p (.box 24 (.t 0))⟩,
    ⟨some 2, none, .p (.mv (.k (.c (C.bool false))))⟩] [1])
  (.seq (.region [⟨some 6, none, .p (.mksl 1 0 [.k (C.int .i64 0)] [])⟩,
    ⟨some 3, none, .p (.mv (.t 6))⟩] [1, 3])
  (.seq (.seq (.region [⟨some 4, none, .p (.mv (.k (.c (C.int .i64 0))))⟩] [1, 3, 4])
  (.block 0 (.loop (.seq (.seq (.region [⟨some 7, none, .p (.mv (.t 4))⟩,
    ⟨some 8, none, .p (.bin .lss (.t 7) (.k (.c (C.int .i64 6))))⟩] [1, 3, 4, 8])
  (.cond (.t 8)
  .skip
  (.exit 0)))
  (.seq (.block 1 (.seq (.region [⟨some 11, none, .p (.mv (.t 4))⟩,
    ⟨some 12, none, .p (.fld 0 (.t 1))⟩,
    ⟨some 13, none, .p (.ixA 6 4 (.t 12) (.t 11))⟩,
    ⟨some 14, none, .h (.load 4 true (.t 13))⟩,
    ⟨some 15, none, .h (.call (.f 199) [.t 14])⟩,
    ⟨some 5, none, .p (.mv (.t 15))⟩] [1, 3, 4, 5])
  (.seq (.seq (.region [⟨some 16, none, .p (.mv (.t 5))⟩,
    ⟨some 17, none, .p (.len (.t 16))⟩,
    ⟨some 18, none, .p (.bin .gtr (.t 17) (.k (.c (C.int .i64 1))))⟩,
    ⟨some 19, none, .p (.mv (.t 18))⟩,
    ⟨some 20, some (19, false), .p (.mv (.t 5))⟩,
    ⟨some 21, some (19, false), .p (.len (.t 20))⟩,
    ⟨some 22, some (19, false), .p (.bin .eql (.t 21) (.k (.c (C.int .i64 1))))⟩,
    ⟨some 23, some (19, false), .p (.mv (.t 22))⟩,
    ⟨some 24, some (23, true), .p (.mv (.t 3))⟩,
    ⟨some 25, some (23, true), .p (.mv (.t 5))⟩,
    ⟨some 26, some (23, true), .p (.ixS 2 (.t 25) (.k (.c (C.int .i64 0))))⟩,
    ⟨some 27, some (23, true), .p (.ixA 2 1 (.t 26) (.k (.c (C.int .i64 0))))⟩,
    ⟨some 28, some (23, true), .h (.load 1 false (.t 27))⟩,
    ⟨some 29, some (23, true), .h (.call (.f 203) [.t 24, .t 28])⟩,
    ⟨some 30, some (19, false), .p (.pick (.t 23) (.t 29) (.k (.c (C.bool false))))⟩,
    ⟨some 31, none, .p (.pick (.t 19) (.k (.c (C.bool true))) (.t 30))⟩] [1, 3, 4, 5, 31])
  (.cond (.t 31)
  (.seq (.region [⟨some 2, none, .p (.mv (.k (.c (C.bool false))))⟩] [2])
  .ret)
  .skip))
  (.seq (.region [⟨some 32, none, .p (.mv (.t 5))⟩,
    ⟨some 33, none, .p (.len (.t 32))⟩,
    ⟨some 34, none, .p (.bin .eql (.t 33) (.k (.c (C.int .i64 1))))⟩] [1, 3, 4, 5, 34])
  (.cond (.t 34)
  (.region [⟨some 35, none, .p (.mv (.t 3))⟩,
    ⟨some 36, none, .p (.mv (.t 5))⟩,
    ⟨some 37, none, .p (.ixS 2 (.t 36) (.k (.c (C.int .i64 0))))⟩,
    ⟨some 38, none, .p (.ixA 2 1 (.t 37) (.k (.c (C.int .i64 0))))⟩,
    ⟨some 39, none, .h (.load 1 false (.t 38))⟩,
    ⟨some 40, none, .p (.mksl 1 1 [.k (C.int .i64 0)] [(0, 1, .t 39)])⟩,
    ⟨some 41, none, .h (.app 1 (.t 35) (.t 40))⟩,
    ⟨some 3, none, .p (.mv (.t 41))⟩] [1, 3, 4])
  .skip)))))
  (.region [⟨some 9, none, .p (.mv (.t 4))⟩,
    ⟨some 10, none, .p (.bin .add (.t 9) (.k (.c (C.int .i64 1))))⟩,
    ⟨some 4, none, .p (.mv (.t 10))⟩] [1, 3, 4]))) [1, 3, 4])))
  (.seq (.region [⟨some 2, none, .p (.mv (.k (.c (C.bool true))))⟩] [2])
  .ret)))) }
theorem a134_ok : okFn Try.prog 134 a134 = true := by kernel_rfl
/-- loop.example/g01215/impl.bound -/
def a135 : AFn := { np := 1, nt := 24, res := [.t 2], body :=
  (.seq (.region [⟨some 1, none, .p (.box 24 (.t 0))⟩,
    ⟨some 2, none, .p (.mv (.k (.c (C.int .i64 0))))⟩] [1])
  (.seq (.region [⟨some 7, none, .h (.load 24 true (.t 1))⟩,
    ⟨some 8, none, .h (.call (.f 204) [.t 7])⟩,
    ⟨some 3, none, .p (.mv (.t 8))⟩] [1, 3])
  (.seq (.region [⟨some 9, none, .h (.load 24 true (.t 1))⟩,
    ⟨some 10, none, .h (.call (.f 205) [.t 9])⟩,
    ⟨some 4, none, .p (.alloc [.k (C.int .i64 0), .k (C.int .i64 0), .k (C.int .i64 0), .k (C.int .i64 0), .k (C.int .i64 0), .k (C.int .i64 0)])⟩,
    ⟨none, none, .h (.store 6 (.t 4) (.t 10))⟩] [3, 4])
  (.seq (.seq (.region [⟨some 11, none, .h (.slA 6 1 (.t 4) (some (.k (.c (C.int .i64 1)))) none)⟩,
    ⟨some 12, none, .p (.len (.t 11))⟩,
    ⟨some 13, none, .p (.mv (.k (.c (C.int .i64 0))))⟩] [3, 11, 12, 13])
  (.block 0 (.loop (.seq (.region [⟨some 14, none, .p (.bin .lss (.t 13) (.t 12))⟩] [3, 11, 12, 13, 14])
  (.seq (.cond (.t 14)
  .skip
  (.exit 0))
  (.seq (.block 1 (.seq (.region [⟨some 15, none, .p (.ixS 1 (.t 11) (.t 13))⟩,
    ⟨some 16, none, .h (.load 1 false (.t 15))⟩,
    ⟨some 6, none, .p (.mv (.t 16))⟩] [3, 6, 11, 12, 13])
  (.region [⟨some 17, none, .p (.mv (.t 3))⟩,
    ⟨some 18, none, .p (.mv (.t 6))⟩,
    ⟨some 19, none, .p (.bin .sub (.t 18) (.k (.c (C.int .i64 1))))⟩,
    ⟨some 20, none, .p (.mnmx true [.t 19, .k (.c (C.int .i64 0))])⟩,
    ⟨some 21, none, .p (.bin .add (.t 17) (.t 20))⟩,
    ⟨some 3, none, .p (.mv (.t 21))⟩] [3, 11, 12, 13])))
  (.region [⟨some 22, none, .p (.bin .add (.t 13) (.k (.c (C.int .i64 1))))⟩,
    ⟨some 13, none, .p (.mv (.t 22))⟩] [3, 11, 12, 13])))) [3, 11, 12, 13])))
  (.seq (.region [⟨some 23, none, .p (.mv (.t 3))⟩,
    ⟨some 2, none, .p (.mv (.t 23))⟩] [2])
  .ret))))) }
theorem a135_ok : okFn Try.prog 135 a135 = true := by kernel_rfl
/-- loop.example/g01215/spec.l6Bound -/
def a136 : AFn := { np := 1, nt := 22, res := [.t 2], body :=
  (.seq (.region [⟨some 1, none, .p (.box 24 (.t 0))⟩,
    ⟨some 2, none, .p (.mv (.k (.c (C.int .i64 0))))⟩] [1])
  (.seq (.regionD [⟨some 6, none, .h (.load 24 true (.t 1))⟩,
    ⟨some 7, none, .h (.call (.f 206) [.t 6])⟩,
    ⟨some 8, none, .h (.load 24 true (.t 1))⟩,
    ⟨some 9, none, .h (.call (.f 207) [.t 8])⟩,
    ⟨some 4, none, .p (.alloc [.k (C.int .i64 0), .k (C.int .i64 0), .k (C.int .i64 0), .k (C.int .i64 0), .k (C.int .i64 0), .k (C.int .i64 0)])⟩,
    ⟨some 3, none, .p (.mv (.t 7))⟩,
    ⟨none, none, .h (.store 6 (.t 4) (.t 9))⟩] [3, 4] [])
  (.seq (.seq (.region [⟨some 5, none, .p (.mv (.k (.c (C.int .i64 1))))⟩] [3, 4, 5])
  (.block 0 (.loop (.seq (.seq (.region [⟨some 10, none, .p (.mv (.t 5))⟩,
    ⟨some 11, none, .p (.bin .leq (.t 10) (.k (.c (C.int .i64 5))))⟩] [3, 4, 5, 11])
  (.cond (.t 11)
  .skip
  (.exit 0)))
  (.seq (.block 1 (.region [⟨some 14, none, .p (.mv (.t 3))⟩,
    ⟨some 15, none, .p (.mv (.t 5))⟩,
    ⟨some 16, none, .p (.ixA 6 1 (.t 4) (.t 15))⟩,
    ⟨some 17, none, .h (.load 1 false (.t 16))⟩,
    ⟨some 18, none, .p (.bin .sub (.t 17) (.k (.c (C.int .i64 1))))⟩,
    ⟨some 19, none, .h (.call (.f 194) [.k (.c (C.int .i64 0)), .t 18])⟩,
    ⟨some 20, none, .p (.bin .add (.t 14) (.t 19))⟩,
    ⟨some 3, none, .p (.mv (.t 20))⟩] [3, 4, 5]))
  (.region [⟨some 12, none, .p (.mv (.t 5))⟩,
    ⟨some 13, none, .p (.bin .add (.t 12) (.k (.c (C.int .i64 1))))⟩,
    ⟨some 5, none, .p (.mv (.t 13))⟩] [3, 4, 5]))) [3, 4, 5])))
  (.seq (.region [⟨some 21, none, .p (.mv (.t 3))⟩,
    ⟨some 2, none, .p (.mv (.t 21))⟩] [2])
  .ret)))) }
theorem a136_ok : okFn Try.prog 136 a136 = true := by kernel_rfl
/-- loop.example/g01215/impl.within -/
def a137 : AFn := { np := 3, nt := 15, res := [.t 6], body :=
  (.seq (.region [⟨some 6, none, .p (.mv (.k (.c (C.bool false))))⟩] [0, 1, 2])
  (.seq (.region [⟨some 7, none, .p (.mv (.t 1))⟩,
    ⟨some 8, none, .p (.mv (.t 0))⟩,
    ⟨some 9, none, .p (.bin .leq (.t 7) (.t 8))⟩,
    ⟨some 10, none, .p (.mv (.t 9))⟩,
    ⟨some 11, some (10, true), .p (.mv (.t 0))⟩,
    ⟨some 12, some (10, true), .p (.mv (.t 2))⟩,
    ⟨some 13, some (10, true), .p (.bin .leq (.t 11) (.t 12))⟩,
    ⟨some 14, none, .p (.pick (.t 10) (.t 13) (.k (.c (C.bool false))))⟩,
    ⟨some 6, none, .p (.mv (.t 14))⟩] [6])
  .ret)) }
theorem a137_ok : okFn Try.prog 137 a137 = true := by kernel_rfl
/-- loop.example/g01215/spec.DrawEndValue -/
def a138 : AFn := { np := 1, nt := 15, res := [.cell 2 24 true, .t 3], body :=
  (.seq (.region [⟨some 2, none, .p (.alloc (List.replicate 24 (.k (C.int .i64 0))))⟩,
    ⟨some 3, none, .p (.mv (.k (.c (C.int .i64 0))))⟩] [0, 2])
  (.seq (.region [⟨some 6, none, .p (.mv (.t 0))⟩,
    ⟨some 7, none, .p (.build [.sl 1, .k (C.int .i64 0), .k (C.int .u64 0)] [(0, 1, .t 6)])⟩,
    ⟨some 8, none, .p (.box 3 (.t 7))⟩,
    ⟨some 4, none, .p (.mv (.t 8))⟩] [2, 4])
  (.seq (.region [⟨some 9, none, .p (.mv (.t 4))⟩,
    ⟨some 10, none, .p (.mksl 1 7 [.k (C.int .i64 0)] [(0, 1, .k (.c (C.int .i64 2))), (1, 1, .k (.c (C.int .i64 3))), (2, 1, .k (.c (C.int .i64 1))), (3, 1, .k (.c (C.int .i64 0))), (4, 1, .k (.c (C.int .i64 3))), (5, 1, .k (.c (C.int .i64 4))), (6, 1, .k (.c (C.int .i64 (-1))))])⟩,
    ⟨some 11, none, .h (.call (.f 181) [.t 9, .t 10])⟩,
    ⟨some 5, none, .p (.mv (.t 11))⟩] [2, 4, 5])
  (.seq (.region [⟨some 12, none, .p (.mv (.t 4))⟩,
    ⟨some 13, none, .h (.call (.f 144) [.t 12])⟩,
    ⟨some 14, none, .p (.mv (.t 5))⟩,
    ⟨none, none, .h (.store 24 (.t 2) (.t 13))⟩,
    ⟨some 3, none, .p (.mv (.t 14))⟩] [2, 3])
  .ret)))) }
theorem a138_ok : okFn Try.prog 138 a138 = true := by kernel_rfl
/-- loop.example/g01215/impl.isGame -/
def a139 : AFn := { np := 3, nt := 14, res := [.t 6], body :=
  (.seq (.region [⟨some 3, none, .p (.box 24 (.t 0))⟩,
    ⟨some 6, none, .p (.mv (.k (.c (C.bool false))))⟩] [1, 2, 3])
  (.seq (.region [⟨some 7, none, .h (.load 24 true (.t 3))⟩,
    ⟨some 8, none, .h (.call (.f 59) [.t 7])⟩,
    ⟨some 9, none, .p (.mv (.t 8))⟩,
    ⟨some 10, some (9, true), .p (.mv (.t 1))⟩,
    ⟨some 11, some (9, true), .p (.mv (.t 2))⟩,
    ⟨some 12, some (9, true), .h (.call (.f 137) [.t 10, .t 11, .k (.c (C.int .i64 3))])⟩,
    ⟨some 13, none, .p (.pick (.t 9) (.t 12) (.k (.c (C.bool false))))⟩,
    ⟨some 6, none, .p (.mv (.t 13))⟩] [6])
  .ret)) }
theorem a139_ok : okFn Try.prog 139 a139 = true := by kernel_rfl
/-- loop.example/g01215/impl.tubeValue -/
def a140 : AFn := { np := 2, nt := 58, res := [.t 4, .t 5], body :=
  (.seq (.region [⟨some 2, none, .p (.box 24 (.t 0))⟩,
    ⟨some 4, none, .p (.mv (.k (.c (C.int .i64 0))))⟩,
    ⟨some 5, none, .p (.nilsl 2)⟩] [1, 2])
  (.seq (.seq (.region [⟨some 14, none, .p (.mv (.t 1))⟩,
    ⟨some 15, none, .p (.bin .eql (.t 14) (.k (.c (C.int .i64 0))))⟩] [1, 2, 15])
  (.cond (.t 15)
  (.seq (.region [⟨some 4, none, .p (.mv (.k (.c (C.int .i64 0))))⟩,
    ⟨some 5, none, .p (.nilsl 2)⟩] [4, 5])
  .ret)
  .skip))
  (.seq (.region [⟨some 6, none, .p (.mv (.k (.c (C.int .i64 0))))⟩] [1, 2, 6])
  (.seq (.region [⟨some 7, none, .p (.nilsl 2)⟩] [1, 2, 6, 7])
  (.seq (.seq (.region [⟨some 16, none, .h (.load 24 true (.t 2))⟩,
    ⟨some 17, none, .h (.call (.f 98) [.t 16])⟩,
    ⟨some 18, none, .p (.len (.t 17))⟩,
    ⟨some 19, none, .p (.mv (.k (.c (C.int .i64 0))))⟩] [1, 2, 6, 7, 17, 18, 19])
  (.block 0 (.loop (.seq (.region [⟨some 20, none, .p (.bin .lss (.t 19) (.t 18))⟩] [1, 2, 6, 7, 17, 18, 19, 20])
  (.seq (.cond (.t 20)
  .skip
  (.exit 0))
  (.seq (.block 1 (.seq (.region [⟨some 21, none, .p (.ixS 2 (.t 17) (.t 19))⟩,
    ⟨some 22, none, .h (.load 2 true (.t 21))⟩,
    ⟨some 9, none, .p (.alloc [.k (C.int .i64 0), .k (C.int .i64 0)])⟩,
    ⟨none, none, .h (.store 2 (.t 9) (.t 22))⟩] [1, 2, 6, 7, 9, 17, 18, 19])
  (.seq (.region [⟨some 24, none, .h (.load 24 true (.t 2))⟩,
    ⟨some 25, none, .h (.load 2 true (.t 9))⟩,
    ⟨some 26, none, .h (.call (.f 146) [.t 24, .t 25])⟩,
    ⟨some 23, none, .p (.mv (.t 26))⟩,
    ⟨some 27, none, .p (.ext (.t 23) 0)⟩,
    ⟨some 28, none, .p (.ext (.t 23) 1)⟩,
    ⟨some 11, none, .p (.alloc (List.replicate 24 (.k (C.int .i64 0))))⟩,
    ⟨some 10, none, .p (.mv (.t 27))⟩,
    ⟨none, none, .h (.store 24 (.t 11) (.t 28))⟩] [1, 2, 6, 7, 9, 10, 11, 17, 18, 19])
  (.seq (.region [⟨some 30, none, .h (.load 24 true (.t 11))⟩,
    ⟨some 31, none, .p (.mv (.t 1))⟩,
    ⟨some 32, none, .p (.bin .sub (.t 31) (.k (.c (C.int .i64 1))))⟩,
    ⟨some 33, none, .h (.call (.f 140) [.t 30, .t 32])⟩,
    ⟨some 29, none, .p (.mv (.t 33))⟩,
    ⟨some 34, none, .p (.ext (.t 29) 0)⟩,
    ⟨some 35, none, .p (.ext (.t 29) 1)⟩,
    ⟨some 12, none, .p (.mv (.t 34))⟩,
    ⟨some 13, none, .p (.mv (.t 35))⟩] [1, 2, 6, 7, 9, 10, 12, 17, 18, 19])
  (.seq (.region [⟨some 36, none, .p (.mv (.t 10))⟩,
    ⟨some 37, none, .p (.mv (.t 12))⟩,
    ⟨some 38, none, .p (.bin .sub (.t 36) (.t 37))⟩,
    ⟨some 10, none, .p (.mv (.t 38))⟩] [1, 2, 6, 7, 9, 10, 17, 18, 19])
  (.seq (.seq (.region [⟨some 39, none, .p (.mv (.t 7))⟩,
    ⟨some 40, none, .p (.len (.t 39))⟩,
    ⟨some 41, none, .p (.bin .eql (.t 40) (.k (.c (C.int .i64 0))))⟩,
    ⟨some 42, none, .p (.mv (.t 41))⟩,
    ⟨some 43, some (42, false), .p (.mv (.t 10))⟩,
    ⟨some 44, some (42, false), .p (.mv (.t 6))⟩,
    ⟨some 45, some (42, false), .p (.bin .gtr (.t 43) (.t 44))⟩,
    ⟨some 46, none, .p (.pick (.t 42) (.k (.c (C.bool true))) (.t 45))⟩] [1, 2, 6, 7, 9, 10, 17, 18, 19, 46])
  (.cond (.t 46)
  (.region [⟨some 47, none, .p (.mv (.t 10))⟩,
    ⟨some 6, none, .p (.mv (.t 47))⟩,
    ⟨some 7, none, .p (.nilsl 2)⟩] [1, 2, 6, 7, 9, 10, 17, 18, 19])
  .skip))
  (.seq (.region [⟨some 48, none, .p (.mv (.t 10))⟩,
    ⟨some 49, none, .p (.mv (.t 6))⟩,
    ⟨some 50, none, .p (.bin .eql (.t 48) (.t 49))⟩] [1, 2, 6, 7, 9, 17, 18, 19, 50])
  (.cond (.t 50)
  (.region [⟨some 51, none, .p (.mv (.t 7))⟩,
    ⟨some 52, none, .h (.load 2 true (.t 9))⟩,
    ⟨some 53, none, .p (.mksl 2 1 [.k (C.int .i64 0), .k (C.int .i64 0)] [(0, 2, .t 52)])⟩,
    ⟨some 54, none, .h (.app 2 (.t 51) (.t 53))⟩,
    ⟨some 7, none, .p (.mv (.t 54))⟩] [1, 2, 6, 7, 17, 18, 19])
  .skip))))))))
  (.region [⟨some 55, none, .p (.bin .add (.t 19) (.k (.c (C.int .i64 1))))⟩,
    ⟨some 19, none, .p (.mv (.t 55))⟩] [1, 2, 6, 7, 17, 18, 19])))) [1, 2, 6, 7, 17, 18, 19])))
  (.seq (.region [⟨some 56, none, .p (.mv (.t 6))⟩,
    ⟨some 57, none, .p (.mv (.t 7))⟩,
    ⟨some 4, none, .p (.mv (.t 56))⟩,
    ⟨some 5, none, .p (.mv (.t 57))⟩] [4, 5])
  .ret)))))) }
theorem a140_ok : okFn Try.prog 140 a140 = true := by kernel_rfl
/-- loop.example/g01215/spec.l2Rack -/
def a141 : AFn := { np := 1, nt := 44, res := [.t 2], body :=
  (.seq (.region [⟨some 1, none, .p (.box 24 (.t 0))⟩,
    ⟨some 2, none, .p (.mv (.k (.c (C.bool false))))⟩] [1])
  (.seq (.seq (.region [⟨some 3, none, .p (.mv (.k (.c (C.int .i64 0))))⟩] [1, 3])
  (.block 0 (.loop (.seq (.seq (.region [⟨some 5, none, .p (.mv (.t 3))⟩,
    ⟨some 6, none, .p (.bin .lss (.t 5) (.k (.c (C.int .i64 6))))⟩] [1, 3, 6])
  (.cond (.t 6)
  .skip
  (.exit 0)))
  (.seq (.block 1 (.seq (.region [⟨some 4, none, .p (.mv (.k (.c (C.int .i64 0))))⟩] [1, 3, 4])
  (.block 2 (.loop (.seq (.seq (.region [⟨some 9, none, .p (.mv (.t 4))⟩,
    ⟨some 10, none, .p (.bin .lss (.t 9) (.k (.c (C.int .i64 4))))⟩] [1, 3, 4, 10])
  (.cond (.t 10)
  .skip
  (.exit 2)))
  (.seq (.block 3 (.seq (.region [⟨some 13, none, .p (.mv (.t 3))⟩,
    ⟨some 14, none, .p (.mv (.t 4))⟩,
    ⟨some 15, none, .p (.fld 0 (.t 1))⟩,
    ⟨some 16, none, .p (.ixA 6 4 (.t 15) (.t 13))⟩,
    ⟨some 17, none, .p (.ixA 4 1 (.t 16) (.t 14))⟩,
    ⟨some 18, none, .h (.load 1 false (.t 17))⟩,
    ⟨some 19, none, .h (.call (.f 119) [.t 18, .k (.c (C.int .i64 0)), .k (.c (C.int .i64 5))])⟩,
    ⟨some 20, none, .p (.un .not (.t 19))⟩,
    ⟨some 21, none, .p (.mv (.t 20))⟩,
    ⟨some 22, some (21, false), .p (.mv (.t 4))⟩,
    ⟨some 23, some (21, false), .p (.bin .gtr (.t 22) (.k (.c (C.int .i64 0))))⟩,
    ⟨some 24, some (21, false), .p (.mv (.t 23))⟩,
    ⟨some 25, some (24, true), .p (.mv (.t 3))⟩,
    ⟨some 26, some (24, true), .p (.mv (.t 4))⟩,
    ⟨some 27, some (24, true), .p (.fld 0 (.t 1))⟩,
    ⟨some 28, some (24, true), .p (.ixA 6 4 (.t 27) (.t 25))⟩,
    ⟨some 29, some (24, true), .p (.ixA 4 1 (.t 28) (.t 26))⟩,
    ⟨some 30, some (24, true), .h (.load 1 false (.t 29))⟩,
    ⟨some 31, some (24, true), .p (.bin .gtr (.t 30) (.k (.c (C.int .i64 0))))⟩,
    ⟨some 32, some (21, false), .p (.pick (.t 24) (.t 31) (.k (.c (C.bool false))))⟩,
    ⟨some 33, some (21, false), .p (.mv (.t 32))⟩,
    ⟨some 34, some (33, true), .p (.mv (.t 3))⟩,
    ⟨some 35, some (33, true), .p (.mv (.t 4))⟩,
    ⟨some 36, some (33, true), .p (.bin .sub (.t 35) (.k (.c (C.int .i64 1))))⟩,
    ⟨some 37, some (33, true), .p (.fld 0 (.t 1))⟩,
    ⟨some 38, some (33, true), .p (.ixA 6 4 (.t 37) (.t 34))⟩,
    ⟨some 39, some (33, true), .p (.ixA 4 1 (.t 38) (.t 36))⟩,
    ⟨some 40, some (33, true), .h (.load 1 false (.t 39))⟩,
    ⟨some 41, some (33, true), .p (.bin .eql (.t 40) (.k (.c (C.int .i64 0))))⟩,
    ⟨some 42, some (21, false), .p (.pick (.t 33) (.t 41) (.k (.c (C.bool false))))⟩,
    ⟨some 43, none, .p (.pick (.t 21) (.k (.c (C.bool true))) (.t 42))⟩] [1, 3, 4, 43])
  (.cond (.t 43)
  (.seq (.region [⟨some 2, none, .p (.mv (.k (.c (C.bool false))))⟩] [2])
  .ret)
  .skip)))
  (.region [⟨some 11, none, .p (.mv (.t 4))⟩,
    ⟨some 12, none, .p (.bin .add (.t 11) (.k (.c (C.int .i64 1))))⟩,
    ⟨some 4, none, .p (.mv (.t 12))⟩] [1, 3, 4]))) [1, 3, 4]))))
  (.region [⟨some 7, none, .p (.mv (.t 3))⟩,
    ⟨some 8, none, .p (.bin .add (.t 7) (.k (.c (C.int .i64 1))))⟩,
    ⟨some 3, none, .p (.mv (.t 8))⟩] [1, 3]))) [1, 3])))
  (.seq (.region [⟨some 2, none, .p (.mv (.k (.c (C.bool true))))⟩] [2])
  .ret))) }
theorem a141_ok : okFn Try.prog 141 a141 = true := by kernel_rfl
/-- loop.example/g01215/spec.l10Tubes -/
def a142 : AFn := { np := 2, nt := 41, res := [.t 4], body :=
  (.seq (.region [⟨some 2, none, .p (.box 24 (.t 0))⟩,
    ⟨some 4, none, .p (.mv (.k (.c (C.int .i64 0))))⟩] [1, 2])
  (.seq (.seq (.region [⟨some 10, none, .p (.mv (.t 1))⟩,
    ⟨some 11, none, .p (.bin .eql (.t 10) (.k (.c (C.int .i64 0))))⟩] [1, 2, 11])
  (.cond (.t 11)
  (.seq (.region [⟨some 4, none, .p (.mv (.k (.c (C.int .i64 0))))⟩] [4])
  .ret)
  .skip))
  (.seq (.region [⟨some 12, none, .h (.load 24 true (.t 2))⟩,
    ⟨some 13, none, .h (.call (.f 155) [.t 12])⟩,
    ⟨some 5, none, .p (.mv (.t 13))⟩] [1, 2, 5])
  (.seq (.seq (.region [⟨some 14, none, .p (.mv (.t 5))⟩,
    ⟨some 15, none, .p (.len (.t 14))⟩,
    ⟨some 16, none, .p (.bin .eql (.t 15) (.k (.c (C.int .i64 0))))⟩] [1, 2, 5, 16])
  (.cond (.t 16)
  (.seq (.region [⟨some 4, none, .p (.mv (.k (.c (C.int .i64 0))))⟩] [4])
  .ret)
  .skip))
  (.seq (.region [⟨some 6, none, .p (.mv (.k (.c (C.int .i64 (-100)))))⟩] [1, 2, 5, 6])
  (.seq (.seq (.region [⟨some 7, none, .p (.mv (.k (.c (C.int .i64 0))))⟩] [1, 2, 5, 6, 7])
  (.block 0 (.loop (.seq (.seq (.region [⟨some 17, none, .p (.mv (.t 7))⟩,
    ⟨some 18, none, .p (.mv (.t 5))⟩,
    ⟨some 19, none, .p (.len (.t 18))⟩,
    ⟨some 20, none, .p (.bin .lss (.t 17) (.t 19))⟩] [1, 2, 5, 6, 7, 20])
  (.cond (.t 20)
  .skip
  (.exit 0)))
  (.seq (.block 1 (.seq (.regionD [⟨some 24, none, .h (.load 24 true (.t 2))⟩,
    ⟨some 25, none, .p (.mv (.t 5))⟩,
    ⟨some 26, none, .p (.mv (.t 7))⟩,
    ⟨some 27, none, .p (.ixS 2 (.t 25) (.t 26))⟩,
    ⟨some 28, none, .h (.load 2 true (.t 27))⟩,
    ⟨some 29, none, .h (.call (.f 147) [.t 24, .t 28])⟩,
    ⟨some 23, none, .p (.mv (.t 29))⟩,
    ⟨some 30, none, .p (.ext (.t 23) 0)⟩,
    ⟨some 31, none, .p (.ext (.t 23) 1)⟩,
    ⟨some 9, none, .p (.alloc (List.replicate 24 (.k (C.int .i64 0))))⟩,
    ⟨some 8, none, .p (.mv (.t 30))⟩,
    ⟨none, none, .h (.store 24 (.t 9) (.t 31))⟩] [1, 2, 5, 6, 7, 8, 9] [])
  (.region [⟨some 32, none, .p (.mv (.t 6))⟩,
    ⟨some 33, none, .p (.mv (.t 8))⟩,
    ⟨some 34, none, .h (.load 24 true (.t 9))⟩,
    ⟨some 35, none, .p (.mv (.t 1))⟩,
    ⟨some 36, none, .p (.bin .sub (.t 35) (.k (.c (C.int .i64 1))))⟩,
    ⟨some 37, none, .h (.call (.f 142) [.t 34, .t 36])⟩,
    ⟨some 38, none, .p (.bin .sub (.t 33) (.t 37))⟩,
    ⟨some 39, none, .h (.call (.f 194) [.t 32, .t 38])⟩,
    ⟨some 6, none, .p (.mv (.t 39))⟩] [1, 2, 5, 6, 7])))
  (.region [⟨some 21, none, .p (.mv (.t 7))⟩,
    ⟨some 22, none, .p (.bin .add (.t 21) (.k (.c (C.int .i64 1))))⟩,
    ⟨some 7, none, .p (.mv (.t 22))⟩] [1, 2, 5, 6, 7]))) [1, 2, 5, 6, 7])))
  (.seq (.region [⟨some 40, none, .p (.mv (.t 6))⟩,
    ⟨some 4, none, .p (.mv (.t 40))⟩] [4])
  .ret))))))) }
theorem a142_ok : okFn Try.prog 142 a142 = true := by kernel_rfl
/-- loop.example/g01215/spec.l10Best -/
def a143 : AFn := { np := 2, nt := 48, res := [.t 4], body :=
  (.seq (.region [⟨some 2, none, .p (.box 24 (.t 0))⟩,
    ⟨some 4, none, .p (.nilsl 2)⟩] [1, 2])
  (.seq (.regionD [⟨some 11, none, .p (.mksl 2 0 [.k (C.int .i64 0), .k (C.int .i64 0)] [])⟩,
    ⟨some 12, none, .h (.load 24 true (.t 2))⟩,
    ⟨some 13, none, .p (.mv (.t 1))⟩,
    ⟨some 14, none, .h (.call (.f 142) [.t 12, .t 13])⟩,
    ⟨some 15, none, .h (.load 24 true (.t 2))⟩,
    ⟨some 16, none, .h (.call (.f 155) [.t 15])⟩,
    ⟨some 5, none, .p (.mv (.t 11))⟩,
    ⟨some 6, none, .p (.mv (.t 14))⟩,
    ⟨some 7, none, .p (.mv (.t 16))⟩] [1, 2, 5, 6, 7] [])
  (.seq (.seq (.region [⟨some 8, none, .p (.mv (.k (.c (C.int .i64 0))))⟩] [1, 2, 5, 6, 7, 8])
  (.block 0 (.loop (.seq (.seq (.region [⟨some 17, none, .p (.mv (.t 8))⟩,
    ⟨some 18, none, .p (.mv (.t 7))⟩,
    ⟨some 19, none, .p (.len (.t 18))⟩,
    ⟨some 20, none, .p (.bin .lss (.t 17) (.t 19))⟩] [1, 2, 5, 6, 7, 8, 20])
  (.cond (.t 20)
  .skip
  (.exit 0)))
  (.seq (.block 1 (.seq (.regionD [⟨some 24, none, .h (.load 24 true (.t 2))⟩,
    ⟨some 25, none, .p (.mv (.t 7))⟩,
    ⟨some 26, none, .p (.mv (.t 8))⟩,
    ⟨some 27, none, .p (.ixS 2 (.t 25) (.t 26))⟩,
    ⟨some 28, none, .h (.load 2 true (.t 27))⟩,
    ⟨some 29, none, .h (.call (.f 147) [.t 24, .t 28])⟩,
    ⟨some 23, none, .p (.mv (.t 29))⟩,
    ⟨some 30, none, .p (.ext (.t 23) 0)⟩,
    ⟨some 31, none, .p (.ext (.t 23) 1)⟩,
    ⟨some 10, none, .p (.alloc (List.replicate 24 (.k (C.int .i64 0))))⟩,
    ⟨some 9, none, .p (.mv (.t 30))⟩,
    ⟨none, none, .h (.store 24 (.t 10) (.t 31))⟩] [1, 2, 5, 6, 7, 8, 9, 10] [])
  (.seq (.region [⟨some 32, none, .p (.mv (.t 9))⟩,
    ⟨some 33, none, .h (.load 24 true (.t 10))⟩,
    ⟨some 34, none, .p (.mv (.t 1))⟩,
    ⟨some 35, none, .p (.bin .sub (.t 34) (.k (.c (C.int .i64 1))))⟩,
    ⟨some 36, none, .h (.call (.f 142) [.t 33, .t 35])⟩,
    ⟨some 37, none, .p (.bin .sub (.t 32) (.t 36))⟩,
    ⟨some 38, none, .p (.mv (.t 6))⟩,
    ⟨some 39, none, .p (.bin .eql (.t 37) (.t 38))⟩] [1, 2, 5, 6, 7, 8, 39])
  (.cond (.t 39)
  (.region [⟨some 40, none, .p (.mv (.t 5))⟩,
    ⟨some 41, none, .p (.mv (.t 7))⟩,
    ⟨some 42, none, .p (.mv (.t 8))⟩,
    ⟨some 43, none, .p (.ixS 2 (.t 41) (.t 42))⟩,
    ⟨some 44, none, .h (.load 2 true (.t 43))⟩,
    ⟨some 45, none, .p (.mksl 2 1 [.k (C.int .i64 0), .k (C.int .i64 0)] [(0, 2, .t 44)])⟩,
    ⟨some 46, none, .h (.app 2 (.t 40) (.t 45))⟩,
    ⟨some 5, none, .p (.mv (.t 46))⟩] [1, 2, 5, 6, 7, 8])
  .skip))))
  (.region [⟨some 21, none, .p (.mv (.t 8))⟩,
    ⟨some 22, none, .p (.bin .add (.t 21) (.k (.c (C.int .i64 1))))⟩,
    ⟨some 8, none, .p (.mv (.t 22))⟩] [1, 2, 5, 6, 7, 8]))) [1, 2, 5, 6, 7, 8])))
  (.seq (.region [⟨some 47, none, .p (.mv (.t 5))⟩,
    ⟨some 4, none, .p (.mv (.t 47))⟩] [4])
  .ret)))) }
theorem a143_ok : okFn Try.prog 143 a143 = true := by kernel_rfl
/-- (*loop.example/g01215/spec.l1Cur).near -/
def a144 : AFn := { np := 1, nt := 52, res := [.cell 2 24 true], body :=
  (.seq (.region [⟨some 2, none, .p (.alloc (List.replicate 24 (.k (C.int .i64 0))))⟩] [0, 2])
  (.seq (.seq (.region [⟨some 8, none, .p (.mv (.t 0))⟩,
    ⟨some 9, none, .h (.call (.f 172) [.t 8, .k (.c (C.int .i64 3))])⟩] [0, 2, 9])
  (.cond (.t 9)
  (.seq (.region [⟨some 10, none, .p (.mv (.t 0))⟩,
    ⟨some 11, none, .h (.call (.f 159) [.t 10])⟩,
    ⟨none, none, .h (.store 24 (.t 2) (.t 11))⟩] [2])
  .ret)
  .skip))
  (.seq (.region [⟨some 12, none, .p (.build (List.replicate 24 (.k (C.int .i64 0))) [])⟩,
    ⟨some 3, none, .p (.alloc (List.replicate 24 (.k (C.int .i64 0))))⟩,
    ⟨none, none, .h (.store 24 (.t 3) (.t 12))⟩] [0, 2, 3])
  (.seq (.seq (.region [⟨some 4, none, .p (.mv (.k (.c (C.int .i64 0))))⟩] [0, 2, 3, 4])
  (.block 0 (.loop (.seq (.seq (.region [⟨some 13, none, .p (.mv (.t 4))⟩,
    ⟨some 14, none, .p (.mv (.t 0))⟩,
    ⟨some 15, none, .p (.mksl 1 4 [.k (C.int .i64 0)] [(0, 1, .k (.c (C.int .i64 3))), (1, 1, .k (.c (C.int .i64 4))), (2, 1, .k (.c (C.int .i64 5))), (3, 1, .k (.c (C.int .i64 6)))])⟩,
    ⟨some 16, none, .h (.call (.f 181) [.t 14, .t 15])⟩,
    ⟨some 17, none, .p (.bin .lss (.t 13) (.t 16))⟩] [0, 2, 3, 4, 17])
  (.cond (.t 17)
  .skip
  (.exit 0)))
  (.seq (.block 1 (.seq (.region [⟨some 20, none, .p (.mv (.t 0))⟩,
    ⟨some 21, none, .h (.call (.f 165) [.t 20, .k (.c (C.int .i64 3))])⟩,
    ⟨some 22, none, .p (.bin .add (.k (.c (C.int .i64 1))) (.t 21))⟩,
    ⟨some 23, none, .p (.mv (.t 0))⟩,
    ⟨some 24, none, .p (.mksl 1 5 [.k (C.int .i64 0)] [(0, 1, .k (.c (C.int .i64 3))), (1, 1, .k (.c (C.int .i64 2))), (2, 1, .k (.c (C.int .i64 3))), (3, 1, .k (.c (C.int .i64 4))), (4, 1, .k (.c (C.int .i64 1)))])⟩,
    ⟨some 25, none, .h (.call (.f 181) [.t 23, .t 24])⟩,
    ⟨some 5, none, .p (.mv (.t 22))⟩,
    ⟨some 6, none, .p (.mv (.t 25))⟩] [0, 2, 3, 4, 5, 6])
  (.seq (.region [⟨some 7, none, .p (.mv (.k (.c (C.int .i64 0))))⟩] [0, 2, 3, 4, 5, 6, 7])
  (.block 2 (.loop (.seq (.seq (.region [⟨some 26, none, .p (.mv (.t 7))⟩,
    ⟨some 27, none, .p (.mv (.t 6))⟩,
    ⟨some 28, none, .p (.bin .lss (.t 26) (.t 27))⟩] [0, 2, 3, 4, 5, 6, 7, 28])
  (.cond (.t 28)
  .skip
  (.exit 2)))
  (.seq (.block 3 (.seq (.region [⟨some 31, none, .p (.mv (.t 4))⟩,
    ⟨some 32, none, .p (.mv (.t 7))⟩,
    ⟨some 33, none, .p (.mv (.t 5))⟩,
    ⟨some 34, none, .p (.fld 0 (.t 3))⟩,
    ⟨some 35, none, .p (.ixA 6 4 (.t 34) (.t 31))⟩,
    ⟨some 36, none, .p (.ixA 4 1 (.t 35) (.t 32))⟩,
    ⟨none, none, .h (.store 1 (.t 36) (.t 33))⟩] [0, 2, 3, 4, 5, 6, 7])
  (.seq (.region [⟨some 37, none, .p (.mv (.t 7))⟩,
    ⟨some 38, none, .p (.bin .eql (.t 37) (.k (.c (C.int .i64 0))))⟩,
    ⟨some 39, none, .p (.mv (.t 38))⟩,
    ⟨some 40, some (39, true), .p (.mv (.t 0))⟩,
    ⟨some 41, some (39, true), .h (.call (.f 172) [.t 40, .k (.c (C.int .i64 3))])⟩,
    ⟨some 42, none, .p (.pick (.t 39) (.t 41) (.k (.c (C.bool false))))⟩] [0, 2, 3, 4, 5, 6, 7, 42])
  (.cond (.t 42)
  (.regionE [⟨some 43, none, .p (.mv (.t 4))⟩,
    ⟨some 44, none, .p (.mv (.t 7))⟩,
    ⟨some 45, none, .p (.mv (.t 0))⟩,
    ⟨some 46, none, .h (.call (.f 165) [.t 45, .k (.c (C.int .i64 4))])⟩,
    ⟨some 47, none, .p (.bin .add (.k (.c (C.int .i64 1))) (.t 46))⟩,
    ⟨some 48, none, .p (.fld 0 (.t 3))⟩,
    ⟨some 49, none, .p (.ixA 6 4 (.t 48) (.t 43))⟩,
    ⟨some 50, none, .p (.ixA 4 1 (.t 49) (.t 44))⟩,
    ⟨none, none, .h (.store 1 (.t 50) (.t 47))⟩] [0, 2, 3, 4, 5, 6, 7] [] [[], [], [], [3]])
  .skip))))
  (.region [⟨some 29, none, .p (.mv (.t 7))⟩,
    ⟨some 30, none, .p (.bin .add (.t 29) (.k (.c (C.int .i64 1))))⟩,
    ⟨some 7, none, .p (.mv (.t 30))⟩] [0, 2, 3, 4, 5, 6, 7]))) [0, 2, 3, 4, 5, 6, 7])))))
  (.region [⟨some 18, none, .p (.mv (.t 4))⟩,
    ⟨some 19, none, .p (.bin .add (.t 18) (.k (.c (C.int .i64 1))))⟩,
    ⟨some 4, none, .p (.mv (.t 19))⟩] [0, 2, 3, 4]))) [0, 2, 3, 4])))
  (.seq (.region [⟨some 51, none, .h (.load 24 true (.t 3))⟩,
    ⟨none, none, .h (.store 24 (.t 2) (.t 51))⟩] [2])
  .ret))))) }
theorem a144_ok : okFn Try.prog 144 a144 = true := by kernel_rfl
/-- (*loop.example/g01215/spec.l1Cur).path -/
def a145 : AFn := { np := 2, nt := 57, res := [.t 4], body :=
  (.seq (.region [⟨some 3, none, .p (.box 24 (.t 1))⟩,
    ⟨some 4, none, .p (.nilsl 2)⟩] [0, 3])
  (.seq (.region [⟨some 11, none, .p (.mksl 2 0 [.k (C.int .i64 0), .k (C.int .i64 0)] [])⟩,
    ⟨some 5, none, .p (.mv (.t 11))⟩] [0, 3, 5])
  (.seq (.seq (.region [⟨some 12, none, .p (.mv (.t 0))⟩,
    ⟨some 13, none, .p (.mksl 1 7 [.k (C.int .i64 0)] [(0, 1, .k (.c (C.int .i64 3))), (1, 1, .k (.c (C.int .i64 5))), (2, 1, .k (.c (C.int .i64 2))), (3, 1, .k (.c (C.int .i64 1))), (4, 1, .k (.c (C.int .i64 0))), (5, 1, .k (.c (C.int .i64 8))), (6, 1, .k (.c (C.int .i64 61)))])⟩,
    ⟨some 14, none, .h (.call (.f 181) [.t 12, .t 13])⟩,
    ⟨some 6, none, .p (.mv (.t 14))⟩] [0, 3, 5, 6])
  (.block 0 (.loop (.seq (.seq (.region [⟨some 15, none, .p (.mv (.t 6))⟩,
    ⟨some 16, none, .p (.bin .gtr (.t 15) (.k (.c (C.int .i64 0))))⟩] [0, 3, 5, 6, 16])
  (.cond (.t 16)
  .skip
  (.exit 0)))
  (.seq (.block 1 (.seq (.region [⟨some 19, none, .p (.mv (.t 0))⟩,
    ⟨some 20, none, .h (.load 24 true (.t 3))⟩,
    ⟨some 21, none, .h (.call (.f 208) [.t 19, .t 20])⟩,
    ⟨some 7, none, .p (.alloc [.k (C.int .i64 0), .k (C.int .i64 0)])⟩,
    ⟨none, none, .h (.store 2 (.t 7) (.t 21))⟩] [0, 3, 5, 6, 7])
  (.seq (.seq (.region [⟨some 22, none, .h (.load 24 true (.t 3))⟩,
    ⟨some 23, none, .h (.call (.f 209) [.t 22])⟩,
    ⟨some 8, none, .p (.mv (.t 23))⟩] [0, 3, 5, 6, 7, 8])
  (.seq (.region [⟨some 24, none, .p (.mv (.t 8))⟩,
    ⟨some 25, none, .p (.len (.t 24))⟩,
    ⟨some 26, none, .p (.bin .gtr (.t 25) (.k (.c (C.int .i64 0))))⟩,
    ⟨some 27, none, .p (.mv (.t 26))⟩,
    ⟨some 28, some (27, true), .p (.mv (.t 0))⟩,
    ⟨some 29, some (27, true), .h (.call (.f 172) [.t 28, .k (.c (C.int .i64 4))])⟩,
    ⟨some 30, some (27, true), .p (.un .not (.t 29))⟩,
    ⟨some 31, none, .p (.pick (.t 27) (.t 30) (.k (.c (C.bool false))))⟩] [0, 3, 5, 6, 7, 8, 31])
  (.cond (.t 31)
  (.region [⟨some 32, none, .p (.mv (.t 8))⟩,
    ⟨some 33, none, .p (.ixS 2 (.t 32) (.k (.c (C.int .i64 0))))⟩,
    ⟨some 34, none, .h (.load 2 true (.t 33))⟩,
    ⟨none, none, .h (.store 2 (.t 7) (.t 34))⟩] [0, 3, 5, 6, 7])
  .skip)))
  (.seq (.region [⟨some 35, none, .p (.mv (.t 5))⟩,
    ⟨some 36, none, .h (.load 2 true (.t 7))⟩,
    ⟨some 37, none, .p (.mksl 2 1 [.k (C.int .i64 0), .k (C.int .i64 0)] [(0, 2, .t 36)])⟩,
    ⟨some 38, none, .h (.app 2 (.t 35) (.t 37))⟩,
    ⟨some 5, none, .p (.mv (.t 38))⟩] [0, 3, 5, 6, 7])
  (.seq (.region [⟨some 39, none, .h (.load 24 true (.t 3))⟩,
    ⟨some 40, none, .h (.call (.f 141) [.t 39])⟩,
    ⟨some 41, none, .p (.mv (.t 40))⟩,
    ⟨some 42, some (41, true), .h (.load 24 true (.t 3))⟩,
    ⟨some 43, some (41, true), .h (.load 2 true (.t 7))⟩,
    ⟨some 44, some (41, true), .h (.call (.f 130) [.t 42, .t 43])⟩,
    ⟨some 45, none, .p (.pick (.t 41) (.t 44) (.k (.c (C.bool false))))⟩] [0, 3, 5, 6, 7, 45])
  (.cond (.t 45)
  (.seq (.region [⟨some 47, none, .h (.load 24 true (.t 3))⟩,
    ⟨some 48, none, .p (.ixA 2 1 (.t 7) (.k (.c (C.int .i64 0))))⟩,
    ⟨some 49, none, .h (.load 1 false (.t 48))⟩,
    ⟨some 50, none, .p (.ixA 2 1 (.t 7) (.k (.c (C.int .i64 1))))⟩,
    ⟨some 51, none, .h (.load 1 false (.t 50))⟩,
    ⟨some 52, none, .h (.call (.f 132) [.t 47, .t 49, .t 51])⟩,
    ⟨some 46, none, .p (.mv (.t 52))⟩,
    ⟨some 53, none, .p (.ext (.t 46) 0)⟩,
    ⟨some 54, none, .p (.ext (.t 46) 1)⟩,
    ⟨some 9, none, .p (.alloc (List.replicate 24 (.k (C.int .i64 0))))⟩,
    ⟨none, none, .h (.store 24 (.t 9) (.t 53))⟩,
    ⟨some 10, none, .p (.mv (.t 54))⟩] [0, 3, 5, 6, 9])
  (.region [⟨some 55, none, .h (.load 24 true (.t 9))⟩,
    ⟨none, none, .h (.store 24 (.t 3) (.t 55))⟩] [0, 3, 5, 6]))
  .skip))))))
  (.region [⟨some 17, none, .p (.mv (.t 6))⟩,
    ⟨some 18, none, .p (.bin .sub (.t 17) (.k (.c (C.int .i64 1))))⟩,
    ⟨some 6, none, .p (.mv (.t 18))⟩] [0, 3, 5, 6]))) [0, 3, 5, 6])))
  (.seq (.region [⟨some 56, none, .p (.mv (.t 5))⟩,
    ⟨some 4, none, .p (.mv (.t 56))⟩] [4])
  .ret)))) }
theorem a145_ok : okFn Try.prog 145 a145 = true := by kernel_rfl
/-- loop.example/g01215/impl.points -/
def a146 : AFn := { np := 2, nt := 25, res := [.t 4, .cell 5 24 true], body :=
  (.seq (.region [⟨some 2, none, .p (.box 24 (.t 0))⟩,
    ⟨some 3, none, .p (.box 2 (.t 1))⟩,
    ⟨some 4, none, .p (.mv (.k (.c (C.int .i64 0))))⟩,
    ⟨some 5, none, .p (.alloc (List.replicate 24 (.k (C.int .i64 0))))⟩] [2, 3, 5])
  (.seq (.region [⟨some 9, none, .h (.load 24 true (.t 2))⟩,
    ⟨some 10, none, .p (.ixA 2 1 (.t 3) (.k (.c (C.int .i64 0))))⟩,
    ⟨some 11, none, .h (.load 1 false (.t 10))⟩,
    ⟨some 12, none, .p (.ixA 2 1 (.t 3) (.k (.c (C.int .i64 1))))⟩,
    ⟨some 13, none, .h (.load 1 false (.t 12))⟩,
    ⟨some 14, none, .h (.call (.f 99) [.t 9, .t 11, .t 13])⟩,
    ⟨some 8, none, .p (.mv (.t 14))⟩,
    ⟨some 15, none, .p (.ext (.t 8) 0)⟩,
    ⟨some 16, none, .p (.ext (.t 8) 1)⟩,
    ⟨some 6, none, .p (.alloc (List.replicate 24 (.k (C.int .i64 0))))⟩,
    ⟨none, none, .h (.store 24 (.t 6) (.t 15))⟩,
    ⟨some 7, none, .p (.mv (.t 16))⟩] [2, 5, 6])
  (.seq (.regionD [⟨some 17, none, .h (.load 24 true (.t 6))⟩,
    ⟨some 18, none, .h (.call (.f 148) [.t 17])⟩,
    ⟨some 19, none, .p (.len (.t 18))⟩,
    ⟨some 20, none, .h (.load 24 true (.t 2))⟩,
    ⟨some 21, none, .h (.call (.f 148) [.t 20])⟩,
    ⟨some 22, none, .p (.len (.t 21))⟩,
    ⟨some 23, none, .p (.bin .sub (.t 19) (.t 22))⟩,
    ⟨some 24, none, .h (.load 24 true (.t 6))⟩,
    ⟨some 4, none, .p (.mv (.t 23))⟩,
    ⟨none, none, .h (.store 24 (.t 5) (.t 24))⟩] [4, 5] [])
  .ret))) }
theorem a146_ok : okFn Try.prog 146 a146 = true := by kernel_rfl
/-- loop.example/g01215/spec.l10Gain -/
def a147 : AFn := { np := 2, nt := 25, res := [.t 4, .cell 5 24 true], body :=
  (.seq (.region [⟨some 2, none, .p (.box 24 (.t 0))⟩,
    ⟨some 3, none, .p (.box 2 (.t 1))⟩,
    ⟨some 4, none, .p (.mv (.k (.c (C.int .i64 0))))⟩,
    ⟨some 5, none, .p (.alloc (List.replicate 24 (.k (C.int .i64 0))))⟩] [2, 3, 5])
  (.seq (.region [⟨some 9, none, .h (.load 24 true (.t 2))⟩,
    ⟨some 10, none, .p (.ixA 2 1 (.t 3) (.k (.c (C.int .i64 0))))⟩,
    ⟨some 11, none, .h (.load 1 false (.t 10))⟩,
    ⟨some 12, none, .p (.ixA 2 1 (.t 3) (.k (.c (C.int .i64 1))))⟩,
    ⟨some 13, none, .h (.load 1 false (.t 12))⟩,
    ⟨some 14, none, .h (.call (.f 132) [.t 9, .t 11, .t 13])⟩,
    ⟨some 8, none, .p (.mv (.t 14))⟩,
    ⟨some 15, none, .p (.ext (.t 8) 0)⟩,
    ⟨some 16, none, .p (.ext (.t 8) 1)⟩,
    ⟨some 6, none, .p (.alloc (List.replicate 24 (.k (C.int .i64 0))))⟩,
    ⟨none, none, .h (.store 24 (.t 6) (.t 15))⟩,
    ⟨some 7, none, .p (.mv (.t 16))⟩] [2, 5, 6])
  (.seq (.regionD [⟨some 17, none, .h (.load 24 true (.t 6))⟩,
    ⟨some 18, none, .h (.call (.f 149) [.t 17])⟩,
    ⟨some 19, none, .p (.len (.t 18))⟩,
    ⟨some 20, none, .h (.load 24 true (.t 2))⟩,
    ⟨some 21, none, .h (.call (.f 149) [.t 20])⟩,
    ⟨some 22, none, .p (.len (.t 21))⟩,
    ⟨some 23, none, .p (.bin .sub (.t 19) (.t 22))⟩,
    ⟨some 24, none, .h (.load 24 true (.t 6))⟩,
    ⟨some 4, none, .p (.mv (.t 23))⟩,
    ⟨none, none, .h (.store 24 (.t 5) (.t 24))⟩] [4, 5] [])
  .ret))) }
theorem a147_ok : okFn Try.prog 147 a147 = true := by kernel_rfl
/-- loop.example/g01215/impl.complete -/
def a148 : AFn := { np := 1, nt := 20, res := [.t 2], body :=
  (.seq (.region [⟨some 1, none, .p (.box 24 (.t 0))⟩,
    ⟨some 2, none, .p (.nilsl 1)⟩] [1])
  (.seq (.region [⟨some 3, none, .p (.nilsl 1)⟩] [1, 3])
  (.seq (.seq (.region [⟨some 6, none, .p (.fld 0 (.t 1))⟩,
    ⟨some 7, none, .h (.load 24 true (.t 6))⟩,
    ⟨some 8, none, .p (.mv (.k (.c (C.int .i64 0))))⟩] [3, 7, 8])
  (.block 0 (.loop (.seq (.region [⟨some 9, none, .p (.bin .lss (.t 8) (.k (.c (C.int .i64 6))))⟩] [3, 7, 8, 9])
  (.seq (.cond (.t 9)
  .skip
  (.exit 0))
  (.seq (.block 1 (.seq (.region [⟨some 10, none, .p (.mv (.t 8))⟩,
    ⟨some 11, none, .p (.ixV 6 4 true (.t 7) (.t 8))⟩,
    ⟨some 5, none, .p (.alloc [.k (C.int .i64 0), .k (C.int .i64 0), .k (C.int .i64 0), .k (C.int .i64 0)])⟩,
    ⟨some 4, none, .p (.mv (.t 10))⟩,
    ⟨none, none, .h (.store 4 (.t 5) (.t 11))⟩] [3, 4, 5, 7, 8])
  (.seq (.region [⟨some 12, none, .h (.load 4 true (.t 5))⟩,
    ⟨some 13, none, .h (.call (.f 210) [.t 12])⟩] [3, 4, 7, 8, 13])
  (.cond (.t 13)
  (.region [⟨some 14, none, .p (.mv (.t 3))⟩,
    ⟨some 15, none, .p (.mv (.t 4))⟩,
    ⟨some 16, none, .p (.mksl 1 1 [.k (C.int .i64 0)] [(0, 1, .t 15)])⟩,
    ⟨some 17, none, .h (.app 1 (.t 14) (.t 16))⟩,
    ⟨some 3, none, .p (.mv (.t 17))⟩] [3, 7, 8])
  .skip))))
  (.region [⟨some 18, none, .p (.bin .add (.t 8) (.k (.c (C.int .i64 1))))⟩,
    ⟨some 8, none, .p (.mv (.t 18))⟩] [3, 7, 8])))) [3, 7, 8])))
  (.seq (.region [⟨some 19, none, .p (.mv (.t 3))⟩,
    ⟨some 2, none, .p (.mv (.t 19))⟩] [2])
  .ret)))) }
theorem a148_ok : okFn Try.prog 148 a148 = true := by kernel_rfl
/-- loop.example/g01215/spec.l10Complete -/
def a149 : AFn := { np := 1, nt := 27, res := [.t 2], body :=
  (.seq (.region [⟨some 1, none, .p (.box 24 (.t 0))⟩,
    ⟨some 2, none, .p (.nilsl 1)⟩] [1])
  (.seq (.region [⟨some 7, none, .p (.mksl 1 0 [.k (C.int .i64 0)] [])⟩,
    ⟨some 3, none, .p (.mv (.t 7))⟩] [1, 3])
  (.seq (.seq (.region [⟨some 4, none, .p (.mv (.k (.c (C.int .i64 0))))⟩] [1, 3, 4])
  (.block 0 (.loop (.seq (.seq (.region [⟨some 8, none, .p (.mv (.t 4))⟩,
    ⟨some 9, none, .p (.bin .lss (.t 8) (.k (.c (C.int .i64 6))))⟩] [1, 3, 4, 9])
  (.cond (.t 9)
  .skip
  (.exit 0)))
  (.seq (.block 1 (.seq (.region [⟨some 13, none, .p (.mv (.t 4))⟩,
    ⟨some 14, none, .p (.fld 0 (.t 1))⟩,
    ⟨some 15, none, .p (.ixA 6 4 (.t 14) (.t 13))⟩,
    ⟨some 16, none, .h (.load 4 true (.t 15))⟩,
    ⟨some 17, none, .h (.call (.f 201) [.t 16])⟩,
    ⟨some 12, none, .p (.mv (.t 17))⟩,
    ⟨some 18, none, .p (.ext (.t 12) 0)⟩,
    ⟨some 19, none, .p (.ext (.t 12) 1)⟩,
    ⟨some 5, none, .p (.mv (.t 18))⟩,
    ⟨some 6, none, .p (.mv (.t 19))⟩] [1, 3, 4, 6])
  (.seq (.region [⟨some 20, none, .p (.mv (.t 6))⟩,
    ⟨some 21, none, .p (.bin .eql (.t 20) (.k (.c (C.int .i64 4))))⟩] [1, 3, 4, 21])
  (.cond (.t 21)
  (.region [⟨some 22, none, .p (.mv (.t 3))⟩,
    ⟨some 23, none, .p (.mv (.t 4))⟩,
    ⟨some 24, none, .p (.mksl 1 1 [.k (C.int .i64 0)] [(0, 1, .t 23)])⟩,
    ⟨some 25, none, .h (.app 1 (.t 22) (.t 24))⟩,
    ⟨some 3, none, .p (.mv (.t 25))⟩] [1, 3, 4])
  .skip))))
  (.region [⟨some 10, none, .p (.mv (.t 4))⟩,
    ⟨some 11, none, .p (.bin .add (.t 10) (.k (.c (C.int .i64 1))))⟩,
    ⟨some 4, none, .p (.mv (.t 11))⟩] [1, 3, 4]))) [1, 3, 4])))
  (.seq (.region [⟨some 26, none, .p (.mv (.t 3))⟩,
    ⟨some 2, none, .p (.mv (.t 26))⟩] [2])
  .ret)))) }
theorem a149_ok : okFn Try.prog 149 a149 = true := by kernel_rfl
/-- loop.example/g01215/impl.areAll[[4]int] -/
def a150 : AFn := { np := 2, nt := 9, res := [.t 4], body :=
  (.seq (.region [⟨some 3, none, .p (.box 1 (.t 1))⟩,
    ⟨some 4, none, .p (.mv (.k (.c (C.bool false))))⟩] [0, 3])
  (.seq (.region [⟨some 5, none, .p (.mv (.t 0))⟩,
    ⟨some 6, none, .p (.mkfn 212 [.t 3])⟩,
    ⟨some 7, none, .h (.call (.f 211) [.t 5, .t 6])⟩,
    ⟨some 8, none, .p (.un .not (.t 7))⟩,
    ⟨some 4, none, .p (.mv (.t 8))⟩] [4])
  .ret)) }
theorem a150_ok : okFn Try.prog 150 a150 = true := by kernel_rfl
/-- loop.example/g01215/impl.isTube -/
def a151 : AFn := { np := 1, nt := 14, res := [.t 2], body :=
  (.seq (.region [⟨some 1, none, .p (.box 4 (.t 0))⟩,
    ⟨some 2, none, .p (.mv (.k (.c (C.bool false))))⟩] [1])
  (.seq (.region [⟨some 4, none, .h (.load 4 true (.t 1))⟩,
    ⟨some 5, none, .h (.call (.f 188) [.t 4])⟩,
    ⟨some 3, none, .p (.mv (.t 5))⟩] [1, 3])
  (.seq (.region [⟨some 6, none, .p (.mv (.t 3))⟩,
    ⟨some 7, none, .h (.slA 4 1 (.t 1) none (some (.t 6)))⟩,
    ⟨some 8, none, .h (.call (.f 190) [.t 7, .f 116])⟩,
    ⟨some 9, none, .p (.mv (.t 8))⟩,
    ⟨some 10, some (9, true), .p (.mv (.t 3))⟩,
    ⟨some 11, some (9, true), .h (.slA 4 1 (.t 1) (some (.t 10)) none)⟩,
    ⟨some 12, some (9, true), .h (.call (.f 190) [.t 11, .f 213])⟩,
    ⟨some 13, none, .p (.pick (.t 9) (.t 12) (.k (.c (C.bool false))))⟩,
    ⟨some 2, none, .p (.mv (.t 13))⟩] [2])
  .ret))) }
theorem a151_ok : okFn Try.prog 151 a151 = true := by kernel_rfl
/-- slices.DeleteFunc[[][2]int,[2]int] -/
def a152 : AFn := { np := 2, nt := 42, res := [.t 4], body :=
  (.seq (.region [⟨some 4, none, .p (.nilsl 2)⟩] [0, 1])
  (.seq (.region [⟨some 8, none, .p (.mv (.t 0))⟩,
    ⟨some 9, none, .p (.mv (.t 1))⟩,
    ⟨some 10, none, .h (.call (.f 214) [.t 8, .t 9])⟩,
    ⟨some 5, none, .p (.mv (.t 10))⟩] [0, 1, 5])
  (.seq (.seq (.region [⟨some 11, none, .p (.mv (.t 5))⟩,
    ⟨some 12, none, .p (.bin .eql (.t 11) (.k (.c (C.int .i64 (-1)))))⟩] [0, 1, 5, 12])
  (.cond (.t 12)
  (.seq (.region [⟨some 13, none, .p (.mv (.t 0))⟩,
    ⟨some 4, none, .p (.mv (.t 13))⟩] [4])
  .ret)
  .skip))
  (.seq (.seq (.region [⟨some 14, none, .p (.mv (.t 5))⟩,
    ⟨some 15, none, .p (.bin .add (.t 14) (.k (.c (C.int .i64 1))))⟩,
    ⟨some 6, none, .p (.mv (.t 15))⟩] [0, 1, 5, 6])
  (.block 0 (.loop (.seq (.seq (.region [⟨some 16, none, .p (.mv (.t 6))⟩,
    ⟨some 17, none, .p (.mv (.t 0))⟩,
    ⟨some 18, none, .p (.len (.t 17))⟩,
    ⟨some 19, none, .p (.bin .lss (.t 16) (.t 18))⟩] [0, 1, 5, 6, 19])
  (.cond (.t 19)
  .skip
  (.exit 0)))
  (.seq (.block 1 (.seq (.region [⟨some 22, none, .p (.mv (.t 0))⟩,
    ⟨some 23, none, .p (.mv (.t 6))⟩,
    ⟨some 24, none, .p (.ixS 2 (.t 22) (.t 23))⟩,
    ⟨some 25, none, .h (.load 2 true (.t 24))⟩,
    ⟨some 7, none, .p (.alloc [.k (C.int .i64 0), .k (C.int .i64 0)])⟩,
    ⟨none, none, .h (.store 2 (.t 7) (.t 25))⟩] [0, 1, 5, 6, 7])
  (.seq (.region [⟨some 26, none, .p (.mv (.t 1))⟩,
    ⟨some 27, none, .h (.load 2 true (.t 7))⟩,
    ⟨some 28, none, .h (.call (.t 26) [.t 27])⟩,
    ⟨some 29, none, .p (.un .not (.t 28))⟩] [0, 1, 5, 6, 7, 29])
  (.cond (.t 29)
  (.seq (.region [⟨some 30, none, .p (.mv (.t 0))⟩,
    ⟨some 31, none, .p (.mv (.t 5))⟩,
    ⟨some 32, none, .h (.load 2 true (.t 7))⟩,
    ⟨some 33, none, .p (.ixS 2 (.t 30) (.t 31))⟩,
    ⟨none, none, .h (.store 2 (.t 33) (.t 32))⟩] [0, 1, 5, 6])
  (.region [⟨some 34, none, .p (.mv (.t 5))⟩,
    ⟨some 35, none, .p (.bin .add (.t 34) (.k (.c (C.int .i64 1))))⟩,
    ⟨some 5, none, .p (.mv (.t 35))⟩] [0, 1, 5, 6]))
  .skip))))
  (.region [⟨some 20, none, .p (.mv (.t 6))⟩,
    ⟨some 21, none, .p (.bin .add (.t 20) (.k (.c (C.int .i64 1))))⟩,
    ⟨some 6, none, .p (.mv (.t 21))⟩] [0, 1, 5, 6]))) [0, 1, 5, 6])))
  (.seq (.region [⟨some 36, none, .p (.mv (.t 0))⟩,
    ⟨some 37, none, .p (.mv (.t 5))⟩,
    ⟨some 38, none, .p (.slS 2 (.t 36) (some (.t 37)) none)⟩,
    ⟨none, none, .h (.clr 2 [.k (C.int .i64 0), .k (C.int .i64 0)] (.t 38))⟩] [0, 5])
  (.seq (.region [⟨some 39, none, .p (.mv (.t 0))⟩,
    ⟨some 40, none, .p (.mv (.t 5))⟩,
    ⟨some 41, none, .p (.slS 2 (.t 39) none (some (.t 40)))⟩,
    ⟨some 4, none, .p (.mv (.t 41))⟩] [4])
  .ret)))))) }
theorem a152_ok : okFn Try.prog 152 a152 = true := by kernel_rfl
/-- loop.example/g01215/impl.CanHurt$1 -/
def a153 : AFn := { np := 2, nt := 18, res := [.t 3], body :=
  (.seq (.region [⟨some 2, none, .p (.box 2 (.t 0))⟩,
    ⟨some 3, none, .p (.mv (.k (.c (C.bool false))))⟩] [1, 2])
  (.seq (.region [⟨some 7, none, .h (.load 24 true (.t 1))⟩,
    ⟨some 8, none, .p (.ixA 2 1 (.t 2) (.k (.c (C.int .i64 0))))⟩,
    ⟨some 9, none, .h (.load 1 false (.t 8))⟩,
    ⟨some 10, none, .p (.ixA 2 1 (.t 2) (.k (.c (C.int .i64 1))))⟩,
    ⟨some 11, none, .h (.load 1 false (.t 10))⟩,
    ⟨some 12, none, .h (.call (.f 99) [.t 7, .t 9, .t 11])⟩,
    ⟨some 6, none, .p (.mv (.t 12))⟩,
    ⟨some 13, none, .p (.ext (.t 6) 0)⟩,
    ⟨some 14, none, .p (.ext (.t 6) 1)⟩,
    ⟨some 4, none, .p (.alloc (List.replicate 24 (.k (C.int .i64 0))))⟩,
    ⟨none, none, .h (.store 24 (.t 4) (.t 13))⟩,
    ⟨some 5, none, .p (.mv (.t 14))⟩] [4])
  (.seq (.region [⟨some 15, none, .h (.load 24 true (.t 4))⟩,
    ⟨some 16, none, .h (.call (.f 154) [.t 15])⟩,
    ⟨some 17, none, .p (.un .not (.t 16))⟩,
    ⟨some 3, none, .p (.mv (.t 17))⟩] [3])
  .ret))) }
theorem a153_ok : okFn Try.prog 153 a153 = true := by kernel_rfl
/-- loop.example/g01215/impl.canComplete -/
def a154 : AFn := { np := 1, nt := 7, res := [.t 2], body :=
  (.seq (.region [⟨some 1, none, .p (.box 24 (.t 0))⟩,
    ⟨some 2, none, .p (.mv (.k (.c (C.bool false))))⟩] [1])
  (.seq (.region [⟨some 3, none, .h (.load 24 true (.t 1))⟩,
    ⟨some 4, none, .h (.call (.f 98) [.t 3])⟩,
    ⟨some 5, none, .p (.mkfn 216 [.t 1])⟩,
    ⟨some 6, none, .h (.call (.f 215) [.t 4, .t 5])⟩,
    ⟨some 2, none, .p (.mv (.t 6))⟩] [2])
  .ret)) }
theorem a154_ok : okFn Try.prog 154 a154 = true := by kernel_rfl
/-- loop.example/g01215/spec.l2Useful -/
def a155 : AFn := { np := 1, nt := 36, res := [.t 2], body :=
  (.seq (.region [⟨some 1, none, .p (.box 24 (.t 0))⟩,
    ⟨some 2, none, .p (.nilsl 2)⟩] [1])
  (.seq (.region [⟨some 6, none, .p (.mksl 2 0 [.k (C.int .i64 0), .k (C.int .i64 0)] [])⟩,
    ⟨some 7, none, .h (.load 24 true (.t 1))⟩,
    ⟨some 8, none, .h (.call (.f 217) [.t 7])⟩,
    ⟨some 3, none, .p (.mv (.t 6))⟩,
    ⟨some 4, none, .p (.mv (.t 8))⟩] [1, 3, 4])
  (.seq (.seq (.region [⟨some 5, none, .p (.mv (.k (.c (C.int .i64 0))))⟩] [1, 3, 4, 5])
  (.block 0 (.loop (.seq (.seq (.region [⟨some 9, none, .p (.mv (.t 5))⟩,
    ⟨some 10, none, .p (.mv (.t 4))⟩,
    ⟨some 11, none, .p (.len (.t 10))⟩,
    ⟨some 12, none, .p (.bin .lss (.t 9) (.t 11))⟩] [1, 3, 4, 5, 12])
  (.cond (.t 12)
  .skip
  (.exit 0)))
  (.seq (.block 1 (.seq (.regionD [⟨some 15, none, .h (.load 24 true (.t 1))⟩,
    ⟨some 16, none, .p (.mv (.t 4))⟩,
    ⟨some 17, none, .p (.mv (.t 5))⟩,
    ⟨some 18, none, .p (.ixS 2 (.t 16) (.t 17))⟩,
    ⟨some 19, none, .p (.ixA 2 1 (.t 18) (.k (.c (C.int .i64 0))))⟩,
    ⟨some 20, none, .h (.load 1 false (.t 19))⟩,
    ⟨some 21, none, .p (.mv (.t 4))⟩,
    ⟨some 22, none, .p (.mv (.t 5))⟩,
    ⟨some 23, none, .p (.ixS 2 (.t 21) (.t 22))⟩,
    ⟨some 24, none, .p (.ixA 2 1 (.t 23) (.k (.c (C.int .i64 1))))⟩,
    ⟨some 25, none, .h (.load 1 false (.t 24))⟩,
    ⟨some 26, none, .h (.call (.f 131) [.t 15, .t 20, .t 25])⟩,
    ⟨some 27, none, .p (.un .not (.t 26))⟩] [1, 3, 4, 5, 27] [])
  (.cond (.t 27)
  (.region [⟨some 28, none, .p (.mv (.t 3))⟩,
    ⟨some 29, none, .p (.mv (.t 4))⟩,
    ⟨some 30, none, .p (.mv (.t 5))⟩,
    ⟨some 31, none, .p (.ixS 2 (.t 29) (.t 30))⟩,
    ⟨some 32, none, .h (.load 2 true (.t 31))⟩,
    ⟨some 33, none, .p (.mksl 2 1 [.k (C.int .i64 0), .k (C.int .i64 0)] [(0, 2, .t 32)])⟩,
    ⟨some 34, none, .h (.app 2 (.t 28) (.t 33))⟩,
    ⟨some 3, none, .p (.mv (.t 34))⟩] [1, 3, 4, 5])
  .skip)))
  (.region [⟨some 13, none, .p (.mv (.t 5))⟩,
    ⟨some 14, none, .p (.bin .add (.t 13) (.k (.c (C.int .i64 1))))⟩,
    ⟨some 5, none, .p (.mv (.t 14))⟩] [1, 3, 4, 5]))) [1, 3, 4, 5])))
  (.seq (.region [⟨some 35, none, .p (.mv (.t 3))⟩,
    ⟨some 2, none, .p (.mv (.t 35))⟩] [2])
  .ret)))) }
theorem a155_ok : okFn Try.prog 155 a155 = true := by kernel_rfl
/-- loop.example/g01215/spec.l10Completes -/
def a156 : AFn := { np := 1, nt := 51, res := [.t 2], body :=
  (.seq (.region [⟨some 1, none, .p (.box 24 (.t 0))⟩,
    ⟨some 2, none, .p (.mv (.k (.c (C.bool false))))⟩] [1])
  (.seq (.region [⟨some 8, none, .h (.load 24 true (.t 1))⟩,
    ⟨some 9, none, .h (.call (.f 155) [.t 8])⟩,
    ⟨some 3, none, .p (.mv (.t 9))⟩] [1, 3])
  (.seq (.seq (.region [⟨some 4, none, .p (.mv (.k (.c (C.int .i64 0))))⟩] [1, 3, 4])
  (.block 0 (.loop (.seq (.seq (.region [⟨some 10, none, .p (.mv (.t 4))⟩,
    ⟨some 11, none, .p (.mv (.t 3))⟩,
    ⟨some 12, none, .p (.len (.t 11))⟩,
    ⟨some 13, none, .p (.bin .lss (.t 10) (.t 12))⟩] [1, 3, 4, 13])
  (.cond (.t 13)
  .skip
  (.exit 0)))
  (.seq (.block 1 (.seq (.regionD [⟨some 17, none, .h (.load 24 true (.t 1))⟩,
    ⟨some 18, none, .p (.mv (.t 3))⟩,
    ⟨some 19, none, .p (.mv (.t 4))⟩,
    ⟨some 20, none, .p (.ixS 2 (.t 18) (.t 19))⟩,
    ⟨some 21, none, .p (.ixA 2 1 (.t 20) (.k (.c (C.int .i64 0))))⟩,
    ⟨some 22, none, .h (.load 1 false (.t 21))⟩,
    ⟨some 23, none, .p (.mv (.t 3))⟩,
    ⟨some 24, none, .p (.mv (.t 4))⟩,
    ⟨some 25, none, .p (.ixS 2 (.t 23) (.t 24))⟩,
    ⟨some 26, none, .p (.ixA 2 1 (.t 25) (.k (.c (C.int .i64 1))))⟩,
    ⟨some 27, none, .h (.load 1 false (.t 26))⟩,
    ⟨some 28, none, .h (.call (.f 132) [.t 17, .t 22, .t 27])⟩,
    ⟨some 16, none, .p (.mv (.t 28))⟩,
    ⟨some 29, none, .p (.ext (.t 16) 0)⟩,
    ⟨some 30, none, .p (.ext (.t 16) 1)⟩,
    ⟨some 5, none, .p (.alloc (List.replicate 24 (.k (C.int .i64 0))))⟩,
    ⟨none, none, .h (.store 24 (.t 5) (.t 29))⟩,
    ⟨some 6, none, .p (.mv (.t 30))⟩] [1, 3, 4, 5] [])
  (.seq (.region [⟨some 31, none, .h (.load 24 true (.t 1))⟩,
    ⟨some 32, none, .h (.call (.f 149) [.t 31])⟩,
    ⟨some 7, none, .p (.mv (.t 32))⟩] [1, 3, 4, 5, 7])
  (.seq (.regionE [⟨some 33, none, .p (.mv (.t 7))⟩,
    ⟨some 34, none, .p (.mv (.t 3))⟩,
    ⟨some 35, none, .p (.mv (.t 4))⟩,
    ⟨some 36, none, .p (.ixS 2 (.t 34) (.t 35))⟩,
    ⟨some 37, none, .p (.ixA 2 1 (.t 36) (.k (.c (C.int .i64 1))))⟩,
    ⟨some 38, none, .h (.load 1 false (.t 37))⟩,
    ⟨some 39, none, .h (.call (.f 203) [.t 33, .t 38])⟩,
    ⟨some 40, none, .p (.un .not (.t 39))⟩,
    ⟨some 41, none, .p (.mv (.t 40))⟩,
    ⟨some 42, some (41, true), .h (.load 24 true (.t 5))⟩,
    ⟨some 43, some (41, true), .h (.call (.f 149) [.t 42])⟩,
    ⟨some 44, some (41, true), .p (.mv (.t 3))⟩,
    ⟨some 45, some (41, true), .p (.mv (.t 4))⟩,
    ⟨some 46, some (41, true), .p (.ixS 2 (.t 44) (.t 45))⟩,
    ⟨some 47, some (41, true), .p (.ixA 2 1 (.t 46) (.k (.c (C.int .i64 1))))⟩,
    ⟨some 48, some (41, true), .h (.load 1 false (.t 47))⟩,
    ⟨some 49, some (41, true), .h (.call (.f 203) [.t 43, .t 48])⟩,
    ⟨some 50, none, .p (.pick (.t 41) (.t 49) (.k (.c (C.bool false))))⟩] [1, 3, 4, 50] [] [[], [], [], [], [], [], [], [], [], [], [6], [], [], [], [], [], [6, 10]])
  (.cond (.t 50)
  (.seq (.region [⟨some 2, none, .p (.mv (.k (.c (C.bool true))))⟩] [2])
  .ret)
  .skip)))))
  (.region [⟨some 14, none, .p (.mv (.t 4))⟩,
    ⟨some 15, none, .p (.bin .add (.t 14) (.k (.c (C.int .i64 1))))⟩,
    ⟨some 4, none, .p (.mv (.t 15))⟩] [1, 3, 4]))) [1, 3, 4])))
  (.seq (.region [⟨some 2, none, .p (.mv (.k (.c (C.bool false))))⟩] [2])
  .ret)))) }
theorem a156_ok : okFn Try.prog 156 a156 = true := by kernel_rfl
/-- loop.example/g01215/impl.isAt -/
def a157 : AFn := { np := 2, nt := 11, res := [.t 4], body :=
  (.seq (.region [⟨some 2, none, .p (.box 24 (.t 0))⟩,
    ⟨some 4, none, .p (.mv (.k (.c (C.bool false))))⟩] [1, 2])
  (.seq (.region [⟨some 5, none, .h (.load 24 true (.t 2))⟩,
    ⟨some 6, none, .h (.call (.f 59) [.t 5])⟩,
    ⟨some 7, none, .p (.mv (.t 6))⟩,
    ⟨some 8, some (7, true), .p (.mv (.t 1))⟩,
    ⟨some 9, some (7, true), .h (.call (.f 190) [.t 8, .f 115])⟩,
    ⟨some 10, none, .p (.pick (.t 7) (.t 9) (.k (.c (C.bool false))))⟩,
    ⟨some 4, none, .p (.mv (.t 10))⟩] [4])
  .ret)) }
theorem a157_ok : okFn Try.prog 157 a157 = true := by kernel_rfl
/-- loop.example/g01215/impl.canPour -/
def a158 : AFn := { np := 3, nt := 51, res := [.t 6], body :=
  (.seq (.region [⟨some 3, none, .p (.box 24 (.t 0))⟩,
    ⟨some 6, none, .p (.mv (.k (.c (C.bool false))))⟩] [1, 2, 3])
  (.seq (.region [⟨some 12, none, .p (.mv (.t 1))⟩,
    ⟨some 13, none, .p (.fld 0 (.t 3))⟩,
    ⟨some 14, none, .p (.ixA 6 4 (.t 13) (.t 12))⟩,
    ⟨some 15, none, .h (.load 4 true (.t 14))⟩,
    ⟨some 16, none, .h (.call (.f 187) [.t 15])⟩,
    ⟨some 11, none, .p (.mv (.t 16))⟩,
    ⟨some 17, none, .p (.ext (.t 11) 0)⟩,
    ⟨some 18, none, .p (.ext (.t 11) 1)⟩,
    ⟨some 7, none, .p (.mv (.t 17))⟩,
    ⟨some 8, none, .p (.mv (.t 18))⟩] [1, 2, 3, 7])
  (.seq (.region [⟨some 20, none, .p (.mv (.t 2))⟩,
    ⟨some 21, none, .p (.fld 0 (.t 3))⟩,
    ⟨some 22, none, .p (.ixA 6 4 (.t 21) (.t 20))⟩,
    ⟨some 23, none, .h (.load 4 true (.t 22))⟩,
    ⟨some 24, none, .h (.call (.f 187) [.t 23])⟩,
    ⟨some 19, none, .p (.mv (.t 24))⟩,
    ⟨some 25, none, .p (.ext (.t 19) 0)⟩,
    ⟨some 26, none, .p (.ext (.t 19) 1)⟩,
    ⟨some 9, none, .p (.mv (.t 25))⟩,
    ⟨some 10, none, .p (.mv (.t 26))⟩] [1, 2, 3, 7, 9])
  (.seq (.region [⟨some 27, none, .p (.mv (.t 1))⟩,
    ⟨some 28, none, .p (.mv (.t 2))⟩,
    ⟨some 29, none, .p (.bin .neq (.t 27) (.t 28))⟩,
    ⟨some 30, none, .p (.mv (.t 29))⟩,
    ⟨some 31, some (30, true), .p (.mv (.t 7))⟩,
    ⟨some 32, some (30, true), .p (.bin .gtr (.t 31) (.k (.c (C.int .i64 0))))⟩,
    ⟨some 33, none, .p (.pick (.t 30) (.t 32) (.k (.c (C.bool false))))⟩,
    ⟨some 34, none, .p (.mv (.t 33))⟩,
    ⟨some 35, some (34, true), .p (.mv (.t 2))⟩,
    ⟨some 36, some (34, true), .p (.fld 0 (.t 3))⟩,
    ⟨some 37, some (34, true), .p (.ixA 6 4 (.t 36) (.t 35))⟩,
    ⟨some 38, some (34, true), .h (.load 4 true (.t 37))⟩,
    ⟨some 39, some (34, true), .h (.call (.f 188) [.t 38])⟩,
    ⟨some 40, some (34, true), .p (.bin .lss (.t 39) (.k (.c (C.int .i64 4))))⟩,
    ⟨some 41, none, .p (.pick (.t 34) (.t 40) (.k (.c (C.bool false))))⟩,
    ⟨some 42, none, .p (.mv (.t 41))⟩,
    ⟨some 43, some (42, true), .p (.mv (.t 9))⟩,
    ⟨some 44, some (42, true), .p (.bin .eql (.t 43) (.k (.c (C.int .i64 0))))⟩,
    ⟨some 45, some (42, true), .p (.mv (.t 44))⟩,
    ⟨some 46, some (45, false), .p (.mv (.t 9))⟩,
    ⟨some 47, some (45, false), .p (.mv (.t 7))⟩,
    ⟨some 48, some (45, false), .p (.bin .eql (.t 46) (.t 47))⟩,
    ⟨some 49, some (42, true), .p (.pick (.t 45) (.k (.c (C.bool true))) (.t 48))⟩,
    ⟨some 50, none, .p (.pick (.t 42) (.t 49) (.k (.c (C.bool false))))⟩,
    ⟨some 6, none, .p (.mv (.t 50))⟩] [6])
  .ret)))) }
theorem a158_ok : okFn Try.prog 158 a158 = true := by kernel_rfl
/-- (*loop.example/g01215/spec.l1Cur).rack -/
def a159 : AFn := { np := 1, nt := 128, res := [.cell 2 24 true], body :=
  (.seq (.region [⟨some 2, none, .p (.alloc (List.replicate 24 (.k (C.int .i64 0))))⟩] [0, 2])
  (.seq (.region [⟨some 14, none, .p (.build (List.replicate 24 (.k (C.int .i64 0))) [])⟩,
    ⟨some 15, none, .p (.mv (.t 0))⟩,
    ⟨some 16, none, .p (.mksl 1 6 [.k (C.int .i64 0)] [(0, 1, .k (.c (C.int .i64 2))), (1, 1, .k (.c (C.int .i64 3))), (2, 1, .k (.c (C.int .i64 2))), (3, 1, .k (.c (C.int .i64 4))), (4, 1, .k (.c (C.int .i64 5))), (5, 1, .k (.c (C.int .i64 1)))])⟩,
    ⟨some 17, none, .h (.call (.f 181) [.t 15, .t 16])⟩,
    ⟨some 18, none, .p (.mv (.t 0))⟩,
    ⟨some 19, none, .p (.mksl 1 5 [.k (C.int .i64 0)] [(0, 1, .k (.c (C.int .i64 3))), (1, 1, .k (.c (C.int .i64 4))), (2, 1, .k (.c (C.int .i64 2))), (3, 1, .k (.c (C.int .i64 5))), (4, 1, .k (.c (C.int .i64 6)))])⟩,
    ⟨some 20, none, .h (.call (.f 181) [.t 18, .t 19])⟩,
    ⟨some 3, none, .p (.alloc (List.replicate 24 (.k (C.int .i64 0))))⟩,
    ⟨none, none, .h (.store 24 (.t 3) (.t 14))⟩,
    ⟨some 4, none, .p (.mv (.t 17))⟩,
    ⟨some 5, none, .p (.mv (.t 20))⟩] [0, 2, 3, 4, 5])
  (.seq (.seq (.region [⟨some 6, none, .p (.mv (.k (.c (C.int .i64 0))))⟩] [0, 2, 3, 4, 5, 6])
  (.block 0 (.loop (.seq (.seq (.region [⟨some 21, none, .p (.mv (.t 6))⟩,
    ⟨some 22, none, .p (.mv (.t 5))⟩,
    ⟨some 23, none, .p (.bin .lss (.t 21) (.t 22))⟩] [0, 2, 3, 4, 5, 6, 23])
  (.cond (.t 23)
  .skip
  (.exit 0)))
  (.seq (.block 1 (.seq (.region [⟨some 7, none, .p (.mv (.k (.c (C.int .i64 0))))⟩] [0, 2, 3, 4, 5, 6, 7])
  (.block 2 (.loop (.seq (.seq (.region [⟨some 26, none, .p (.mv (.t 7))⟩,
    ⟨some 27, none, .p (.mv (.t 0))⟩,
    ⟨some 28, none, .p (.mksl 1 6 [.k (C.int .i64 0)] [(0, 1, .k (.c (C.int .i64 4))), (1, 1, .k (.c (C.int .i64 3))), (2, 1, .k (.c (C.int .i64 4))), (3, 1, .k (.c (C.int .i64 2))), (4, 1, .k (.c (C.int .i64 1))), (5, 1, .k (.c (C.int .i64 0)))])⟩,
    ⟨some 29, none, .h (.call (.f 181) [.t 27, .t 28])⟩,
    ⟨some 30, none, .p (.bin .lss (.t 26) (.t 29))⟩] [0, 2, 3, 4, 5, 6, 7, 30])
  (.cond (.t 30)
  .skip
  (.exit 2)))
  (.seq (.block 3 (.seq (.regionE [⟨some 33, none, .p (.mv (.t 6))⟩,
    ⟨some 34, none, .p (.mv (.t 7))⟩,
    ⟨some 35, none, .p (.mv (.t 0))⟩,
    ⟨some 36, none, .p (.mv (.t 4))⟩,
    ⟨some 37, none, .h (.call (.f 165) [.t 35, .t 36])⟩,
    ⟨some 38, none, .p (.bin .add (.k (.c (C.int .i64 1))) (.t 37))⟩,
    ⟨some 39, none, .p (.fld 0 (.t 3))⟩,
    ⟨some 40, none, .p (.ixA 6 4 (.t 39) (.t 33))⟩,
    ⟨some 41, none, .p (.ixA 4 1 (.t 40) (.t 34))⟩,
    ⟨none, none, .h (.store 1 (.t 41) (.t 38))⟩] [0, 2, 3, 4, 5, 6, 7] [] [[], [], [], [], [4]])
  (.seq (.region [⟨some 42, none, .p (.mv (.t 7))⟩,
    ⟨some 43, none, .p (.bin .gtr (.t 42) (.k (.c (C.int .i64 0))))⟩,
    ⟨some 44, none, .p (.mv (.t 43))⟩,
    ⟨some 45, some (44, true), .p (.mv (.t 0))⟩,
    ⟨some 46, some (44, true), .h (.call (.f 172) [.t 45, .k (.c (C.int .i64 3))])⟩,
    ⟨some 47, none, .p (.pick (.t 44) (.t 46) (.k (.c (C.bool false))))⟩] [0, 2, 3, 4, 5, 6, 7, 47])
  (.cond (.t 47)
  (.regionD [⟨some 48, none, .p (.mv (.t 6))⟩,
    ⟨some 49, none, .p (.mv (.t 7))⟩,
    ⟨some 50, none, .p (.mv (.t 6))⟩,
    ⟨some 51, none, .p (.mv (.t 7))⟩,
    ⟨some 52, none, .p (.bin .sub (.t 51) (.k (.c (C.int .i64 1))))⟩,
    ⟨some 53, none, .p (.fld 0 (.t 3))⟩,
    ⟨some 54, none, .p (.ixA 6 4 (.t 53) (.t 50))⟩,
    ⟨some 55, none, .p (.ixA 4 1 (.t 54) (.t 52))⟩,
    ⟨some 56, none, .h (.load 1 false (.t 55))⟩,
    ⟨some 57, none, .p (.fld 0 (.t 3))⟩,
    ⟨some 58, none, .p (.ixA 6 4 (.t 57) (.t 48))⟩,
    ⟨some 59, none, .p (.ixA 4 1 (.t 58) (.t 49))⟩,
    ⟨none, none, .h (.store 1 (.t 59) (.t 56))⟩] [0, 2, 3, 4, 5, 6, 7] [])
  .skip))))
  (.region [⟨some 31, none, .p (.mv (.t 7))⟩,
    ⟨some 32, none, .p (.bin .add (.t 31) (.k (.c (C.int .i64 1))))⟩,
    ⟨some 7, none, .p (.mv (.t 32))⟩] [0, 2, 3, 4, 5, 6, 7]))) [0, 2, 3, 4, 5, 6, 7]))))
  (.region [⟨some 24, none, .p (.mv (.t 6))⟩,
    ⟨some 25, none, .p (.bin .add (.t 24) (.k (.c (C.int .i64 1))))⟩,
    ⟨some 6, none, .p (.mv (.t 25))⟩] [0, 2, 3, 4, 5, 6]))) [0, 2, 3, 4, 5, 6])))
  (.seq (.seq (.region [⟨some 8, none, .p (.mv (.k (.c (C.int .i64 0))))⟩] [0, 2, 3, 8])
  (.block 4 (.loop (.seq (.seq (.region [⟨some 60, none, .p (.mv (.t 8))⟩,
    ⟨some 61, none, .p (.bin .lss (.t 60) (.k (.c (C.int .i64 6))))⟩] [0, 2, 3, 8, 61])
  (.cond (.t 61)
  .skip
  (.exit 4)))
  (.seq (.block 5 (.seq (.region [⟨some 9, none, .p (.mv (.k (.c (C.int .i64 1))))⟩] [0, 2, 3, 8, 9])
  (.block 6 (.loop (.seq (.seq (.region [⟨some 64, none, .p (.mv (.t 9))⟩,
    ⟨some 65, none, .p (.bin .lss (.t 64) (.k (.c (C.int .i64 4))))⟩] [0, 2, 3, 8, 9, 65])
  (.cond (.t 65)
  .skip
  (.exit 6)))
  (.seq (.block 7 (.seq (.region [⟨some 68, none, .p (.mv (.t 8))⟩,
    ⟨some 69, none, .p (.mv (.t 9))⟩,
    ⟨some 70, none, .p (.bin .sub (.t 69) (.k (.c (C.int .i64 1))))⟩,
    ⟨some 71, none, .p (.fld 0 (.t 3))⟩,
    ⟨some 72, none, .p (.ixA 6 4 (.t 71) (.t 68))⟩,
    ⟨some 73, none, .p (.ixA 4 1 (.t 72) (.t 70))⟩,
    ⟨some 74, none, .h (.load 1 false (.t 73))⟩,
    ⟨some 75, none, .p (.bin .eql (.t 74) (.k (.c (C.int .i64 0))))⟩] [0, 2, 3, 8, 9, 75])
  (.cond (.t 75)
  (.region [⟨some 76, none, .p (.mv (.t 8))⟩,
    ⟨some 77, none, .p (.mv (.t 9))⟩,
    ⟨some 78, none, .p (.fld 0 (.t 3))⟩,
    ⟨some 79, none, .p (.ixA 6 4 (.t 78) (.t 76))⟩,
    ⟨some 80, none, .p (.ixA 4 1 (.t 79) (.t 77))⟩,
    ⟨none, none, .h (.store 1 (.t 80) (.k (.c (C.int .i64 0))))⟩] [0, 2, 3, 8, 9])
  .skip)))
  (.region [⟨some 66, none, .p (.mv (.t 9))⟩,
    ⟨some 67, none, .p (.bin .add (.t 66) (.k (.c (C.int .i64 1))))⟩,
    ⟨some 9, none, .p (.mv (.t 67))⟩] [0, 2, 3, 8, 9]))) [0, 2, 3, 8, 9]))))
  (.region [⟨some 62, none, .p (.mv (.t 8))⟩,
    ⟨some 63, none, .p (.bin .add (.t 62) (.k (.c (C.int .i64 1))))⟩,
    ⟨some 8, none, .p (.mv (.t 63))⟩] [0, 2, 3, 8]))) [0, 2, 3, 8])))
  (.seq (.seq (.region [⟨some 81, none, .p (.mv (.t 0))⟩,
    ⟨some 82, none, .h (.call (.f 172) [.t 81, .k (.c (C.int .i64 3))])⟩] [0, 2, 3, 82])
  (.cond (.t 82)
  (.seq (.region [⟨some 83, none, .p (.mv (.t 0))⟩,
    ⟨some 84, none, .h (.call (.f 165) [.t 83, .k (.c (C.int .i64 6))])⟩,
    ⟨some 85, none, .p (.mv (.t 0))⟩,
    ⟨some 86, none, .h (.call (.f 165) [.t 85, .k (.c (C.int .i64 6))])⟩,
    ⟨some 10, none, .p (.mv (.t 84))⟩,
    ⟨some 11, none, .p (.mv (.t 86))⟩] [0, 2, 3, 10, 11])
  (.seq (.regionD [⟨some 87, none, .p (.mv (.t 10))⟩,
    ⟨some 88, none, .p (.fld 0 (.t 3))⟩,
    ⟨some 89, none, .p (.ixA 6 4 (.t 88) (.t 87))⟩,
    ⟨some 90, none, .h (.load 4 true (.t 89))⟩,
    ⟨some 91, none, .p (.mv (.t 11))⟩,
    ⟨some 92, none, .p (.fld 0 (.t 3))⟩,
    ⟨some 93, none, .p (.ixA 6 4 (.t 92) (.t 91))⟩,
    ⟨some 94, none, .h (.load 4 true (.t 93))⟩,
    ⟨some 12, none, .p (.alloc [.k (C.int .i64 0), .k (C.int .i64 0), .k (C.int .i64 0), .k (C.int .i64 0)])⟩,
    ⟨some 13, none, .p (.alloc [.k (C.int .i64 0), .k (C.int .i64 0), .k (C.int .i64 0), .k (C.int .i64 0)])⟩,
    ⟨none, none, .h (.store 4 (.t 12) (.t 90))⟩,
    ⟨none, none, .h (.store 4 (.t 13) (.t 94))⟩] [0, 2, 3, 10, 11, 12, 13] [(.t 93, .t 12)])
  (.seq (.region [⟨some 95, none, .p (.mv (.t 10))⟩,
    ⟨some 96, none, .h (.load 4 true (.t 13))⟩,
    ⟨some 97, none, .p (.fld 0 (.t 3))⟩,
    ⟨some 98, none, .p (.ixA 6 4 (.t 97) (.t 95))⟩,
    ⟨none, none, .h (.store 4 (.t 98) (.t 96))⟩] [0, 2, 3, 11, 12])
  (.region [⟨some 99, none, .p (.mv (.t 11))⟩,
    ⟨some 100, none, .h (.load 4 true (.t 12))⟩,
    ⟨some 101, none, .p (.fld 0 (.t 3))⟩,
    ⟨some 102, none, .p (.ixA 6 4 (.t 101) (.t 99))⟩,
    ⟨none, none, .h (.store 4 (.t 102) (.t 100))⟩] [0, 2, 3]))))
  .skip))
  (.seq (.seq (.region [⟨some 103, none, .p (.mv (.t 0))⟩,
    ⟨some 104, none, .h (.call (.f 165) [.t 103, .k (.c (C.int .i64 40))])⟩] [0, 2, 3, 104])
  (.block 8 (.seq (.region [⟨some 106, none, .p (.bin .eql (.t 104) (.k (.c (C.int .i64 0))))⟩,
    ⟨some 105, none, .p (.mv (.t 106))⟩] [0, 2, 3, 104, 105])
  (.cond (.t 105)
  (.regionE [⟨some 107, none, .p (.mv (.t 0))⟩,
    ⟨some 108, none, .h (.call (.f 165) [.t 107, .k (.c (C.int .i64 6))])⟩,
    ⟨some 109, none, .p (.mv (.t 0))⟩,
    ⟨some 110, none, .h (.call (.f 165) [.t 109, .k (.c (C.int .i64 4))])⟩,
    ⟨some 111, none, .p (.mv (.t 0))⟩,
    ⟨some 112, none, .p (.mksl 1 3 [.k (C.int .i64 0)] [(0, 1, .k (.c (C.int .i64 (-1)))), (1, 1, .k (.c (C.int .i64 6))), (2, 1, .k (.c (C.int .i64 4611686018427387904)))])⟩,
    ⟨some 113, none, .h (.call (.f 181) [.t 111, .t 112])⟩,
    ⟨some 114, none, .p (.fld 0 (.t 3))⟩,
    ⟨some 115, none, .p (.ixA 6 4 (.t 114) (.t 108))⟩,
    ⟨some 116, none, .p (.ixA 4 1 (.t 115) (.t 110))⟩,
    ⟨none, none, .h (.store 1 (.t 116) (.t 113))⟩] [2, 3] [] [[], [1], [], [1, 3], [], [], [1, 3, 5, 6]])
  (.seq (.region [⟨some 118, none, .p (.bin .eql (.t 104) (.k (.c (C.int .i64 1))))⟩,
    ⟨some 117, none, .p (.mv (.t 118))⟩] [0, 2, 3, 104, 117])
  (.cond (.t 117)
  (.region [⟨some 119, none, .p (.mv (.t 0))⟩,
    ⟨some 120, none, .h (.call (.f 165) [.t 119, .k (.c (C.int .i64 6))])⟩,
    ⟨some 121, none, .p (.build [.k (C.int .i64 0), .k (C.int .i64 0), .k (C.int .i64 0), .k (C.int .i64 0)] [(0, 1, .k (.c (C.int .i64 0))), (1, 1, .k (.c (C.int .i64 1))), (2, 1, .k (.c (C.int .i64 0))), (3, 1, .k (.c (C.int .i64 0)))])⟩,
    ⟨some 122, none, .p (.fld 0 (.t 3))⟩,
    ⟨some 123, none, .p (.ixA 6 4 (.t 122) (.t 120))⟩,
    ⟨none, none, .h (.store 4 (.t 123) (.t 121))⟩] [2, 3])
  (.seq (.region [⟨some 125, none, .p (.bin .eql (.t 104) (.k (.c (C.int .i64 2))))⟩,
    ⟨some 124, none, .p (.mv (.t 125))⟩] [2, 3, 124])
  (.cond (.t 124)
  (.seq (.region [⟨some 126, none, .p (.build (List.replicate 24 (.k (C.int .i64 0))) [])⟩,
    ⟨none, none, .h (.store 24 (.t 2) (.t 126))⟩] [2])
  .ret)
  .skip))))))))
  (.seq (.region [⟨some 127, none, .h (.load 24 true (.t 3))⟩,
    ⟨none, none, .h (.store 24 (.t 2) (.t 127))⟩] [2])
  .ret))))))) }
theorem a159_ok : okFn Try.prog 159 a159 = true := by kernel_rfl
/-- (*loop.example/g01215/spec.l1Cur).bar -/
def a160 : AFn := { np := 1, nt := 57, res := [.cell 2 26 true], body :=
  (.seq (.region [⟨some 2, none, .p (.alloc (List.replicate 26 (.k (C.int .i64 0))))⟩] [0, 2])
  (.seq (.region [⟨some 9, none, .p (.mv (.t 0))⟩,
    ⟨some 10, none, .h (.call (.f 174) [.t 9])⟩,
    ⟨some 11, none, .h (.call (.f 68) [.t 10])⟩,
    ⟨some 8, none, .p (.mv (.t 11))⟩,
    ⟨some 12, none, .p (.ext (.t 8) 0)⟩,
    ⟨some 13, none, .p (.ext (.t 8) 1)⟩,
    ⟨some 3, none, .p (.alloc (List.replicate 26 (.k (C.int .i64 0))))⟩,
    ⟨none, none, .h (.store 26 (.t 3) (.t 12))⟩,
    ⟨some 4, none, .p (.mv (.t 13))⟩] [0, 2, 3, 4])
  (.seq (.seq (.region [⟨some 14, none, .p (.mv (.t 0))⟩,
    ⟨some 15, none, .h (.call (.f 165) [.t 14, .k (.c (C.int .i64 6))])⟩,
    ⟨some 5, none, .p (.mv (.t 15))⟩] [0, 2, 3, 4, 5])
  (.block 0 (.loop (.seq (.seq (.region [⟨some 16, none, .p (.mv (.t 5))⟩,
    ⟨some 17, none, .p (.bin .gtr (.t 16) (.k (.c (C.int .i64 0))))⟩,
    ⟨some 18, none, .p (.mv (.t 17))⟩,
    ⟨some 19, some (18, true), .p (.mv (.t 4))⟩,
    ⟨some 20, none, .p (.pick (.t 18) (.t 19) (.k (.c (C.bool false))))⟩] [0, 2, 3, 4, 5, 20])
  (.cond (.t 20)
  .skip
  (.exit 0)))
  (.seq (.block 1 (.seq (.regionE [⟨some 24, none, .h (.load 26 true (.t 3))⟩,
    ⟨some 25, none, .p (.mv (.t 0))⟩,
    ⟨some 26, none, .p (.fld 0 (.t 3))⟩,
    ⟨some 27, none, .h (.load 24 true (.t 26))⟩,
    ⟨some 28, none, .h (.call (.f 161) [.t 25, .t 27])⟩,
    ⟨some 29, none, .h (.call (.f 164) [.t 24, .t 28])⟩,
    ⟨some 23, none, .p (.mv (.t 29))⟩,
    ⟨some 30, none, .p (.ext (.t 23) 0)⟩,
    ⟨some 31, none, .p (.ext (.t 23) 1)⟩,
    ⟨some 6, none, .p (.alloc (List.replicate 26 (.k (C.int .i64 0))))⟩,
    ⟨none, none, .h (.store 26 (.t 6) (.t 30))⟩,
    ⟨some 7, none, .p (.mv (.t 31))⟩] [0, 2, 3, 4, 5, 6, 7] [] [[], [], [], [], [4, 1000003], [4]])
  (.seq (.region [⟨some 32, none, .p (.mv (.t 7))⟩] [0, 2, 3, 4, 5, 6, 32])
  (.cond (.t 32)
  (.region [⟨some 33, none, .h (.load 26 true (.t 6))⟩,
    ⟨none, none, .h (.store 26 (.t 3) (.t 33))⟩] [0, 2, 3, 4, 5])
  .skip))))
  (.region [⟨some 21, none, .p (.mv (.t 5))⟩,
    ⟨some 22, none, .p (.bin .sub (.t 21) (.k (.c (C.int .i64 1))))⟩,
    ⟨some 5, none, .p (.mv (.t 22))⟩] [0, 2, 3, 4, 5]))) [0, 2, 3, 4, 5])))
  (.seq (.seq (.region [⟨some 34, none, .p (.mv (.t 0))⟩,
    ⟨some 35, none, .h (.call (.f 165) [.t 34, .k (.c (C.int .i64 48))])⟩] [0, 2, 3, 35])
  (.block 2 (.seq (.region [⟨some 37, none, .p (.bin .eql (.t 35) (.k (.c (C.int .i64 0))))⟩,
    ⟨some 36, none, .p (.mv (.t 37))⟩] [0, 2, 3, 35, 36])
  (.cond (.t 36)
  (.region [⟨some 38, none, .p (.mv (.t 0))⟩,
    ⟨some 39, none, .p (.mksl 1 3 [.k (C.int .i64 0)] [(0, 1, .k (.c (C.int .i64 (-1)))), (1, 1, .k (.c (C.int .i64 1000))), (2, 1, .k (.c (C.int .i64 1001)))])⟩,
    ⟨some 40, none, .h (.call (.f 181) [.t 38, .t 39])⟩,
    ⟨some 41, none, .p (.fld 25 (.t 3))⟩,
    ⟨none, none, .h (.store 1 (.t 41) (.t 40))⟩] [2, 3])
  (.seq (.region [⟨some 43, none, .p (.bin .eql (.t 35) (.k (.c (C.int .i64 1))))⟩,
    ⟨some 42, none, .p (.mv (.t 43))⟩] [0, 2, 3, 35, 42])
  (.cond (.t 42)
  (.region [⟨some 44, none, .p (.mv (.t 0))⟩,
    ⟨some 45, none, .p (.mksl 1 4 [.k (C.int .i64 0)] [(0, 1, .k (.c (C.int .i64 (-1)))), (1, 1, .k (.c (C.int .i64 9999))), (2, 1, .k (.c (C.int .i64 10000))), (3, 1, .k (.c (C.int .i64 1)))])⟩,
    ⟨some 46, none, .h (.call (.f 181) [.t 44, .t 45])⟩,
    ⟨some 47, none, .p (.fld 24 (.t 3))⟩,
    ⟨none, none, .h (.store 1 (.t 47) (.t 46))⟩] [2, 3])
  (.seq (.region [⟨some 49, none, .p (.bin .eql (.t 35) (.k (.c (C.int .i64 2))))⟩,
    ⟨some 48, none, .p (.mv (.t 49))⟩] [0, 2, 3, 48])
  (.cond (.t 48)
  (.region [⟨some 50, none, .p (.mv (.t 0))⟩,
    ⟨some 51, none, .h (.call (.f 165) [.t 50, .k (.c (C.int .i64 6))])⟩,
    ⟨some 52, none, .p (.build [.k (C.int .i64 0), .k (C.int .i64 0), .k (C.int .i64 0), .k (C.int .i64 0)] [(0, 1, .k (.c (C.int .i64 0))), (1, 1, .k (.c (C.int .i64 0))), (2, 1, .k (.c (C.int .i64 1))), (3, 1, .k (.c (C.int .i64 0)))])⟩,
    ⟨some 53, none, .p (.fld 0 (.t 3))⟩,
    ⟨some 54, none, .p (.fld 0 (.t 53))⟩,
    ⟨some 55, none, .p (.ixA 6 4 (.t 54) (.t 51))⟩,
    ⟨none, none, .h (.store 4 (.t 55) (.t 52))⟩] [2, 3])
  .skip))))))))
  (.seq (.region [⟨some 56, none, .h (.load 26 true (.t 3))⟩,
    ⟨none, none, .h (.store 26 (.t 2) (.t 56))⟩] [2])
  .ret))))) }
theorem a160_ok : okFn Try.prog 160 a160 = true := by kernel_rfl
/-- (*loop.example/g01215/spec.l1Cur).serve12 -/
def a161 : AFn := { np := 2, nt := 73, res := [.cell 4 4 true], body :=
  (.seq (.region [⟨some 3, none, .p (.box 24 (.t 1))⟩,
    ⟨some 4, none, .p (.alloc [.k (C.int .i64 0), .k (C.int .i64 0), .k (C.int .i64 0), .k (C.int .i64 0)])⟩] [0, 3, 4])
  (.seq (.region [⟨some 8, none, .p (.mv (.t 0))⟩,
    ⟨some 9, none, .p (.mksl 1 8 [.k (C.int .i64 0)] [(0, 1, .k (.c (C.int .i64 1))), (1, 1, .k (.c (C.int .i64 1))), (2, 1, .k (.c (C.int .i64 1))), (3, 1, .k (.c (C.int .i64 2))), (4, 1, .k (.c (C.int .i64 2))), (5, 1, .k (.c (C.int .i64 3))), (6, 1, .k (.c (C.int .i64 4))), (7, 1, .k (.c (C.int .i64 5)))])⟩,
    ⟨some 10, none, .h (.call (.f 181) [.t 8, .t 9])⟩,
    ⟨some 11, none, .p (.build [.k (C.int .i64 0), .k (C.int .i64 0), .k (C.int .i64 0), .k (C.int .i64 0)] [(0, 1, .t 10)])⟩,
    ⟨some 5, none, .p (.alloc [.k (C.int .i64 0), .k (C.int .i64 0), .k (C.int .i64 0), .k (C.int .i64 0)])⟩,
    ⟨none, none, .h (.store 4 (.t 5) (.t 11))⟩] [0, 3, 4, 5])
  (.seq (.seq (.region [⟨some 12, none, .p (.fld 0 (.t 5))⟩,
    ⟨some 13, none, .h (.load 1 false (.t 12))⟩] [0, 3, 4, 5, 13])
  (.block 0 (.seq (.region [⟨some 27, none, .p (.bin .eql (.t 13) (.k (.c (C.int .i64 1))))⟩,
    ⟨some 26, none, .p (.mv (.t 27))⟩] [0, 3, 4, 5, 13, 26])
  (.cond (.t 26)
  (.seq (.region [⟨some 28, none, .p (.mv (.t 0))⟩,
    ⟨some 29, none, .h (.load 24 true (.t 3))⟩,
    ⟨some 30, none, .h (.call (.f 208) [.t 28, .t 29])⟩,
    ⟨some 6, none, .p (.alloc [.k (C.int .i64 0), .k (C.int .i64 0)])⟩,
    ⟨none, none, .h (.store 2 (.t 6) (.t 30))⟩] [0, 4, 5, 6])
  (.seq (.region [⟨some 31, none, .p (.ixA 2 1 (.t 6) (.k (.c (C.int .i64 0))))⟩,
    ⟨some 32, none, .h (.load 1 false (.t 31))⟩,
    ⟨some 33, none, .p (.fld 1 (.t 5))⟩,
    ⟨none, none, .h (.store 1 (.t 33) (.t 32))⟩] [0, 4, 5, 6])
  (.region [⟨some 34, none, .p (.ixA 2 1 (.t 6) (.k (.c (C.int .i64 1))))⟩,
    ⟨some 35, none, .h (.load 1 false (.t 34))⟩,
    ⟨some 36, none, .p (.fld 2 (.t 5))⟩,
    ⟨none, none, .h (.store 1 (.t 36) (.t 35))⟩] [0, 4, 5])))
  (.seq (.region [⟨some 38, none, .p (.bin .eql (.t 13) (.k (.c (C.int .i64 2))))⟩,
    ⟨some 37, none, .p (.mv (.t 38))⟩] [0, 3, 4, 5, 13, 37])
  (.cond (.t 37)
  (.seq (.region [⟨some 39, none, .p (.mv (.t 0))⟩,
    ⟨some 40, none, .h (.call (.f 113) [.t 39])⟩,
    ⟨some 41, none, .p (.fld 1 (.t 5))⟩,
    ⟨none, none, .h (.store 1 (.t 41) (.t 40))⟩] [0, 4, 5])
  (.region [⟨some 42, none, .p (.mv (.t 0))⟩,
    ⟨some 43, none, .h (.call (.f 114) [.t 42])⟩,
    ⟨some 44, none, .p (.fld 2 (.t 5))⟩,
    ⟨none, none, .h (.store 1 (.t 44) (.t 43))⟩] [0, 4, 5]))
  (.seq (.region [⟨some 46, none, .p (.bin .eql (.t 13) (.k (.c (C.int .i64 3))))⟩,
    ⟨some 45, none, .p (.mv (.t 46))⟩] [0, 3, 4, 5, 13, 45])
  (.cond (.t 45)
  (.region [⟨some 47, none, .p (.mv (.t 0))⟩,
    ⟨some 48, none, .h (.call (.f 113) [.t 47])⟩,
    ⟨some 49, none, .p (.fld 1 (.t 5))⟩,
    ⟨none, none, .h (.store 1 (.t 49) (.t 48))⟩] [0, 4, 5])
  (.seq (.region [⟨some 51, none, .p (.bin .eql (.t 13) (.k (.c (C.int .i64 4))))⟩,
    ⟨some 50, none, .p (.mv (.t 51))⟩] [0, 3, 4, 5, 50])
  (.cond (.t 50)
  (.seq (.region [⟨some 52, none, .p (.mv (.t 0))⟩,
    ⟨some 53, none, .h (.call (.f 113) [.t 52])⟩,
    ⟨some 54, none, .p (.fld 1 (.t 5))⟩,
    ⟨none, none, .h (.store 1 (.t 54) (.t 53))⟩] [0, 4, 5])
  (.region [⟨some 55, none, .p (.mv (.t 0))⟩,
    ⟨some 56, none, .h (.call (.f 113) [.t 55])⟩,
    ⟨some 57, none, .p (.fld 2 (.t 5))⟩,
    ⟨none, none, .h (.store 1 (.t 57) (.t 56))⟩] [0, 4, 5]))
  (.seq (.region [⟨some 14, none, .p (.mv (.t 0))⟩,
    ⟨some 15, none, .h (.load 24 true (.t 3))⟩,
    ⟨some 16, none, .h (.call (.f 218) [.t 14, .t 15])⟩,
    ⟨some 7, none, .p (.alloc [.k (C.int .i64 0), .k (C.int .i64 0), .k (C.int .i64 0)])⟩,
    ⟨none, none, .h (.store 3 (.t 7) (.t 16))⟩] [0, 4, 5, 7])
  (.region [⟨some 17, none, .p (.fld 0 (.t 5))⟩,
    ⟨some 18, none, .h (.load 1 false (.t 17))⟩,
    ⟨some 19, none, .p (.fld 0 (.t 7))⟩,
    ⟨some 20, none, .h (.load 1 false (.t 19))⟩,
    ⟨some 21, none, .p (.fld 1 (.t 7))⟩,
    ⟨some 22, none, .h (.load 1 false (.t 21))⟩,
    ⟨some 23, none, .p (.fld 2 (.t 7))⟩,
    ⟨some 24, none, .h (.load 1 false (.t 23))⟩,
    ⟨some 25, none, .p (.build [.k (C.int .i64 0), .k (C.int .i64 0), .k (C.int .i64 0), .k (C.int .i64 0)] [(0, 1, .t 18), (1, 1, .t 20), (2, 1, .t 22), (3, 1, .t 24)])⟩,
    ⟨none, none, .h (.store 4 (.t 5) (.t 25))⟩] [0, 4, 5]))))))))))))
  (.seq (.seq (.region [⟨some 58, none, .p (.mv (.t 0))⟩,
    ⟨some 59, none, .h (.call (.f 165) [.t 58, .k (.c (C.int .i64 40))])⟩] [0, 4, 5, 59])
  (.block 1 (.seq (.region [⟨some 61, none, .p (.bin .eql (.t 59) (.k (.c (C.int .i64 0))))⟩,
    ⟨some 60, none, .p (.mv (.t 61))⟩] [0, 4, 5, 59, 60])
  (.cond (.t 60)
  (.region [⟨some 62, none, .p (.mv (.t 0))⟩,
    ⟨some 63, none, .p (.mksl 1 3 [.k (C.int .i64 0)] [(0, 1, .k (.c (C.int .i64 (-1)))), (1, 1, .k (.c (C.int .i64 1))), (2, 1, .k (.c (C.int .i64 5)))])⟩,
    ⟨some 64, none, .h (.call (.f 181) [.t 62, .t 63])⟩,
    ⟨some 65, none, .p (.fld 3 (.t 5))⟩,
    ⟨none, none, .h (.store 1 (.t 65) (.t 64))⟩] [4, 5])
  (.seq (.region [⟨some 67, none, .p (.bin .eql (.t 59) (.k (.c (C.int .i64 1))))⟩,
    ⟨some 66, none, .p (.mv (.t 67))⟩] [0, 4, 5, 66])
  (.cond (.t 66)
  (.region [⟨some 68, none, .p (.mv (.t 0))⟩,
    ⟨some 69, none, .p (.mksl 1 3 [.k (C.int .i64 0)] [(0, 1, .k (.c (C.int .i64 0))), (1, 1, .k (.c (C.int .i64 6))), (2, 1, .k (.c (C.int .i64 (-1))))])⟩,
    ⟨some 70, none, .h (.call (.f 181) [.t 68, .t 69])⟩,
    ⟨some 71, none, .p (.fld 0 (.t 5))⟩,
    ⟨none, none, .h (.store 1 (.t 71) (.t 70))⟩] [4, 5])
  .skip))))))
  (.seq (.region [⟨some 72, none, .h (.load 4 true (.t 5))⟩,
    ⟨none, none, .h (.store 4 (.t 4) (.t 72))⟩] [4])
  .ret))))) }
theorem a161_ok : okFn Try.prog 161 a161 = true := by kernel_rfl
/-- (loop.example/g01215/impl.Bar).serve -/
def a162 : AFn := { np := 2, nt := 127, res := [.cell 4 26 true, .t 5], body :=
  (.seq (.region [⟨some 2, none, .p (.box 26 (.t 0))⟩,
    ⟨some 3, none, .p (.box 4 (.t 1))⟩,
    ⟨some 4, none, .p (.alloc (List.replicate 26 (.k (C.int .i64 0))))⟩,
    ⟨some 5, none, .p (.mv (.k (.c (C.bool false))))⟩] [2, 3, 4])
  (.seq (.region [⟨some 6, none, .p (.mv (.k (.c (C.int .i64 0))))⟩,
    ⟨some 7, none, .p (.mv (.k (.c (C.bool false))))⟩] [2, 3, 4, 6, 7])
  (.seq (.block 0 (.seq (.region [⟨some 9, none, .p (.fld 0 (.t 3))⟩,
    ⟨some 10, none, .h (.load 1 false (.t 9))⟩,
    ⟨some 11, none, .p (.bin .eql (.t 10) (.k (.c (C.int .i64 1))))⟩,
    ⟨some 12, none, .p (.mv (.t 11))⟩,
    ⟨some 13, some (12, true), .p (.fld 3 (.t 3))⟩,
    ⟨some 14, some (12, true), .h (.load 1 false (.t 13))⟩,
    ⟨some 15, some (12, true), .p (.bin .eql (.t 14) (.k (.c (C.int .i64 0))))⟩,
    ⟨some 16, none, .p (.pick (.t 12) (.t 15) (.k (.c (C.bool false))))⟩,
    ⟨some 8, none, .p (.mv (.t 16))⟩] [2, 3, 4, 6, 7, 8])
  (.cond (.t 8)
  (.region [⟨some 18, none, .p (.fld 0 (.t 2))⟩,
    ⟨some 19, none, .h (.load 24 true (.t 18))⟩,
    ⟨some 20, none, .p (.fld 1 (.t 3))⟩,
    ⟨some 21, none, .h (.load 1 false (.t 20))⟩,
    ⟨some 22, none, .p (.fld 2 (.t 3))⟩,
    ⟨some 23, none, .h (.load 1 false (.t 22))⟩,
    ⟨some 24, none, .h (.call (.f 63) [.t 19, .t 21, .t 23])⟩,
    ⟨some 17, none, .p (.mv (.t 24))⟩,
    ⟨some 25, none, .p (.ext (.t 17) 0)⟩,
    ⟨some 26, none, .p (.ext (.t 17) 1)⟩,
    ⟨some 27, none, .p (.ext (.t 17) 2)⟩,
    ⟨some 28, none, .p (.fld 0 (.t 2))⟩,
    ⟨none, none, .h (.store 24 (.t 28) (.t 25))⟩,
    ⟨some 6, none, .p (.mv (.t 26))⟩,
    ⟨some 7, none, .p (.mv (.t 27))⟩] [2, 4, 6, 7])
  (.seq (.region [⟨some 30, none, .p (.fld 0 (.t 3))⟩,
    ⟨some 31, none, .h (.load 1 false (.t 30))⟩,
    ⟨some 32, none, .p (.bin .eql (.t 31) (.k (.c (C.int .i64 2))))⟩,
    ⟨some 33, none, .p (.mv (.t 32))⟩,
    ⟨some 34, some (33, true), .p (.fld 3 (.t 3))⟩,
    ⟨some 35, some (33, true), .h (.load 1 false (.t 34))⟩,
    ⟨some 36, some (33, true), .p (.bin .eql (.t 35) (.k (.c (C.int .i64 0))))⟩,
    ⟨some 37, none, .p (.pick (.t 33) (.t 36) (.k (.c (C.bool false))))⟩,
    ⟨some 29, none, .p (.mv (.t 37))⟩] [2, 3, 4, 6, 7, 29])
  (.cond (.t 29)
  (.region [⟨some 39, none, .p (.fld 0 (.t 2))⟩,
    ⟨some 40, none, .h (.load 24 true (.t 39))⟩,
    ⟨some 41, none, .p (.fld 1 (.t 3))⟩,
    ⟨some 42, none, .h (.load 1 false (.t 41))⟩,
    ⟨some 43, none, .p (.fld 2 (.t 3))⟩,
    ⟨some 44, none, .h (.load 1 false (.t 43))⟩,
    ⟨some 45, none, .h (.call (.f 219) [.t 40, .t 42, .t 44])⟩,
    ⟨some 38, none, .p (.mv (.t 45))⟩,
    ⟨some 46, none, .p (.ext (.t 38) 0)⟩,
    ⟨some 47, none, .p (.ext (.t 38) 1)⟩,
    ⟨some 48, none, .p (.fld 0 (.t 2))⟩,
    ⟨none, none, .h (.store 24 (.t 48) (.t 46))⟩,
    ⟨some 7, none, .p (.mv (.t 47))⟩] [2, 4, 6, 7])
  (.seq (.region [⟨some 50, none, .p (.fld 0 (.t 3))⟩,
    ⟨some 51, none, .h (.load 1 false (.t 50))⟩,
    ⟨some 52, none, .p (.bin .eql (.t 51) (.k (.c (C.int .i64 3))))⟩,
    ⟨some 53, none, .p (.mv (.t 52))⟩,
    ⟨some 54, some (53, true), .p (.fld 2 (.t 3))⟩,
    ⟨some 55, some (53, true), .h (.load 1 false (.t 54))⟩,
    ⟨some 56, some (53, true), .p (.bin .eql (.t 55) (.k (.c (C.int .i64 0))))⟩,
    ⟨some 57, none, .p (.pick (.t 53) (.t 56) (.k (.c (C.bool false))))⟩,
    ⟨some 58, none, .p (.mv (.t 57))⟩,
    ⟨some 59, some (58, true), .p (.fld 3 (.t 3))⟩,
    ⟨some 60, some (58, true), .h (.load 1 false (.t 59))⟩,
    ⟨some 61, some (58, true), .p (.bin .eql (.t 60) (.k (.c (C.int .i64 0))))⟩,
    ⟨some 62, none, .p (.pick (.t 58) (.t 61) (.k (.c (C.bool false))))⟩,
    ⟨some 49, none, .p (.mv (.t 62))⟩] [2, 3, 4, 6, 7, 49])
  (.cond (.t 49)
  (.region [⟨some 64, none, .p (.fld 0 (.t 2))⟩,
    ⟨some 65, none, .h (.load 24 true (.t 64))⟩,
    ⟨some 66, none, .p (.fld 1 (.t 3))⟩,
    ⟨some 67, none, .h (.load 1 false (.t 66))⟩,
    ⟨some 68, none, .h (.call (.f 220) [.t 65, .t 67])⟩,
    ⟨some 63, none, .p (.mv (.t 68))⟩,
    ⟨some 69, none, .p (.ext (.t 63) 0)⟩,
    ⟨some 70, none, .p (.ext (.t 63) 1)⟩,
    ⟨some 71, none, .p (.ext (.t 63) 2)⟩,
    ⟨some 72, none, .p (.fld 0 (.t 2))⟩,
    ⟨none, none, .h (.store 24 (.t 72) (.t 69))⟩,
    ⟨some 7, none, .p (.mv (.t 71))⟩] [2, 4, 6, 7])
  (.seq (.region [⟨some 74, none, .p (.fld 0 (.t 3))⟩,
    ⟨some 75, none, .h (.load 1 false (.t 74))⟩,
    ⟨some 76, none, .p (.bin .eql (.t 75) (.k (.c (C.int .i64 4))))⟩,
    ⟨some 77, none, .p (.mv (.t 76))⟩,
    ⟨some 78, some (77, true), .p (.fld 3 (.t 3))⟩,
    ⟨some 79, some (77, true), .h (.load 1 false (.t 78))⟩,
    ⟨some 80, some (77, true), .p (.bin .eql (.t 79) (.k (.c (C.int .i64 0))))⟩,
    ⟨some 81, none, .p (.pick (.t 77) (.t 80) (.k (.c (C.bool false))))⟩,
    ⟨some 73, none, .p (.mv (.t 81))⟩] [2, 3, 4, 6, 7, 73])
  (.cond (.t 73)
  (.region [⟨some 83, none, .p (.fld 0 (.t 2))⟩,
    ⟨some 84, none, .h (.load 24 true (.t 83))⟩,
    ⟨some 85, none, .p (.fld 1 (.t 3))⟩,
    ⟨some 86, none, .h (.load 1 false (.t 85))⟩,
    ⟨some 87, none, .p (.fld 2 (.t 3))⟩,
    ⟨some 88, none, .h (.load 1 false (.t 87))⟩,
    ⟨some 89, none, .h (.call (.f 221) [.t 84, .t 86, .t 88])⟩,
    ⟨some 82, none, .p (.mv (.t 89))⟩,
    ⟨some 90, none, .p (.ext (.t 82) 0)⟩,
    ⟨some 91, none, .p (.ext (.t 82) 1)⟩,
    ⟨some 92, none, .p (.fld 0 (.t 2))⟩,
    ⟨none, none, .h (.store 24 (.t 92) (.t 90))⟩,
    ⟨some 7, none, .p (.mv (.t 91))⟩] [2, 4, 6, 7])
  (.seq (.region [⟨some 94, none, .p (.fld 0 (.t 3))⟩,
    ⟨some 95, none, .h (.load 1 false (.t 94))⟩,
    ⟨some 96, none, .p (.bin .eql (.t 95) (.k (.c (C.int .i64 5))))⟩,
    ⟨some 93, none, .p (.mv (.t 96))⟩] [2, 3, 4, 6, 7, 93])
  (.cond (.t 93)
  (.seq (.region [⟨some 98, none, .p (.fld 0 (.t 2))⟩,
    ⟨some 99, none, .h (.load 24 true (.t 98))⟩,
    ⟨some 100, none, .p (.fld 1 (.t 3))⟩,
    ⟨some 101, none, .h (.load 1 false (.t 100))⟩,
    ⟨some 102, none, .p (.fld 2 (.t 3))⟩,
    ⟨some 103, none, .h (.load 1 false (.t 102))⟩,
    ⟨some 104, none, .p (.fld 3 (.t 3))⟩,
    ⟨some 105, none, .h (.load 1 false (.t 104))⟩,
    ⟨some 106, none, .p (.build [.k (C.int .i64 0), .k (C.int .i64 0), .k (C.int .i64 0)] [(0, 1, .t 101), (1, 1, .t 103), (2, 1, .t 105)])⟩,
    ⟨some 107, none, .h (.call (.f 222) [.t 99, .t 106])⟩,
    ⟨some 97, none, .p (.mv (.t 107))⟩,
    ⟨some 108, none, .p (.ext (.t 97) 0)⟩,
    ⟨some 109, none, .p (.ext (.t 97) 1)⟩,
    ⟨some 110, none, .p (.fld 0 (.t 2))⟩,
    ⟨none, none, .h (.store 24 (.t 110) (.t 108))⟩,
    ⟨some 7, none, .p (.mv (.t 109))⟩] [2, 3, 4, 7])
  (.region [⟨some 111, none, .p (.fld 3 (.t 3))⟩,
    ⟨some 112, none, .h (.load 1 false (.t 111))⟩,
    ⟨some 113, none, .p (.un .neg (.t 112))⟩,
    ⟨some 6, none, .p (.mv (.t 113))⟩] [2, 4, 6, 7]))
  .skip)))))))))))
  (.seq (.seq (.region [⟨some 114, none, .p (.mv (.t 7))⟩,
    ⟨some 115, none, .p (.un .not (.t 114))⟩] [2, 4, 6, 115])
  (.cond (.t 115)
  (.seq (.region [⟨some 116, none, .p (.build (List.replicate 26 (.k (C.int .i64 0))) [])⟩,
    ⟨none, none, .h (.store 26 (.t 4) (.t 116))⟩,
    ⟨some 5, none, .p (.mv (.k (.c (C.bool false))))⟩] [4, 5])
  .ret)
  .skip))
  (.seq (.region [⟨some 117, none, .p (.fld 24 (.t 2))⟩,
    ⟨some 118, none, .h (.load 1 false (.t 117))⟩,
    ⟨some 119, none, .p (.mv (.t 6))⟩,
    ⟨some 120, none, .p (.bin .add (.t 118) (.t 119))⟩,
    ⟨some 121, none, .p (.fld 24 (.t 2))⟩,
    ⟨none, none, .h (.store 1 (.t 121) (.t 120))⟩] [2, 4])
  (.seq (.region [⟨some 122, none, .p (.fld 25 (.t 2))⟩,
    ⟨some 123, none, .h (.load 1 false (.t 122))⟩,
    ⟨some 124, none, .p (.bin .add (.t 123) (.k (.c (C.int .i64 1))))⟩,
    ⟨some 125, none, .p (.fld 25 (.t 2))⟩,
    ⟨none, none, .h (.store 1 (.t 125) (.t 124))⟩] [2, 4])
  (.seq (.region [⟨some 126, none, .h (.load 26 true (.t 2))⟩,
    ⟨none, none, .h (.store 26 (.t 4) (.t 126))⟩,
    ⟨some 5, none, .p (.mv (.k (.c (C.bool true))))⟩] [4, 5])
  .ret))))))) }
theorem a162_ok : okFn Try.prog 162 a162 = true := by kernel_rfl
/-- loop.example/g01215/spec.l12Good -/
def a163 : AFn := { np := 1, nt := 16, res := [.t 2], body :=
  (.seq (.region [⟨some 1, none, .p (.box 26 (.t 0))⟩,
    ⟨some 2, none, .p (.mv (.k (.c (C.bool false))))⟩] [1])
  (.seq (.region [⟨some 3, none, .p (.fld 0 (.t 1))⟩,
    ⟨some 4, none, .h (.load 24 true (.t 3))⟩,
    ⟨some 5, none, .h (.call (.f 141) [.t 4])⟩,
    ⟨some 6, none, .p (.mv (.t 5))⟩,
    ⟨some 7, some (6, true), .p (.fld 24 (.t 1))⟩,
    ⟨some 8, some (6, true), .h (.load 1 false (.t 7))⟩,
    ⟨some 9, some (6, true), .h (.call (.f 119) [.t 8, .k (.c (C.int .i64 0)), .k (.c (C.int .i64 9999))])⟩,
    ⟨some 10, none, .p (.pick (.t 6) (.t 9) (.k (.c (C.bool false))))⟩,
    ⟨some 11, none, .p (.mv (.t 10))⟩,
    ⟨some 12, some (11, true), .p (.fld 25 (.t 1))⟩,
    ⟨some 13, some (11, true), .h (.load 1 false (.t 12))⟩,
    ⟨some 14, some (11, true), .h (.call (.f 119) [.t 13, .k (.c (C.int .i64 0)), .k (.c (C.int .i64 1000))])⟩,
    ⟨some 15, none, .p (.pick (.t 11) (.t 14) (.k (.c (C.bool false))))⟩,
    ⟨some 2, none, .p (.mv (.t 15))⟩] [2])
  .ret)) }
theorem a163_ok : okFn Try.prog 163 a163 = true := by kernel_rfl
/-- loop.example/g01215/spec.l12Do -/
def a164 : AFn := { np := 2, nt := 32, res := [.cell 4 26 true, .t 5], body :=
  (.seq (.region [⟨some 2, none, .p (.box 26 (.t 0))⟩,
    ⟨some 3, none, .p (.box 4 (.t 1))⟩,
    ⟨some 4, none, .p (.alloc (List.replicate 26 (.k (C.int .i64 0))))⟩,
    ⟨some 5, none, .p (.mv (.k (.c (C.bool false))))⟩] [2, 3, 4])
  (.seq (.region [⟨some 9, none, .h (.load 26 true (.t 2))⟩,
    ⟨some 10, none, .h (.load 4 true (.t 3))⟩,
    ⟨some 11, none, .h (.call (.f 223) [.t 9, .t 10])⟩,
    ⟨some 8, none, .p (.mv (.t 11))⟩,
    ⟨some 12, none, .p (.ext (.t 8) 0)⟩,
    ⟨some 13, none, .p (.ext (.t 8) 1)⟩,
    ⟨some 6, none, .p (.alloc (List.replicate 26 (.k (C.int .i64 0))))⟩,
    ⟨none, none, .h (.store 26 (.t 6) (.t 12))⟩,
    ⟨some 7, none, .p (.mv (.t 13))⟩] [2, 3, 4, 6, 7])
  (.seq (.region [⟨some 14, none, .p (.fld 25 (.t 2))⟩,
    ⟨some 15, none, .h (.load 1 false (.t 14))⟩,
    ⟨some 16, none, .p (.bin .add (.t 15) (.k (.c (C.int .i64 1))))⟩,
    ⟨some 17, none, .p (.fld 25 (.t 6))⟩,
    ⟨none, none, .h (.store 1 (.t 17) (.t 16))⟩] [3, 4, 6, 7])
  (.seq (.seq (.region [⟨some 18, none, .p (.mv (.t 7))⟩,
    ⟨some 19, none, .p (.un .not (.t 18))⟩,
    ⟨some 20, none, .p (.mv (.t 19))⟩,
    ⟨some 21, some (20, false), .h (.load 4 true (.t 3))⟩,
    ⟨some 22, some (20, false), .h (.call (.f 224) [.t 21])⟩,
    ⟨some 23, some (20, false), .p (.un .not (.t 22))⟩,
    ⟨some 24, none, .p (.pick (.t 20) (.k (.c (C.bool true))) (.t 23))⟩,
    ⟨some 25, none, .p (.mv (.t 24))⟩,
    ⟨some 26, some (25, false), .h (.load 26 true (.t 6))⟩,
    ⟨some 27, some (25, false), .h (.call (.f 163) [.t 26])⟩,
    ⟨some 28, some (25, false), .p (.un .not (.t 27))⟩,
    ⟨some 29, none, .p (.pick (.t 25) (.k (.c (C.bool true))) (.t 28))⟩] [4, 6, 29])
  (.cond (.t 29)
  (.seq (.region [⟨some 30, none, .p (.build (List.replicate 26 (.k (C.int .i64 0))) [])⟩,
    ⟨none, none, .h (.store 26 (.t 4) (.t 30))⟩,
    ⟨some 5, none, .p (.mv (.k (.c (C.bool false))))⟩] [4, 5])
  .ret)
  .skip))
  (.seq (.region [⟨some 31, none, .h (.load 26 true (.t 6))⟩,
    ⟨none, none, .h (.store 26 (.t 4) (.t 31))⟩,
    ⟨some 5, none, .p (.mv (.k (.c (C.bool true))))⟩] [4, 5])
  .ret))))) }
theorem a164_ok : okFn Try.prog 164 a164 = true := by kernel_rfl
/-- (*loop.example/g01215/spec.l1Cur).pick -/
def a165 : AFn := { np := 2, nt := 20, res := [.t 4], body :=
  (.seq (.region [⟨some 4, none, .p (.mv (.k (.c (C.int .i64 0))))⟩] [0, 1])
  (.seq (.seq (.region [⟨some 6, none, .p (.mv (.t 1))⟩,
    ⟨some 7, none, .p (.bin .leq (.t 6) (.k (.c (C.int .i64 1))))⟩] [0, 1, 7])
  (.cond (.t 7)
  (.seq (.region [⟨some 4, none, .p (.mv (.k (.c (C.int .i64 0))))⟩] [4])
  .ret)
  .skip))
  (.seq (.region [⟨some 8, none, .p (.mv (.t 0))⟩,
    ⟨some 9, none, .h (.call (.f 225) [.t 8])⟩,
    ⟨some 5, none, .p (.mv (.t 9))⟩] [0, 1, 5])
  (.seq (.seq (.region [⟨some 10, none, .p (.mv (.t 1))⟩,
    ⟨some 11, none, .p (.bin .gtr (.t 10) (.k (.c (C.int .i64 200))))⟩] [0, 1, 5, 11])
  (.cond (.t 11)
  (.region [⟨some 12, none, .p (.mv (.t 5))⟩,
    ⟨some 13, none, .p (.bin .mul (.t 12) (.k (.c (C.int .i64 256))))⟩,
    ⟨some 14, none, .p (.mv (.t 0))⟩,
    ⟨some 15, none, .h (.call (.f 225) [.t 14])⟩,
    ⟨some 16, none, .p (.bin .add (.t 13) (.t 15))⟩,
    ⟨some 5, none, .p (.mv (.t 16))⟩] [1, 5])
  .skip))
  (.seq (.region [⟨some 17, none, .p (.mv (.t 5))⟩,
    ⟨some 18, none, .p (.mv (.t 1))⟩,
    ⟨some 19, none, .p (.bin .rem (.t 17) (.t 18))⟩,
    ⟨some 4, none, .p (.mv (.t 19))⟩] [4])
  .ret))))) }
theorem a165_ok : okFn Try.prog 165 a165 = true := by kernel_rfl
/-- loop.example/g01215/impl.SpareRuns -/
def a166 : AFn := { np := 1, nt := 27, res := [.t 2, .t 3], body :=
  (.seq (.region [⟨some 1, none, .p (.box 24 (.t 0))⟩,
    ⟨some 2, none, .p (.mv (.k (.c (C.int .i64 0))))⟩,
    ⟨some 3, none, .p (.mv (.k (.c (C.bool false))))⟩] [1])
  (.seq (.seq (.region [⟨some 8, none, .h (.load 24 true (.t 1))⟩,
    ⟨some 9, none, .h (.call (.f 59) [.t 8])⟩,
    ⟨some 10, none, .p (.un .not (.t 9))⟩] [1, 10])
  (.cond (.t 10)
  (.seq (.region [⟨some 2, none, .p (.mv (.k (.c (C.int .i64 0))))⟩,
    ⟨some 3, none, .p (.mv (.k (.c (C.bool false))))⟩] [2, 3])
  .ret)
  .skip))
  (.seq (.region [⟨some 11, none, .h (.load 24 true (.t 1))⟩,
    ⟨some 12, none, .h (.call (.f 180) [.t 11])⟩,
    ⟨some 4, none, .p (.mv (.t 12))⟩] [1, 4])
  (.seq (.region [⟨some 13, none, .h (.load 24 true (.t 1))⟩,
    ⟨some 14, none, .h (.call (.f 226) [.t 13])⟩,
    ⟨some 5, none, .p (.alloc [.k (C.int .i64 0), .k (C.int .i64 0), .k (C.int .i64 0), .k (C.int .i64 0), .k (C.int .i64 0), .k (C.int .i64 0)])⟩,
    ⟨none, none, .h (.store 6 (.t 5) (.t 14))⟩] [4, 5])
  (.seq (.seq (.region [⟨some 15, none, .h (.slA 6 1 (.t 5) (some (.k (.c (C.int .i64 1)))) none)⟩,
    ⟨some 16, none, .p (.len (.t 15))⟩,
    ⟨some 17, none, .p (.mv (.k (.c (C.int .i64 0))))⟩] [4, 15, 16, 17])
  (.block 0 (.loop (.seq (.region [⟨some 18, none, .p (.bin .lss (.t 17) (.t 16))⟩] [4, 15, 16, 17, 18])
  (.seq (.cond (.t 18)
  .skip
  (.exit 0))
  (.seq (.block 1 (.seq (.region [⟨some 19, none, .p (.ixS 1 (.t 15) (.t 17))⟩,
    ⟨some 20, none, .h (.load 1 false (.t 19))⟩,
    ⟨some 7, none, .p (.mv (.t 20))⟩] [4, 7, 15, 16, 17])
  (.region [⟨some 21, none, .p (.mv (.t 4))⟩,
    ⟨some 22, none, .p (.mv (.t 7))⟩,
    ⟨some 23, none, .p (.mnmx false [.t 22, .k (.c (C.int .i64 1))])⟩,
    ⟨some 24, none, .p (.bin .sub (.t 21) (.t 23))⟩,
    ⟨some 4, none, .p (.mv (.t 24))⟩] [4, 15, 16, 17])))
  (.region [⟨some 25, none, .p (.bin .add (.t 17) (.k (.c (C.int .i64 1))))⟩,
    ⟨some 17, none, .p (.mv (.t 25))⟩] [4, 15, 16, 17])))) [4, 15, 16, 17])))
  (.seq (.region [⟨some 26, none, .p (.mv (.t 4))⟩,
    ⟨some 2, none, .p (.mv (.t 26))⟩,
    ⟨some 3, none, .p (.mv (.k (.c (C.bool true))))⟩] [2, 3])
  .ret)))))) }
theorem a166_ok : okFn Try.prog 166 a166 = true := by kernel_rfl
/-- loop.example/g01215/spec.l2Counts -/
def a167 : AFn := { np := 1, nt := 26, res := [.cell 2 6 true], body :=
  (.seq (.region [⟨some 1, none, .p (.box 24 (.t 0))⟩,
    ⟨some 2, none, .p (.alloc [.k (C.int .i64 0), .k (C.int .i64 0), .k (C.int .i64 0), .k (C.int .i64 0), .k (C.int .i64 0), .k (C.int .i64 0)])⟩] [1, 2])
  (.seq (.region [⟨some 6, none, .p (.build [.k (C.int .i64 0), .k (C.int .i64 0), .k (C.int .i64 0), .k (C.int .i64 0), .k (C.int .i64 0), .k (C.int .i64 0)] [])⟩,
    ⟨some 3, none, .p (.alloc [.k (C.int .i64 0), .k (C.int .i64 0), .k (C.int .i64 0), .k (C.int .i64 0), .k (C.int .i64 0), .k (C.int .i64 0)])⟩,
    ⟨none, none, .h (.store 6 (.t 3) (.t 6))⟩] [1, 2, 3])
  (.seq (.seq (.region [⟨some 4, none, .p (.mv (.k (.c (C.int .i64 0))))⟩] [1, 2, 3, 4])
  (.block 0 (.loop (.seq (.seq (.region [⟨some 7, none, .p (.mv (.t 4))⟩,
    ⟨some 8, none, .p (.bin .lss (.t 7) (.k (.c (C.int .i64 6))))⟩] [1, 2, 3, 4, 8])
  (.cond (.t 8)
  .skip
  (.exit 0)))
  (.seq (.block 1 (.seq (.region [⟨some 5, none, .p (.mv (.k (.c (C.int .i64 0))))⟩] [1, 2, 3, 4, 5])
  (.block 2 (.loop (.seq (.seq (.region [⟨some 11, none, .p (.mv (.t 5))⟩,
    ⟨some 12, none, .p (.bin .lss (.t 11) (.k (.c (C.int .i64 4))))⟩] [1, 2, 3, 4, 5, 12])
  (.cond (.t 12)
  .skip
  (.exit 2)))
  (.seq (.block 3 (.region [⟨some 15, none, .p (.mv (.t 4))⟩,
    ⟨some 16, none, .p (.mv (.t 5))⟩,
    ⟨some 17, none, .p (.fld 0 (.t 1))⟩,
    ⟨some 18, none, .p (.ixA 6 4 (.t 17) (.t 15))⟩,
    ⟨some 19, none, .p (.ixA 4 1 (.t 18) (.t 16))⟩,
    ⟨some 20, none, .h (.load 1 false (.t 19))⟩,
    ⟨some 21, none, .p (.ixA 6 1 (.t 3) (.t 20))⟩,
    ⟨some 22, none, .h (.load 1 false (.t 21))⟩,
    ⟨some 23, none, .p (.bin .add (.t 22) (.k (.c (C.int .i64 1))))⟩,
    ⟨some 24, none, .p (.ixA 6 1 (.t 3) (.t 20))⟩,
    ⟨none, none, .h (.store 1 (.t 24) (.t 23))⟩] [1, 2, 3, 4, 5]))
  (.region [⟨some 13, none, .p (.mv (.t 5))⟩,
    ⟨some 14, none, .p (.bin .add (.t 13) (.k (.c (C.int .i64 1))))⟩,
    ⟨some 5, none, .p (.mv (.t 14))⟩] [1, 2, 3, 4, 5]))) [1, 2, 3, 4, 5]))))
  (.region [⟨some 9, none, .p (.mv (.t 4))⟩,
    ⟨some 10, none, .p (.bin .add (.t 9) (.k (.c (C.int .i64 1))))⟩,
    ⟨some 4, none, .p (.mv (.t 10))⟩] [1, 2, 3, 4]))) [1, 2, 3, 4])))
  (.seq (.region [⟨some 25, none, .h (.load 6 true (.t 3))⟩,
    ⟨none, none, .h (.store 6 (.t 2) (.t 25))⟩] [2])
  .ret)))) }
theorem a167_ok : okFn Try.prog 167 a167 = true := by kernel_rfl
/-- loop.example/g01215/spec.l6Runs -/
def a168 : AFn := { np := 1, nt := 18, res := [.t 2], body :=
  (.seq (.region [⟨some 1, none, .p (.box 24 (.t 0))⟩,
    ⟨some 2, none, .p (.mv (.k (.c (C.int .i64 0))))⟩] [1])
  (.seq (.region [⟨some 3, none, .p (.mv (.k (.c (C.int .i64 0))))⟩] [1, 3])
  (.seq (.seq (.region [⟨some 4, none, .p (.mv (.k (.c (C.int .i64 0))))⟩] [1, 3, 4])
  (.block 0 (.loop (.seq (.seq (.region [⟨some 5, none, .p (.mv (.t 4))⟩,
    ⟨some 6, none, .p (.bin .lss (.t 5) (.k (.c (C.int .i64 6))))⟩] [1, 3, 4, 6])
  (.cond (.t 6)
  .skip
  (.exit 0)))
  (.seq (.block 1 (.region [⟨some 9, none, .p (.mv (.t 3))⟩,
    ⟨some 10, none, .p (.mv (.t 4))⟩,
    ⟨some 11, none, .p (.fld 0 (.t 1))⟩,
    ⟨some 12, none, .p (.ixA 6 4 (.t 11) (.t 10))⟩,
    ⟨some 13, none, .h (.load 4 true (.t 12))⟩,
    ⟨some 14, none, .h (.call (.f 199) [.t 13])⟩,
    ⟨some 15, none, .p (.len (.t 14))⟩,
    ⟨some 16, none, .p (.bin .add (.t 9) (.t 15))⟩,
    ⟨some 3, none, .p (.mv (.t 16))⟩] [1, 3, 4]))
  (.region [⟨some 7, none, .p (.mv (.t 4))⟩,
    ⟨some 8, none, .p (.bin .add (.t 7) (.k (.c (C.int .i64 1))))⟩,
    ⟨some 4, none, .p (.mv (.t 8))⟩] [1, 3, 4]))) [1, 3, 4])))
  (.seq (.region [⟨some 17, none, .p (.mv (.t 3))⟩,
    ⟨some 2, none, .p (.mv (.t 17))⟩] [2])
  .ret)))) }
theorem a168_ok : okFn Try.prog 168 a168 = true := by kernel_rfl
/-- loop.example/g01215/impl.isSorted -/
def a169 : AFn := { np := 1, nt := 34, res := [.t 2], body :=
  (.seq (.region [⟨some 1, none, .p (.box 24 (.t 0))⟩,
    ⟨some 2, none, .p (.mv (.k (.c (C.bool false))))⟩] [1])
  (.seq (.region [⟨some 3, none, .p (.alloc [.k (C.bool false), .k (C.bool false), .k (C.bool false), .k (C.bool false), .k (C.bool false), .k (C.bool false)])⟩] [1, 3])
  (.seq (.seq (.region [⟨some 7, none, .p (.fld 0 (.t 1))⟩,
    ⟨some 8, none, .h (.load 24 true (.t 7))⟩,
    ⟨some 9, none, .p (.mv (.k (.c (C.int .i64 0))))⟩] [3, 8, 9])
  (.block 0 (.loop (.seq (.region [⟨some 10, none, .p (.bin .lss (.t 9) (.k (.c (C.int .i64 6))))⟩] [3, 8, 9, 10])
  (.seq (.cond (.t 10)
  .skip
  (.exit 0))
  (.seq (.block 1 (.seq (.region [⟨some 11, none, .p (.ixV 6 4 true (.t 8) (.t 9))⟩,
    ⟨some 5, none, .p (.alloc [.k (C.int .i64 0), .k (C.int .i64 0), .k (C.int .i64 0), .k (C.int .i64 0)])⟩,
    ⟨none, none, .h (.store 4 (.t 5) (.t 11))⟩] [3, 5, 8, 9])
  (.seq (.region [⟨some 12, none, .h (.load 4 true (.t 5))⟩,
    ⟨some 13, none, .h (.call (.f 197) [.t 12])⟩,
    ⟨some 6, none, .p (.mv (.t 13))⟩] [3, 6, 8, 9])
  (.seq (.seq (.region [⟨some 14, none, .p (.mv (.t 6))⟩,
    ⟨some 15, none, .p (.len (.t 14))⟩,
    ⟨some 16, none, .p (.bin .eql (.t 15) (.k (.c (C.int .i64 0))))⟩] [3, 6, 8, 9, 16])
  (.cond (.t 16)
  (.exit 1)
  .skip))
  (.seq (.seq (.region [⟨some 17, none, .p (.mv (.t 6))⟩,
    ⟨some 18, none, .p (.len (.t 17))⟩,
    ⟨some 19, none, .p (.bin .gtr (.t 18) (.k (.c (C.int .i64 1))))⟩,
    ⟨some 20, none, .p (.mv (.t 19))⟩,
    ⟨some 21, some (20, false), .p (.mv (.t 6))⟩,
    ⟨some 22, some (20, false), .p (.ixS 2 (.t 21) (.k (.c (C.int .i64 0))))⟩,
    ⟨some 23, some (20, false), .p (.ixA 2 1 (.t 22) (.k (.c (C.int .i64 0))))⟩,
    ⟨some 24, some (20, false), .h (.load 1 false (.t 23))⟩,
    ⟨some 25, some (20, false), .p (.ixA 6 1 (.t 3) (.t 24))⟩,
    ⟨some 26, some (20, false), .h (.load 1 false (.t 25))⟩,
    ⟨some 27, none, .p (.pick (.t 20) (.k (.c (C.bool true))) (.t 26))⟩] [3, 6, 8, 9, 27])
  (.cond (.t 27)
  (.seq (.region [⟨some 2, none, .p (.mv (.k (.c (C.bool false))))⟩] [2])
  .ret)
  .skip))
  (.region [⟨some 28, none, .p (.mv (.t 6))⟩,
    ⟨some 29, none, .p (.ixS 2 (.t 28) (.k (.c (C.int .i64 0))))⟩,
    ⟨some 30, none, .p (.ixA 2 1 (.t 29) (.k (.c (C.int .i64 0))))⟩,
    ⟨some 31, none, .h (.load 1 false (.t 30))⟩,
    ⟨some 32, none, .p (.ixA 6 1 (.t 3) (.t 31))⟩,
    ⟨none, none, .h (.store 1 (.t 32) (.k (.c (C.bool true))))⟩] [3, 8, 9]))))))
  (.region [⟨some 33, none, .p (.bin .add (.t 9) (.k (.c (C.int .i64 1))))⟩,
    ⟨some 9, none, .p (.mv (.t 33))⟩] [3, 8, 9])))) [3, 8, 9])))
  (.seq (.region [⟨some 2, none, .p (.mv (.k (.c (C.bool true))))⟩] [2])
  .ret)))) }
theorem a169_ok : okFn Try.prog 169 a169 = true := by kernel_rfl
/-- (*loop.example/g01215/spec.l1Cur).one -/
def a172 : AFn := { np := 2, nt := 9, res := [.t 4], body :=
  (.seq (.region [⟨some 4, none, .p (.mv (.k (.c (C.bool false))))⟩] [0, 1])
  (.seq (.region [⟨some 5, none, .p (.mv (.t 0))⟩,
    ⟨some 6, none, .p (.mv (.t 1))⟩,
    ⟨some 7, none, .h (.call (.f 165) [.t 5, .t 6])⟩,
    ⟨some 8, none, .p (.bin .eql (.t 7) (.k (.c (C.int .i64 0))))⟩,
    ⟨some 4, none, .p (.mv (.t 8))⟩] [4])
  .ret)) }
theorem a172_ok : okFn Try.prog 172 a172 = true := by kernel_rfl
/-- (*loop.example/g01215/spec.l1Cur).small3 -/
def a174 : AFn := { np := 1, nt := 47, res := [.cell 2 24 true], body :=
  (.seq (.region [⟨some 2, none, .p (.alloc (List.replicate 24 (.k (C.int .i64 0))))⟩] [0, 2])
  (.seq (.region [⟨some 7, none, .p (.mv (.t 0))⟩,
    ⟨some 8, none, .h (.call (.f 159) [.t 7])⟩,
    ⟨some 3, none, .p (.alloc (List.replicate 24 (.k (C.int .i64 0))))⟩,
    ⟨none, none, .h (.store 24 (.t 3) (.t 8))⟩] [0, 2, 3])
  (.seq (.seq (.region [⟨some 9, none, .h (.load 24 true (.t 3))⟩,
    ⟨some 10, none, .h (.call (.f 141) [.t 9])⟩,
    ⟨some 11, none, .p (.un .not (.t 10))⟩,
    ⟨some 12, none, .p (.mv (.t 11))⟩,
    ⟨some 13, some (12, false), .p (.mv (.t 0))⟩,
    ⟨some 14, some (12, false), .h (.call (.f 172) [.t 13, .k (.c (C.int .i64 12))])⟩,
    ⟨some 15, none, .p (.pick (.t 12) (.k (.c (C.bool true))) (.t 14))⟩] [0, 2, 3, 15])
  (.cond (.t 15)
  (.seq (.region [⟨some 16, none, .h (.load 24 true (.t 3))⟩,
    ⟨none, none, .h (.store 24 (.t 2) (.t 16))⟩] [2])
  .ret)
  .skip))
  (.seq (.seq (.region [⟨some 17, none, .p (.mv (.t 0))⟩,
    ⟨some 18, none, .h (.call (.f 165) [.t 17, .k (.c (C.int .i64 5))])⟩,
    ⟨some 19, none, .p (.bin .add (.k (.c (C.int .i64 5))) (.t 18))⟩,
    ⟨some 4, none, .p (.mv (.k (.c (C.int .i64 0))))⟩,
    ⟨some 5, none, .p (.mv (.t 19))⟩] [2, 3, 4, 5])
  (.block 0 (.loop (.seq (.seq (.region [⟨some 20, none, .p (.mv (.t 4))⟩,
    ⟨some 21, none, .p (.bin .lss (.t 20) (.k (.c (C.int .i64 6))))⟩] [2, 3, 4, 5, 21])
  (.cond (.t 21)
  .skip
  (.exit 0)))
  (.seq (.block 1 (.seq (.region [⟨some 6, none, .p (.mv (.k (.c (C.int .i64 0))))⟩] [2, 3, 4, 5, 6])
  (.block 2 (.loop (.seq (.seq (.region [⟨some 24, none, .p (.mv (.t 6))⟩,
    ⟨some 25, none, .p (.bin .lss (.t 24) (.k (.c (C.int .i64 4))))⟩] [2, 3, 4, 5, 6, 25])
  (.cond (.t 25)
  .skip
  (.exit 2)))
  (.seq (.block 3 (.seq (.region [⟨some 28, none, .p (.mv (.t 5))⟩,
    ⟨some 29, none, .p (.bin .gtr (.t 28) (.k (.c (C.int .i64 0))))⟩,
    ⟨some 30, none, .p (.mv (.t 29))⟩,
    ⟨some 31, some (30, true), .p (.mv (.t 4))⟩,
    ⟨some 32, some (30, true), .p (.mv (.t 6))⟩,
    ⟨some 33, some (30, true), .p (.fld 0 (.t 3))⟩,
    ⟨some 34, some (30, true), .p (.ixA 6 4 (.t 33) (.t 31))⟩,
    ⟨some 35, some (30, true), .p (.ixA 4 1 (.t 34) (.t 32))⟩,
    ⟨some 36, some (30, true), .h (.load 1 false (.t 35))⟩,
    ⟨some 37, some (30, true), .p (.bin .gtr (.t 36) (.k (.c (C.int .i64 0))))⟩,
    ⟨some 38, none, .p (.pick (.t 30) (.t 37) (.k (.c (C.bool false))))⟩] [2, 3, 4, 5, 6, 38])
  (.cond (.t 38)
  (.region [⟨some 39, none, .p (.mv (.t 5))⟩,
    ⟨some 40, none, .p (.bin .sub (.t 39) (.k (.c (C.int .i64 1))))⟩,
    ⟨some 5, none, .p (.mv (.t 40))⟩] [2, 3, 4, 5, 6])
  (.region [⟨some 41, none, .p (.mv (.t 4))⟩,
    ⟨some 42, none, .p (.mv (.t 6))⟩,
    ⟨some 43, none, .p (.fld 0 (.t 3))⟩,
    ⟨some 44, none, .p (.ixA 6 4 (.t 43) (.t 41))⟩,
    ⟨some 45, none, .p (.ixA 4 1 (.t 44) (.t 42))⟩,
    ⟨none, none, .h (.store 1 (.t 45) (.k (.c (C.int .i64 0))))⟩] [2, 3, 4, 5, 6]))))
  (.region [⟨some 26, none, .p (.mv (.t 6))⟩,
    ⟨some 27, none, .p (.bin .add (.t 26) (.k (.c (C.int .i64 1))))⟩,
    ⟨some 6, none, .p (.mv (.t 27))⟩] [2, 3, 4, 5, 6]))) [2, 3, 4, 5, 6]))))
  (.region [⟨some 22, none, .p (.mv (.t 4))⟩,
    ⟨some 23, none, .p (.bin .add (.t 22) (.k (.c (C.int .i64 1))))⟩,
    ⟨some 4, none, .p (.mv (.t 23))⟩] [2, 3, 4, 5]))) [2, 3, 4, 5])))
  (.seq (.region [⟨some 46, none, .h (.load 24 true (.t 3))⟩,
    ⟨none, none, .h (.store 24 (.t 2) (.t 46))⟩] [2])
  .ret))))) }
theorem a174_ok : okFn Try.prog 174 a174 = true := by kernel_rfl
/-- loop.example/g01215/impl.countRuns -/
def a180 : AFn := { np := 1, nt := 18, res := [.t 2], body :=
  (.seq (.region [⟨some 1, none, .p (.box 24 (.t 0))⟩,
    ⟨some 2, none, .p (.mv (.k (.c (C.int .i64 0))))⟩] [1])
  (.seq (.region [⟨some 3, none, .p (.mv (.k (.c (C.int .i64 0))))⟩] [1, 3])
  (.seq (.seq (.region [⟨some 6, none, .p (.fld 0 (.t 1))⟩,
    ⟨some 7, none, .h (.load 24 true (.t 6))⟩,
    ⟨some 8, none, .p (.mv (.k (.c (C.int .i64 0))))⟩] [3, 7, 8])
  (.block 0 (.loop (.seq (.region [⟨some 9, none, .p (.bin .lss (.t 8) (.k (.c (C.int .i64 6))))⟩] [3, 7, 8, 9])
  (.seq (.cond (.t 9)
  .skip
  (.exit 0))
  (.seq (.block 1 (.seq (.region [⟨some 10, none, .p (.ixV 6 4 true (.t 7) (.t 8))⟩,
    ⟨some 5, none, .p (.alloc [.k (C.int .i64 0), .k (C.int .i64 0), .k (C.int .i64 0), .k (C.int .i64 0)])⟩,
    ⟨none, none, .h (.store 4 (.t 5) (.t 10))⟩] [3, 5, 7, 8])
  (.region [⟨some 11, none, .p (.mv (.t 3))⟩,
    ⟨some 12, none, .h (.load 4 true (.t 5))⟩,
    ⟨some 13, none, .h (.call (.f 197) [.t 12])⟩,
    ⟨some 14, none, .p (.len (.t 13))⟩,
    ⟨some 15, none, .p (.bin .add (.t 11) (.t 14))⟩,
    ⟨some 3, none, .p (.mv (.t 15))⟩] [3, 7, 8])))
  (.region [⟨some 16, none, .p (.bin .add (.t 8) (.k (.c (C.int .i64 1))))⟩,
    ⟨some 8, none, .p (.mv (.t 16))⟩] [3, 7, 8])))) [3, 7, 8])))
  (.seq (.region [⟨some 17, none, .p (.mv (.t 3))⟩,
    ⟨some 2, none, .p (.mv (.t 17))⟩] [2])
  .ret)))) }
theorem a180_ok : okFn Try.prog 180 a180 = true := by kernel_rfl
/-- (*loop.example/g01215/spec.l1Cur).among -/
def a181 : AFn := { np := 2, nt := 12, res := [.t 4], body :=
  (.seq (.region [⟨some 4, none, .p (.mv (.k (.c (C.int .i64 0))))⟩] [0, 1])
  (.seq (.region [⟨some 5, none, .p (.mv (.t 1))⟩,
    ⟨some 6, none, .p (.mv (.t 0))⟩,
    ⟨some 7, none, .p (.mv (.t 1))⟩,
    ⟨some 8, none, .p (.len (.t 7))⟩,
    ⟨some 9, none, .h (.call (.f 165) [.t 6, .t 8])⟩,
    ⟨some 10, none, .p (.ixS 1 (.t 5) (.t 9))⟩,
    ⟨some 11, none, .h (.load 1 false (.t 10))⟩,
    ⟨some 4, none, .p (.mv (.t 11))⟩] [4])
  .ret)) }
theorem a181_ok : okFn Try.prog 181 a181 = true := by kernel_rfl
/-- loop.example/g01215/impl.pours -/
def a185 : AFn := { np := 1, nt := 25, res := [.t 2], body :=
  (.seq (.region [⟨some 1, none, .p (.box 24 (.t 0))⟩,
    ⟨some 2, none, .p (.nilsl 2)⟩] [1])
  (.seq (.region [⟨some 3, none, .p (.nilsl 2)⟩] [1, 3])
  (.seq (.seq (.region [⟨some 6, none, .p (.mv (.k (.c (C.int .i64 0))))⟩] [1, 3, 6])
  (.block 0 (.loop (.seq (.region [⟨some 7, none, .p (.bin .lss (.t 6) (.k (.c (C.int .i64 6))))⟩] [1, 3, 6, 7])
  (.seq (.cond (.t 7)
  .skip
  (.exit 0))
  (.seq (.block 1 (.seq (.region [⟨some 8, none, .p (.mv (.t 6))⟩,
    ⟨some 4, none, .p (.mv (.t 8))⟩] [1, 3, 4, 6])
  (.seq (.region [⟨some 9, none, .p (.mv (.k (.c (C.int .i64 0))))⟩] [1, 3, 4, 6, 9])
  (.block 2 (.loop (.seq (.region [⟨some 10, none, .p (.bin .lss (.t 9) (.k (.c (C.int .i64 6))))⟩] [1, 3, 4, 6, 9, 10])
  (.seq (.cond (.t 10)
  .skip
  (.exit 2))
  (.seq (.block 3 (.seq (.region [⟨some 11, none, .p (.mv (.t 9))⟩,
    ⟨some 5, none, .p (.mv (.t 11))⟩] [1, 3, 4, 5, 6, 9])
  (.seq (.region [⟨some 12, none, .h (.load 24 true (.t 1))⟩,
    ⟨some 13, none, .p (.mv (.t 4))⟩,
    ⟨some 14, none, .p (.mv (.t 5))⟩,
    ⟨some 15, none, .h (.call (.f 158) [.t 12, .t 13, .t 14])⟩] [1, 3, 4, 5, 6, 9, 15])
  (.cond (.t 15)
  (.region [⟨some 16, none, .p (.mv (.t 3))⟩,
    ⟨some 17, none, .p (.mv (.t 4))⟩,
    ⟨some 18, none, .p (.mv (.t 5))⟩,
    ⟨some 19, none, .p (.build [.k (C.int .i64 0), .k (C.int .i64 0)] [(0, 1, .t 17), (1, 1, .t 18)])⟩,
    ⟨some 20, none, .p (.mksl 2 1 [.k (C.int .i64 0), .k (C.int .i64 0)] [(0, 2, .t 19)])⟩,
    ⟨some 21, none, .h (.app 2 (.t 16) (.t 20))⟩,
    ⟨some 3, none, .p (.mv (.t 21))⟩] [1, 3, 4, 6, 9])
  .skip))))
  (.region [⟨some 22, none, .p (.bin .add (.t 9) (.k (.c (C.int .i64 1))))⟩,
    ⟨some 9, none, .p (.mv (.t 22))⟩] [1, 3, 4, 6, 9])))) [1, 3, 4, 6, 9])))))
  (.region [⟨some 23, none, .p (.bin .add (.t 6) (.k (.c (C.int .i64 1))))⟩,
    ⟨some 6, none, .p (.mv (.t 23))⟩] [1, 3, 6])))) [1, 3, 6])))
  (.seq (.region [⟨some 24, none, .p (.mv (.t 3))⟩,
    ⟨some 2, none, .p (.mv (.t 24))⟩] [2])
  .ret)))) }
theorem a185_ok : okFn Try.prog 185 a185 = true := by kernel_rfl
/-- loop.example/g01215/impl.useful$1 -/
def a186 : AFn := { np := 2, nt := 7, res := [.t 3], body :=
  (.seq (.region [⟨some 2, none, .p (.box 2 (.t 0))⟩,
    ⟨some 3, none, .p (.mv (.k (.c (C.bool false))))⟩] [1, 2])
  (.seq (.region [⟨some 4, none, .h (.load 24 true (.t 1))⟩,
    ⟨some 5, none, .h (.load 2 true (.t 2))⟩,
    ⟨some 6, none, .h (.call (.f 128) [.t 4, .t 5])⟩,
    ⟨some 3, none, .p (.mv (.t 6))⟩] [3])
  .ret)) }
theorem a186_ok : okFn Try.prog 186 a186 = true := by kernel_rfl
/-- loop.example/g01215/impl.top -/
def a187 : AFn := { np := 1, nt := 21, res := [.t 2, .t 3], body :=
  (.seq (.region [⟨some 1, none, .p (.box 4 (.t 0))⟩,
    ⟨some 2, none, .p (.mv (.k (.c (C.int .i64 0))))⟩,
    ⟨some 3, none, .p (.mv (.k (.c (C.int .i64 0))))⟩] [1])
  (.seq (.region [⟨some 6, none, .h (.load 4 true (.t 1))⟩,
    ⟨some 7, none, .h (.call (.f 197) [.t 6])⟩,
    ⟨some 4, none, .p (.mv (.t 7))⟩] [4])
  (.seq (.seq (.region [⟨some 8, none, .p (.mv (.t 4))⟩,
    ⟨some 9, none, .p (.len (.t 8))⟩,
    ⟨some 10, none, .p (.bin .eql (.t 9) (.k (.c (C.int .i64 0))))⟩] [4, 10])
  (.cond (.t 10)
  (.seq (.region [⟨some 2, none, .p (.mv (.k (.c (C.int .i64 0))))⟩,
    ⟨some 3, none, .p (.mv (.k (.c (C.int .i64 0))))⟩] [2, 3])
  .ret)
  .skip))
  (.seq (.region [⟨some 11, none, .p (.mv (.t 4))⟩,
    ⟨some 12, none, .p (.mv (.t 4))⟩,
    ⟨some 13, none, .p (.len (.t 12))⟩,
    ⟨some 14, none, .p (.bin .sub (.t 13) (.k (.c (C.int .i64 1))))⟩,
    ⟨some 15, none, .p (.ixS 2 (.t 11) (.t 14))⟩,
    ⟨some 16, none, .h (.load 2 true (.t 15))⟩,
    ⟨some 5, none, .p (.alloc [.k (C.int .i64 0), .k (C.int .i64 0)])⟩,
    ⟨none, none, .h (.store 2 (.t 5) (.t 16))⟩] [5])
  (.seq (.regionD [⟨some 17, none, .p (.ixA 2 1 (.t 5) (.k (.c (C.int .i64 0))))⟩,
    ⟨some 18, none, .h (.load 1 false (.t 17))⟩,
    ⟨some 19, none, .p (.ixA 2 1 (.t 5) (.k (.c (C.int .i64 1))))⟩,
    ⟨some 20, none, .h (.load 1 false (.t 19))⟩,
    ⟨some 2, none, .p (.mv (.t 18))⟩,
    ⟨some 3, none, .p (.mv (.t 20))⟩] [2, 3] [])
  .ret))))) }
theorem a187_ok : okFn Try.prog 187 a187 = true := by kernel_rfl
/-- loop.example/g01215/impl.layers -/
def a188 : AFn := { np := 1, nt := 9, res := [.t 2], body :=
  (.seq (.region [⟨some 1, none, .p (.box 4 (.t 0))⟩,
    ⟨some 2, none, .p (.mv (.k (.c (C.int .i64 0))))⟩] [1])
  (.seq (.region [⟨some 4, none, .h (.slA 4 1 (.t 1) none none)⟩,
    ⟨some 5, none, .h (.call (.f 234) [.t 4, .k (.c (C.int .i64 0))])⟩,
    ⟨some 3, none, .p (.mv (.t 5))⟩] [3])
  (.seq (.seq (.region [⟨some 6, none, .p (.mv (.t 3))⟩,
    ⟨some 7, none, .p (.bin .lss (.t 6) (.k (.c (C.int .i64 0))))⟩] [3, 7])
  (.cond (.t 7)
  (.seq (.region [⟨some 2, none, .p (.mv (.k (.c (C.int .i64 4))))⟩] [2])
  .ret)
  .skip))
  (.seq (.region [⟨some 8, none, .p (.mv (.t 3))⟩,
    ⟨some 2, none, .p (.mv (.t 8))⟩] [2])
  .ret)))) }
theorem a188_ok : okFn Try.prog 188 a188 = true := by kernel_rfl
/-- loop.example/g01215/spec.l7View -/
def a189 : AFn := { np := 1, nt := 37, res := [.cell 2 18 true], body :=
  (.seq (.region [⟨some 1, none, .p (.box 24 (.t 0))⟩,
    ⟨some 2, none, .p (.alloc (List.replicate 18 (.k (C.int .i64 0))))⟩] [1, 2])
  (.seq (.region [⟨some 7, none, .h (.load 24 true (.t 1))⟩,
    ⟨some 8, none, .h (.call (.f 167) [.t 7])⟩,
    ⟨some 9, none, .p (.build (List.replicate 18 (.k (C.int .i64 0))) [(12, 6, .t 8)])⟩,
    ⟨some 3, none, .p (.alloc (List.replicate 18 (.k (C.int .i64 0))))⟩,
    ⟨none, none, .h (.store 18 (.t 3) (.t 9))⟩] [1, 2, 3])
  (.seq (.region [⟨some 10, none, .p (.fld 12 (.t 3))⟩,
    ⟨some 11, none, .p (.ixA 6 1 (.t 10) (.k (.c (C.int .i64 0))))⟩,
    ⟨none, none, .h (.store 1 (.t 11) (.k (.c (C.int .i64 0))))⟩] [1, 2, 3])
  (.seq (.seq (.region [⟨some 4, none, .p (.mv (.k (.c (C.int .i64 0))))⟩] [1, 2, 3, 4])
  (.block 0 (.loop (.seq (.seq (.region [⟨some 12, none, .p (.mv (.t 4))⟩,
    ⟨some 13, none, .p (.bin .lss (.t 12) (.k (.c (C.int .i64 6))))⟩] [1, 2, 3, 4, 13])
  (.cond (.t 13)
  .skip
  (.exit 0)))
  (.seq (.block 1 (.seq (.region [⟨some 17, none, .p (.mv (.t 4))⟩,
    ⟨some 18, none, .p (.fld 0 (.t 1))⟩,
    ⟨some 19, none, .p (.ixA 6 4 (.t 18) (.t 17))⟩,
    ⟨some 20, none, .h (.load 4 true (.t 19))⟩,
    ⟨some 21, none, .h (.call (.f 201) [.t 20])⟩,
    ⟨some 16, none, .p (.mv (.t 21))⟩,
    ⟨some 22, none, .p (.ext (.t 16) 0)⟩,
    ⟨some 23, none, .p (.ext (.t 16) 1)⟩,
    ⟨some 5, none, .p (.mv (.t 22))⟩,
    ⟨some 6, none, .p (.mv (.t 23))⟩] [1, 2, 3, 4, 5])
  (.seq (.region [⟨some 24, none, .p (.mv (.t 4))⟩,
    ⟨some 25, none, .p (.mv (.t 5))⟩,
    ⟨some 26, none, .p (.fld 0 (.t 3))⟩,
    ⟨some 27, none, .p (.ixA 6 1 (.t 26) (.t 24))⟩,
    ⟨none, none, .h (.store 1 (.t 27) (.t 25))⟩] [1, 2, 3, 4])
  (.region [⟨some 28, none, .p (.mv (.t 4))⟩,
    ⟨some 29, none, .p (.mv (.t 4))⟩,
    ⟨some 30, none, .p (.fld 0 (.t 1))⟩,
    ⟨some 31, none, .p (.ixA 6 4 (.t 30) (.t 29))⟩,
    ⟨some 32, none, .h (.load 4 true (.t 31))⟩,
    ⟨some 33, none, .h (.call (.f 200) [.t 32])⟩,
    ⟨some 34, none, .p (.fld 6 (.t 3))⟩,
    ⟨some 35, none, .p (.ixA 6 1 (.t 34) (.t 28))⟩,
    ⟨none, none, .h (.store 1 (.t 35) (.t 33))⟩] [1, 2, 3, 4]))))
  (.region [⟨some 14, none, .p (.mv (.t 4))⟩,
    ⟨some 15, none, .p (.bin .add (.t 14) (.k (.c (C.int .i64 1))))⟩,
    ⟨some 4, none, .p (.mv (.t 15))⟩] [1, 2, 3, 4]))) [1, 2, 3, 4])))
  (.seq (.region [⟨some 36, none, .h (.load 18 true (.t 3))⟩,
    ⟨none, none, .h (.store 18 (.t 2) (.t 36))⟩] [2])
  .ret))))) }
theorem a189_ok : okFn Try.prog 189 a189 = true := by kernel_rfl
/-- loop.example/g01215/impl.areAll[int] -/
def a190 : AFn := { np := 2, nt := 9, res := [.t 4], body :=
  (.seq (.region [⟨some 3, none, .p (.box 1 (.t 1))⟩,
    ⟨some 4, none, .p (.mv (.k (.c (C.bool false))))⟩] [0, 3])
  (.seq (.region [⟨some 5, none, .p (.mv (.t 0))⟩,
    ⟨some 6, none, .p (.mkfn 236 [.t 3])⟩,
    ⟨some 7, none, .h (.call (.f 235) [.t 5, .t 6])⟩,
    ⟨some 8, none, .p (.un .not (.t 7))⟩,
    ⟨some 4, none, .p (.mv (.t 8))⟩] [4])
  .ret)) }
theorem a190_ok : okFn Try.prog 190 a190 = true := by kernel_rfl
/-- loop.example/g01215/impl.isDeal$1 -/
def a191 : AFn := { np := 1, nt := 5, res := [.t 2], body :=
  (.seq (.region [⟨some 2, none, .p (.mv (.k (.c (C.bool false))))⟩] [0])
  (.seq (.region [⟨some 3, none, .p (.mv (.t 0))⟩,
    ⟨some 4, none, .h (.call (.f 137) [.t 3, .k (.c (C.int .i64 0)), .k (.c (C.int .i64 4))])⟩,
    ⟨some 2, none, .p (.mv (.t 4))⟩] [2])
  .ret)) }
theorem a191_ok : okFn Try.prog 191 a191 = true := by kernel_rfl
/-- loop.example/g01215/impl.isDeal$2 -/
def a192 : AFn := { np := 1, nt := 5, res := [.t 2], body :=
  (.seq (.region [⟨some 2, none, .p (.mv (.k (.c (C.bool false))))⟩] [0])
  (.seq (.region [⟨some 3, none, .p (.mv (.t 0))⟩,
    ⟨some 4, none, .h (.call (.f 137) [.t 3, .k (.c (C.int .i64 0)), .k (.c (C.int .i64 24))])⟩,
    ⟨some 2, none, .p (.mv (.t 4))⟩] [2])
  .ret)) }
theorem a192_ok : okFn Try.prog 192 a192 = true := by kernel_rfl
/-- loop.example/g01215/impl.divisor -/
def a193 : AFn := { np := 2, nt := 12, res := [.t 4], body :=
  (.seq (.region [⟨some 4, none, .p (.mv (.k (.c (C.int .i64 0))))⟩] [0, 1])
  (.seq (.block 0 (.loop (.seq (.seq (.region [⟨some 5, none, .p (.mv (.t 1))⟩,
    ⟨some 6, none, .p (.bin .neq (.t 5) (.k (.c (C.int .i64 0))))⟩] [0, 1, 6])
  (.cond (.t 6)
  .skip
  (.exit 0)))
  (.block 1 (.regionD [⟨some 7, none, .p (.mv (.t 1))⟩,
    ⟨some 8, none, .p (.mv (.t 0))⟩,
    ⟨some 9, none, .p (.mv (.t 1))⟩,
    ⟨some 10, none, .p (.bin .rem (.t 8) (.t 9))⟩,
    ⟨some 0, none, .p (.mv (.t 7))⟩,
    ⟨some 1, none, .p (.mv (.t 10))⟩] [0, 1] []))) [0, 1]))
  (.seq (.region [⟨some 11, none, .p (.mv (.t 0))⟩,
    ⟨some 4, none, .p (.mv (.t 11))⟩] [4])
  .ret))) }
theorem a193_ok : okFn Try.prog 193 a193 = true := by kernel_rfl
/-- loop.example/g01215/spec.l1Most -/
def a194 : AFn := { np := 2, nt := 10, res := [.t 4], body :=
  (.seq (.region [⟨some 4, none, .p (.mv (.k (.c (C.int .i64 0))))⟩] [0, 1])
  (.seq (.seq (.region [⟨some 5, none, .p (.mv (.t 0))⟩,
    ⟨some 6, none, .p (.mv (.t 1))⟩,
    ⟨some 7, none, .p (.bin .gtr (.t 5) (.t 6))⟩] [0, 1, 7])
  (.cond (.t 7)
  (.seq (.region [⟨some 8, none, .p (.mv (.t 0))⟩,
    ⟨some 4, none, .p (.mv (.t 8))⟩] [4])
  .ret)
  .skip))
  (.seq (.region [⟨some 9, none, .p (.mv (.t 1))⟩,
    ⟨some 4, none, .p (.mv (.t 9))⟩] [4])
  .ret))) }
theorem a194_ok : okFn Try.prog 194 a194 = true := by kernel_rfl
/-- (*loop.example/g01215/spec.l1Cur).replay -/
def a195 : AFn := { np := 1, nt := 127, res := [.cell 2 25 true], body :=
  (.seq (.region [⟨some 2, none, .p (.alloc [.k (C.int .i64 0), .k (C.int .i64 0), .k (C.int .i64 0), .k (C.int .i64 0), .k (C.int .i64 0), .k (C.int .i64 0), .k (C.int .i64 0), .k (C.int .i64 0), .k (C.int .i64 0), .k (C.int .i64 0), .k (C.int .i64 0), .k (C.int .i64 0), .k (C.int .i64 0), .k (C.int .i64 0), .k (C.int .i64 0), .k (C.int .i64 0), .k (C.int .i64 0), .k (C.int .i64 0), .k (C.int .i64 0), .k (C.int .i64 0), .k (C.int .i64 0), .k (C.int .i64 0), .k (C.int .i64 0), .k (C.int .i64 0), .sl 2])⟩] [0, 2])
  (.seq (.region [⟨some 15, none, .p (.mv (.t 0))⟩,
    ⟨some 16, none, .h (.call (.f 172) [.t 15, .k (.c (C.int .i64 2))])⟩,
    ⟨some 17, none, .p (.mv (.t 0))⟩,
    ⟨some 18, none, .h (.call (.f 172) [.t 17, .k (.c (C.int .i64 2))])⟩,
    ⟨some 3, none, .p (.mv (.t 16))⟩,
    ⟨some 4, none, .p (.mv (.t 18))⟩] [0, 2, 3, 4])
  (.seq (.region [⟨some 19, none, .p (.mv (.t 0))⟩,
    ⟨some 20, none, .h (.call (.f 144) [.t 19])⟩,
    ⟨some 21, none, .p (.mksl 2 0 [.k (C.int .i64 0), .k (C.int .i64 0)] [])⟩,
    ⟨some 22, none, .p (.build [.k (C.int .i64 0), .k (C.int .i64 0), .k (C.int .i64 0), .k (C.int .i64 0), .k (C.int .i64 0), .k (C.int .i64 0), .k (C.int .i64 0), .k (C.int .i64 0), .k (C.int .i64 0), .k (C.int .i64 0), .k (C.int .i64 0), .k (C.int .i64 0), .k (C.int .i64 0), .k (C.int .i64 0), .k (C.int .i64 0), .k (C.int .i64 0), .k (C.int .i64 0), .k (C.int .i64 0), .k (C.int .i64 0), .k (C.int .i64 0), .k (C.int .i64 0), .k (C.int .i64 0), .k (C.int .i64 0), .k (C.int .i64 0), .sl 2] [(0, 24, .t 20), (24, 1, .t 21)])⟩,
    ⟨some 5, none, .p (.alloc [.k (C.int .i64 0), .k (C.int .i64 0), .k (C.int .i64 0), .k (C.int .i64 0), .k (C.int .i64 0), .k (C.int .i64 0), .k (C.int .i64 0), .k (C.int .i64 0), .k (C.int .i64 0), .k (C.int .i64 0), .k (C.int .i64 0), .k (C.int .i64 0), .k (C.int .i64 0), .k (C.int .i64 0), .k (C.int .i64 0), .k (C.int .i64 0), .k (C.int .i64 0), .k (C.int .i64 0), .k (C.int .i64 0), .k (C.int .i64 0), .k (C.int .i64 0), .k (C.int .i64 0), .k (C.int .i64 0), .k (C.int .i64 0), .sl 2])⟩,
    ⟨none, none, .h (.store 25 (.t 5) (.t 22))⟩] [0, 2, 3, 4, 5])
  (.seq (.region [⟨some 23, none, .p (.fld 0 (.t 5))⟩,
    ⟨some 24, none, .h (.load 24 true (.t 23))⟩,
    ⟨some 6, none, .p (.alloc (List.replicate 24 (.k (C.int .i64 0))))⟩,
    ⟨none, none, .h (.store 24 (.t 6) (.t 24))⟩] [0, 2, 3, 4, 5, 6])
  (.seq (.seq (.region [⟨some 25, none, .p (.mv (.t 0))⟩,
    ⟨some 26, none, .p (.mksl 1 8 [.k (C.int .i64 0)] [(0, 1, .k (.c (C.int .i64 4))), (1, 1, .k (.c (C.int .i64 6))), (2, 1, .k (.c (C.int .i64 2))), (3, 1, .k (.c (C.int .i64 8))), (4, 1, .k (.c (C.int .i64 1))), (5, 1, .k (.c (C.int .i64 0))), (6, 1, .k (.c (C.int .i64 14))), (7, 1, .k (.c (C.int .i64 60)))])⟩,
    ⟨some 27, none, .h (.call (.f 181) [.t 25, .t 26])⟩,
    ⟨some 7, none, .p (.mv (.t 27))⟩] [0, 2, 3, 4, 5, 6, 7])
  (.block 0 (.loop (.seq (.seq (.region [⟨some 28, none, .p (.mv (.t 7))⟩,
    ⟨some 29, none, .p (.bin .gtr (.t 28) (.k (.c (C.int .i64 0))))⟩,
    ⟨some 30, none, .p (.mv (.t 29))⟩,
    ⟨some 31, some (30, true), .h (.load 24 true (.t 6))⟩,
    ⟨some 32, some (30, true), .h (.call (.f 141) [.t 31])⟩,
    ⟨some 33, none, .p (.pick (.t 30) (.t 32) (.k (.c (C.bool false))))⟩] [0, 2, 3, 4, 5, 6, 7, 33])
  (.cond (.t 33)
  .skip
  (.exit 0)))
  (.seq (.block 1 (.seq (.region [⟨some 36, none, .h (.load 24 true (.t 6))⟩,
    ⟨some 37, none, .h (.call (.f 217) [.t 36])⟩,
    ⟨some 8, none, .p (.mv (.t 37))⟩] [0, 2, 3, 4, 5, 6, 7, 8])
  (.seq (.seq (.region [⟨some 38, none, .p (.mv (.t 8))⟩,
    ⟨some 39, none, .p (.len (.t 38))⟩,
    ⟨some 40, none, .p (.bin .eql (.t 39) (.k (.c (C.int .i64 0))))⟩] [0, 2, 3, 4, 5, 6, 7, 8, 40])
  (.cond (.t 40)
  (.exit 0)
  .skip))
  (.seq (.region [⟨some 41, none, .p (.mv (.t 8))⟩,
    ⟨some 42, none, .p (.mv (.t 0))⟩,
    ⟨some 43, none, .p (.mv (.t 8))⟩,
    ⟨some 44, none, .p (.len (.t 43))⟩,
    ⟨some 45, none, .h (.call (.f 165) [.t 42, .t 44])⟩,
    ⟨some 46, none, .p (.ixS 2 (.t 41) (.t 45))⟩,
    ⟨some 47, none, .h (.load 2 true (.t 46))⟩,
    ⟨some 9, none, .p (.alloc [.k (C.int .i64 0), .k (C.int .i64 0)])⟩,
    ⟨none, none, .h (.store 2 (.t 9) (.t 47))⟩] [0, 2, 3, 4, 5, 6, 7, 9])
  (.seq (.seq (.region [⟨some 48, none, .p (.fld 24 (.t 5))⟩,
    ⟨some 49, none, .h (.load 1 false (.t 48))⟩,
    ⟨some 50, none, .p (.len (.t 49))⟩,
    ⟨some 10, none, .p (.mv (.t 50))⟩] [0, 2, 3, 4, 5, 6, 7, 9, 10])
  (.seq (.region [⟨some 51, none, .p (.mv (.t 10))⟩,
    ⟨some 52, none, .p (.bin .gtr (.t 51) (.k (.c (C.int .i64 0))))⟩,
    ⟨some 53, none, .p (.mv (.t 52))⟩,
    ⟨some 54, some (53, true), .p (.mv (.t 3))⟩,
    ⟨some 55, none, .p (.pick (.t 53) (.t 54) (.k (.c (C.bool false))))⟩,
    ⟨some 56, none, .p (.mv (.t 55))⟩,
    ⟨some 57, some (56, true), .p (.mv (.t 0))⟩,
    ⟨some 58, some (56, true), .h (.call (.f 172) [.t 57, .k (.c (C.int .i64 2))])⟩,
    ⟨some 59, none, .p (.pick (.t 56) (.t 58) (.k (.c (C.bool false))))⟩] [0, 2, 3, 4, 5, 6, 7, 9, 10, 59])
  (.cond (.t 59)
  (.regionD [⟨some 60, none, .p (.fld 24 (.t 5))⟩,
    ⟨some 61, none, .h (.load 1 false (.t 60))⟩,
    ⟨some 62, none, .p (.mv (.t 10))⟩,
    ⟨some 63, none, .p (.bin .sub (.t 62) (.k (.c (C.int .i64 1))))⟩,
    ⟨some 64, none, .p (.ixS 2 (.t 61) (.t 63))⟩,
    ⟨some 65, none, .p (.ixA 2 1 (.t 64) (.k (.c (C.int .i64 1))))⟩,
    ⟨some 66, none, .h (.load 1 false (.t 65))⟩,
    ⟨some 67, none, .p (.fld 24 (.t 5))⟩,
    ⟨some 68, none, .h (.load 1 false (.t 67))⟩,
    ⟨some 69, none, .p (.mv (.t 10))⟩,
    ⟨some 70, none, .p (.bin .sub (.t 69) (.k (.c (C.int .i64 1))))⟩,
    ⟨some 71, none, .p (.ixS 2 (.t 68) (.t 70))⟩,
    ⟨some 72, none, .p (.ixA 2 1 (.t 71) (.k (.c (C.int .i64 0))))⟩,
    ⟨some 73, none, .h (.load 1 false (.t 72))⟩,
    ⟨some 74, none, .p (.build [.k (C.int .i64 0), .k (C.int .i64 0)] [(0, 1, .t 66), (1, 1, .t 73)])⟩,
    ⟨none, none, .h (.store 2 (.t 9) (.t 74))⟩] [0, 2, 3, 4, 5, 6, 7, 9] [])
  .skip)))
  (.seq (.seq (.region [⟨some 75, none, .h (.load 24 true (.t 6))⟩,
    ⟨some 76, none, .h (.call (.f 209) [.t 75])⟩,
    ⟨some 11, none, .p (.mv (.t 76))⟩] [0, 2, 3, 4, 5, 6, 7, 9, 11])
  (.seq (.region [⟨some 77, none, .p (.mv (.t 4))⟩,
    ⟨some 78, none, .p (.mv (.t 77))⟩,
    ⟨some 79, some (78, true), .p (.mv (.t 11))⟩,
    ⟨some 80, some (78, true), .p (.len (.t 79))⟩,
    ⟨some 81, some (78, true), .p (.bin .gtr (.t 80) (.k (.c (C.int .i64 0))))⟩,
    ⟨some 82, none, .p (.pick (.t 78) (.t 81) (.k (.c (C.bool false))))⟩] [0, 2, 3, 4, 5, 6, 7, 9, 11, 82])
  (.cond (.t 82)
  (.region [⟨some 83, none, .p (.mv (.t 11))⟩,
    ⟨some 84, none, .p (.ixS 2 (.t 83) (.k (.c (C.int .i64 0))))⟩,
    ⟨some 85, none, .h (.load 2 true (.t 84))⟩,
    ⟨none, none, .h (.store 2 (.t 9) (.t 85))⟩] [0, 2, 3, 4, 5, 6, 7, 9])
  .skip)))
  (.seq (.seq (.region [⟨some 86, none, .h (.load 24 true (.t 6))⟩,
    ⟨some 87, none, .h (.load 2 true (.t 9))⟩,
    ⟨some 88, none, .h (.call (.f 130) [.t 86, .t 87])⟩,
    ⟨some 89, none, .p (.un .not (.t 88))⟩] [0, 2, 3, 4, 5, 6, 7, 9, 89])
  (.cond (.t 89)
  (.exit 1)
  .skip))
  (.seq (.region [⟨some 91, none, .h (.load 24 true (.t 6))⟩,
    ⟨some 92, none, .p (.ixA 2 1 (.t 9) (.k (.c (C.int .i64 0))))⟩,
    ⟨some 93, none, .h (.load 1 false (.t 92))⟩,
    ⟨some 94, none, .p (.ixA 2 1 (.t 9) (.k (.c (C.int .i64 1))))⟩,
    ⟨some 95, none, .h (.load 1 false (.t 94))⟩,
    ⟨some 96, none, .h (.call (.f 132) [.t 91, .t 93, .t 95])⟩,
    ⟨some 90, none, .p (.mv (.t 96))⟩,
    ⟨some 97, none, .p (.ext (.t 90) 0)⟩,
    ⟨some 98, none, .p (.ext (.t 90) 1)⟩,
    ⟨some 12, none, .p (.alloc (List.replicate 24 (.k (C.int .i64 0))))⟩,
    ⟨none, none, .h (.store 24 (.t 12) (.t 97))⟩,
    ⟨some 13, none, .p (.mv (.t 98))⟩] [0, 2, 3, 4, 5, 6, 7, 9, 12])
  (.seq (.region [⟨some 99, none, .p (.fld 24 (.t 5))⟩,
    ⟨some 100, none, .h (.load 1 false (.t 99))⟩,
    ⟨some 101, none, .h (.load 2 true (.t 9))⟩,
    ⟨some 102, none, .p (.mksl 2 1 [.k (C.int .i64 0), .k (C.int .i64 0)] [(0, 2, .t 101)])⟩,
    ⟨some 103, none, .h (.app 2 (.t 100) (.t 102))⟩,
    ⟨some 104, none, .p (.fld 24 (.t 5))⟩,
    ⟨none, none, .h (.store 1 (.t 104) (.t 103))⟩] [0, 2, 3, 4, 5, 6, 7, 12])
  (.region [⟨some 105, none, .h (.load 24 true (.t 12))⟩,
    ⟨none, none, .h (.store 24 (.t 6) (.t 105))⟩] [0, 2, 3, 4, 5, 6, 7]))))))))))
  (.region [⟨some 34, none, .p (.mv (.t 7))⟩,
    ⟨some 35, none, .p (.bin .sub (.t 34) (.k (.c (C.int .i64 1))))⟩,
    ⟨some 7, none, .p (.mv (.t 35))⟩] [0, 2, 3, 4, 5, 6, 7]))) [0, 2, 3, 4, 5, 6, 7])))
  (.seq (.seq (.region [⟨some 106, none, .p (.fld 24 (.t 5))⟩,
    ⟨some 107, none, .h (.load 1 false (.t 106))⟩,
    ⟨some 108, none, .p (.len (.t 107))⟩,
    ⟨some 14, none, .p (.mv (.t 108))⟩] [0, 2, 5, 14])
  (.seq (.region [⟨some 109, none, .p (.mv (.t 14))⟩,
    ⟨some 110, none, .p (.bin .gtr (.t 109) (.k (.c (C.int .i64 0))))⟩,
    ⟨some 111, none, .p (.mv (.t 110))⟩,
    ⟨some 112, some (111, true), .p (.mv (.t 0))⟩,
    ⟨some 113, some (111, true), .h (.call (.f 172) [.t 112, .k (.c (C.int .i64 16))])⟩,
    ⟨some 114, none, .p (.pick (.t 111) (.t 113) (.k (.c (C.bool false))))⟩] [0, 2, 5, 14, 114])
  (.cond (.t 114)
  (.regionE [⟨some 115, none, .p (.fld 24 (.t 5))⟩,
    ⟨some 116, none, .h (.load 1 false (.t 115))⟩,
    ⟨some 117, none, .p (.mv (.t 0))⟩,
    ⟨some 118, none, .p (.mv (.t 14))⟩,
    ⟨some 119, none, .h (.call (.f 165) [.t 117, .t 118])⟩,
    ⟨some 120, none, .p (.mv (.t 0))⟩,
    ⟨some 121, none, .h (.call (.f 113) [.t 120])⟩,
    ⟨some 122, none, .p (.mv (.t 0))⟩,
    ⟨some 123, none, .h (.call (.f 113) [.t 122])⟩,
    ⟨some 124, none, .p (.build [.k (C.int .i64 0), .k (C.int .i64 0)] [(0, 1, .t 121), (1, 1, .t 123)])⟩,
    ⟨some 125, none, .p (.ixS 2 (.t 116) (.t 119))⟩,
    ⟨none, none, .h (.store 2 (.t 125) (.t 124))⟩] [2, 5] [] [[], [], [], [], [4, 1000115], [], [4, 6, 1000115], [], [4, 6, 8, 1000115]])
  .skip)))
  (.seq (.region [⟨some 126, none, .h (.load 25 true (.t 5))⟩,
    ⟨none, none, .h (.store 25 (.t 2) (.t 126))⟩] [2])
  .ret))))))) }
theorem a195_ok : okFn Try.prog 195 a195 = true := by kernel_rfl
/-- slices.Concat[[][2]int,[2]int] -/
def a196 : AFn := { np := 1, nt := 36, res := [.t 2], body :=
  (.seq (.region [⟨some 2, none, .p (.nilsl 2)⟩] [0])
  (.seq (.region [⟨some 3, none, .p (.mv (.k (.c (C.int .i64 0))))⟩] [0, 3])
  (.seq (.seq (.region [⟨some 9, none, .p (.mv (.t 0))⟩,
    ⟨some 10, none, .p (.len (.t 9))⟩,
    ⟨some 11, none, .p (.mv (.k (.c (C.int .i64 0))))⟩] [0, 3, 9, 10, 11])
  (.block 0 (.loop (.seq (.region [⟨some 12, none, .p (.bin .lss (.t 11) (.t 10))⟩] [0, 3, 9, 10, 11, 12])
  (.seq (.cond (.t 12)
  .skip
  (.exit 0))
  (.seq (.block 1 (.seq (.region [⟨some 13, none, .p (.ixS 1 (.t 9) (.t 11))⟩,
    ⟨some 14, none, .h (.load 1 false (.t 13))⟩,
    ⟨some 5, none, .p (.mv (.t 14))⟩] [0, 3, 5, 9, 10, 11])
  (.seq (.region [⟨some 15, none, .p (.mv (.t 3))⟩,
    ⟨some 16, none, .p (.mv (.t 5))⟩,
    ⟨some 17, none, .p (.len (.t 16))⟩,
    ⟨some 18, none, .p (.bin .add (.t 15) (.t 17))⟩,
    ⟨some 3, none, .p (.mv (.t 18))⟩] [0, 3, 9, 10, 11])
  (.seq (.region [⟨some 19, none, .p (.mv (.t 3))⟩,
    ⟨some 20, none, .p (.bin .lss (.t 19) (.k (.c (C.int .i64 0))))⟩] [0, 3, 9, 10, 11, 20])
  (.cond (.t 20)
  (.region [⟨some 21, none, .p (.bad)⟩,
    ⟨none, none, .p (.bad)⟩] [0, 3, 9, 10, 11])
  .skip)))))
  (.region [⟨some 22, none, .p (.bin .add (.t 11) (.k (.c (C.int .i64 1))))⟩,
    ⟨some 11, none, .p (.mv (.t 22))⟩] [0, 3, 9, 10, 11])))) [0, 3, 9, 10, 11])))
  (.seq (.region [⟨some 23, none, .p (.mv (.t 3))⟩,
    ⟨some 24, none, .h (.call (.f 237) [.k (.c (C.nsl)), .t 23])⟩,
    ⟨some 6, none, .p (.mv (.t 24))⟩] [0, 6])
  (.seq (.seq (.region [⟨some 25, none, .p (.mv (.t 0))⟩,
    ⟨some 26, none, .p (.len (.t 25))⟩,
    ⟨some 27, none, .p (.mv (.k (.c (C.int .i64 0))))⟩] [6, 25, 26, 27])
  (.block 2 (.loop (.seq (.region [⟨some 28, none, .p (.bin .lss (.t 27) (.t 26))⟩] [6, 25, 26, 27, 28])
  (.seq (.cond (.t 28)
  .skip
  (.exit 2))
  (.seq (.block 3 (.seq (.region [⟨some 29, none, .p (.ixS 1 (.t 25) (.t 27))⟩,
    ⟨some 30, none, .h (.load 1 false (.t 29))⟩,
    ⟨some 8, none, .p (.mv (.t 30))⟩] [6, 8, 25, 26, 27])
  (.region [⟨some 31, none, .p (.mv (.t 6))⟩,
    ⟨some 32, none, .p (.mv (.t 8))⟩,
    ⟨some 33, none, .h (.app 2 (.t 31) (.t 32))⟩,
    ⟨some 6, none, .p (.mv (.t 33))⟩] [6, 25, 26, 27])))
  (.region [⟨some 34, none, .p (.bin .add (.t 27) (.k (.c (C.int .i64 1))))⟩,
    ⟨some 27, none, .p (.mv (.t 34))⟩] [6, 25, 26, 27])))) [6, 25, 26, 27])))
  (.seq (.region [⟨some 35, none, .p (.mv (.t 6))⟩,
    ⟨some 2, none, .p (.mv (.t 35))⟩] [2])
  .ret)))))) }
theorem a196_ok : okFn Try.prog 196 a196 = true := by kernel_rfl
/-- loop.example/g01215/impl.runs -/
def a197 : AFn := { np := 1, nt := 45, res := [.t 2], body :=
  (.seq (.region [⟨some 1, none, .p (.box 4 (.t 0))⟩,
    ⟨some 2, none, .p (.nilsl 2)⟩] [1])
  (.seq (.region [⟨some 3, none, .p (.nilsl 2)⟩] [1, 3])
  (.seq (.seq (.region [⟨some 7, none, .h (.load 4 true (.t 1))⟩,
    ⟨some 8, none, .h (.call (.f 188) [.t 7])⟩,
    ⟨some 9, none, .h (.slA 4 1 (.t 1) none (some (.t 8)))⟩,
    ⟨some 10, none, .p (.len (.t 9))⟩,
    ⟨some 11, none, .p (.mv (.k (.c (C.int .i64 0))))⟩] [3, 9, 10, 11])
  (.block 0 (.loop (.seq (.region [⟨some 12, none, .p (.bin .lss (.t 11) (.t 10))⟩] [3, 9, 10, 11, 12])
  (.seq (.cond (.t 12)
  .skip
  (.exit 0))
  (.seq (.block 1 (.seq (.region [⟨some 13, none, .p (.ixS 1 (.t 9) (.t 11))⟩,
    ⟨some 14, none, .h (.load 1 false (.t 13))⟩,
    ⟨some 5, none, .p (.mv (.t 14))⟩] [3, 5, 9, 10, 11])
  (.seq (.region [⟨some 15, none, .p (.mv (.t 3))⟩,
    ⟨some 16, none, .p (.len (.t 15))⟩,
    ⟨some 6, none, .p (.mv (.t 16))⟩] [3, 5, 6, 9, 10, 11])
  (.seq (.region [⟨some 17, none, .p (.mv (.t 6))⟩,
    ⟨some 18, none, .p (.bin .gtr (.t 17) (.k (.c (C.int .i64 0))))⟩,
    ⟨some 19, none, .p (.mv (.t 18))⟩,
    ⟨some 20, some (19, true), .p (.mv (.t 3))⟩,
    ⟨some 21, some (19, true), .p (.mv (.t 6))⟩,
    ⟨some 22, some (19, true), .p (.bin .sub (.t 21) (.k (.c (C.int .i64 1))))⟩,
    ⟨some 23, some (19, true), .p (.ixS 2 (.t 20) (.t 22))⟩,
    ⟨some 24, some (19, true), .p (.ixA 2 1 (.t 23) (.k (.c (C.int .i64 0))))⟩,
    ⟨some 25, some (19, true), .h (.load 1 false (.t 24))⟩,
    ⟨some 26, some (19, true), .p (.mv (.t 5))⟩,
    ⟨some 27, some (19, true), .p (.bin .eql (.t 25) (.t 26))⟩,
    ⟨some 28, none, .p (.pick (.t 19) (.t 27) (.k (.c (C.bool false))))⟩] [3, 5, 6, 9, 10, 11, 28])
  (.cond (.t 28)
  (.regionD [⟨some 29, none, .p (.mv (.t 3))⟩,
    ⟨some 30, none, .p (.mv (.t 6))⟩,
    ⟨some 31, none, .p (.bin .sub (.t 30) (.k (.c (C.int .i64 1))))⟩,
    ⟨some 32, none, .p (.ixS 2 (.t 29) (.t 31))⟩,
    ⟨some 33, none, .p (.ixA 2 1 (.t 32) (.k (.c (C.int .i64 1))))⟩,
    ⟨some 34, none, .h (.load 1 false (.t 33))⟩,
    ⟨some 35, none, .p (.bin .add (.t 34) (.k (.c (C.int .i64 1))))⟩,
    ⟨some 36, none, .p (.ixS 2 (.t 29) (.t 31))⟩,
    ⟨some 37, none, .p (.ixA 2 1 (.t 36) (.k (.c (C.int .i64 1))))⟩,
    ⟨none, none, .h (.store 1 (.t 37) (.t 35))⟩] [3, 9, 10, 11] [])
  (.region [⟨some 38, none, .p (.mv (.t 3))⟩,
    ⟨some 39, none, .p (.mv (.t 5))⟩,
    ⟨some 40, none, .p (.build [.k (C.int .i64 0), .k (C.int .i64 0)] [(0, 1, .t 39), (1, 1, .k (.c (C.int .i64 1)))])⟩,
    ⟨some 41, none, .p (.mksl 2 1 [.k (C.int .i64 0), .k (C.int .i64 0)] [(0, 2, .t 40)])⟩,
    ⟨some 42, none, .h (.app 2 (.t 38) (.t 41))⟩,
    ⟨some 3, none, .p (.mv (.t 42))⟩] [3, 9, 10, 11]))))))
  (.region [⟨some 43, none, .p (.bin .add (.t 11) (.k (.c (C.int .i64 1))))⟩,
    ⟨some 11, none, .p (.mv (.t 43))⟩] [3, 9, 10, 11])))) [3, 9, 10, 11])))
  (.seq (.region [⟨some 44, none, .p (.mv (.t 3))⟩,
    ⟨some 2, none, .p (.mv (.t 44))⟩] [2])
  .ret)))) }
theorem a197_ok : okFn Try.prog 197 a197 = true := by kernel_rfl
/-- loop.example/g01215/spec.l2Can -/
def a198 : AFn := { np := 3, nt := 51, res := [.t 6], body :=
  (.seq (.region [⟨some 3, none, .p (.box 24 (.t 0))⟩,
    ⟨some 6, none, .p (.mv (.k (.c (C.bool false))))⟩] [1, 2, 3])
  (.seq (.region [⟨some 12, none, .p (.mv (.t 1))⟩,
    ⟨some 13, none, .p (.fld 0 (.t 3))⟩,
    ⟨some 14, none, .p (.ixA 6 4 (.t 13) (.t 12))⟩,
    ⟨some 15, none, .h (.load 4 true (.t 14))⟩,
    ⟨some 16, none, .h (.call (.f 201) [.t 15])⟩,
    ⟨some 11, none, .p (.mv (.t 16))⟩,
    ⟨some 17, none, .p (.ext (.t 11) 0)⟩,
    ⟨some 18, none, .p (.ext (.t 11) 1)⟩,
    ⟨some 7, none, .p (.mv (.t 17))⟩,
    ⟨some 8, none, .p (.mv (.t 18))⟩] [1, 2, 3, 7, 8])
  (.seq (.region [⟨some 20, none, .p (.mv (.t 2))⟩,
    ⟨some 21, none, .p (.fld 0 (.t 3))⟩,
    ⟨some 22, none, .p (.ixA 6 4 (.t 21) (.t 20))⟩,
    ⟨some 23, none, .h (.load 4 true (.t 22))⟩,
    ⟨some 24, none, .h (.call (.f 201) [.t 23])⟩,
    ⟨some 19, none, .p (.mv (.t 24))⟩,
    ⟨some 25, none, .p (.ext (.t 19) 0)⟩,
    ⟨some 26, none, .p (.ext (.t 19) 1)⟩,
    ⟨some 9, none, .p (.mv (.t 25))⟩,
    ⟨some 10, none, .p (.mv (.t 26))⟩] [1, 2, 3, 7, 8, 9])
  (.seq (.region [⟨some 27, none, .p (.mv (.t 1))⟩,
    ⟨some 28, none, .p (.mv (.t 2))⟩,
    ⟨some 29, none, .p (.bin .neq (.t 27) (.t 28))⟩,
    ⟨some 30, none, .p (.mv (.t 29))⟩,
    ⟨some 31, some (30, true), .p (.mv (.t 8))⟩,
    ⟨some 32, some (30, true), .p (.bin .gtr (.t 31) (.k (.c (C.int .i64 0))))⟩,
    ⟨some 33, none, .p (.pick (.t 30) (.t 32) (.k (.c (C.bool false))))⟩,
    ⟨some 34, none, .p (.mv (.t 33))⟩,
    ⟨some 35, some (34, true), .p (.mv (.t 2))⟩,
    ⟨some 36, some (34, true), .p (.fld 0 (.t 3))⟩,
    ⟨some 37, some (34, true), .p (.ixA 6 4 (.t 36) (.t 35))⟩,
    ⟨some 38, some (34, true), .h (.load 4 true (.t 37))⟩,
    ⟨some 39, some (34, true), .h (.call (.f 200) [.t 38])⟩,
    ⟨some 40, some (34, true), .p (.bin .lss (.t 39) (.k (.c (C.int .i64 4))))⟩,
    ⟨some 41, none, .p (.pick (.t 34) (.t 40) (.k (.c (C.bool false))))⟩,
    ⟨some 42, none, .p (.mv (.t 41))⟩,
    ⟨some 43, some (42, true), .p (.mv (.t 9))⟩,
    ⟨some 44, some (42, true), .p (.bin .eql (.t 43) (.k (.c (C.int .i64 0))))⟩,
    ⟨some 45, some (42, true), .p (.mv (.t 44))⟩,
    ⟨some 46, some (45, false), .p (.mv (.t 9))⟩,
    ⟨some 47, some (45, false), .p (.mv (.t 7))⟩,
    ⟨some 48, some (45, false), .p (.bin .eql (.t 46) (.t 47))⟩,
    ⟨some 49, some (42, true), .p (.pick (.t 45) (.k (.c (C.bool true))) (.t 48))⟩,
    ⟨some 50, none, .p (.pick (.t 42) (.t 49) (.k (.c (C.bool false))))⟩,
    ⟨some 6, none, .p (.mv (.t 50))⟩] [6])
  .ret)))) }
theorem a198_ok : okFn Try.prog 198 a198 = true := by kernel_rfl
/-- loop.example/g01215/spec.l2Runs -/
def a199 : AFn := { np := 1, nt := 42, res := [.t 2], body :=
  (.seq (.region [⟨some 1, none, .p (.box 4 (.t 0))⟩,
    ⟨some 2, none, .p (.nilsl 2)⟩] [1])
  (.seq (.region [⟨some 5, none, .p (.mksl 2 0 [.k (C.int .i64 0), .k (C.int .i64 0)] [])⟩,
    ⟨some 3, none, .p (.mv (.t 5))⟩] [1, 3])
  (.seq (.seq (.region [⟨some 4, none, .p (.mv (.k (.c (C.int .i64 0))))⟩] [1, 3, 4])
  (.block 0 (.loop (.seq (.seq (.region [⟨some 6, none, .p (.mv (.t 4))⟩,
    ⟨some 7, none, .h (.load 4 true (.t 1))⟩,
    ⟨some 8, none, .h (.call (.f 200) [.t 7])⟩,
    ⟨some 9, none, .p (.bin .lss (.t 6) (.t 8))⟩] [1, 3, 4, 9])
  (.cond (.t 9)
  .skip
  (.exit 0)))
  (.seq (.block 1 (.seq (.regionD [⟨some 12, none, .p (.mv (.t 4))⟩,
    ⟨some 13, none, .p (.bin .gtr (.t 12) (.k (.c (C.int .i64 0))))⟩,
    ⟨some 14, none, .p (.mv (.t 13))⟩,
    ⟨some 15, some (14, true), .p (.mv (.t 4))⟩,
    ⟨some 16, some (14, true), .p (.ixA 4 1 (.t 1) (.t 15))⟩,
    ⟨some 17, some (14, true), .h (.load 1 false (.t 16))⟩,
    ⟨some 18, some (14, true), .p (.mv (.t 4))⟩,
    ⟨some 19, some (14, true), .p (.bin .sub (.t 18) (.k (.c (C.int .i64 1))))⟩,
    ⟨some 20, some (14, true), .p (.ixA 4 1 (.t 1) (.t 19))⟩,
    ⟨some 21, some (14, true), .h (.load 1 false (.t 20))⟩,
    ⟨some 22, some (14, true), .p (.bin .eql (.t 17) (.t 21))⟩,
    ⟨some 23, none, .p (.pick (.t 14) (.t 22) (.k (.c (C.bool false))))⟩] [1, 3, 4, 23] [])
  (.cond (.t 23)
  (.regionD [⟨some 24, none, .p (.mv (.t 3))⟩,
    ⟨some 25, none, .p (.mv (.t 3))⟩,
    ⟨some 26, none, .p (.len (.t 25))⟩,
    ⟨some 27, none, .p (.bin .sub (.t 26) (.k (.c (C.int .i64 1))))⟩,
    ⟨some 28, none, .p (.ixS 2 (.t 24) (.t 27))⟩,
    ⟨some 29, none, .p (.ixA 2 1 (.t 28) (.k (.c (C.int .i64 1))))⟩,
    ⟨some 30, none, .h (.load 1 false (.t 29))⟩,
    ⟨some 31, none, .p (.bin .add (.t 30) (.k (.c (C.int .i64 1))))⟩,
    ⟨some 32, none, .p (.ixS 2 (.t 24) (.t 27))⟩,
    ⟨some 33, none, .p (.ixA 2 1 (.t 32) (.k (.c (C.int .i64 1))))⟩,
    ⟨none, none, .h (.store 1 (.t 33) (.t 31))⟩] [1, 3, 4] [])
  (.region [⟨some 34, none, .p (.mv (.t 3))⟩,
    ⟨some 35, none, .p (.mv (.t 4))⟩,
    ⟨some 36, none, .p (.ixA 4 1 (.t 1) (.t 35))⟩,
    ⟨some 37, none, .h (.load 1 false (.t 36))⟩,
    ⟨some 38, none, .p (.build [.k (C.int .i64 0), .k (C.int .i64 0)] [(0, 1, .t 37), (1, 1, .k (.c (C.int .i64 1)))])⟩,
    ⟨some 39, none, .p (.mksl 2 1 [.k (C.int .i64 0), .k (C.int .i64 0)] [(0, 2, .t 38)])⟩,
    ⟨some 40, none, .h (.app 2 (.t 34) (.t 39))⟩,
    ⟨some 3, none, .p (.mv (.t 40))⟩] [1, 3, 4]))))
  (.region [⟨some 10, none, .p (.mv (.t 4))⟩,
    ⟨some 11, none, .p (.bin .add (.t 10) (.k (.c (C.int .i64 1))))⟩,
    ⟨some 4, none, .p (.mv (.t 11))⟩] [1, 3, 4]))) [1, 3, 4])))
  (.seq (.region [⟨some 41, none, .p (.mv (.t 3))⟩,
    ⟨some 2, none, .p (.mv (.t 41))⟩] [2])
  .ret)))) }
theorem a199_ok : okFn Try.prog 199 a199 = true := by kernel_rfl
/-- loop.example/g01215/spec.l2Many -/
def a200 : AFn := { np := 1, nt := 16, res := [.t 2], body :=
  (.seq (.region [⟨some 1, none, .p (.box 4 (.t 0))⟩,
    ⟨some 2, none, .p (.mv (.k (.c (C.int .i64 0))))⟩] [1])
  (.seq (.region [⟨some 3, none, .p (.mv (.k (.c (C.int .i64 0))))⟩] [1, 3])
  (.seq (.seq (.region [⟨some 4, none, .p (.mv (.k (.c (C.int .i64 0))))⟩] [1, 3, 4])
  (.block 0 (.loop (.seq (.seq (.region [⟨some 5, none, .p (.mv (.t 4))⟩,
    ⟨some 6, none, .p (.bin .lss (.t 5) (.k (.c (C.int .i64 4))))⟩] [1, 3, 4, 6])
  (.cond (.t 6)
  .skip
  (.exit 0)))
  (.seq (.block 1 (.seq (.region [⟨some 9, none, .p (.mv (.t 4))⟩,
    ⟨some 10, none, .p (.ixA 4 1 (.t 1) (.t 9))⟩,
    ⟨some 11, none, .h (.load 1 false (.t 10))⟩,
    ⟨some 12, none, .p (.bin .gtr (.t 11) (.k (.c (C.int .i64 0))))⟩] [1, 3, 4, 12])
  (.cond (.t 12)
  (.region [⟨some 13, none, .p (.mv (.t 3))⟩,
    ⟨some 14, none, .p (.bin .add (.t 13) (.k (.c (C.int .i64 1))))⟩,
    ⟨some 3, none, .p (.mv (.t 14))⟩] [1, 3, 4])
  .skip)))
  (.region [⟨some 7, none, .p (.mv (.t 4))⟩,
    ⟨some 8, none, .p (.bin .add (.t 7) (.k (.c (C.int .i64 1))))⟩,
    ⟨some 4, none, .p (.mv (.t 8))⟩] [1, 3, 4]))) [1, 3, 4])))
  (.seq (.region [⟨some 15, none, .p (.mv (.t 3))⟩,
    ⟨some 2, none, .p (.mv (.t 15))⟩] [2])
  .ret)))) }
theorem a200_ok : okFn Try.prog 200 a200 = true := by kernel_rfl
/-- loop.example/g01215/spec.l2Top -/
def a201 : AFn := { np := 1, nt := 33, res := [.t 2, .t 3], body :=
  (.seq (.region [⟨some 1, none, .p (.box 4 (.t 0))⟩,
    ⟨some 2, none, .p (.mv (.k (.c (C.int .i64 0))))⟩,
    ⟨some 3, none, .p (.mv (.k (.c (C.int .i64 0))))⟩] [1])
  (.seq (.region [⟨some 6, none, .h (.load 4 true (.t 1))⟩,
    ⟨some 7, none, .h (.call (.f 200) [.t 6])⟩,
    ⟨some 4, none, .p (.mv (.t 7))⟩] [1, 4])
  (.seq (.seq (.region [⟨some 8, none, .p (.mv (.t 4))⟩,
    ⟨some 9, none, .p (.bin .eql (.t 8) (.k (.c (C.int .i64 0))))⟩] [1, 4, 9])
  (.cond (.t 9)
  (.seq (.region [⟨some 2, none, .p (.mv (.k (.c (C.int .i64 0))))⟩,
    ⟨some 3, none, .p (.mv (.k (.c (C.int .i64 0))))⟩] [2, 3])
  .ret)
  .skip))
  (.seq (.region [⟨some 5, none, .p (.mv (.k (.c (C.int .i64 0))))⟩] [1, 4, 5])
  (.seq (.block 0 (.loop (.seq (.seq (.regionD [⟨some 10, none, .p (.mv (.t 5))⟩,
    ⟨some 11, none, .p (.mv (.t 4))⟩,
    ⟨some 12, none, .p (.bin .lss (.t 10) (.t 11))⟩,
    ⟨some 13, none, .p (.mv (.t 12))⟩,
    ⟨some 14, some (13, true), .p (.mv (.t 4))⟩,
    ⟨some 15, some (13, true), .p (.bin .sub (.t 14) (.k (.c (C.int .i64 1))))⟩,
    ⟨some 16, some (13, true), .p (.mv (.t 5))⟩,
    ⟨some 17, some (13, true), .p (.bin .sub (.t 15) (.t 16))⟩,
    ⟨some 18, some (13, true), .p (.ixA 4 1 (.t 1) (.t 17))⟩,
    ⟨some 19, some (13, true), .h (.load 1 false (.t 18))⟩,
    ⟨some 20, some (13, true), .p (.mv (.t 4))⟩,
    ⟨some 21, some (13, true), .p (.bin .sub (.t 20) (.k (.c (C.int .i64 1))))⟩,
    ⟨some 22, some (13, true), .p (.ixA 4 1 (.t 1) (.t 21))⟩,
    ⟨some 23, some (13, true), .h (.load 1 false (.t 22))⟩,
    ⟨some 24, some (13, true), .p (.bin .eql (.t 19) (.t 23))⟩,
    ⟨some 25, none, .p (.pick (.t 13) (.t 24) (.k (.c (C.bool false))))⟩] [1, 4, 5, 25] [])
  (.cond (.t 25)
  .skip
  (.exit 0)))
  (.block 1 (.region [⟨some 26, none, .p (.mv (.t 5))⟩,
    ⟨some 27, none, .p (.bin .add (.t 26) (.k (.c (C.int .i64 1))))⟩,
    ⟨some 5, none, .p (.mv (.t 27))⟩] [1, 4, 5]))) [1, 4, 5]))
  (.seq (.region [⟨some 28, none, .p (.mv (.t 4))⟩,
    ⟨some 29, none, .p (.bin .sub (.t 28) (.k (.c (C.int .i64 1))))⟩,
    ⟨some 30, none, .p (.ixA 4 1 (.t 1) (.t 29))⟩,
    ⟨some 31, none, .h (.load 1 false (.t 30))⟩,
    ⟨some 32, none, .p (.mv (.t 5))⟩,
    ⟨some 2, none, .p (.mv (.t 31))⟩,
    ⟨some 3, none, .p (.mv (.t 32))⟩] [2, 3])
  .ret)))))) }
theorem a201_ok : okFn Try.prog 201 a201 = true := by kernel_rfl
/-- loop.example/g01215/spec.l1Least -/
def a202 : AFn := { np := 2, nt := 10, res := [.t 4], body :=
  (.seq (.region [⟨some 4, none, .p (.mv (.k (.c (C.int .i64 0))))⟩] [0, 1])
  (.seq (.seq (.region [⟨some 5, none, .p (.mv (.t 0))⟩,
    ⟨some 6, none, .p (.mv (.t 1))⟩,
    ⟨some 7, none, .p (.bin .lss (.t 5) (.t 6))⟩] [0, 1, 7])
  (.cond (.t 7)
  (.seq (.region [⟨some 8, none, .p (.mv (.t 0))⟩,
    ⟨some 4, none, .p (.mv (.t 8))⟩] [4])
  .ret)
  .skip))
  (.seq (.region [⟨some 9, none, .p (.mv (.t 1))⟩,
    ⟨some 4, none, .p (.mv (.t 9))⟩] [4])
  .ret))) }
theorem a202_ok : okFn Try.prog 202 a202 = true := by kernel_rfl
/-- loop.example/g01215/spec.l1Has -/
def a203 : AFn := { np := 2, nt := 18, res := [.t 4], body :=
  (.seq (.region [⟨some 4, none, .p (.mv (.k (.c (C.bool false))))⟩] [0, 1])
  (.seq (.seq (.region [⟨some 5, none, .p (.mv (.k (.c (C.int .i64 0))))⟩] [0, 1, 5])
  (.block 0 (.loop (.seq (.seq (.region [⟨some 6, none, .p (.mv (.t 5))⟩,
    ⟨some 7, none, .p (.mv (.t 0))⟩,
    ⟨some 8, none, .p (.len (.t 7))⟩,
    ⟨some 9, none, .p (.bin .lss (.t 6) (.t 8))⟩] [0, 1, 5, 9])
  (.cond (.t 9)
  .skip
  (.exit 0)))
  (.seq (.block 1 (.seq (.region [⟨some 12, none, .p (.mv (.t 0))⟩,
    ⟨some 13, none, .p (.mv (.t 5))⟩,
    ⟨some 14, none, .p (.ixS 1 (.t 12) (.t 13))⟩,
    ⟨some 15, none, .h (.load 1 false (.t 14))⟩,
    ⟨some 16, none, .p (.mv (.t 1))⟩,
    ⟨some 17, none, .p (.bin .eql (.t 15) (.t 16))⟩] [0, 1, 5, 17])
  (.cond (.t 17)
  (.seq (.region [⟨some 4, none, .p (.mv (.k (.c (C.bool true))))⟩] [4])
  .ret)
  .skip)))
  (.region [⟨some 10, none, .p (.mv (.t 5))⟩,
    ⟨some 11, none, .p (.bin .add (.t 10) (.k (.c (C.int .i64 1))))⟩,
    ⟨some 5, none, .p (.mv (.t 11))⟩] [0, 1, 5]))) [0, 1, 5])))
  (.seq (.region [⟨some 4, none, .p (.mv (.k (.c (C.bool false))))⟩] [4])
  .ret))) }
theorem a203_ok : okFn Try.prog 203 a203 = true := by kernel_rfl
/-- loop.example/g01215/impl.countBoundaries -/
def a204 : AFn := { np := 1, nt := 20, res := [.t 2], body :=
  (.seq (.region [⟨some 1, none, .p (.box 24 (.t 0))⟩,
    ⟨some 2, none, .p (.mv (.k (.c (C.int .i64 0))))⟩] [1])
  (.seq (.region [⟨some 3, none, .p (.mv (.k (.c (C.int .i64 0))))⟩] [1, 3])
  (.seq (.seq (.region [⟨some 6, none, .p (.fld 0 (.t 1))⟩,
    ⟨some 7, none, .h (.load 24 true (.t 6))⟩,
    ⟨some 8, none, .p (.mv (.k (.c (C.int .i64 0))))⟩] [3, 7, 8])
  (.block 0 (.loop (.seq (.region [⟨some 9, none, .p (.bin .lss (.t 8) (.k (.c (C.int .i64 6))))⟩] [3, 7, 8, 9])
  (.seq (.cond (.t 9)
  .skip
  (.exit 0))
  (.seq (.block 1 (.seq (.region [⟨some 10, none, .p (.ixV 6 4 true (.t 7) (.t 8))⟩,
    ⟨some 5, none, .p (.alloc [.k (C.int .i64 0), .k (C.int .i64 0), .k (C.int .i64 0), .k (C.int .i64 0)])⟩,
    ⟨none, none, .h (.store 4 (.t 5) (.t 10))⟩] [3, 5, 7, 8])
  (.region [⟨some 11, none, .p (.mv (.t 3))⟩,
    ⟨some 12, none, .h (.load 4 true (.t 5))⟩,
    ⟨some 13, none, .h (.call (.f 197) [.t 12])⟩,
    ⟨some 14, none, .p (.len (.t 13))⟩,
    ⟨some 15, none, .p (.bin .sub (.t 14) (.k (.c (C.int .i64 1))))⟩,
    ⟨some 16, none, .p (.mnmx true [.t 15, .k (.c (C.int .i64 0))])⟩,
    ⟨some 17, none, .p (.bin .add (.t 11) (.t 16))⟩,
    ⟨some 3, none, .p (.mv (.t 17))⟩] [3, 7, 8])))
  (.region [⟨some 18, none, .p (.bin .add (.t 8) (.k (.c (C.int .i64 1))))⟩,
    ⟨some 8, none, .p (.mv (.t 18))⟩] [3, 7, 8])))) [3, 7, 8])))
  (.seq (.region [⟨some 19, none, .p (.mv (.t 3))⟩,
    ⟨some 2, none, .p (.mv (.t 19))⟩] [2])
  .ret)))) }
theorem a204_ok : okFn Try.prog 204 a204 = true := by kernel_rfl
/-- loop.example/g01215/impl.bottoms -/
def a205 : AFn := { np := 1, nt := 19, res := [.cell 2 6 true], body :=
  (.seq (.region [⟨some 1, none, .p (.box 24 (.t 0))⟩,
    ⟨some 2, none, .p (.alloc [.k (C.int .i64 0), .k (C.int .i64 0), .k (C.int .i64 0), .k (C.int .i64 0), .k (C.int .i64 0), .k (C.int .i64 0)])⟩] [1, 2])
  (.seq (.region [⟨some 3, none, .p (.alloc [.k (C.int .i64 0), .k (C.int .i64 0), .k (C.int .i64 0), .k (C.int .i64 0), .k (C.int .i64 0), .k (C.int .i64 0)])⟩] [1, 2, 3])
  (.seq (.seq (.region [⟨some 6, none, .p (.fld 0 (.t 1))⟩,
    ⟨some 7, none, .h (.load 24 true (.t 6))⟩,
    ⟨some 8, none, .p (.mv (.k (.c (C.int .i64 0))))⟩] [2, 3, 7, 8])
  (.block 0 (.loop (.seq (.region [⟨some 9, none, .p (.bin .lss (.t 8) (.k (.c (C.int .i64 6))))⟩] [2, 3, 7, 8, 9])
  (.seq (.cond (.t 9)
  .skip
  (.exit 0))
  (.seq (.block 1 (.seq (.region [⟨some 10, none, .p (.ixV 6 4 true (.t 7) (.t 8))⟩,
    ⟨some 5, none, .p (.alloc [.k (C.int .i64 0), .k (C.int .i64 0), .k (C.int .i64 0), .k (C.int .i64 0)])⟩,
    ⟨none, none, .h (.store 4 (.t 5) (.t 10))⟩] [2, 3, 5, 7, 8])
  (.region [⟨some 11, none, .p (.ixA 4 1 (.t 5) (.k (.c (C.int .i64 0))))⟩,
    ⟨some 12, none, .h (.load 1 false (.t 11))⟩,
    ⟨some 13, none, .p (.ixA 6 1 (.t 3) (.t 12))⟩,
    ⟨some 14, none, .h (.load 1 false (.t 13))⟩,
    ⟨some 15, none, .p (.bin .add (.t 14) (.k (.c (C.int .i64 1))))⟩,
    ⟨some 16, none, .p (.ixA 6 1 (.t 3) (.t 12))⟩,
    ⟨none, none, .h (.store 1 (.t 16) (.t 15))⟩] [2, 3, 7, 8])))
  (.region [⟨some 17, none, .p (.bin .add (.t 8) (.k (.c (C.int .i64 1))))⟩,
    ⟨some 8, none, .p (.mv (.t 17))⟩] [2, 3, 7, 8])))) [2, 3, 7, 8])))
  (.seq (.region [⟨some 18, none, .h (.load 6 true (.t 3))⟩,
    ⟨none, none, .h (.store 6 (.t 2) (.t 18))⟩] [2])
  .ret)))) }
theorem a205_ok : okFn Try.prog 205 a205 = true := by kernel_rfl
/-- loop.example/g01215/spec.l6Boundaries -/
def a206 : AFn := { np := 1, nt := 10, res := [.t 2], body :=
  (.seq (.region [⟨some 1, none, .p (.box 24 (.t 0))⟩,
    ⟨some 2, none, .p (.mv (.k (.c (C.int .i64 0))))⟩] [1])
  (.seq (.regionD [⟨some 3, none, .h (.load 24 true (.t 1))⟩,
    ⟨some 4, none, .h (.call (.f 168) [.t 3])⟩,
    ⟨some 5, none, .p (.bin .sub (.t 4) (.k (.c (C.int .i64 6))))⟩,
    ⟨some 6, none, .h (.load 24 true (.t 1))⟩,
    ⟨some 7, none, .h (.call (.f 207) [.t 6])⟩,
    ⟨some 8, none, .p (.ixV 6 1 false (.t 7) (.k (.c (C.int .i64 0))))⟩,
    ⟨some 9, none, .p (.bin .add (.t 5) (.t 8))⟩,
    ⟨some 2, none, .p (.mv (.t 9))⟩] [2] [])
  .ret)) }
theorem a206_ok : okFn Try.prog 206 a206 = true := by kernel_rfl
/-- loop.example/g01215/spec.l6Bottoms -/
def a207 : AFn := { np := 1, nt := 20, res := [.cell 2 6 true], body :=
  (.seq (.region [⟨some 1, none, .p (.box 24 (.t 0))⟩,
    ⟨some 2, none, .p (.alloc [.k (C.int .i64 0), .k (C.int .i64 0), .k (C.int .i64 0), .k (C.int .i64 0), .k (C.int .i64 0), .k (C.int .i64 0)])⟩] [1, 2])
  (.seq (.region [⟨some 5, none, .p (.build [.k (C.int .i64 0), .k (C.int .i64 0), .k (C.int .i64 0), .k (C.int .i64 0), .k (C.int .i64 0), .k (C.int .i64 0)] [])⟩,
    ⟨some 3, none, .p (.alloc [.k (C.int .i64 0), .k (C.int .i64 0), .k (C.int .i64 0), .k (C.int .i64 0), .k (C.int .i64 0), .k (C.int .i64 0)])⟩,
    ⟨none, none, .h (.store 6 (.t 3) (.t 5))⟩] [1, 2, 3])
  (.seq (.seq (.region [⟨some 4, none, .p (.mv (.k (.c (C.int .i64 0))))⟩] [1, 2, 3, 4])
  (.block 0 (.loop (.seq (.seq (.region [⟨some 6, none, .p (.mv (.t 4))⟩,
    ⟨some 7, none, .p (.bin .lss (.t 6) (.k (.c (C.int .i64 6))))⟩] [1, 2, 3, 4, 7])
  (.cond (.t 7)
  .skip
  (.exit 0)))
  (.seq (.block 1 (.region [⟨some 10, none, .p (.mv (.t 4))⟩,
    ⟨some 11, none, .p (.fld 0 (.t 1))⟩,
    ⟨some 12, none, .p (.ixA 6 4 (.t 11) (.t 10))⟩,
    ⟨some 13, none, .p (.ixA 4 1 (.t 12) (.k (.c (C.int .i64 0))))⟩,
    ⟨some 14, none, .h (.load 1 false (.t 13))⟩,
    ⟨some 15, none, .p (.ixA 6 1 (.t 3) (.t 14))⟩,
    ⟨some 16, none, .h (.load 1 false (.t 15))⟩,
    ⟨some 17, none, .p (.bin .add (.t 16) (.k (.c (C.int .i64 1))))⟩,
    ⟨some 18, none, .p (.ixA 6 1 (.t 3) (.t 14))⟩,
    ⟨none, none, .h (.store 1 (.t 18) (.t 17))⟩] [1, 2, 3, 4]))
  (.region [⟨some 8, none, .p (.mv (.t 4))⟩,
    ⟨some 9, none, .p (.bin .add (.t 8) (.k (.c (C.int .i64 1))))⟩,
    ⟨some 4, none, .p (.mv (.t 9))⟩] [1, 2, 3, 4]))) [1, 2, 3, 4])))
  (.seq (.region [⟨some 19, none, .h (.load 6 true (.t 3))⟩,
    ⟨none, none, .h (.store 6 (.t 2) (.t 19))⟩] [2])
  .ret)))) }
theorem a207_ok : okFn Try.prog 207 a207 = true := by kernel_rfl
/-- (*loop.example/g01215/spec.l1Cur).pour -/
def a208 : AFn := { np := 2, nt := 30, res := [.cell 4 2 true], body :=
  (.seq (.region [⟨some 3, none, .p (.box 24 (.t 1))⟩,
    ⟨some 4, none, .p (.alloc [.k (C.int .i64 0), .k (C.int .i64 0)])⟩] [0, 3, 4])
  (.seq (.seq (.region [⟨some 6, none, .h (.load 24 true (.t 3))⟩,
    ⟨some 7, none, .h (.call (.f 141) [.t 6])⟩,
    ⟨some 8, none, .p (.mv (.t 7))⟩,
    ⟨some 9, some (8, true), .p (.mv (.t 0))⟩,
    ⟨some 10, some (8, true), .h (.call (.f 172) [.t 9, .k (.c (C.int .i64 3))])⟩,
    ⟨some 11, some (8, true), .p (.un .not (.t 10))⟩,
    ⟨some 12, none, .p (.pick (.t 8) (.t 11) (.k (.c (C.bool false))))⟩] [0, 3, 4, 12])
  (.cond (.t 12)
  (.seq (.region [⟨some 13, none, .h (.load 24 true (.t 3))⟩,
    ⟨some 14, none, .h (.call (.f 217) [.t 13])⟩,
    ⟨some 5, none, .p (.mv (.t 14))⟩] [0, 4, 5])
  (.seq (.region [⟨some 15, none, .p (.mv (.t 5))⟩,
    ⟨some 16, none, .p (.len (.t 15))⟩,
    ⟨some 17, none, .p (.bin .gtr (.t 16) (.k (.c (C.int .i64 0))))⟩] [0, 4, 5, 17])
  (.cond (.t 17)
  (.seq (.region [⟨some 18, none, .p (.mv (.t 5))⟩,
    ⟨some 19, none, .p (.mv (.t 0))⟩,
    ⟨some 20, none, .p (.mv (.t 5))⟩,
    ⟨some 21, none, .p (.len (.t 20))⟩,
    ⟨some 22, none, .h (.call (.f 165) [.t 19, .t 21])⟩,
    ⟨some 23, none, .p (.ixS 2 (.t 18) (.t 22))⟩,
    ⟨some 24, none, .h (.load 2 true (.t 23))⟩,
    ⟨none, none, .h (.store 2 (.t 4) (.t 24))⟩] [4])
  .ret)
  .skip)))
  .skip))
  (.seq (.region [⟨some 25, none, .p (.mv (.t 0))⟩,
    ⟨some 26, none, .h (.call (.f 113) [.t 25])⟩,
    ⟨some 27, none, .p (.mv (.t 0))⟩,
    ⟨some 28, none, .h (.call (.f 113) [.t 27])⟩,
    ⟨some 29, none, .p (.build [.k (C.int .i64 0), .k (C.int .i64 0)] [(0, 1, .t 26), (1, 1, .t 28)])⟩,
    ⟨none, none, .h (.store 2 (.t 4) (.t 29))⟩] [4])
  .ret))) }
theorem a208_ok : okFn Try.prog 208 a208 = true := by kernel_rfl
/-- loop.example/g01215/spec.l6Good -/
def a209 : AFn := { np := 1, nt := 45, res := [.t 2], body :=
  (.seq (.region [⟨some 1, none, .p (.box 24 (.t 0))⟩,
    ⟨some 2, none, .p (.nilsl 2)⟩] [1])
  (.seq (.region [⟨some 8, none, .p (.mksl 2 0 [.k (C.int .i64 0), .k (C.int .i64 0)] [])⟩,
    ⟨some 9, none, .h (.load 24 true (.t 1))⟩,
    ⟨some 10, none, .h (.call (.f 217) [.t 9])⟩,
    ⟨some 3, none, .p (.mv (.t 8))⟩,
    ⟨some 4, none, .p (.mv (.t 10))⟩] [1, 3, 4])
  (.seq (.seq (.region [⟨some 5, none, .p (.mv (.k (.c (C.int .i64 0))))⟩] [1, 3, 4, 5])
  (.block 0 (.loop (.seq (.seq (.region [⟨some 11, none, .p (.mv (.t 5))⟩,
    ⟨some 12, none, .p (.mv (.t 4))⟩,
    ⟨some 13, none, .p (.len (.t 12))⟩,
    ⟨some 14, none, .p (.bin .lss (.t 11) (.t 13))⟩] [1, 3, 4, 5, 14])
  (.cond (.t 14)
  .skip
  (.exit 0)))
  (.seq (.block 1 (.seq (.regionD [⟨some 18, none, .h (.load 24 true (.t 1))⟩,
    ⟨some 19, none, .p (.mv (.t 4))⟩,
    ⟨some 20, none, .p (.mv (.t 5))⟩,
    ⟨some 21, none, .p (.ixS 2 (.t 19) (.t 20))⟩,
    ⟨some 22, none, .p (.ixA 2 1 (.t 21) (.k (.c (C.int .i64 0))))⟩,
    ⟨some 23, none, .h (.load 1 false (.t 22))⟩,
    ⟨some 24, none, .p (.mv (.t 4))⟩,
    ⟨some 25, none, .p (.mv (.t 5))⟩,
    ⟨some 26, none, .p (.ixS 2 (.t 24) (.t 25))⟩,
    ⟨some 27, none, .p (.ixA 2 1 (.t 26) (.k (.c (C.int .i64 1))))⟩,
    ⟨some 28, none, .h (.load 1 false (.t 27))⟩,
    ⟨some 29, none, .h (.call (.f 132) [.t 18, .t 23, .t 28])⟩,
    ⟨some 17, none, .p (.mv (.t 29))⟩,
    ⟨some 30, none, .p (.ext (.t 17) 0)⟩,
    ⟨some 31, none, .p (.ext (.t 17) 1)⟩,
    ⟨some 6, none, .p (.alloc (List.replicate 24 (.k (C.int .i64 0))))⟩,
    ⟨none, none, .h (.store 24 (.t 6) (.t 30))⟩,
    ⟨some 7, none, .p (.mv (.t 31))⟩] [1, 3, 4, 5, 6] [])
  (.seq (.regionD [⟨some 32, none, .h (.load 24 true (.t 6))⟩,
    ⟨some 33, none, .h (.call (.f 136) [.t 32])⟩,
    ⟨some 34, none, .h (.load 24 true (.t 1))⟩,
    ⟨some 35, none, .h (.call (.f 136) [.t 34])⟩,
    ⟨some 36, none, .p (.bin .lss (.t 33) (.t 35))⟩] [1, 3, 4, 5, 36] [])
  (.cond (.t 36)
  (.region [⟨some 37, none, .p (.mv (.t 3))⟩,
    ⟨some 38, none, .p (.mv (.t 4))⟩,
    ⟨some 39, none, .p (.mv (.t 5))⟩,
    ⟨some 40, none, .p (.ixS 2 (.t 38) (.t 39))⟩,
    ⟨some 41, none, .h (.load 2 true (.t 40))⟩,
    ⟨some 42, none, .p (.mksl 2 1 [.k (C.int .i64 0), .k (C.int .i64 0)] [(0, 2, .t 41)])⟩,
    ⟨some 43, none, .h (.app 2 (.t 37) (.t 42))⟩,
    ⟨some 3, none, .p (.mv (.t 43))⟩] [1, 3, 4, 5])
  .skip))))
  (.region [⟨some 15, none, .p (.mv (.t 5))⟩,
    ⟨some 16, none, .p (.bin .add (.t 15) (.k (.c (C.int .i64 1))))⟩,
    ⟨some 5, none, .p (.mv (.t 16))⟩] [1, 3, 4, 5]))) [1, 3, 4, 5])))
  (.seq (.region [⟨some 44, none, .p (.mv (.t 3))⟩,
    ⟨some 2, none, .p (.mv (.t 44))⟩] [2])
  .ret)))) }
theorem a209_ok : okFn Try.prog 209 a209 = true := by kernel_rfl
/-- loop.example/g01215/impl.isComplete -/
def a210 : AFn := { np := 1, nt := 12, res := [.t 2], body :=
  (.seq (.region [⟨some 1, none, .p (.box 4 (.t 0))⟩,
    ⟨some 2, none, .p (.mv (.k (.c (C.bool false))))⟩] [1])
  (.seq (.region [⟨some 3, none, .h (.load 4 true (.t 1))⟩,
    ⟨some 4, none, .h (.call (.f 188) [.t 3])⟩,
    ⟨some 5, none, .p (.bin .eql (.t 4) (.k (.c (C.int .i64 4))))⟩,
    ⟨some 6, none, .p (.mv (.t 5))⟩,
    ⟨some 7, some (6, true), .h (.load 4 true (.t 1))⟩,
    ⟨some 8, some (6, true), .h (.call (.f 197) [.t 7])⟩,
    ⟨some 9, some (6, true), .p (.len (.t 8))⟩,
    ⟨some 10, some (6, true), .p (.bin .eql (.t 9) (.k (.c (C.int .i64 1))))⟩,
    ⟨some 11, none, .p (.pick (.t 6) (.t 10) (.k (.c (C.bool false))))⟩,
    ⟨some 2, none, .p (.mv (.t 11))⟩] [2])
  .ret)) }
theorem a210_ok : okFn Try.prog 210 a210 = true := by kernel_rfl
/-- slices.ContainsFunc[[][4]int,[4]int] -/
def a211 : AFn := { np := 2, nt := 9, res := [.t 4], body :=
  (.seq (.region [⟨some 4, none, .p (.mv (.k (.c (C.bool false))))⟩] [0, 1])
  (.seq (.region [⟨some 5, none, .p (.mv (.t 0))⟩,
    ⟨some 6, none, .p (.mv (.t 1))⟩,
    ⟨some 7, none, .h (.call (.f 238) [.t 5, .t 6])⟩,
    ⟨some 8, none, .p (.bin .geq (.t 7) (.k (.c (C.int .i64 0))))⟩,
    ⟨some 4, none, .p (.mv (.t 8))⟩] [4])
  .ret)) }
theorem a211_ok : okFn Try.prog 211 a211 = true := by kernel_rfl
/-- loop.example/g01215/impl.areAll[[4]int]$1 -/
def a212 : AFn := { np := 2, nt := 8, res := [.t 3], body :=
  (.seq (.region [⟨some 2, none, .p (.box 4 (.t 0))⟩,
    ⟨some 3, none, .p (.mv (.k (.c (C.bool false))))⟩] [1, 2])
  (.seq (.region [⟨some 4, none, .h (.load 1 false (.t 1))⟩,
    ⟨some 5, none, .h (.load 4 true (.t 2))⟩,
    ⟨some 6, none, .h (.call (.t 4) [.t 5])⟩,
    ⟨some 7, none, .p (.un .not (.t 6))⟩,
    ⟨some 3, none, .p (.mv (.t 7))⟩] [3])
  .ret)) }
theorem a212_ok : okFn Try.prog 212 a212 = true := by kernel_rfl
/-- loop.example/g01215/impl.isTube$1 -/
def a213 : AFn := { np := 1, nt := 5, res := [.t 2], body :=
  (.seq (.region [⟨some 2, none, .p (.mv (.k (.c (C.bool false))))⟩] [0])
  (.seq (.region [⟨some 3, none, .p (.mv (.t 0))⟩,
    ⟨some 4, none, .p (.bin .eql (.t 3) (.k (.c (C.int .i64 0))))⟩,
    ⟨some 2, none, .p (.mv (.t 4))⟩] [2])
  .ret)) }
theorem a213_ok : okFn Try.prog 213 a213 = true := by kernel_rfl
/-- slices.IndexFunc[[][2]int,[2]int] -/
def a214 : AFn := { np := 2, nt := 19, res := [.t 4], body :=
  (.seq (.region [⟨some 4, none, .p (.mv (.k (.c (C.int .i64 0))))⟩] [0, 1])
  (.seq (.seq (.region [⟨some 6, none, .p (.mv (.t 0))⟩,
    ⟨some 7, none, .p (.len (.t 6))⟩,
    ⟨some 8, none, .p (.mv (.k (.c (C.int .i64 0))))⟩] [0, 1, 7, 8])
  (.block 0 (.loop (.seq (.region [⟨some 9, none, .p (.bin .lss (.t 8) (.t 7))⟩] [0, 1, 7, 8, 9])
  (.seq (.cond (.t 9)
  .skip
  (.exit 0))
  (.seq (.block 1 (.seq (.region [⟨some 10, none, .p (.mv (.t 8))⟩,
    ⟨some 5, none, .p (.mv (.t 10))⟩] [0, 1, 5, 7, 8])
  (.seq (.region [⟨some 11, none, .p (.mv (.t 1))⟩,
    ⟨some 12, none, .p (.mv (.t 0))⟩,
    ⟨some 13, none, .p (.mv (.t 5))⟩,
    ⟨some 14, none, .p (.ixS 2 (.t 12) (.t 13))⟩,
    ⟨some 15, none, .h (.load 2 true (.t 14))⟩,
    ⟨some 16, none, .h (.call (.t 11) [.t 15])⟩] [0, 1, 5, 7, 8, 16])
  (.cond (.t 16)
  (.seq (.region [⟨some 17, none, .p (.mv (.t 5))⟩,
    ⟨some 4, none, .p (.mv (.t 17))⟩] [4])
  .ret)
  .skip))))
  (.region [⟨some 18, none, .p (.bin .add (.t 8) (.k (.c (C.int .i64 1))))⟩,
    ⟨some 8, none, .p (.mv (.t 18))⟩] [0, 1, 7, 8])))) [0, 1, 7, 8])))
  (.seq (.region [⟨some 4, none, .p (.mv (.k (.c (C.int .i64 (-1)))))⟩] [4])
  .ret))) }
theorem a214_ok : okFn Try.prog 214 a214 = true := by kernel_rfl
/-- slices.ContainsFunc[[][2]int,[2]int] -/
def a215 : AFn := { np := 2, nt := 9, res := [.t 4], body :=
  (.seq (.region [⟨some 4, none, .p (.mv (.k (.c (C.bool false))))⟩] [0, 1])
  (.seq (.region [⟨some 5, none, .p (.mv (.t 0))⟩,
    ⟨some 6, none, .p (.mv (.t 1))⟩,
    ⟨some 7, none, .h (.call (.f 214) [.t 5, .t 6])⟩,
    ⟨some 8, none, .p (.bin .geq (.t 7) (.k (.c (C.int .i64 0))))⟩,
    ⟨some 4, none, .p (.mv (.t 8))⟩] [4])
  .ret)) }
theorem a215_ok : okFn Try.prog 215 a215 = true := by kernel_rfl
/-- loop.example/g01215/impl.canComplete$1 -/
def a216 : AFn := { np := 2, nt := 21, res := [.t 3], body :=
  (.seq (.region [⟨some 2, none, .p (.box 2 (.t 0))⟩,
    ⟨some 3, none, .p (.mv (.k (.c (C.bool false))))⟩] [1, 2])
  (.seq (.region [⟨some 7, none, .h (.load 24 true (.t 1))⟩,
    ⟨some 8, none, .p (.ixA 2 1 (.t 2) (.k (.c (C.int .i64 0))))⟩,
    ⟨some 9, none, .h (.load 1 false (.t 8))⟩,
    ⟨some 10, none, .p (.ixA 2 1 (.t 2) (.k (.c (C.int .i64 1))))⟩,
    ⟨some 11, none, .h (.load 1 false (.t 10))⟩,
    ⟨some 12, none, .h (.call (.f 99) [.t 7, .t 9, .t 11])⟩,
    ⟨some 6, none, .p (.mv (.t 12))⟩,
    ⟨some 13, none, .p (.ext (.t 6) 0)⟩,
    ⟨some 14, none, .p (.ext (.t 6) 1)⟩,
    ⟨some 4, none, .p (.alloc (List.replicate 24 (.k (C.int .i64 0))))⟩,
    ⟨none, none, .h (.store 24 (.t 4) (.t 13))⟩,
    ⟨some 5, none, .p (.mv (.t 14))⟩] [2, 4])
  (.seq (.region [⟨some 15, none, .p (.ixA 2 1 (.t 2) (.k (.c (C.int .i64 1))))⟩,
    ⟨some 16, none, .h (.load 1 false (.t 15))⟩,
    ⟨some 17, none, .p (.fld 0 (.t 4))⟩,
    ⟨some 18, none, .p (.ixA 6 4 (.t 17) (.t 16))⟩,
    ⟨some 19, none, .h (.load 4 true (.t 18))⟩,
    ⟨some 20, none, .h (.call (.f 210) [.t 19])⟩,
    ⟨some 3, none, .p (.mv (.t 20))⟩] [3])
  .ret))) }
theorem a216_ok : okFn Try.prog 216 a216 = true := by kernel_rfl
/-- loop.example/g01215/spec.l2Pours -/
def a217 : AFn := { np := 1, nt := 26, res := [.t 2], body :=
  (.seq (.region [⟨some 1, none, .p (.box 24 (.t 0))⟩,
    ⟨some 2, none, .p (.nilsl 2)⟩] [1])
  (.seq (.region [⟨some 6, none, .p (.mksl 2 0 [.k (C.int .i64 0), .k (C.int .i64 0)] [])⟩,
    ⟨some 3, none, .p (.mv (.t 6))⟩] [1, 3])
  (.seq (.seq (.region [⟨some 4, none, .p (.mv (.k (.c (C.int .i64 0))))⟩] [1, 3, 4])
  (.block 0 (.loop (.seq (.seq (.region [⟨some 7, none, .p (.mv (.t 4))⟩,
    ⟨some 8, none, .p (.bin .lss (.t 7) (.k (.c (C.int .i64 6))))⟩] [1, 3, 4, 8])
  (.cond (.t 8)
  .skip
  (.exit 0)))
  (.seq (.block 1 (.seq (.region [⟨some 5, none, .p (.mv (.k (.c (C.int .i64 0))))⟩] [1, 3, 4, 5])
  (.block 2 (.loop (.seq (.seq (.region [⟨some 11, none, .p (.mv (.t 5))⟩,
    ⟨some 12, none, .p (.bin .lss (.t 11) (.k (.c (C.int .i64 6))))⟩] [1, 3, 4, 5, 12])
  (.cond (.t 12)
  .skip
  (.exit 2)))
  (.seq (.block 3 (.seq (.region [⟨some 15, none, .h (.load 24 true (.t 1))⟩,
    ⟨some 16, none, .p (.mv (.t 4))⟩,
    ⟨some 17, none, .p (.mv (.t 5))⟩,
    ⟨some 18, none, .h (.call (.f 198) [.t 15, .t 16, .t 17])⟩] [1, 3, 4, 5, 18])
  (.cond (.t 18)
  (.region [⟨some 19, none, .p (.mv (.t 3))⟩,
    ⟨some 20, none, .p (.mv (.t 4))⟩,
    ⟨some 21, none, .p (.mv (.t 5))⟩,
    ⟨some 22, none, .p (.build [.k (C.int .i64 0), .k (C.int .i64 0)] [(0, 1, .t 20), (1, 1, .t 21)])⟩,
    ⟨some 23, none, .p (.mksl 2 1 [.k (C.int .i64 0), .k (C.int .i64 0)] [(0, 2, .t 22)])⟩,
    ⟨some 24, none, .h (.app 2 (.t 19) (.t 23))⟩,
    ⟨some 3, none, .p (.mv (.t 24))⟩] [1, 3, 4, 5])
  .skip)))
  (.region [⟨some 13, none, .p (.mv (.t 5))⟩,
    ⟨some 14, none, .p (.bin .add (.t 13) (.k (.c (C.int .i64 1))))⟩,
    ⟨some 5, none, .p (.mv (.t 14))⟩] [1, 3, 4, 5]))) [1, 3, 4, 5]))))
  (.region [⟨some 9, none, .p (.mv (.t 4))⟩,
    ⟨some 10, none, .p (.bin .add (.t 9) (.k (.c (C.int .i64 1))))⟩,
    ⟨some 4, none, .p (.mv (.t 10))⟩] [1, 3, 4]))) [1, 3, 4])))
  (.seq (.region [⟨some 25, none, .p (.mv (.t 3))⟩,
    ⟨some 2, none, .p (.mv (.t 25))⟩] [2])
  .ret)))) }
theorem a217_ok : okFn Try.prog 217 a217 = true := by kernel_rfl
def prB : Prog
  | 99 => some a99
  | 100 => some a100
  | 101 => some a101
  | 102 => some a102
  | 103 => some a103
  | 104 => some a104
  | 105 => some a105
  | 106 => some a106
  | 107 => some a107
  | 108 => some a108
  | 109 => some a109
  | 110 => some a110
  | 111 => some a111
  | 112 => some a112
  | 113 => some a113
  | 114 => some a114
  | 115 => some a115
  | 116 => some a116
  | 117 => some a117
  | 118 => some a118
  | 119 => some a119
  | 120 => some a120
  | 121 => some a121
  | 122 => some a122
  | 123 => some a123
  | 124 => some a124
  | 125 => some a125
  | 126 => some a126
  | 127 => some a127
  | 128 => some a128
  | 129 => some a129
  | 130 => some a130
  | 131 => some a131
  | 132 => some a132
  | 133 => some a133
  | 134 => some a134
  | 135 => some a135
  | 136 => some a136
  | 137 => some a137
  | 138 => some a138
  | 139 => some a139
  | 140 => some a140
  | 141 => some a141
  | 142 => some a142
  | 143 => some a143
  | 144 => some a144
  | 145 => some a145
  | 146 => some a146
  | 147 => some a147
  | 148 => some a148
  | 149 => some a149
  | 150 => some a150
  | 151 => some a151
  | 152 => some a152
  | 153 => some a153
  | 154 => some a154
  | 155 => some a155
  | 156 => some a156
  | 157 => some a157
  | 158 => some a158
  | 159 => some a159
  | 160 => some a160
  | 161 => some a161
  | 162 => some a162
  | 163 => some a163
  | 164 => some a164
  | 165 => some a165
  | 166 => some a166
  | 167 => some a167
  | 168 => some a168
  | 169 => some a169
  | 172 => some a172
  | 174 => some a174
  | 180 => some a180
  | 181 => some a181
  | 185 => some a185
  | 186 => some a186
  | 187 => some a187
  | 188 => some a188
  | 189 => some a189
  | 190 => some a190
  | 191 => some a191
  | 192 => some a192
  | 193 => some a193
  | 194 => some a194
  | 195 => some a195
  | 196 => some a196
  | 197 => some a197
  | 198 => some a198
  | 199 => some a199
  | 200 => some a200
  | 201 => some a201
  | 202 => some a202
  | 203 => some a203
  | 204 => some a204
  | 205 => some a205
  | 206 => some a206
  | 207 => some a207
  | 208 => some a208
  | 209 => some a209
  | 210 => some a210
  | 211 => some a211
  | 212 => some a212
  | 213 => some a213
  | 214 => some a214
  | 215 => some a215
  | 216 => some a216
  | 217 => some a217
  | _ => none
theorem prB_ok : ProgOK Try.prog prB := by
  intro f fn h
  unfold prB at h
  split at h
  · injection h with h; subst h; exact a99_ok
  · injection h with h; subst h; exact a100_ok
  · injection h with h; subst h; exact a101_ok
  · injection h with h; subst h; exact a102_ok
  · injection h with h; subst h; exact a103_ok
  · injection h with h; subst h; exact a104_ok
  · injection h with h; subst h; exact a105_ok
  · injection h with h; subst h; exact a106_ok
  · injection h with h; subst h; exact a107_ok
  · injection h with h; subst h; exact a108_ok
  · injection h with h; subst h; exact a109_ok
  · injection h with h; subst h; exact a110_ok
  · injection h with h; subst h; exact a111_ok
  · injection h with h; subst h; exact a112_ok
  · injection h with h; subst h; exact a113_ok
  · injection h with h; subst h; exact a114_ok
  · injection h with h; subst h; exact a115_ok
  · injection h with h; subst h; exact a116_ok
  · injection h with h; subst h; exact a117_ok
  · injection h with h; subst h; exact a118_ok
  · injection h with h; subst h; exact a119_ok
  · injection h with h; subst h; exact a120_ok
  · injection h with h; subst h; exact a121_ok
  · injection h with h; subst h; exact a122_ok
  · injection h with h; subst h; exact a123_ok
  · injection h with h; subst h; exact a124_ok
  · injection h with h; subst h; exact a125_ok
  · injection h with h; subst h; exact a126_ok
  · injection h with h; subst h; exact a127_ok
  · injection h with h; subst h; exact a128_ok
  · injection h with h; subst h; exact a129_ok
  · injection h with h; subst h; exact a130_ok
  · injection h with h; subst h; exact a131_ok
  · injection h with h; subst h; exact a132_ok
  · injection h with h; subst h; exact a133_ok
  · injection h with h; subst h; exact a134_ok
  · injection h with h; subst h; exact a135_ok
  · injection h with h; subst h; exact a136_ok
  · injection h with h; subst h; exact a137_ok
  · injection h with h; subst h; exact a138_ok
  · injection h with h; subst h; exact a139_ok
  · injection h with h; subst h; exact a140_ok
  · injection h with h; subst h; exact a141_ok
  · injection h with h; subst h; exact a142_ok
  · injection h with h; subst h; exact a143_ok
  · injection h with h; subst h; exact a144_ok
  · injection h with h; subst h; exact a145_ok
  · injection h with h; subst h; exact a146_ok
  · injection h with h; subst h; exact a147_ok
  · injection h with h; subst h; exact a148_ok
  · injection h with h; subst h; exact a149_ok
  · injection h with h; subst h; exact a150_ok
  · injection h with h; subst h; exact a151_ok
  · injection h with h; subst h; exact a152_ok
  · injection h with h; subst h; exact a153_ok
  · injection h with h; subst h; exact a154_ok
  · injection h with h; subst h; exact a155_ok
  · injection h with h; subst h; exact a156_ok
  · injection h with h; subst h; exact a157_ok
  · injection h with h; subst h; exact a158_ok
  · injection h with h; subst h; exact a159_ok
  · injection h with h; subst h; exact a160_ok
  · injection h with h; subst h; exact a161_ok
  · injection h with h; subst h; exact a162_ok
  · injection h with h; subst h; exact a163_ok
  · injection h with h; subst h; exact a164_ok
  · injection h with h; subst h; exact a165_ok
  · injection h with h; subst h; exact a166_ok
  · injection h with h; subst h; exact a167_ok
  · injection h with h; subst h; exact a168_ok
  · injection h with h; subst h; exact a169_ok
  · injection h with h; subst h; exact a172_ok
  · injection h with h; subst h; exact a174_ok
  · injection h with h; subst h; exact a180_ok
  · injection h with h; subst h; exact a181_ok
  · injection h with h; subst h; exact a185_ok
  · injection h with h; subst h; exact a186_ok
  · injection h with h; subst h; exact a187_ok
  · injection h with h; subst h; exact a188_ok
  · injection h with h; subst h; exact a189_ok
  · injection h with h; subst h; exact a190_ok
  · injection h with h; subst h; exact a191_ok
  · injection h with h; subst h; exact a192_ok
  · injection h with h; subst h; exact a193_ok
  · injection h with h; subst h; exact a194_ok
  · injection h with h; subst h; exact a195_ok
  · injection h with h; subst h; exact a196_ok
  · injection h with h; subst h; exact a197_ok
  · injection h with h; subst h; exact a198_ok
  · injection h with h; subst h; exact a199_ok
  · injection h with h; subst h; exact a200_ok
  · injection h with h; subst h; exact a201_ok
  · injection h with h; subst h; exact a202_ok
  · injection h with h; subst h; exact a203_ok
  · injection h with h; subst h; exact a204_ok
  · injection h with h; subst h; exact a205_ok
  · injection h with h; subst h; exact a206_ok
  · injection h with h; subst h; exact a207_ok
  · injection h with h; subst h; exact a208_ok
  · injection h with h; subst h; exact a209_ok
  · injection h with h; subst h; exact a210_ok
  · injection h with h; subst h; exact a211_ok
  · injection h with h; subst h; exact a212_ok
  · injection h with h; subst h; exact a213_ok
  · injection h with h; subst h; exact a214_ok
  · injection h with h; subst h; exact a215_ok
  · injection h with h; subst h; exact a216_ok
  · injection h with h; subst h; exact a217_ok
  · cases h
end Go.Proofs.Ytoaidbmkfdpagaa.AM
