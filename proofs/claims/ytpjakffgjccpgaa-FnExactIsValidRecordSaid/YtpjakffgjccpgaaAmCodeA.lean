/- the functions' code in the abstract machine: printed by a program (wip/tools/genparts.py) out of the loaded program -/
import Derived.Test.YtpjakffgjccpgaaAmD
import Derived.Test.YtpjakffgjccpgaaProg
import Derived.KernelRfl
namespace Go.Proofs.Ytpjakffgjccpgaa.AM
open Go
set_option maxRecDepth 100000
/-- loop.example/g01215/laws.FnExactIsValidRecord -/
def a3 : AFn := { np := 1, nt := 20, res := [.t 2], body :=
  (.seq (.region [⟨some 1, none, .p (.box 2 (.t 0))⟩,
    ⟨some 2, none, .p (.mv (.k (.c (C.bool false))))⟩] [1])
  (.seq (.region [⟨some 3, none, .p (.mv (.k (.c (C.int .i64 1048576))))⟩] [1, 3])
  (.seq (.region [⟨some 6, none, .h (.load 2 true (.t 1))⟩,
    ⟨some 7, none, .p (.mv (.t 3))⟩,
    ⟨some 8, none, .h (.call (.f 4) [.t 6, .t 7])⟩,
    ⟨some 3, none, .p (.mv (.t 8))⟩] [1, 3])
  (.seq (.seq (.region [⟨some 9, none, .p (.mv (.t 3))⟩,
    ⟨some 10, none, .p (.bin .lss (.t 9) (.k (.c (C.int .i64 0))))⟩] [1, 10])
  (.cond (.t 10)
  (.seq (.region [⟨some 2, none, .p (.mv (.k (.c (C.bool true))))⟩] [2])
  .ret)
  .skip))
  (.seq (.region [⟨some 11, none, .h (.load 2 true (.t 1))⟩,
    ⟨some 12, none, .h (.call (.f 6) [.t 11])⟩,
    ⟨some 13, none, .h (.call (.f 5) [.t 12])⟩,
    ⟨some 4, none, .p (.mv (.t 13))⟩] [1, 4])
  (.seq (.region [⟨some 14, none, .h (.load 2 true (.t 1))⟩,
    ⟨some 15, none, .h (.call (.f 6) [.t 14])⟩,
    ⟨some 16, none, .h (.call (.f 7) [.t 15])⟩,
    ⟨some 5, none, .p (.mv (.t 16))⟩] [4, 5])
  (.seq (.seq (.region [⟨some 17, none, .p (.mv (.t 5))⟩,
    ⟨some 18, none, .p (.mv (.t 4))⟩,
    ⟨some 19, none, .p (.eqb true (.t 17) (.t 18))⟩] [19])
  (.cond (.t 19)
  (.seq (.region [⟨some 2, none, .p (.mv (.k (.c (C.bool false))))⟩] [2])
  .ret)
  .skip))
  (.seq (.region [⟨some 2, none, .p (.mv (.k (.c (C.bool true))))⟩] [2])
  .ret)))))))) }
theorem a3_ok : okFn Try.prog 3 a3 = true := by kernel_rfl
/-- loop.example/g01215/laws.szLogRecord -/
def a4 : AFn := { np := 2, nt := 20, res := [.t 4], body :=
  (.seq (.region [⟨some 2, none, .p (.box 2 (.t 0))⟩,
    ⟨some 4, none, .p (.mv (.k (.c (C.int .i64 0))))⟩] [1, 2])
  (.seq (.region [⟨some 5, none, .p (.mv (.t 1))⟩,
    ⟨some 6, none, .p (.fld 0 (.t 2))⟩,
    ⟨some 7, none, .h (.load 1 false (.t 6))⟩,
    ⟨some 8, none, .p (.lenStr (.t 7))⟩,
    ⟨some 9, none, .p (.bin .sub (.t 5) (.t 8))⟩,
    ⟨some 1, none, .p (.mv (.t 9))⟩] [1, 2])
  (.seq (.seq (.region [⟨some 10, none, .p (.mv (.t 1))⟩,
    ⟨some 11, none, .p (.bin .lss (.t 10) (.k (.c (C.int .i64 0))))⟩] [1, 2, 11])
  (.cond (.t 11)
  (.seq (.region [⟨some 4, none, .p (.mv (.k (.c (C.int .i64 (-1)))))⟩] [4])
  .ret)
  .skip))
  (.seq (.region [⟨some 12, none, .p (.mv (.t 1))⟩,
    ⟨some 13, none, .p (.fld 1 (.t 2))⟩,
    ⟨some 14, none, .h (.load 1 false (.t 13))⟩,
    ⟨some 15, none, .p (.lenStr (.t 14))⟩,
    ⟨some 16, none, .p (.bin .sub (.t 12) (.t 15))⟩,
    ⟨some 1, none, .p (.mv (.t 16))⟩] [1])
  (.seq (.seq (.region [⟨some 17, none, .p (.mv (.t 1))⟩,
    ⟨some 18, none, .p (.bin .lss (.t 17) (.k (.c (C.int .i64 0))))⟩] [1, 18])
  (.cond (.t 18)
  (.seq (.region [⟨some 4, none, .p (.mv (.k (.c (C.int .i64 (-1)))))⟩] [4])
  .ret)
  .skip))
  (.seq (.region [⟨some 19, none, .p (.mv (.t 1))⟩,
    ⟨some 4, none, .p (.mv (.t 19))⟩] [4])
  .ret)))))) }
theorem a4_ok : okFn Try.prog 4 a4 = true := by kernel_rfl
/-- loop.example/g01215/spec.IsValidRecord -/
def a5 : AFn := { np := 1, nt := 5, res := [.t 2], body :=
  (.seq (.region [⟨some 1, none, .p (.box 2 (.t 0))⟩,
    ⟨some 2, none, .p (.mv (.k (.c (C.bool false))))⟩] [1])
  (.seq (.region [⟨some 3, none, .h (.load 2 true (.t 1))⟩,
    ⟨some 4, none, .h (.call (.f 8) [.t 3])⟩,
    ⟨some 2, none, .p (.mv (.t 4))⟩] [2])
  .ret)) }
theorem a5_ok : okFn Try.prog 5 a5 = true := by kernel_rfl
/-- loop.example/g01215/laws.toLogRecord -/
def a6 : AFn := { np := 1, nt := 11, res := [.cell 2 2 true], body :=
  (.seq (.region [⟨some 1, none, .p (.box 2 (.t 0))⟩,
    ⟨some 2, none, .p (.alloc [.k (C.str []), .k (C.str [])])⟩] [1, 2])
  (.seq (.region [⟨some 3, none, .p (.alloc [.k (C.str []), .k (C.str [])])⟩] [1, 2, 3])
  (.seq (.region [⟨some 4, none, .p (.fld 0 (.t 1))⟩,
    ⟨some 5, none, .h (.load 1 false (.t 4))⟩,
    ⟨some 6, none, .p (.fld 0 (.t 3))⟩,
    ⟨none, none, .h (.store 1 (.t 6) (.t 5))⟩] [1, 2, 3])
  (.seq (.region [⟨some 7, none, .p (.fld 1 (.t 1))⟩,
    ⟨some 8, none, .h (.load 1 false (.t 7))⟩,
    ⟨some 9, none, .p (.fld 1 (.t 3))⟩,
    ⟨none, none, .h (.store 1 (.t 9) (.t 8))⟩] [2, 3])
  (.seq (.region [⟨some 10, none, .h (.load 2 true (.t 3))⟩,
    ⟨none, none, .h (.store 2 (.t 2) (.t 10))⟩] [2])
  .ret))))) }
theorem a6_ok : okFn Try.prog 6 a6 = true := by kernel_rfl
/-- loop.example/g01215/impl.IsValidRecord -/
def a7 : AFn := { np := 1, nt := 17, res := [.t 2], body :=
  (.seq (.region [⟨some 1, none, .p (.box 2 (.t 0))⟩,
    ⟨some 2, none, .p (.mv (.k (.c (C.bool false))))⟩] [1])
  (.seq (.region [⟨some 3, none, .p (.fld 0 (.t 1))⟩,
    ⟨some 4, none, .h (.load 1 false (.t 3))⟩,
    ⟨some 5, none, .h (.call (.f 9) [.t 4])⟩,
    ⟨some 6, none, .p (.mv (.t 5))⟩,
    ⟨some 7, some (6, true), .p (.fld 1 (.t 1))⟩,
    ⟨some 8, some (6, true), .h (.load 1 false (.t 7))⟩,
    ⟨some 9, some (6, true), .p (.lenStr (.t 8))⟩,
    ⟨some 10, some (6, true), .p (.bin .leq (.t 9) (.k (.c (C.int .i64 250))))⟩,
    ⟨some 11, none, .p (.pick (.t 6) (.t 10) (.k (.c (C.bool false))))⟩,
    ⟨some 12, none, .p (.mv (.t 11))⟩,
    ⟨some 13, some (12, true), .p (.fld 1 (.t 1))⟩,
    ⟨some 14, some (12, true), .h (.load 1 false (.t 13))⟩,
    ⟨some 15, some (12, true), .h (.call (.f 10) [.t 14])⟩,
    ⟨some 16, none, .p (.pick (.t 12) (.t 15) (.k (.c (C.bool false))))⟩,
    ⟨some 2, none, .p (.mv (.t 16))⟩] [2])
  .ret)) }
theorem a7_ok : okFn Try.prog 7 a7 = true := by kernel_rfl
/-- loop.example/g01215/spec.l12Record -/
def a8 : AFn := { np := 1, nt := 22, res := [.t 2], body :=
  (.seq (.region [⟨some 1, none, .p (.box 2 (.t 0))⟩,
    ⟨some 2, none, .p (.mv (.k (.c (C.bool false))))⟩] [1])
  (.seq (.region [⟨some 3, none, .p (.fld 0 (.t 1))⟩,
    ⟨some 4, none, .h (.load 1 false (.t 3))⟩,
    ⟨some 5, none, .p (.bin .neq (.t 4) (.k (.c (C.str []))))⟩,
    ⟨some 6, none, .p (.mv (.t 5))⟩,
    ⟨some 7, some (6, true), .p (.fld 0 (.t 1))⟩,
    ⟨some 8, some (6, true), .h (.load 1 false (.t 7))⟩,
    ⟨some 9, some (6, true), .h (.call (.f 11) [.t 8, .k (.c (C.int .i64 160))])⟩,
    ⟨some 10, none, .p (.pick (.t 6) (.t 9) (.k (.c (C.bool false))))⟩,
    ⟨some 11, none, .p (.mv (.t 10))⟩,
    ⟨some 12, some (11, true), .p (.fld 0 (.t 1))⟩,
    ⟨some 13, some (11, true), .h (.load 1 false (.t 12))⟩,
    ⟨some 14, some (11, true), .h (.call (.f 12) [.t 13, .k (.c (C.int .u8 64))])⟩,
    ⟨some 15, some (11, true), .p (.un .not (.t 14))⟩,
    ⟨some 16, none, .p (.pick (.t 11) (.t 15) (.k (.c (C.bool false))))⟩,
    ⟨some 17, none, .p (.mv (.t 16))⟩,
    ⟨some 18, some (17, true), .p (.fld 1 (.t 1))⟩,
    ⟨some 19, some (17, true), .h (.load 1 false (.t 18))⟩,
    ⟨some 20, some (17, true), .h (.call (.f 11) [.t 19, .k (.c (C.int .i64 250))])⟩,
    ⟨some 21, none, .p (.pick (.t 17) (.t 20) (.k (.c (C.bool false))))⟩,
    ⟨some 2, none, .p (.mv (.t 21))⟩] [2])
  .ret)) }
theorem a8_ok : okFn Try.prog 8 a8 = true := by kernel_rfl
/-- loop.example/g01215/impl.isCommand -/
def a9 : AFn := { np := 1, nt := 15, res := [.t 2], body :=
  (.seq (.region [⟨some 2, none, .p (.mv (.k (.c (C.bool false))))⟩] [0])
  (.seq (.region [⟨some 3, none, .p (.mv (.t 0))⟩,
    ⟨some 4, none, .p (.lenStr (.t 3))⟩,
    ⟨some 5, none, .h (.call (.f 13) [.t 4, .k (.c (C.int .i64 1)), .k (.c (C.int .i64 160))])⟩,
    ⟨some 6, none, .p (.mv (.t 5))⟩,
    ⟨some 7, some (6, true), .p (.mv (.t 0))⟩,
    ⟨some 8, some (6, true), .h (.call (.f 10) [.t 7])⟩,
    ⟨some 9, none, .p (.pick (.t 6) (.t 8) (.k (.c (C.bool false))))⟩,
    ⟨some 10, none, .p (.mv (.t 9))⟩,
    ⟨some 11, some (10, true), .p (.mv (.t 0))⟩,
    ⟨some 12, some (10, true), .h (.call (.f 14) [.t 11, .k (.c (C.str [64]))])⟩,
    ⟨some 13, some (10, true), .p (.un .not (.t 12))⟩,
    ⟨some 14, none, .p (.pick (.t 10) (.t 13) (.k (.c (C.bool false))))⟩,
    ⟨some 2, none, .p (.mv (.t 14))⟩] [2])
  .ret)) }
theorem a9_ok : okFn Try.prog 9 a9 = true := by kernel_rfl
/-- loop.example/g01215/impl.isPlainText -/
def a10 : AFn := { np := 1, nt := 11, res := [.t 2], body :=
  (.seq (.region [⟨some 2, none, .p (.mv (.k (.c (C.bool false))))⟩] [0])
  (.seq (.region [⟨some 3, none, .p (.mv (.t 0))⟩,
    ⟨some 4, none, .h (.s2b (.t 3))⟩,
    ⟨some 5, none, .h (.call (.f 15) [.t 4, .f 16])⟩,
    ⟨some 6, none, .p (.mv (.t 5))⟩,
    ⟨some 7, some (6, true), .p (.mv (.t 0))⟩,
    ⟨some 8, some (6, true), .h (.call (.f 14) [.t 7, .k (.c (C.str [35]))])⟩,
    ⟨some 9, some (6, true), .p (.un .not (.t 8))⟩,
    ⟨some 10, none, .p (.pick (.t 6) (.t 9) (.k (.c (C.bool false))))⟩,
    ⟨some 2, none, .p (.mv (.t 10))⟩] [2])
  .ret)) }
theorem a10_ok : okFn Try.prog 10 a10 = true := by kernel_rfl
/-- loop.example/g01215/spec.l12Bytes -/
def a11 : AFn := { np := 2, nt := 28, res := [.t 4], body :=
  (.seq (.region [⟨some 4, none, .p (.mv (.k (.c (C.bool false))))⟩] [0, 1])
  (.seq (.seq (.region [⟨some 5, none, .p (.mv (.k (.c (C.int .i64 0))))⟩] [0, 1, 5])
  (.block 0 (.loop (.seq (.seq (.region [⟨some 6, none, .p (.mv (.t 5))⟩,
    ⟨some 7, none, .p (.mv (.t 0))⟩,
    ⟨some 8, none, .p (.lenStr (.t 7))⟩,
    ⟨some 9, none, .p (.bin .lss (.t 6) (.t 8))⟩] [0, 1, 5, 9])
  (.cond (.t 9)
  .skip
  (.exit 0)))
  (.seq (.block 1 (.seq (.region [⟨some 12, none, .p (.mv (.t 0))⟩,
    ⟨some 13, none, .p (.mv (.t 5))⟩,
    ⟨some 14, none, .p (.ixStr (.t 12) (.t 13))⟩,
    ⟨some 15, none, .p (.conv .i64 (.t 14))⟩,
    ⟨some 16, none, .h (.call (.f 17) [.t 15, .k (.c (C.int .i64 32)), .k (.c (C.int .i64 126))])⟩,
    ⟨some 17, none, .p (.un .not (.t 16))⟩,
    ⟨some 18, none, .p (.mv (.t 17))⟩,
    ⟨some 19, some (18, false), .p (.mv (.t 0))⟩,
    ⟨some 20, some (18, false), .p (.mv (.t 5))⟩,
    ⟨some 21, some (18, false), .p (.ixStr (.t 19) (.t 20))⟩,
    ⟨some 22, some (18, false), .p (.bin .eql (.t 21) (.k (.c (C.int .u8 35))))⟩,
    ⟨some 23, none, .p (.pick (.t 18) (.k (.c (C.bool true))) (.t 22))⟩] [0, 1, 5, 23])
  (.cond (.t 23)
  (.seq (.region [⟨some 4, none, .p (.mv (.k (.c (C.bool false))))⟩] [4])
  .ret)
  .skip)))
  (.region [⟨some 10, none, .p (.mv (.t 5))⟩,
    ⟨some 11, none, .p (.bin .add (.t 10) (.k (.c (C.int .i64 1))))⟩,
    ⟨some 5, none, .p (.mv (.t 11))⟩] [0, 1, 5]))) [0, 1, 5])))
  (.seq (.region [⟨some 24, none, .p (.mv (.t 0))⟩,
    ⟨some 25, none, .p (.lenStr (.t 24))⟩,
    ⟨some 26, none, .p (.mv (.t 1))⟩,
    ⟨some 27, none, .p (.bin .leq (.t 25) (.t 26))⟩,
    ⟨some 4, none, .p (.mv (.t 27))⟩] [4])
  .ret))) }
theorem a11_ok : okFn Try.prog 11 a11 = true := by kernel_rfl
/-- loop.example/g01215/spec.l1Stands -/
def a12 : AFn := { np := 2, nt := 17, res := [.t 4], body :=
  (.seq (.region [⟨some 4, none, .p (.mv (.k (.c (C.bool false))))⟩] [0, 1])
  (.seq (.seq (.region [⟨some 5, none, .p (.mv (.k (.c (C.int .i64 0))))⟩] [0, 1, 5])
  (.block 0 (.loop (.seq (.seq (.region [⟨some 6, none, .p (.mv (.t 5))⟩,
    ⟨some 7, none, .p (.mv (.t 0))⟩,
    ⟨some 8, none, .p (.lenStr (.t 7))⟩,
    ⟨some 9, none, .p (.bin .lss (.t 6) (.t 8))⟩] [0, 1, 5, 9])
  (.cond (.t 9)
  .skip
  (.exit 0)))
  (.seq (.block 1 (.seq (.region [⟨some 12, none, .p (.mv (.t 0))⟩,
    ⟨some 13, none, .p (.mv (.t 5))⟩,
    ⟨some 14, none, .p (.ixStr (.t 12) (.t 13))⟩,
    ⟨some 15, none, .p (.mv (.t 1))⟩,
    ⟨some 16, none, .p (.bin .eql (.t 14) (.t 15))⟩] [0, 1, 5, 16])
  (.cond (.t 16)
  (.seq (.region [⟨some 4, none, .p (.mv (.k (.c (C.bool true))))⟩] [4])
  .ret)
  .skip)))
  (.region [⟨some 10, none, .p (.mv (.t 5))⟩,
    ⟨some 11, none, .p (.bin .add (.t 10) (.k (.c (C.int .i64 1))))⟩,
    ⟨some 5, none, .p (.mv (.t 11))⟩] [0, 1, 5]))) [0, 1, 5])))
  (.seq (.region [⟨some 4, none, .p (.mv (.k (.c (C.bool false))))⟩] [4])
  .ret))) }
theorem a12_ok : okFn Try.prog 12 a12 = true := by kernel_rfl
/-- loop.example/g01215/impl.within -/
def a13 : AFn := { np := 3, nt := 15, res := [.t 6], body :=
  (.seq (.region [⟨some 6, none, .p (.mv (.k (.c (C.bool false))))⟩] [0, 1, 2])
  (.seq (.region [⟨some 7, none, .p (.mv (.t 1))⟩,
    ⟨some 8, none, .p (.mv (.t 0))⟩,
    ⟨some 9, none, .p (.bin .leq (.t 7) (.t 8))⟩,
    ⟨some 10, none, .p (.mv (.t 9))⟩,
    ⟨some 11, some (10, true), .p (.mv (.t 0))⟩,
    ⟨some 12, some (10, true), .p (.mv (.t 2))⟩,
    ⟨some 13, some (10, true), .p (.bin .leq (.t 11) (.t 12))⟩,
    ⟨some 14, none, .p (.pick (.t 10) (.t 13) (.k (.c (C.bool false))))⟩,
    ⟨some 6, none, .p (.mv (.t 14))⟩] [6])
  .ret)) }
theorem a13_ok : okFn Try.prog 13 a13 = true := by kernel_rfl
/-- strings.Contains -/
def a14 : AFn := { np := 2, nt := 9, res := [.t 4], body :=
  (.seq (.region [⟨some 4, none, .p (.mv (.k (.c (C.bool false))))⟩] [0, 1])
  (.seq (.region [⟨some 5, none, .p (.mv (.t 0))⟩,
    ⟨some 6, none, .p (.mv (.t 1))⟩,
    ⟨some 7, none, .h (.call (.f 18) [.t 5, .t 6])⟩,
    ⟨some 8, none, .p (.bin .geq (.t 7) (.k (.c (C.int .i64 0))))⟩,
    ⟨some 4, none, .p (.mv (.t 8))⟩] [4])
  .ret)) }
theorem a14_ok : okFn Try.prog 14 a14 = true := by kernel_rfl
/-- loop.example/g01215/impl.areAll[byte] -/
def a15 : AFn := { np := 2, nt := 9, res := [.t 4], body :=
  (.seq (.region [⟨some 3, none, .p (.box 1 (.t 1))⟩,
    ⟨some 4, none, .p (.mv (.k (.c (C.bool false))))⟩] [0, 3])
  (.seq (.region [⟨some 5, none, .p (.mv (.t 0))⟩,
    ⟨some 6, none, .p (.mkfn 20 [.t 3])⟩,
    ⟨some 7, none, .h (.call (.f 19) [.t 5, .t 6])⟩,
    ⟨some 8, none, .p (.un .not (.t 7))⟩,
    ⟨some 4, none, .p (.mv (.t 8))⟩] [4])
  .ret)) }
theorem a15_ok : okFn Try.prog 15 a15 = true := by kernel_rfl
/-- loop.example/g01215/impl.isPlainText$1 -/
def a16 : AFn := { np := 1, nt := 9, res := [.t 2], body :=
  (.seq (.region [⟨some 2, none, .p (.mv (.k (.c (C.bool false))))⟩] [0])
  (.seq (.region [⟨some 3, none, .p (.mv (.t 0))⟩,
    ⟨some 4, none, .p (.bin .geq (.t 3) (.k (.c (C.int .u8 32))))⟩,
    ⟨some 5, none, .p (.mv (.t 4))⟩,
    ⟨some 6, some (5, true), .p (.mv (.t 0))⟩,
    ⟨some 7, some (5, true), .p (.bin .leq (.t 6) (.k (.c (C.int .u8 126))))⟩,
    ⟨some 8, none, .p (.pick (.t 5) (.t 7) (.k (.c (C.bool false))))⟩,
    ⟨some 2, none, .p (.mv (.t 8))⟩] [2])
  .ret)) }
theorem a16_ok : okFn Try.prog 16 a16 = true := by kernel_rfl
/-- loop.example/g01215/spec.l1In -/
def a17 : AFn := { np := 3, nt := 15, res := [.t 6], body :=
  (.seq (.region [⟨some 6, none, .p (.mv (.k (.c (C.bool false))))⟩] [0, 1, 2])
  (.seq (.region [⟨some 7, none, .p (.mv (.t 0))⟩,
    ⟨some 8, none, .p (.mv (.t 1))⟩,
    ⟨some 9, none, .p (.bin .geq (.t 7) (.t 8))⟩,
    ⟨some 10, none, .p (.mv (.t 9))⟩,
    ⟨some 11, some (10, true), .p (.mv (.t 0))⟩,
    ⟨some 12, some (10, true), .p (.mv (.t 2))⟩,
    ⟨some 13, some (10, true), .p (.bin .leq (.t 11) (.t 12))⟩,
    ⟨some 14, none, .p (.pick (.t 10) (.t 13) (.k (.c (C.bool false))))⟩,
    ⟨some 6, none, .p (.mv (.t 14))⟩] [6])
  .ret)) }
theorem a17_ok : okFn Try.prog 17 a17 = true := by kernel_rfl
/-- strings.Index -/
def a18 : AFn := { np := 2, nt := 8, res := [.t 4], body :=
  (.seq (.region [⟨some 4, none, .p (.mv (.k (.c (C.int .i64 0))))⟩] [0, 1])
  (.seq (.region [⟨some 5, none, .p (.mv (.t 0))⟩,
    ⟨some 6, none, .p (.mv (.t 1))⟩,
    ⟨some 7, none, .h (.call (.f 21) [.t 5, .t 6])⟩,
    ⟨some 4, none, .p (.mv (.t 7))⟩] [4])
  .ret)) }
theorem a18_ok : okFn Try.prog 18 a18 = true := by kernel_rfl
/-- slices.ContainsFunc[[]byte,byte] -/
def a19 : AFn := { np := 2, nt := 9, res := [.t 4], body :=
  (.seq (.region [⟨some 4, none, .p (.mv (.k (.c (C.bool false))))⟩] [0, 1])
  (.seq (.region [⟨some 5, none, .p (.mv (.t 0))⟩,
    ⟨some 6, none, .p (.mv (.t 1))⟩,
    ⟨some 7, none, .h (.call (.f 22) [.t 5, .t 6])⟩,
    ⟨some 8, none, .p (.bin .geq (.t 7) (.k (.c (C.int .i64 0))))⟩,
    ⟨some 4, none, .p (.mv (.t 8))⟩] [4])
  .ret)) }
theorem a19_ok : okFn Try.prog 19 a19 = true := by kernel_rfl
/-- loop.example/g01215/impl.areAll[byte]$1 -/
def a20 : AFn := { np := 2, nt := 8, res := [.t 3], body :=
  (.seq (.region [⟨some 3, none, .p (.mv (.k (.c (C.bool false))))⟩] [0, 1])
  (.seq (.region [⟨some 4, none, .h (.load 1 false (.t 1))⟩,
    ⟨some 5, none, .p (.mv (.t 0))⟩,
    ⟨some 6, none, .h (.call (.t 4) [.t 5])⟩,
    ⟨some 7, none, .p (.un .not (.t 6))⟩,
    ⟨some 3, none, .p (.mv (.t 7))⟩] [3])
  .ret)) }
theorem a20_ok : okFn Try.prog 20 a20 = true := by kernel_rfl
/-- slices.IndexFunc[[]byte,byte] -/
def a22 : AFn := { np := 2, nt := 19, res := [.t 4], body :=
  (.seq (.region [⟨some 4, none, .p (.mv (.k (.c (C.int .i64 0))))⟩] [0, 1])
  (.seq (.seq (.region [⟨some 6, none, .p (.mv (.t 0))⟩,
    ⟨some 7, none, .p (.len (.t 6))⟩,
    ⟨some 8, none, .p (.mv (.k (.c (C.int .i64 0))))⟩] [0, 1, 7, 8])
  (.block 0 (.loop (.seq (.region [⟨some 9, none, .p (.bin .lss (.t 8) (.t 7))⟩] [0, 1, 7, 8, 9])
  (.seq (.cond (.t 9)
  .skip
  (.exit 0))
  (.seq (.block 1 (.seq (.region [⟨some 10, none, .p (.mv (.t 8))⟩,
    ⟨some 5, none, .p (.mv (.t 10))⟩] [0, 1, 5, 7, 8])
  (.seq (.region [⟨some 11, none, .p (.mv (.t 1))⟩,
    ⟨some 12, none, .p (.mv (.t 0))⟩,
    ⟨some 13, none, .p (.mv (.t 5))⟩,
    ⟨some 14, none, .p (.ixS 1 (.t 12) (.t 13))⟩,
    ⟨some 15, none, .h (.load 1 false (.t 14))⟩,
    ⟨some 16, none, .h (.call (.t 11) [.t 15])⟩] [0, 1, 5, 7, 8, 16])
  (.cond (.t 16)
  (.seq (.region [⟨some 17, none, .p (.mv (.t 5))⟩,
    ⟨some 4, none, .p (.mv (.t 17))⟩] [4])
  .ret)
  .skip))))
  (.region [⟨some 18, none, .p (.bin .add (.t 8) (.k (.c (C.int .i64 1))))⟩,
    ⟨some 8, none, .p (.mv (.t 18))⟩] [0, 1, 7, 8])))) [0, 1, 7, 8])))
  (.seq (.region [⟨some 4, none, .p (.mv (.k (.c (C.int .i64 (-1)))))⟩] [4])
  .ret))) }
theorem a22_ok : okFn Try.prog 22 a22 = true := by kernel_rfl
def prA : Prog
  | 3 => some a3
  | 4 => some a4
  | 5 => some a5
  | 6 => some a6
  | 7 => some a7
  | 8 => some a8
  | 9 => some a9
  | 10 => some a10
  | 11 => some a11
  | 12 => some a12
  | 13 => some a13
  | 14 => some a14
  | 15 => some a15
  | 16 => some a16
  | 17 => some a17
  | 18 => some a18
  | 19 => some a19
  | 20 => some a20
  | 22 => some a22
  | _ => none
theorem prA_ok : ProgOK Try.prog prA := by
  intro f fn h
  unfold prA at h
  split at h
  · injection h with h; subst h; exact a3_ok
  · injection h with h; subst h; exact a4_ok
  · injection h with h; subst h; exact a5_ok
  · injection h with h; subst h; exact a6_ok
  · injection h with h; subst h; exact a7_ok
  · injection h with h; subst h; exact a8_ok
  · injection h with h; subst h; exact a9_ok
  · injection h with h; subst h; exact a10_ok
  · injection h with h; subst h; exact a11_ok
  · injection h with h; subst h; exact a12_ok
  · injection h with h; subst h; exact a13_ok
  · injection h with h; subst h; exact a14_ok
  · injection h with h; subst h; exact a15_ok
  · injection h with h; subst h; exact a16_ok
  · injection h with h; subst h; exact a17_ok
  · injection h with h; subst h; exact a18_ok
  · injection h with h; subst h; exact a19_ok
  · injection h with h; subst h; exact a20_ok
  · injection h with h; subst h; exact a22_ok
  · cases h
end Go.Proofs.Ytpjakffgjccpgaa.AM
