/- the functions' code in the abstract machine: printed by a program (wip/tools/genparts.py) out of the loaded program -/
import Derived.Test.YthpookdfaikabaaGreatDoorAmD
import Derived.Test.YthpookdfaikabaaGreatDoorProg
import Derived.KernelRfl
namespace Go.Proofs.YthpookdfaikabaaGreatDoor.AM
open Go
set_option maxRecDepth 100000
/-- slices.IndexFunc[[]int,int] -/
def a110 : AFn := { np := 2, nt := 19, res := [.t 4], body :=
  (.seq (.region [⟨some 4, none, .p (.mv (.k (.c (C.int .i64 0))))⟩] [0, 1])
  (.seq (.seq (.region [⟨some 6, none, .p (.mv (.t 0))⟩,
    ⟨some 7, none, .p (.len (.t 6))⟩,
    ⟨some 8, none, .p (.mv (.k (.c (C.int .i64 0))))⟩] [0, 1, 7, 8])
  (.block 0 (.loop (.seq (.region [⟨some 9, none, .p (.bin .lss (.t 8) (.t 7))⟩] [0, 1, 7, 8, 9])
  (.seq (.cond (.t 9)
  .skip
  (.exit 0))
  (.seq (.block 1 (.seq (.region [⟨some 10, none, .p (.mv (.t 8))⟩,
    ⟨some 5, none, .p (.mv (.t 10))⟩] [0, 1, 5, 7, 8])
  (.seq (.region [⟨some 11, none, .p (.mv (.t 1))⟩,
    ⟨some 12, none, .p (.mv (.t 0))⟩,
    ⟨some 13, none, .p (.mv (.t 5))⟩,
    ⟨some 14, none, .p (.ixS 1 (.t 12) (.t 13))⟩,
    ⟨some 15, none, .h (.load 1 false (.t 14))⟩,
    ⟨some 16, none, .h (.call (.t 11) [.t 15])⟩] [0, 1, 5, 7, 8, 16])
  (.cond (.t 16)
  (.seq (.region [⟨some 17, none, .p (.mv (.t 5))⟩,
    ⟨some 4, none, .p (.mv (.t 17))⟩] [4])
  .ret)
  .skip))))
  (.region [⟨some 18, none, .p (.bin .add (.t 8) (.k (.c (C.int .i64 1))))⟩,
    ⟨some 8, none, .p (.mv (.t 18))⟩] [0, 1, 7, 8])))) [0, 1, 7, 8])))
  (.seq (.region [⟨some 4, none, .p (.mv (.k (.c (C.int .i64 (-1)))))⟩] [4])
  .ret))) }
theorem a110_ok : okFn Tryz.prog 110 a110 = true := by kernel_rfl
/-- loop.example/g01215/spec.l6Runs -/
def a111 : AFn := { np := 1, nt := 18, res := [.t 2], body :=
  (.seq (.region [⟨some 1, none, .p (.box 24 (.t 0))⟩,
    ⟨some 2, none, .p (.mv (.k (.c (C.int .i64 0))))⟩] [1])
  (.seq (.region [⟨some 3, none, .p (.mv (.k (.c (C.int .i64 0))))⟩] [1, 3])
  (.seq (.seq (.region [⟨some 4, none, .p (.mv (.k (.c (C.int .i64 0))))⟩] [1, 3, 4])
  (.block 0 (.loop (.seq (.seq (.region [⟨some 5, none, .p (.mv (.t 4))⟩,
    ⟨some 6, none, .p (.bin .lss (.t 5) (.k (.c (C.int .i64 6))))⟩] [1, 3, 4, 6])
  (.cond (.t 6)
  .skip
  (.exit 0)))
  (.seq (.block 1 (.region [⟨some 9, none, .p (.mv (.t 3))⟩,
    ⟨some 10, none, .p (.mv (.t 4))⟩,
    ⟨some 11, none, .p (.fld 0 (.t 1))⟩,
    ⟨some 12, none, .p (.ixA 6 4 (.t 11) (.t 10))⟩,
    ⟨some 13, none, .h (.load 4 true (.t 12))⟩,
    ⟨some 14, none, .h (.call (.f 123) [.t 13])⟩,
    ⟨some 15, none, .p (.len (.t 14))⟩,
    ⟨some 16, none, .p (.bin .add (.t 9) (.t 15))⟩,
    ⟨some 3, none, .p (.mv (.t 16))⟩] [1, 3, 4]))
  (.region [⟨some 7, none, .p (.mv (.t 4))⟩,
    ⟨some 8, none, .p (.bin .add (.t 7) (.k (.c (C.int .i64 1))))⟩,
    ⟨some 4, none, .p (.mv (.t 8))⟩] [1, 3, 4]))) [1, 3, 4])))
  (.seq (.region [⟨some 17, none, .p (.mv (.t 3))⟩,
    ⟨some 2, none, .p (.mv (.t 17))⟩] [2])
  .ret)))) }
theorem a111_ok : okFn Tryz.prog 111 a111 = true := by kernel_rfl
/-- loop.example/g01215/spec.l2Runs -/
def a123 : AFn := { np := 1, nt := 42, res := [.t 2], body :=
  (.seq (.region [⟨some 1, none, .p (.box 4 (.t 0))⟩,
    ⟨some 2, none, .p (.nilsl 2)⟩] [1])
  (.seq (.region [⟨some 5, none, .p (.mksl 2 0 [.k (C.int .i64 0), .k (C.int .i64 0)] [])⟩,
    ⟨some 3, none, .p (.mv (.t 5))⟩] [1, 3])
  (.seq (.seq (.region [⟨some 4, none, .p (.mv (.k (.c (C.int .i64 0))))⟩] [1, 3, 4])
  (.block 0 (.loop (.seq (.seq (.region [⟨some 6, none, .p (.mv (.t 4))⟩,
    ⟨some 7, none, .h (.load 4 true (.t 1))⟩,
    ⟨some 8, none, .h (.call (.f 73) [.t 7])⟩,
    ⟨some 9, none, .p (.bin .lss (.t 6) (.t 8))⟩] [1, 3, 4, 9])
  (.cond (.t 9)
  .skip
  (.exit 0)))
  (.seq (.block 1 (.seq (.regionD [⟨some 12, none, .p (.mv (.t 4))⟩,
    ⟨some 13, none, .p (.bin .gtr (.t 12) (.k (.c (C.int .i64 0))))⟩,
    ⟨some 14, none, .p (.mv (.t 13))⟩,
    ⟨some 15, some (14, true), .p (.mv (.t 4))⟩,
    ⟨some 16, some (14, true), .p (.ixA 4 1 (.t 1) (.t 15))⟩,
    ⟨some 17, some (14, true), .h (.load 1 false (.t 16))⟩,
    ⟨some 18, some (14, true), .p (.mv (.t 4))⟩,
    ⟨some 19, some (14, true), .p (.bin .sub (.t 18) (.k (.c (C.int .i64 1))))⟩,
    ⟨some 20, some (14, true), .p (.ixA 4 1 (.t 1) (.t 19))⟩,
    ⟨some 21, some (14, true), .h (.load 1 false (.t 20))⟩,
    ⟨some 22, some (14, true), .p (.bin .eql (.t 17) (.t 21))⟩,
    ⟨some 23, none, .p (.pick (.t 14) (.t 22) (.k (.c (C.bool false))))⟩] [1, 3, 4, 23] [])
  (.cond (.t 23)
  (.regionD [⟨some 24, none, .p (.mv (.t 3))⟩,
    ⟨some 25, none, .p (.mv (.t 3))⟩,
    ⟨some 26, none, .p (.len (.t 25))⟩,
    ⟨some 27, none, .p (.bin .sub (.t 26) (.k (.c (C.int .i64 1))))⟩,
    ⟨some 28, none, .p (.ixS 2 (.t 24) (.t 27))⟩,
    ⟨some 29, none, .p (.ixA 2 1 (.t 28) (.k (.c (C.int .i64 1))))⟩,
    ⟨some 30, none, .h (.load 1 false (.t 29))⟩,
    ⟨some 31, none, .p (.bin .add (.t 30) (.k (.c (C.int .i64 1))))⟩,
    ⟨some 32, none, .p (.ixS 2 (.t 24) (.t 27))⟩,
    ⟨some 33, none, .p (.ixA 2 1 (.t 32) (.k (.c (C.int .i64 1))))⟩,
    ⟨none, none, .h (.store 1 (.t 33) (.t 31))⟩] [1, 3, 4] [])
  (.region [⟨some 34, none, .p (.mv (.t 3))⟩,
    ⟨some 35, none, .p (.mv (.t 4))⟩,
    ⟨some 36, none, .p (.ixA 4 1 (.t 1) (.t 35))⟩,
    ⟨some 37, none, .h (.load 1 false (.t 36))⟩,
    ⟨some 38, none, .p (.build [.k (C.int .i64 0), .k (C.int .i64 0)] [(0, 1, .t 37), (1, 1, .k (.c (C.int .i64 1)))])⟩,
    ⟨some 39, none, .p (.mksl 2 1 [.k (C.int .i64 0), .k (C.int .i64 0)] [(0, 2, .t 38)])⟩,
    ⟨some 40, none, .h (.app 2 (.t 34) (.t 39))⟩,
    ⟨some 3, none, .p (.mv (.t 40))⟩] [1, 3, 4]))))
  (.region [⟨some 10, none, .p (.mv (.t 4))⟩,
    ⟨some 11, none, .p (.bin .add (.t 10) (.k (.c (C.int .i64 1))))⟩,
    ⟨some 4, none, .p (.mv (.t 11))⟩] [1, 3, 4]))) [1, 3, 4])))
  (.seq (.region [⟨some 41, none, .p (.mv (.t 3))⟩,
    ⟨some 2, none, .p (.mv (.t 41))⟩] [2])
  .ret)))) }
theorem a123_ok : okFn Tryz.prog 123 a123 = true := by kernel_rfl
def prB : Prog
  | 110 => some a110
  | 111 => some a111
  | 123 => some a123
  | _ => none
theorem prB_ok : ProgOK Tryz.prog prB := by
  intro f fn h
  unfold prB at h
  split at h
  · injection h with h; subst h; exact a110_ok
  · injection h with h; subst h; exact a111_ok
  · injection h with h; subst h; exact a123_ok
  · cases h
end Go.Proofs.YthpookdfaikabaaGreatDoor.AM
