/- the functions' code in the abstract machine: printed by a program (wip/tools/genparts.py) out of the loaded program -/
import Derived.Test.YtgpafbbnobanbaaGreatDoorAmD
import Derived.Test.YtgpafbbnobanbaaGreatDoorProg
import Derived.KernelRfl
namespace Go.Proofs.YtgpafbbnobanbaaGreatDoor.AM
open Go
set_option maxRecDepth 100000
/-- loop.example/g01215/spec.SwapTubes -/
def a138 : AFn := { np := 3, nt := 41, res := [.cell 6 24 true, .t 7], body :=
 (.seq (.region [⟨some 3, none, .p (.box 24 (.t 0))⟩,⟨some 6, none, .p (.alloc (List.replicate 24 (.k (C.int .i64 0))))⟩,⟨some 7, none, .p (.mv (.k (.c (C.bool false))))⟩] [1, 2, 3, 6])
 (.seq (.seq (.region [⟨some 10, none, .h (.load 24 true (.t 3))⟩,⟨some 11, none, .h (.call (.f 45) [.t 10])⟩,⟨some 12, none, .p (.un .not (.t 11))⟩,⟨some 13, none, .p (.mv (.t 12))⟩,⟨some 14, some (13, false), .p (.mv (.t 1))⟩,⟨some 15, some (13, false), .h (.call (.f 176) [.t 14])⟩,⟨some 16, some (13, false), .p (.un .not (.t 15))⟩,⟨some 17, none, .p (.pick (.t 13) (.k (.c (C.bool true))) (.t 16))⟩,⟨some 18, none, .p (.mv (.t 17))⟩,⟨some 19, some (18, false), .p (.mv (.t 2))⟩,⟨some 20, some (18, false), .h (.call (.f 176) [.t 19])⟩,⟨some 21, some (18, false), .p (.un .not (.t 20))⟩,⟨some 22, none, .p (.pick (.t 18) (.k (.c (C.bool true))) (.t 21))⟩] [1, 2, 3, 6, 22])
 (.cond (.t 22)
 (.seq (.region [⟨some 23, none, .p (.build (List.replicate 24 (.k (C.int .i64 0))) [])⟩,⟨none, none, .h (.store 24 (.t 6) (.t 23))⟩,⟨some 7, none, .p (.mv (.k (.c (C.bool false))))⟩] [6, 7])
  .ret)
  .skip))
 (.seq (.regionD [⟨some 24, none, .p (.mv (.t 1))⟩,⟨some 25, none, .p (.fld 0 (.t 3))⟩,⟨some 26, none, .p (.ixA 6 4 (.t 25) (.t 24))⟩,⟨some 27, none, .h (.load 4 true (.t 26))⟩,⟨some 28, none, .p (.mv (.t 2))⟩,⟨some 29, none, .p (.fld 0 (.t 3))⟩,⟨some 30, none, .p (.ixA 6 4 (.t 29) (.t 28))⟩,⟨some 31, none, .h (.load 4 true (.t 30))⟩,⟨some 8, none, .p (.alloc [.k (C.int .i64 0), .k (C.int .i64 0), .k (C.int .i64 0), .k (C.int .i64 0)])⟩,⟨some 9, none, .p (.alloc [.k (C.int .i64 0), .k (C.int .i64 0), .k (C.int .i64 0), .k (C.int .i64 0)])⟩,⟨none, none, .h (.store 4 (.t 8) (.t 27))⟩,⟨none, none, .h (.store 4 (.t 9) (.t 31))⟩] [1, 2, 3, 6, 8, 9] [(.t 30, .t 8)])
 (.seq (.region [⟨some 32, none, .p (.mv (.t 1))⟩,⟨some 33, none, .h (.load 4 true (.t 9))⟩,⟨some 34, none, .p (.fld 0 (.t 3))⟩,⟨some 35, none, .p (.ixA 6 4 (.t 34) (.t 32))⟩,⟨none, none, .h (.store 4 (.t 35) (.t 33))⟩] [2, 3, 6, 8])
 (.seq (.region [⟨some 36, none, .p (.mv (.t 2))⟩,⟨some 37, none, .h (.load 4 true (.t 8))⟩,⟨some 38, none, .p (.fld 0 (.t 3))⟩,⟨some 39, none, .p (.ixA 6 4 (.t 38) (.t 36))⟩,⟨none, none, .h (.store 4 (.t 39) (.t 37))⟩] [3, 6])
 (.seq (.region [⟨some 40, none, .h (.load 24 true (.t 3))⟩,⟨none, none, .h (.store 24 (.t 6) (.t 40))⟩,⟨some 7, none, .p (.mv (.k (.c (C.bool true))))⟩] [6, 7])
  .ret)))))) }
theorem a138_ok : okFn Tryz.prog 138 a138 = true := by kernel_rfl
/-- loop.example/g01215/spec.PourBack -/
def a139 : AFn := { np := 2, nt := 15, res := [.cell 4 24 true, .t 5], body :=
 (.seq (.region [⟨some 2, none, .p (.box 24 (.t 0))⟩,⟨some 3, none, .p (.box 3 (.t 1))⟩,⟨some 4, none, .p (.alloc (List.replicate 24 (.k (C.int .i64 0))))⟩,⟨some 5, none, .p (.mv (.k (.c (C.bool false))))⟩] [2, 3, 4])
 (.seq (.seq (.region [⟨some 6, none, .h (.load 24 true (.t 2))⟩,⟨some 7, none, .h (.call (.f 45) [.t 6])⟩,⟨some 8, none, .p (.un .not (.t 7))⟩] [2, 3, 4, 8])
 (.cond (.t 8)
 (.seq (.region [⟨some 9, none, .p (.build (List.replicate 24 (.k (C.int .i64 0))) [])⟩,⟨none, none, .h (.store 24 (.t 4) (.t 9))⟩,⟨some 5, none, .p (.mv (.k (.c (C.bool false))))⟩] [4, 5])
  .ret)
  .skip))
 (.seq (.region [⟨some 10, none, .h (.load 24 true (.t 2))⟩,⟨some 11, none, .h (.load 3 true (.t 3))⟩,⟨some 12, none, .h (.call (.f 180) [.t 10, .t 11])⟩,⟨some 13, none, .p (.ext (.t 12) 0)⟩,⟨some 14, none, .p (.ext (.t 12) 1)⟩,⟨none, none, .h (.store 24 (.t 4) (.t 13))⟩,⟨some 5, none, .p (.mv (.t 14))⟩] [4, 5])
  .ret))) }
theorem a139_ok : okFn Tryz.prog 139 a139 = true := by kernel_rfl
/-- loop.example/g01215/spec.l2Pours -/
def a140 : AFn := { np := 1, nt := 26, res := [.t 2], body :=
 (.seq (.region [⟨some 1, none, .p (.box 24 (.t 0))⟩,⟨some 2, none, .p (.nilsl 2)⟩] [1])
 (.seq (.region [⟨some 6, none, .p (.mksl 2 0 [.k (C.int .i64 0), .k (C.int .i64 0)] [])⟩,⟨some 3, none, .p (.mv (.t 6))⟩] [1, 3])
 (.seq (.seq (.region [⟨some 4, none, .p (.mv (.k (.c (C.int .i64 0))))⟩] [1, 3, 4])
 (.block 0 (.loop (.seq (.seq (.region [⟨some 7, none, .p (.mv (.t 4))⟩,⟨some 8, none, .p (.bin .lss (.t 7) (.k (.c (C.int .i64 6))))⟩] [1, 3, 4, 8])
 (.cond (.t 8)
  .skip
 (.exit 0)))
 (.seq (.block 1 (.seq (.region [⟨some 5, none, .p (.mv (.k (.c (C.int .i64 0))))⟩] [1, 3, 4, 5])
 (.block 2 (.loop (.seq (.seq (.region [⟨some 11, none, .p (.mv (.t 5))⟩,⟨some 12, none, .p (.bin .lss (.t 11) (.k (.c (C.int .i64 6))))⟩] [1, 3, 4, 5, 12])
 (.cond (.t 12)
  .skip
 (.exit 2)))
 (.seq (.block 3 (.seq (.region [⟨some 15, none, .h (.load 24 true (.t 1))⟩,⟨some 16, none, .p (.mv (.t 4))⟩,⟨some 17, none, .p (.mv (.t 5))⟩,⟨some 18, none, .h (.call (.f 177) [.t 15, .t 16, .t 17])⟩] [1, 3, 4, 5, 18])
 (.cond (.t 18)
 (.region [⟨some 19, none, .p (.mv (.t 3))⟩,⟨some 20, none, .p (.mv (.t 4))⟩,⟨some 21, none, .p (.mv (.t 5))⟩,⟨some 22, none, .p (.build [.k (C.int .i64 0), .k (C.int .i64 0)] [(0, 1, .t 20), (1, 1, .t 21)])⟩,⟨some 23, none, .p (.mksl 2 1 [.k (C.int .i64 0), .k (C.int .i64 0)] [(0, 2, .t 22)])⟩,⟨some 24, none, .h (.app 2 (.t 19) (.t 23))⟩,⟨some 3, none, .p (.mv (.t 24))⟩] [1, 3, 4, 5])
  .skip)))
 (.region [⟨some 13, none, .p (.mv (.t 5))⟩,⟨some 14, none, .p (.bin .add (.t 13) (.k (.c (C.int .i64 1))))⟩,⟨some 5, none, .p (.mv (.t 14))⟩] [1, 3, 4, 5]))) [1, 3, 4, 5]))))
 (.region [⟨some 9, none, .p (.mv (.t 4))⟩,⟨some 10, none, .p (.bin .add (.t 9) (.k (.c (C.int .i64 1))))⟩,⟨some 4, none, .p (.mv (.t 10))⟩] [1, 3, 4]))) [1, 3, 4])))
 (.seq (.region [⟨some 25, none, .p (.mv (.t 3))⟩,⟨some 2, none, .p (.mv (.t 25))⟩] [2])
  .ret)))) }
theorem a140_ok : okFn Tryz.prog 140 a140 = true := by kernel_rfl
/-- loop.example/g01215/spec.l5Sources -/
def a141 : AFn := { np := 1, nt := 39, res := [.t 2], body :=
 (.seq (.region [⟨some 1, none, .p (.box 24 (.t 0))⟩,⟨some 2, none, .p (.nilsl 3)⟩] [1])
 (.seq (.region [⟨some 10, none, .p (.mksl 3 0 [.k (C.int .i64 0), .k (C.int .i64 0), .k (C.int .i64 0)] [])⟩,⟨some 3, none, .p (.mv (.t 10))⟩] [1, 3])
 (.seq (.seq (.region [⟨some 4, none, .p (.mv (.k (.c (C.int .i64 0))))⟩] [1, 3, 4])
 (.block 0 (.loop (.seq (.seq (.region [⟨some 11, none, .p (.mv (.t 4))⟩,⟨some 12, none, .p (.bin .lss (.t 11) (.k (.c (C.int .i64 6))))⟩] [1, 3, 4, 12])
 (.cond (.t 12)
  .skip
 (.exit 0)))
 (.seq (.block 1 (.seq (.region [⟨some 5, none, .p (.mv (.k (.c (C.int .i64 0))))⟩] [1, 3, 4, 5])
 (.block 2 (.loop (.seq (.seq (.region [⟨some 15, none, .p (.mv (.t 5))⟩,⟨some 16, none, .p (.bin .lss (.t 15) (.k (.c (C.int .i64 6))))⟩] [1, 3, 4, 5, 16])
 (.cond (.t 16)
  .skip
 (.exit 2)))
 (.seq (.block 3 (.seq (.region [⟨some 6, none, .p (.mv (.k (.c (C.int .i64 1))))⟩] [1, 3, 4, 5, 6])
 (.block 4 (.loop (.seq (.seq (.region [⟨some 19, none, .p (.mv (.t 6))⟩,⟨some 20, none, .p (.bin .leq (.t 19) (.k (.c (C.int .i64 4))))⟩] [1, 3, 4, 5, 6, 20])
 (.cond (.t 20)
  .skip
 (.exit 4)))
 (.seq (.block 5 (.seq (.region [⟨some 23, none, .p (.mv (.t 4))⟩,⟨some 24, none, .p (.mv (.t 5))⟩,⟨some 25, none, .p (.mv (.t 6))⟩,⟨some 26, none, .p (.build [.k (C.int .i64 0), .k (C.int .i64 0), .k (C.int .i64 0)] [(0, 1, .t 23), (1, 1, .t 24), (2, 1, .t 25)])⟩,⟨some 7, none, .p (.alloc [.k (C.int .i64 0), .k (C.int .i64 0), .k (C.int .i64 0)])⟩,⟨none, none, .h (.store 3 (.t 7) (.t 26))⟩] [1, 3, 4, 5, 6, 7])
 (.seq (.region [⟨some 28, none, .h (.load 24 true (.t 1))⟩,⟨some 29, none, .h (.load 3 true (.t 7))⟩,⟨some 30, none, .h (.call (.f 180) [.t 28, .t 29])⟩,⟨some 27, none, .p (.mv (.t 30))⟩,⟨some 31, none, .p (.ext (.t 27) 0)⟩,⟨some 32, none, .p (.ext (.t 27) 1)⟩,⟨some 8, none, .p (.alloc (List.replicate 24 (.k (C.int .i64 0))))⟩,⟨none, none, .h (.store 24 (.t 8) (.t 31))⟩,⟨some 9, none, .p (.mv (.t 32))⟩] [1, 3, 4, 5, 6, 7, 9])
 (.seq (.region [⟨some 33, none, .p (.mv (.t 9))⟩] [1, 3, 4, 5, 6, 7, 33])
 (.cond (.t 33)
 (.region [⟨some 34, none, .p (.mv (.t 3))⟩,⟨some 35, none, .h (.load 3 true (.t 7))⟩,⟨some 36, none, .p (.mksl 3 1 [.k (C.int .i64 0), .k (C.int .i64 0), .k (C.int .i64 0)] [(0, 3, .t 35)])⟩,⟨some 37, none, .h (.app 3 (.t 34) (.t 36))⟩,⟨some 3, none, .p (.mv (.t 37))⟩] [1, 3, 4, 5, 6])
  .skip)))))
 (.region [⟨some 21, none, .p (.mv (.t 6))⟩,⟨some 22, none, .p (.bin .add (.t 21) (.k (.c (C.int .i64 1))))⟩,⟨some 6, none, .p (.mv (.t 22))⟩] [1, 3, 4, 5, 6]))) [1, 3, 4, 5, 6]))))
 (.region [⟨some 17, none, .p (.mv (.t 5))⟩,⟨some 18, none, .p (.bin .add (.t 17) (.k (.c (C.int .i64 1))))⟩,⟨some 5, none, .p (.mv (.t 18))⟩] [1, 3, 4, 5]))) [1, 3, 4, 5]))))
 (.region [⟨some 13, none, .p (.mv (.t 4))⟩,⟨some 14, none, .p (.bin .add (.t 13) (.k (.c (C.int .i64 1))))⟩,⟨some 4, none, .p (.mv (.t 14))⟩] [1, 3, 4]))) [1, 3, 4])))
 (.seq (.region [⟨some 38, none, .p (.mv (.t 3))⟩,⟨some 2, none, .p (.mv (.t 38))⟩] [2])
  .ret)))) }
theorem a141_ok : okFn Tryz.prog 141 a141 = true := by kernel_rfl
/-- loop.example/g01215/impl.readRecords -/
def a143 : AFn := { np := 1, nt := 30, res := [.t 2, .t 3], body :=
 (.seq (.region [⟨some 2, none, .p (.nilsl 2)⟩,⟨some 3, none, .p (.mv (.k (.c (C.int .i64 0))))⟩] [0])
 (.seq (.region [⟨some 4, none, .p (.nilsl 2)⟩] [0, 4])
 (.seq (.region [⟨some 5, none, .p (.mv (.k (.c (C.int .i64 0))))⟩] [0, 4, 5])
 (.block 0 (.loop (.block 1 (.seq (.region [⟨some 10, none, .p (.mv (.t 4))⟩,⟨some 11, none, .p (.len (.t 10))⟩,⟨some 12, none, .p (.mv (.t 0))⟩,⟨some 13, none, .p (.mv (.t 5))⟩,⟨some 14, none, .p (.slStr (.t 12) (some (.t 13)) none)⟩,⟨some 15, none, .h (.call (.f 182) [.t 11, .t 14])⟩,⟨some 9, none, .p (.mv (.t 15))⟩,⟨some 16, none, .p (.ext (.t 9) 0)⟩,⟨some 17, none, .p (.ext (.t 9) 1)⟩,⟨some 18, none, .p (.ext (.t 9) 2)⟩,⟨some 6, none, .p (.alloc [.k (C.str []), .k (C.str [])])⟩,⟨none, none, .h (.store 2 (.t 6) (.t 16))⟩,⟨some 7, none, .p (.mv (.t 17))⟩,⟨some 8, none, .p (.mv (.t 18))⟩] [0, 4, 5, 6, 7, 8])
 (.seq (.seq (.region [⟨some 19, none, .p (.mv (.t 8))⟩,⟨some 20, none, .p (.un .not (.t 19))⟩] [0, 4, 5, 6, 7, 20])
 (.cond (.t 20)
 (.seq (.region [⟨some 21, none, .p (.mv (.t 4))⟩,⟨some 22, none, .p (.mv (.t 5))⟩,⟨some 2, none, .p (.mv (.t 21))⟩,⟨some 3, none, .p (.mv (.t 22))⟩] [2, 3])
  .ret)
  .skip))
 (.seq (.region [⟨some 23, none, .p (.mv (.t 4))⟩,⟨some 24, none, .h (.load 2 true (.t 6))⟩,⟨some 25, none, .p (.mksl 2 1 [.k (C.str []), .k (C.str [])] [(0, 2, .t 24)])⟩,⟨some 26, none, .h (.app 2 (.t 23) (.t 25))⟩,⟨some 4, none, .p (.mv (.t 26))⟩] [0, 4, 5, 7])
 (.region [⟨some 27, none, .p (.mv (.t 5))⟩,⟨some 28, none, .p (.mv (.t 7))⟩,⟨some 29, none, .p (.bin .add (.t 27) (.t 28))⟩,⟨some 5, none, .p (.mv (.t 29))⟩] [0, 4, 5]))))) [0, 4, 5]))))) }
theorem a143_ok : okFn Tryz.prog 143 a143 = true := by kernel_rfl
/-- slices.ContainsFunc[[]byte,byte] -/
def a144 : AFn := { np := 2, nt := 9, res := [.t 4], body :=
 (.seq (.region [⟨some 4, none, .p (.mv (.k (.c (C.bool false))))⟩] [0, 1])
 (.seq (.region [⟨some 5, none, .p (.mv (.t 0))⟩,⟨some 6, none, .p (.mv (.t 1))⟩,⟨some 7, none, .h (.call (.f 183) [.t 5, .t 6])⟩,⟨some 8, none, .p (.bin .geq (.t 7) (.k (.c (C.int .i64 0))))⟩,⟨some 4, none, .p (.mv (.t 8))⟩] [4])
  .ret)) }
theorem a144_ok : okFn Tryz.prog 144 a144 = true := by kernel_rfl
/-- loop.example/g01215/impl.areAll[byte]$1 -/
def a145 : AFn := { np := 2, nt := 8, res := [.t 3], body :=
 (.seq (.region [⟨some 3, none, .p (.mv (.k (.c (C.bool false))))⟩] [0, 1])
 (.seq (.region [⟨some 4, none, .h (.load 1 false (.t 1))⟩,⟨some 5, none, .p (.mv (.t 0))⟩,⟨some 6, none, .h (.call (.t 4) [.t 5])⟩,⟨some 7, none, .p (.un .not (.t 6))⟩,⟨some 3, none, .p (.mv (.t 7))⟩] [3])
  .ret)) }
theorem a145_ok : okFn Tryz.prog 145 a145 = true := by kernel_rfl
/-- loop.example/g01215/impl.checksum -/
def a167 : AFn := { np := 1, nt := 22, res := [.t 2], body :=
 (.seq (.region [⟨some 2, none, .p (.mv (.k (.c (C.int .i64 0))))⟩] [0])
 (.seq (.region [⟨some 3, none, .p (.mv (.k (.c (C.int .i64 7))))⟩] [0, 3])
 (.seq (.seq (.region [⟨some 6, none, .p (.mv (.t 0))⟩,⟨some 7, none, .h (.s2b (.t 6))⟩,⟨some 8, none, .p (.len (.t 7))⟩,⟨some 9, none, .p (.mv (.k (.c (C.int .i64 0))))⟩] [3, 7, 8, 9])
 (.block 0 (.loop (.seq (.region [⟨some 10, none, .p (.bin .lss (.t 9) (.t 8))⟩] [3, 7, 8, 9, 10])
 (.seq (.cond (.t 10)
  .skip
 (.exit 0))
 (.seq (.block 1 (.seq (.region [⟨some 11, none, .p (.ixS 1 (.t 7) (.t 9))⟩,⟨some 12, none, .h (.load 1 false (.t 11))⟩,⟨some 5, none, .p (.mv (.t 12))⟩] [3, 5, 7, 8, 9])
 (.region [⟨some 13, none, .p (.mv (.t 3))⟩,⟨some 14, none, .p (.bin .mul (.k (.c (C.int .i64 41))) (.t 13))⟩,⟨some 15, none, .p (.mv (.t 5))⟩,⟨some 16, none, .p (.conv .i64 (.t 15))⟩,⟨some 17, none, .p (.bin .add (.t 14) (.t 16))⟩,⟨some 18, none, .p (.bin .add (.t 17) (.k (.c (C.int .i64 1))))⟩,⟨some 19, none, .p (.bin .rem (.t 18) (.k (.c (C.int .i64 999979))))⟩,⟨some 3, none, .p (.mv (.t 19))⟩] [3, 7, 8, 9])))
 (.region [⟨some 20, none, .p (.bin .add (.t 9) (.k (.c (C.int .i64 1))))⟩,⟨some 9, none, .p (.mv (.t 20))⟩] [3, 7, 8, 9])))) [3, 7, 8, 9])))
 (.seq (.region [⟨some 21, none, .p (.mv (.t 3))⟩,⟨some 2, none, .p (.mv (.t 21))⟩] [2])
  .ret)))) }
theorem a167_ok : okFn Tryz.prog 167 a167 = true := by kernel_rfl
/-- slices.IndexFunc[[][4]int,[4]int] -/
def a168 : AFn := { np := 2, nt := 19, res := [.t 4], body :=
 (.seq (.region [⟨some 4, none, .p (.mv (.k (.c (C.int .i64 0))))⟩] [0, 1])
 (.seq (.seq (.region [⟨some 6, none, .p (.mv (.t 0))⟩,⟨some 7, none, .p (.len (.t 6))⟩,⟨some 8, none, .p (.mv (.k (.c (C.int .i64 0))))⟩] [0, 1, 7, 8])
 (.block 0 (.loop (.seq (.region [⟨some 9, none, .p (.bin .lss (.t 8) (.t 7))⟩] [0, 1, 7, 8, 9])
 (.seq (.cond (.t 9)
  .skip
 (.exit 0))
 (.seq (.block 1 (.seq (.region [⟨some 10, none, .p (.mv (.t 8))⟩,⟨some 5, none, .p (.mv (.t 10))⟩] [0, 1, 5, 7, 8])
 (.seq (.region [⟨some 11, none, .p (.mv (.t 1))⟩,⟨some 12, none, .p (.mv (.t 0))⟩,⟨some 13, none, .p (.mv (.t 5))⟩,⟨some 14, none, .p (.ixS 4 (.t 12) (.t 13))⟩,⟨some 15, none, .h (.load 4 true (.t 14))⟩,⟨some 16, none, .h (.call (.t 11) [.t 15])⟩] [0, 1, 5, 7, 8, 16])
 (.cond (.t 16)
 (.seq (.region [⟨some 17, none, .p (.mv (.t 5))⟩,⟨some 4, none, .p (.mv (.t 17))⟩] [4])
  .ret)
  .skip))))
 (.region [⟨some 18, none, .p (.bin .add (.t 8) (.k (.c (C.int .i64 1))))⟩,⟨some 8, none, .p (.mv (.t 18))⟩] [0, 1, 7, 8])))) [0, 1, 7, 8])))
 (.seq (.region [⟨some 4, none, .p (.mv (.k (.c (C.int .i64 (-1)))))⟩] [4])
  .ret))) }
theorem a168_ok : okFn Tryz.prog 168 a168 = true := by kernel_rfl
/-- slices.SortFunc[[][4]int,[4]int] -/
def a171 : AFn := { np := 2, nt := 14, res := [], body :=
 (.seq (.region [⟨some 5, none, .p (.mv (.t 0))⟩,⟨some 6, none, .p (.len (.t 5))⟩,⟨some 4, none, .p (.mv (.t 6))⟩] [0, 1, 4])
 (.region [⟨some 7, none, .p (.mv (.t 0))⟩,⟨some 8, none, .p (.mv (.t 4))⟩,⟨some 9, none, .p (.mv (.t 4))⟩,⟨some 10, none, .p (.conv .u64 (.t 9))⟩,⟨some 11, none, .h (.call (.f 204) [.t 10])⟩,⟨some 12, none, .p (.mv (.t 1))⟩,⟨some 13, none, .h (.call (.f 203) [.t 7, .k (.c (C.int .i64 0)), .t 8, .t 11, .t 12])⟩] [])) }
theorem a171_ok : okFn Tryz.prog 171 a171 = true := by kernel_rfl
/-- loop.example/g01215/impl.compareTubes -/
def a172 : AFn := { np := 2, nt := 8, res := [.t 4], body :=
 (.seq (.region [⟨some 2, none, .p (.box 4 (.t 0))⟩,⟨some 3, none, .p (.box 4 (.t 1))⟩,⟨some 4, none, .p (.mv (.k (.c (C.int .i64 0))))⟩] [2, 3])
 (.seq (.regionD [⟨some 5, none, .h (.slA 4 1 (.t 2) none none)⟩,⟨some 6, none, .h (.slA 4 1 (.t 3) none none)⟩,⟨some 7, none, .h (.call (.f 205) [.t 5, .t 6])⟩,⟨some 4, none, .p (.mv (.t 7))⟩] [4] [])
  .ret)) }
theorem a172_ok : okFn Tryz.prog 172 a172 = true := by kernel_rfl
/-- slices.IndexFunc[[]loop.example/g01215/impl.Rack,loop.example/g01215/impl.Rack] -/
def a173 : AFn := { np := 2, nt := 19, res := [.t 4], body :=
 (.seq (.region [⟨some 4, none, .p (.mv (.k (.c (C.int .i64 0))))⟩] [0, 1])
 (.seq (.seq (.region [⟨some 6, none, .p (.mv (.t 0))⟩,⟨some 7, none, .p (.len (.t 6))⟩,⟨some 8, none, .p (.mv (.k (.c (C.int .i64 0))))⟩] [0, 1, 7, 8])
 (.block 0 (.loop (.seq (.region [⟨some 9, none, .p (.bin .lss (.t 8) (.t 7))⟩] [0, 1, 7, 8, 9])
 (.seq (.cond (.t 9)
  .skip
 (.exit 0))
 (.seq (.block 1 (.seq (.region [⟨some 10, none, .p (.mv (.t 8))⟩,⟨some 5, none, .p (.mv (.t 10))⟩] [0, 1, 5, 7, 8])
 (.seq (.region [⟨some 11, none, .p (.mv (.t 1))⟩,⟨some 12, none, .p (.mv (.t 0))⟩,⟨some 13, none, .p (.mv (.t 5))⟩,⟨some 14, none, .p (.ixS 24 (.t 12) (.t 13))⟩,⟨some 15, none, .h (.load 24 true (.t 14))⟩,⟨some 16, none, .h (.call (.t 11) [.t 15])⟩] [0, 1, 5, 7, 8, 16])
 (.cond (.t 16)
 (.seq (.region [⟨some 17, none, .p (.mv (.t 5))⟩,⟨some 4, none, .p (.mv (.t 17))⟩] [4])
  .ret)
  .skip))))
 (.region [⟨some 18, none, .p (.bin .add (.t 8) (.k (.c (C.int .i64 1))))⟩,⟨some 8, none, .p (.mv (.t 18))⟩] [0, 1, 7, 8])))) [0, 1, 7, 8])))
 (.seq (.region [⟨some 4, none, .p (.mv (.k (.c (C.int .i64 (-1)))))⟩] [4])
  .ret))) }
theorem a173_ok : okFn Tryz.prog 173 a173 = true := by kernel_rfl
/-- slices.IndexFunc[[]int,int] -/
def a174 : AFn := { np := 2, nt := 19, res := [.t 4], body :=
 (.seq (.region [⟨some 4, none, .p (.mv (.k (.c (C.int .i64 0))))⟩] [0, 1])
 (.seq (.seq (.region [⟨some 6, none, .p (.mv (.t 0))⟩,⟨some 7, none, .p (.len (.t 6))⟩,⟨some 8, none, .p (.mv (.k (.c (C.int .i64 0))))⟩] [0, 1, 7, 8])
 (.block 0 (.loop (.seq (.region [⟨some 9, none, .p (.bin .lss (.t 8) (.t 7))⟩] [0, 1, 7, 8, 9])
 (.seq (.cond (.t 9)
  .skip
 (.exit 0))
 (.seq (.block 1 (.seq (.region [⟨some 10, none, .p (.mv (.t 8))⟩,⟨some 5, none, .p (.mv (.t 10))⟩] [0, 1, 5, 7, 8])
 (.seq (.region [⟨some 11, none, .p (.mv (.t 1))⟩,⟨some 12, none, .p (.mv (.t 0))⟩,⟨some 13, none, .p (.mv (.t 5))⟩,⟨some 14, none, .p (.ixS 1 (.t 12) (.t 13))⟩,⟨some 15, none, .h (.load 1 false (.t 14))⟩,⟨some 16, none, .h (.call (.t 11) [.t 15])⟩] [0, 1, 5, 7, 8, 16])
 (.cond (.t 16)
 (.seq (.region [⟨some 17, none, .p (.mv (.t 5))⟩,⟨some 4, none, .p (.mv (.t 17))⟩] [4])
  .ret)
  .skip))))
 (.region [⟨some 18, none, .p (.bin .add (.t 8) (.k (.c (C.int .i64 1))))⟩,⟨some 8, none, .p (.mv (.t 18))⟩] [0, 1, 7, 8])))) [0, 1, 7, 8])))
 (.seq (.region [⟨some 4, none, .p (.mv (.k (.c (C.int .i64 (-1)))))⟩] [4])
  .ret))) }
theorem a174_ok : okFn Tryz.prog 174 a174 = true := by kernel_rfl
/-- loop.example/g01215/spec.l2Place -/
def a176 : AFn := { np := 1, nt := 5, res := [.t 2], body :=
 (.seq (.region [⟨some 2, none, .p (.mv (.k (.c (C.bool false))))⟩] [0])
 (.seq (.region [⟨some 3, none, .p (.mv (.t 0))⟩,⟨some 4, none, .h (.call (.f 46) [.t 3, .k (.c (C.int .i64 0)), .k (.c (C.int .i64 5))])⟩,⟨some 2, none, .p (.mv (.t 4))⟩] [2])
  .ret)) }
theorem a176_ok : okFn Tryz.prog 176 a176 = true := by kernel_rfl
/-- loop.example/g01215/spec.l2Can -/
def a177 : AFn := { np := 3, nt := 51, res := [.t 6], body :=
 (.seq (.region [⟨some 3, none, .p (.box 24 (.t 0))⟩,⟨some 6, none, .p (.mv (.k (.c (C.bool false))))⟩] [1, 2, 3])
 (.seq (.region [⟨some 12, none, .p (.mv (.t 1))⟩,⟨some 13, none, .p (.fld 0 (.t 3))⟩,⟨some 14, none, .p (.ixA 6 4 (.t 13) (.t 12))⟩,⟨some 15, none, .h (.load 4 true (.t 14))⟩,⟨some 16, none, .h (.call (.f 210) [.t 15])⟩,⟨some 11, none, .p (.mv (.t 16))⟩,⟨some 17, none, .p (.ext (.t 11) 0)⟩,⟨some 18, none, .p (.ext (.t 11) 1)⟩,⟨some 7, none, .p (.mv (.t 17))⟩,⟨some 8, none, .p (.mv (.t 18))⟩] [1, 2, 3, 7, 8])
 (.seq (.region [⟨some 20, none, .p (.mv (.t 2))⟩,⟨some 21, none, .p (.fld 0 (.t 3))⟩,⟨some 22, none, .p (.ixA 6 4 (.t 21) (.t 20))⟩,⟨some 23, none, .h (.load 4 true (.t 22))⟩,⟨some 24, none, .h (.call (.f 210) [.t 23])⟩,⟨some 19, none, .p (.mv (.t 24))⟩,⟨some 25, none, .p (.ext (.t 19) 0)⟩,⟨some 26, none, .p (.ext (.t 19) 1)⟩,⟨some 9, none, .p (.mv (.t 25))⟩,⟨some 10, none, .p (.mv (.t 26))⟩] [1, 2, 3, 7, 8, 9])
 (.seq (.region [⟨some 27, none, .p (.mv (.t 1))⟩,⟨some 28, none, .p (.mv (.t 2))⟩,⟨some 29, none, .p (.bin .neq (.t 27) (.t 28))⟩,⟨some 30, none, .p (.mv (.t 29))⟩,⟨some 31, some (30, true), .p (.mv (.t 8))⟩,⟨some 32, some (30, true), .p (.bin .gtr (.t 31) (.k (.c (C.int .i64 0))))⟩,⟨some 33, none, .p (.pick (.t 30) (.t 32) (.k (.c (C.bool false))))⟩,⟨some 34, none, .p (.mv (.t 33))⟩,⟨some 35, some (34, true), .p (.mv (.t 2))⟩,⟨some 36, some (34, true), .p (.fld 0 (.t 3))⟩,⟨some 37, some (34, true), .p (.ixA 6 4 (.t 36) (.t 35))⟩,⟨some 38, some (34, true), .h (.load 4 true (.t 37))⟩,⟨some 39, some (34, true), .h (.call (.f 179) [.t 38])⟩,⟨some 40, some (34, true), .p (.bin .lss (.t 39) (.k (.c (C.int .i64 4))))⟩,⟨some 41, none, .p (.pick (.t 34) (.t 40) (.k (.c (C.bool false))))⟩,⟨some 42, none, .p (.mv (.t 41))⟩,⟨some 43, some (42, true), .p (.mv (.t 9))⟩,⟨some 44, some (42, true), .p (.bin .eql (.t 43) (.k (.c (C.int .i64 0))))⟩,⟨some 45, some (42, true), .p (.mv (.t 44))⟩,⟨some 46, some (45, false), .p (.mv (.t 9))⟩,⟨some 47, some (45, false), .p (.mv (.t 7))⟩,⟨some 48, some (45, false), .p (.bin .eql (.t 46) (.t 47))⟩,⟨some 49, some (42, true), .p (.pick (.t 45) (.k (.c (C.bool true))) (.t 48))⟩,⟨some 50, none, .p (.pick (.t 42) (.t 49) (.k (.c (C.bool false))))⟩,⟨some 6, none, .p (.mv (.t 50))⟩] [6])
  .ret)))) }
theorem a177_ok : okFn Tryz.prog 177 a177 = true := by kernel_rfl
/-- loop.example/g01215/spec.l2Pour -/
def a178 : AFn := { np := 3, nt := 59, res := [.cell 6 24 true, .t 7], body :=
 (.seq (.region [⟨some 3, none, .p (.box 24 (.t 0))⟩,⟨some 6, none, .p (.alloc (List.replicate 24 (.k (C.int .i64 0))))⟩,⟨some 7, none, .p (.mv (.k (.c (C.int .i64 0))))⟩] [1, 2, 3, 6])
 (.seq (.region [⟨some 15, none, .p (.mv (.t 1))⟩,⟨some 16, none, .p (.fld 0 (.t 3))⟩,⟨some 17, none, .p (.ixA 6 4 (.t 16) (.t 15))⟩,⟨some 18, none, .h (.load 4 true (.t 17))⟩,⟨some 19, none, .h (.call (.f 210) [.t 18])⟩,⟨some 14, none, .p (.mv (.t 19))⟩,⟨some 20, none, .p (.ext (.t 14) 0)⟩,⟨some 21, none, .p (.ext (.t 14) 1)⟩,⟨some 8, none, .p (.mv (.t 20))⟩,⟨some 9, none, .p (.mv (.t 21))⟩] [1, 2, 3, 6, 8, 9])
 (.seq (.regionD [⟨some 22, none, .p (.mv (.t 1))⟩,⟨some 23, none, .p (.fld 0 (.t 3))⟩,⟨some 24, none, .p (.ixA 6 4 (.t 23) (.t 22))⟩,⟨some 25, none, .h (.load 4 true (.t 24))⟩,⟨some 26, none, .h (.call (.f 179) [.t 25])⟩,⟨some 27, none, .p (.mv (.t 2))⟩,⟨some 28, none, .p (.fld 0 (.t 3))⟩,⟨some 29, none, .p (.ixA 6 4 (.t 28) (.t 27))⟩,⟨some 30, none, .h (.load 4 true (.t 29))⟩,⟨some 31, none, .h (.call (.f 179) [.t 30])⟩,⟨some 10, none, .p (.mv (.t 26))⟩,⟨some 11, none, .p (.mv (.t 31))⟩] [1, 2, 3, 6, 8, 9, 10, 11] [])
 (.seq (.region [⟨some 32, none, .p (.mv (.t 9))⟩,⟨some 33, none, .p (.mv (.t 11))⟩,⟨some 34, none, .p (.bin .sub (.k (.c (C.int .i64 4))) (.t 33))⟩,⟨some 35, none, .h (.call (.f 211) [.t 32, .t 34])⟩,⟨some 12, none, .p (.mv (.t 35))⟩] [1, 2, 3, 6, 8, 10, 11, 12])
 (.seq (.seq (.region [⟨some 13, none, .p (.mv (.k (.c (C.int .i64 0))))⟩] [1, 2, 3, 6, 8, 10, 11, 12, 13])
 (.block 0 (.loop (.seq (.seq (.region [⟨some 36, none, .p (.mv (.t 13))⟩,⟨some 37, none, .p (.mv (.t 12))⟩,⟨some 38, none, .p (.bin .lss (.t 36) (.t 37))⟩] [1, 2, 3, 6, 8, 10, 11, 12, 13, 38])
 (.cond (.t 38)
  .skip
 (.exit 0)))
 (.seq (.block 1 (.seq (.region [⟨some 41, none, .p (.mv (.t 1))⟩,⟨some 42, none, .p (.mv (.t 10))⟩,⟨some 43, none, .p (.bin .sub (.t 42) (.k (.c (C.int .i64 1))))⟩,⟨some 44, none, .p (.mv (.t 13))⟩,⟨some 45, none, .p (.bin .sub (.t 43) (.t 44))⟩,⟨some 46, none, .p (.fld 0 (.t 3))⟩,⟨some 47, none, .p (.ixA 6 4 (.t 46) (.t 41))⟩,⟨some 48, none, .p (.ixA 4 1 (.t 47) (.t 45))⟩,⟨none, none, .h (.store 1 (.t 48) (.k (.c (C.int .i64 0))))⟩] [1, 2, 3, 6, 8, 10, 11, 12, 13])
 (.region [⟨some 49, none, .p (.mv (.t 2))⟩,⟨some 50, none, .p (.mv (.t 11))⟩,⟨some 51, none, .p (.mv (.t 13))⟩,⟨some 52, none, .p (.bin .add (.t 50) (.t 51))⟩,⟨some 53, none, .p (.mv (.t 8))⟩,⟨some 54, none, .p (.fld 0 (.t 3))⟩,⟨some 55, none, .p (.ixA 6 4 (.t 54) (.t 49))⟩,⟨some 56, none, .p (.ixA 4 1 (.t 55) (.t 52))⟩,⟨none, none, .h (.store 1 (.t 56) (.t 53))⟩] [1, 2, 3, 6, 8, 10, 11, 12, 13])))
 (.region [⟨some 39, none, .p (.mv (.t 13))⟩,⟨some 40, none, .p (.bin .add (.t 39) (.k (.c (C.int .i64 1))))⟩,⟨some 13, none, .p (.mv (.t 40))⟩] [1, 2, 3, 6, 8, 10, 11, 12, 13]))) [1, 2, 3, 6, 8, 10, 11, 12, 13])))
 (.seq (.region [⟨some 57, none, .h (.load 24 true (.t 3))⟩,⟨some 58, none, .p (.mv (.t 12))⟩,⟨none, none, .h (.store 24 (.t 6) (.t 57))⟩,⟨some 7, none, .p (.mv (.t 58))⟩] [6, 7])
  .ret)))))) }
theorem a178_ok : okFn Tryz.prog 178 a178 = true := by kernel_rfl
/-- loop.example/g01215/spec.l2Many -/
def a179 : AFn := { np := 1, nt := 16, res := [.t 2], body :=
 (.seq (.region [⟨some 1, none, .p (.box 4 (.t 0))⟩,⟨some 2, none, .p (.mv (.k (.c (C.int .i64 0))))⟩] [1])
 (.seq (.region [⟨some 3, none, .p (.mv (.k (.c (C.int .i64 0))))⟩] [1, 3])
 (.seq (.seq (.region [⟨some 4, none, .p (.mv (.k (.c (C.int .i64 0))))⟩] [1, 3, 4])
 (.block 0 (.loop (.seq (.seq (.region [⟨some 5, none, .p (.mv (.t 4))⟩,⟨some 6, none, .p (.bin .lss (.t 5) (.k (.c (C.int .i64 4))))⟩] [1, 3, 4, 6])
 (.cond (.t 6)
  .skip
 (.exit 0)))
 (.seq (.block 1 (.seq (.region [⟨some 9, none, .p (.mv (.t 4))⟩,⟨some 10, none, .p (.ixA 4 1 (.t 1) (.t 9))⟩,⟨some 11, none, .h (.load 1 false (.t 10))⟩,⟨some 12, none, .p (.bin .gtr (.t 11) (.k (.c (C.int .i64 0))))⟩] [1, 3, 4, 12])
 (.cond (.t 12)
 (.region [⟨some 13, none, .p (.mv (.t 3))⟩,⟨some 14, none, .p (.bin .add (.t 13) (.k (.c (C.int .i64 1))))⟩,⟨some 3, none, .p (.mv (.t 14))⟩] [1, 3, 4])
  .skip)))
 (.region [⟨some 7, none, .p (.mv (.t 4))⟩,⟨some 8, none, .p (.bin .add (.t 7) (.k (.c (C.int .i64 1))))⟩,⟨some 4, none, .p (.mv (.t 8))⟩] [1, 3, 4]))) [1, 3, 4])))
 (.seq (.region [⟨some 15, none, .p (.mv (.t 3))⟩,⟨some 2, none, .p (.mv (.t 15))⟩] [2])
  .ret)))) }
theorem a179_ok : okFn Tryz.prog 179 a179 = true := by kernel_rfl
/-- loop.example/g01215/spec.l5Back -/
def a180 : AFn := { np := 2, nt := 115, res := [.cell 4 24 true, .t 5], body :=
 (.seq (.region [⟨some 2, none, .p (.box 24 (.t 0))⟩,⟨some 3, none, .p (.box 3 (.t 1))⟩,⟨some 4, none, .p (.alloc (List.replicate 24 (.k (C.int .i64 0))))⟩,⟨some 5, none, .p (.mv (.k (.c (C.bool false))))⟩] [2, 3, 4])
 (.seq (.seq (.region [⟨some 14, none, .p (.fld 0 (.t 3))⟩,⟨some 15, none, .h (.load 1 false (.t 14))⟩,⟨some 16, none, .h (.call (.f 176) [.t 15])⟩,⟨some 17, none, .p (.un .not (.t 16))⟩,⟨some 18, none, .p (.mv (.t 17))⟩,⟨some 19, some (18, false), .p (.fld 1 (.t 3))⟩,⟨some 20, some (18, false), .h (.load 1 false (.t 19))⟩,⟨some 21, some (18, false), .h (.call (.f 176) [.t 20])⟩,⟨some 22, some (18, false), .p (.un .not (.t 21))⟩,⟨some 23, none, .p (.pick (.t 18) (.k (.c (C.bool true))) (.t 22))⟩,⟨some 24, none, .p (.mv (.t 23))⟩,⟨some 25, some (24, false), .p (.fld 0 (.t 3))⟩,⟨some 26, some (24, false), .h (.load 1 false (.t 25))⟩,⟨some 27, some (24, false), .p (.fld 1 (.t 3))⟩,⟨some 28, some (24, false), .h (.load 1 false (.t 27))⟩,⟨some 29, some (24, false), .p (.bin .eql (.t 26) (.t 28))⟩,⟨some 30, none, .p (.pick (.t 24) (.k (.c (C.bool true))) (.t 29))⟩] [2, 3, 4, 30])
 (.cond (.t 30)
 (.seq (.region [⟨some 31, none, .p (.build (List.replicate 24 (.k (C.int .i64 0))) [])⟩,⟨none, none, .h (.store 24 (.t 4) (.t 31))⟩,⟨some 5, none, .p (.mv (.k (.c (C.bool false))))⟩] [4, 5])
  .ret)
  .skip))
 (.seq (.region [⟨some 33, none, .p (.fld 1 (.t 3))⟩,⟨some 34, none, .h (.load 1 false (.t 33))⟩,⟨some 35, none, .p (.fld 0 (.t 2))⟩,⟨some 36, none, .p (.ixA 6 4 (.t 35) (.t 34))⟩,⟨some 37, none, .h (.load 4 true (.t 36))⟩,⟨some 38, none, .h (.call (.f 210) [.t 37])⟩,⟨some 32, none, .p (.mv (.t 38))⟩,⟨some 39, none, .p (.ext (.t 32) 0)⟩,⟨some 40, none, .p (.ext (.t 32) 1)⟩,⟨some 6, none, .p (.mv (.t 39))⟩,⟨some 7, none, .p (.mv (.t 40))⟩] [2, 3, 4, 6, 7])
 (.seq (.regionD [⟨some 41, none, .p (.fld 0 (.t 3))⟩,⟨some 42, none, .h (.load 1 false (.t 41))⟩,⟨some 43, none, .p (.fld 0 (.t 2))⟩,⟨some 44, none, .p (.ixA 6 4 (.t 43) (.t 42))⟩,⟨some 45, none, .h (.load 4 true (.t 44))⟩,⟨some 46, none, .h (.call (.f 179) [.t 45])⟩,⟨some 47, none, .p (.fld 1 (.t 3))⟩,⟨some 48, none, .h (.load 1 false (.t 47))⟩,⟨some 49, none, .p (.fld 0 (.t 2))⟩,⟨some 50, none, .p (.ixA 6 4 (.t 49) (.t 48))⟩,⟨some 51, none, .h (.load 4 true (.t 50))⟩,⟨some 52, none, .h (.call (.f 179) [.t 51])⟩,⟨some 8, none, .p (.mv (.t 46))⟩,⟨some 9, none, .p (.mv (.t 52))⟩] [2, 3, 4, 6, 7, 8, 9] [])
 (.seq (.seq (.regionD [⟨some 53, none, .p (.fld 2 (.t 3))⟩,⟨some 54, none, .h (.load 1 false (.t 53))⟩,⟨some 55, none, .p (.mv (.t 7))⟩,⟨some 56, none, .p (.mv (.t 8))⟩,⟨some 57, none, .p (.bin .sub (.k (.c (C.int .i64 4))) (.t 56))⟩,⟨some 58, none, .h (.call (.f 211) [.t 55, .t 57])⟩,⟨some 59, none, .h (.call (.f 46) [.t 54, .k (.c (C.int .i64 1)), .t 58])⟩,⟨some 60, none, .p (.un .not (.t 59))⟩] [2, 3, 4, 6, 8, 9, 60] [])
 (.cond (.t 60)
 (.seq (.region [⟨some 61, none, .p (.build (List.replicate 24 (.k (C.int .i64 0))) [])⟩,⟨none, none, .h (.store 24 (.t 4) (.t 61))⟩,⟨some 5, none, .p (.mv (.k (.c (C.bool false))))⟩] [4, 5])
  .ret)
  .skip))
 (.seq (.region [⟨some 62, none, .h (.load 24 true (.t 2))⟩,⟨some 10, none, .p (.alloc (List.replicate 24 (.k (C.int .i64 0))))⟩,⟨none, none, .h (.store 24 (.t 10) (.t 62))⟩] [2, 3, 4, 6, 8, 9, 10])
 (.seq (.seq (.region [⟨some 11, none, .p (.mv (.k (.c (C.int .i64 0))))⟩] [2, 3, 4, 6, 8, 9, 10, 11])
 (.block 0 (.loop (.seq (.seq (.region [⟨some 63, none, .p (.mv (.t 11))⟩,⟨some 64, none, .p (.fld 2 (.t 3))⟩,⟨some 65, none, .h (.load 1 false (.t 64))⟩,⟨some 66, none, .p (.bin .lss (.t 63) (.t 65))⟩] [2, 3, 4, 6, 8, 9, 10, 11, 66])
 (.cond (.t 66)
  .skip
 (.exit 0)))
 (.seq (.block 1 (.seq (.region [⟨some 69, none, .p (.fld 1 (.t 3))⟩,⟨some 70, none, .h (.load 1 false (.t 69))⟩,⟨some 71, none, .p (.mv (.t 9))⟩,⟨some 72, none, .p (.bin .sub (.t 71) (.k (.c (C.int .i64 1))))⟩,⟨some 73, none, .p (.mv (.t 11))⟩,⟨some 74, none, .p (.bin .sub (.t 72) (.t 73))⟩,⟨some 75, none, .p (.fld 0 (.t 10))⟩,⟨some 76, none, .p (.ixA 6 4 (.t 75) (.t 70))⟩,⟨some 77, none, .p (.ixA 4 1 (.t 76) (.t 74))⟩,⟨none, none, .h (.store 1 (.t 77) (.k (.c (C.int .i64 0))))⟩] [2, 3, 4, 6, 8, 9, 10, 11])
 (.region [⟨some 78, none, .p (.fld 0 (.t 3))⟩,⟨some 79, none, .h (.load 1 false (.t 78))⟩,⟨some 80, none, .p (.mv (.t 8))⟩,⟨some 81, none, .p (.mv (.t 11))⟩,⟨some 82, none, .p (.bin .add (.t 80) (.t 81))⟩,⟨some 83, none, .p (.mv (.t 6))⟩,⟨some 84, none, .p (.fld 0 (.t 10))⟩,⟨some 85, none, .p (.ixA 6 4 (.t 84) (.t 79))⟩,⟨some 86, none, .p (.ixA 4 1 (.t 85) (.t 82))⟩,⟨none, none, .h (.store 1 (.t 86) (.t 83))⟩] [2, 3, 4, 6, 8, 9, 10, 11])))
 (.region [⟨some 67, none, .p (.mv (.t 11))⟩,⟨some 68, none, .p (.bin .add (.t 67) (.k (.c (C.int .i64 1))))⟩,⟨some 11, none, .p (.mv (.t 68))⟩] [2, 3, 4, 6, 8, 9, 10, 11]))) [2, 3, 4, 6, 8, 9, 10, 11])))
 (.seq (.seq (.region [⟨some 87, none, .h (.load 24 true (.t 10))⟩,⟨some 88, none, .p (.fld 0 (.t 3))⟩,⟨some 89, none, .h (.load 1 false (.t 88))⟩,⟨some 90, none, .p (.fld 1 (.t 3))⟩,⟨some 91, none, .h (.load 1 false (.t 90))⟩,⟨some 92, none, .h (.call (.f 177) [.t 87, .t 89, .t 91])⟩,⟨some 93, none, .p (.un .not (.t 92))⟩] [2, 3, 4, 10, 93])
 (.cond (.t 93)
 (.seq (.region [⟨some 94, none, .p (.build (List.replicate 24 (.k (C.int .i64 0))) [])⟩,⟨none, none, .h (.store 24 (.t 4) (.t 94))⟩,⟨some 5, none, .p (.mv (.k (.c (C.bool false))))⟩] [4, 5])
  .ret)
  .skip))
 (.seq (.region [⟨some 96, none, .h (.load 24 true (.t 10))⟩,⟨some 97, none, .p (.fld 0 (.t 3))⟩,⟨some 98, none, .h (.load 1 false (.t 97))⟩,⟨some 99, none, .p (.fld 1 (.t 3))⟩,⟨some 100, none, .h (.load 1 false (.t 99))⟩,⟨some 101, none, .h (.call (.f 178) [.t 96, .t 98, .t 100])⟩,⟨some 95, none, .p (.mv (.t 101))⟩,⟨some 102, none, .p (.ext (.t 95) 0)⟩,⟨some 103, none, .p (.ext (.t 95) 1)⟩,⟨some 12, none, .p (.alloc (List.replicate 24 (.k (C.int .i64 0))))⟩,⟨none, none, .h (.store 24 (.t 12) (.t 102))⟩,⟨some 13, none, .p (.mv (.t 103))⟩] [2, 3, 4, 10, 12, 13])
 (.seq (.seq (.region [⟨some 104, none, .h (.load 24 true (.t 12))⟩,⟨some 105, none, .h (.load 24 true (.t 2))⟩,⟨some 106, none, .p (.eqv true (List.replicate 24 (.int .i64)) (.t 104) (.t 105))⟩,⟨some 107, none, .p (.mv (.t 106))⟩,⟨some 108, some (107, false), .p (.mv (.t 13))⟩,⟨some 109, some (107, false), .p (.fld 2 (.t 3))⟩,⟨some 110, some (107, false), .h (.load 1 false (.t 109))⟩,⟨some 111, some (107, false), .p (.bin .neq (.t 108) (.t 110))⟩,⟨some 112, none, .p (.pick (.t 107) (.k (.c (C.bool true))) (.t 111))⟩] [4, 10, 112])
 (.cond (.t 112)
 (.seq (.region [⟨some 113, none, .p (.build (List.replicate 24 (.k (C.int .i64 0))) [])⟩,⟨none, none, .h (.store 24 (.t 4) (.t 113))⟩,⟨some 5, none, .p (.mv (.k (.c (C.bool false))))⟩] [4, 5])
  .ret)
  .skip))
 (.seq (.region [⟨some 114, none, .h (.load 24 true (.t 10))⟩,⟨none, none, .h (.store 24 (.t 4) (.t 114))⟩,⟨some 5, none, .p (.mv (.k (.c (C.bool true))))⟩] [4, 5])
  .ret))))))))))) }
theorem a180_ok : okFn Tryz.prog 180 a180 = true := by kernel_rfl
/-- loop.example/g01215/impl.readRecord -/
def a182 : AFn := { np := 2, nt := 78, res := [.cell 4 2 true, .t 5, .t 6], body :=
 (.seq (.region [⟨some 4, none, .p (.alloc [.k (C.str []), .k (C.str [])])⟩,⟨some 5, none, .p (.mv (.k (.c (C.int .i64 0))))⟩,⟨some 6, none, .p (.mv (.k (.c (C.bool false))))⟩] [0, 1, 4])
 (.seq (.region [⟨some 21, none, .p (.mv (.t 1))⟩,⟨some 22, none, .h (.call (.f 212) [.t 21, .k (.c (C.str [10]))])⟩,⟨some 20, none, .p (.mv (.t 22))⟩,⟨some 23, none, .p (.ext (.t 20) 0)⟩,⟨some 24, none, .p (.ext (.t 20) 1)⟩,⟨some 25, none, .p (.ext (.t 20) 2)⟩,⟨some 7, none, .p (.mv (.t 23))⟩,⟨some 8, none, .p (.mv (.t 24))⟩,⟨some 9, none, .p (.mv (.t 25))⟩] [0, 4, 7, 9])
 (.seq (.seq (.region [⟨some 26, none, .p (.mv (.t 9))⟩,⟨some 27, none, .p (.un .not (.t 26))⟩] [0, 4, 7, 27])
 (.cond (.t 27)
 (.seq (.region [⟨some 28, none, .p (.build [.k (C.str []), .k (C.str [])] [])⟩,⟨none, none, .h (.store 2 (.t 4) (.t 28))⟩,⟨some 5, none, .p (.mv (.k (.c (C.int .i64 0))))⟩,⟨some 6, none, .p (.mv (.k (.c (C.bool false))))⟩] [4, 5, 6])
  .ret)
  .skip))
 (.seq (.region [⟨some 30, none, .p (.mv (.t 7))⟩,⟨some 31, none, .h (.call (.f 213) [.t 30])⟩,⟨some 29, none, .p (.mv (.t 31))⟩,⟨some 32, none, .p (.ext (.t 29) 0)⟩,⟨some 33, none, .p (.ext (.t 29) 1)⟩,⟨some 10, none, .p (.mv (.t 32))⟩,⟨some 11, none, .p (.mv (.t 33))⟩] [0, 4, 7, 10])
 (.seq (.region [⟨some 35, none, .p (.mv (.t 10))⟩,⟨some 36, none, .p (.mv (.t 0))⟩,⟨some 37, none, .h (.call (.f 82) [.t 36])⟩,⟨some 38, none, .p (.bin .add (.t 37) (.k (.c (C.str [32]))))⟩,⟨some 39, none, .h (.call (.f 214) [.t 35, .t 38])⟩,⟨some 34, none, .p (.mv (.t 39))⟩,⟨some 40, none, .p (.ext (.t 34) 0)⟩,⟨some 41, none, .p (.ext (.t 34) 1)⟩,⟨some 12, none, .p (.mv (.t 40))⟩,⟨some 13, none, .p (.mv (.t 41))⟩] [0, 4, 7, 12, 13])
 (.seq (.region [⟨some 43, none, .p (.mv (.t 12))⟩,⟨some 44, none, .h (.call (.f 212) [.t 43, .k (.c (C.str [64]))])⟩,⟨some 42, none, .p (.mv (.t 44))⟩,⟨some 45, none, .p (.ext (.t 42) 0)⟩,⟨some 46, none, .p (.ext (.t 42) 1)⟩,⟨some 47, none, .p (.ext (.t 42) 2)⟩,⟨some 14, none, .p (.mv (.t 45))⟩,⟨some 15, none, .p (.mv (.t 46))⟩,⟨some 16, none, .p (.mv (.t 47))⟩] [0, 4, 7, 13, 14, 15, 16])
 (.seq (.region [⟨some 48, none, .p (.mv (.t 14))⟩,⟨some 49, none, .p (.mv (.t 15))⟩,⟨some 50, none, .p (.build [.k (C.str []), .k (C.str [])] [(0, 1, .t 48), (1, 1, .t 49)])⟩,⟨some 17, none, .p (.alloc [.k (C.str []), .k (C.str [])])⟩,⟨none, none, .h (.store 2 (.t 17) (.t 50))⟩] [0, 4, 7, 13, 16, 17])
 (.seq (.seq (.region [⟨some 52, none, .p (.mv (.t 0))⟩,⟨some 53, none, .h (.load 2 true (.t 17))⟩,⟨some 54, none, .h (.call (.f 58) [.t 52, .t 53])⟩,⟨some 51, none, .p (.mv (.t 54))⟩,⟨some 55, none, .p (.ext (.t 51) 0)⟩,⟨some 56, none, .p (.ext (.t 51) 1)⟩,⟨some 18, none, .p (.mv (.t 55))⟩,⟨some 19, none, .p (.mv (.t 56))⟩] [4, 7, 13, 16, 17, 18, 19])
 (.seq (.region [⟨some 57, none, .p (.mv (.t 13))⟩,⟨some 58, none, .p (.un .not (.t 57))⟩,⟨some 59, none, .p (.mv (.t 58))⟩,⟨some 60, some (59, false), .p (.mv (.t 16))⟩,⟨some 61, some (59, false), .p (.un .not (.t 60))⟩,⟨some 62, none, .p (.pick (.t 59) (.k (.c (C.bool true))) (.t 61))⟩,⟨some 63, none, .p (.mv (.t 62))⟩,⟨some 64, some (63, false), .p (.mv (.t 19))⟩,⟨some 65, some (63, false), .p (.un .not (.t 64))⟩,⟨some 66, none, .p (.pick (.t 63) (.k (.c (C.bool true))) (.t 65))⟩,⟨some 67, none, .p (.mv (.t 66))⟩,⟨some 68, some (67, false), .p (.mv (.t 18))⟩,⟨some 69, some (67, false), .p (.mv (.t 7))⟩,⟨some 70, some (67, false), .p (.bin .add (.t 69) (.k (.c (C.str [10]))))⟩,⟨some 71, some (67, false), .p (.bin .neq (.t 68) (.t 70))⟩,⟨some 72, none, .p (.pick (.t 67) (.k (.c (C.bool true))) (.t 71))⟩] [4, 7, 17, 72])
 (.cond (.t 72)
 (.seq (.region [⟨some 73, none, .p (.build [.k (C.str []), .k (C.str [])] [])⟩,⟨none, none, .h (.store 2 (.t 4) (.t 73))⟩,⟨some 5, none, .p (.mv (.k (.c (C.int .i64 0))))⟩,⟨some 6, none, .p (.mv (.k (.c (C.bool false))))⟩] [4, 5, 6])
  .ret)
  .skip)))
 (.seq (.region [⟨some 74, none, .h (.load 2 true (.t 17))⟩,⟨some 75, none, .p (.mv (.t 7))⟩,⟨some 76, none, .p (.lenStr (.t 75))⟩,⟨some 77, none, .p (.bin .add (.t 76) (.k (.c (C.int .i64 1))))⟩,⟨none, none, .h (.store 2 (.t 4) (.t 74))⟩,⟨some 5, none, .p (.mv (.t 77))⟩,⟨some 6, none, .p (.mv (.k (.c (C.bool true))))⟩] [4, 5, 6])
  .ret))))))))) }
theorem a182_ok : okFn Tryz.prog 182 a182 = true := by kernel_rfl
/-- slices.IndexFunc[[]byte,byte] -/
def a183 : AFn := { np := 2, nt := 19, res := [.t 4], body :=
 (.seq (.region [⟨some 4, none, .p (.mv (.k (.c (C.int .i64 0))))⟩] [0, 1])
 (.seq (.seq (.region [⟨some 6, none, .p (.mv (.t 0))⟩,⟨some 7, none, .p (.len (.t 6))⟩,⟨some 8, none, .p (.mv (.k (.c (C.int .i64 0))))⟩] [0, 1, 7, 8])
 (.block 0 (.loop (.seq (.region [⟨some 9, none, .p (.bin .lss (.t 8) (.t 7))⟩] [0, 1, 7, 8, 9])
 (.seq (.cond (.t 9)
  .skip
 (.exit 0))
 (.seq (.block 1 (.seq (.region [⟨some 10, none, .p (.mv (.t 8))⟩,⟨some 5, none, .p (.mv (.t 10))⟩] [0, 1, 5, 7, 8])
 (.seq (.region [⟨some 11, none, .p (.mv (.t 1))⟩,⟨some 12, none, .p (.mv (.t 0))⟩,⟨some 13, none, .p (.mv (.t 5))⟩,⟨some 14, none, .p (.ixS 1 (.t 12) (.t 13))⟩,⟨some 15, none, .h (.load 1 false (.t 14))⟩,⟨some 16, none, .h (.call (.t 11) [.t 15])⟩] [0, 1, 5, 7, 8, 16])
 (.cond (.t 16)
 (.seq (.region [⟨some 17, none, .p (.mv (.t 5))⟩,⟨some 4, none, .p (.mv (.t 17))⟩] [4])
  .ret)
  .skip))))
 (.region [⟨some 18, none, .p (.bin .add (.t 8) (.k (.c (C.int .i64 1))))⟩,⟨some 8, none, .p (.mv (.t 18))⟩] [0, 1, 7, 8])))) [0, 1, 7, 8])))
 (.seq (.region [⟨some 4, none, .p (.mv (.k (.c (C.int .i64 (-1)))))⟩] [4])
  .ret))) }
theorem a183_ok : okFn Tryz.prog 183 a183 = true := by kernel_rfl
/-- slices.pdqsortCmpFunc[[4]int] -/
def a203 : AFn := { np := 5, nt := 148, res := [], body :=
 (.seq (.region [⟨some 10, none, .p (.mv (.k (.c (C.bool true))))⟩] [0, 1, 2, 3, 4, 10])
 (.seq (.region [⟨some 11, none, .p (.mv (.k (.c (C.bool true))))⟩] [0, 1, 2, 3, 4, 10, 11])
 (.block 0 (.loop (.block 1 (.seq (.region [⟨some 21, none, .p (.mv (.t 2))⟩,⟨some 22, none, .p (.mv (.t 1))⟩,⟨some 23, none, .p (.bin .sub (.t 21) (.t 22))⟩,⟨some 12, none, .p (.mv (.t 23))⟩] [0, 1, 2, 3, 4, 10, 11, 12])
 (.seq (.seq (.region [⟨some 24, none, .p (.mv (.t 12))⟩,⟨some 25, none, .p (.bin .leq (.t 24) (.k (.c (C.int .i64 12))))⟩] [0, 1, 2, 3, 4, 10, 11, 12, 25])
 (.cond (.t 25)
 (.seq (.region [⟨some 26, none, .p (.mv (.t 0))⟩,⟨some 27, none, .p (.mv (.t 1))⟩,⟨some 28, none, .p (.mv (.t 2))⟩,⟨some 29, none, .p (.mv (.t 4))⟩,⟨some 30, none, .h (.call (.f 223) [.t 26, .t 27, .t 28, .t 29])⟩] [])
  .ret)
  .skip))
 (.seq (.seq (.region [⟨some 31, none, .p (.mv (.t 3))⟩,⟨some 32, none, .p (.bin .eql (.t 31) (.k (.c (C.int .i64 0))))⟩] [0, 1, 2, 3, 4, 10, 11, 12, 32])
 (.cond (.t 32)
 (.seq (.region [⟨some 33, none, .p (.mv (.t 0))⟩,⟨some 34, none, .p (.mv (.t 1))⟩,⟨some 35, none, .p (.mv (.t 2))⟩,⟨some 36, none, .p (.mv (.t 4))⟩,⟨some 37, none, .h (.call (.f 224) [.t 33, .t 34, .t 35, .t 36])⟩] [])
  .ret)
  .skip))
 (.seq (.seq (.region [⟨some 38, none, .p (.mv (.t 10))⟩,⟨some 39, none, .p (.un .not (.t 38))⟩] [0, 1, 2, 3, 4, 10, 11, 12, 39])
 (.cond (.t 39)
 (.seq (.region [⟨some 40, none, .p (.mv (.t 0))⟩,⟨some 41, none, .p (.mv (.t 1))⟩,⟨some 42, none, .p (.mv (.t 2))⟩,⟨some 43, none, .p (.mv (.t 4))⟩,⟨some 44, none, .h (.call (.f 225) [.t 40, .t 41, .t 42, .t 43])⟩] [0, 1, 2, 3, 4, 10, 11, 12])
 (.region [⟨some 45, none, .p (.mv (.t 3))⟩,⟨some 46, none, .p (.bin .sub (.t 45) (.k (.c (C.int .i64 1))))⟩,⟨some 3, none, .p (.mv (.t 46))⟩] [0, 1, 2, 3, 4, 10, 11, 12]))
  .skip))
 (.seq (.region [⟨some 48, none, .p (.mv (.t 0))⟩,⟨some 49, none, .p (.mv (.t 1))⟩,⟨some 50, none, .p (.mv (.t 2))⟩,⟨some 51, none, .p (.mv (.t 4))⟩,⟨some 52, none, .h (.call (.f 226) [.t 48, .t 49, .t 50, .t 51])⟩,⟨some 47, none, .p (.mv (.t 52))⟩,⟨some 53, none, .p (.ext (.t 47) 0)⟩,⟨some 54, none, .p (.ext (.t 47) 1)⟩,⟨some 13, none, .p (.mv (.t 53))⟩,⟨some 14, none, .p (.mv (.t 54))⟩] [0, 1, 2, 3, 4, 10, 11, 12, 13, 14])
 (.seq (.seq (.region [⟨some 55, none, .p (.mv (.t 14))⟩,⟨some 56, none, .p (.bin .eql (.t 55) (.k (.c (C.int .i64 2))))⟩] [0, 1, 2, 3, 4, 10, 11, 12, 13, 14, 56])
 (.cond (.t 56)
 (.seq (.region [⟨some 57, none, .p (.mv (.t 0))⟩,⟨some 58, none, .p (.mv (.t 1))⟩,⟨some 59, none, .p (.mv (.t 2))⟩,⟨some 60, none, .p (.mv (.t 4))⟩,⟨some 61, none, .h (.call (.f 227) [.t 57, .t 58, .t 59, .t 60])⟩] [0, 1, 2, 3, 4, 10, 11, 12, 13])
 (.seq (.region [⟨some 62, none, .p (.mv (.t 2))⟩,⟨some 63, none, .p (.bin .sub (.t 62) (.k (.c (C.int .i64 1))))⟩,⟨some 64, none, .p (.mv (.t 13))⟩,⟨some 65, none, .p (.mv (.t 1))⟩,⟨some 66, none, .p (.bin .sub (.t 64) (.t 65))⟩,⟨some 67, none, .p (.bin .sub (.t 63) (.t 66))⟩,⟨some 13, none, .p (.mv (.t 67))⟩] [0, 1, 2, 3, 4, 10, 11, 12, 13])
 (.region [⟨some 14, none, .p (.mv (.k (.c (C.int .i64 1))))⟩] [0, 1, 2, 3, 4, 10, 11, 12, 13, 14])))
  .skip))
 (.seq (.seq (.region [⟨some 68, none, .p (.mv (.t 10))⟩,⟨some 69, none, .p (.mv (.t 68))⟩,⟨some 70, some (69, true), .p (.mv (.t 11))⟩,⟨some 71, none, .p (.pick (.t 69) (.t 70) (.k (.c (C.bool false))))⟩,⟨some 72, none, .p (.mv (.t 71))⟩,⟨some 73, some (72, true), .p (.mv (.t 14))⟩,⟨some 74, some (72, true), .p (.bin .eql (.t 73) (.k (.c (C.int .i64 1))))⟩,⟨some 75, none, .p (.pick (.t 72) (.t 74) (.k (.c (C.bool false))))⟩] [0, 1, 2, 3, 4, 10, 11, 12, 13, 75])
 (.cond (.t 75)
 (.seq (.region [⟨some 76, none, .p (.mv (.t 0))⟩,⟨some 77, none, .p (.mv (.t 1))⟩,⟨some 78, none, .p (.mv (.t 2))⟩,⟨some 79, none, .p (.mv (.t 4))⟩,⟨some 80, none, .h (.call (.f 228) [.t 76, .t 77, .t 78, .t 79])⟩] [0, 1, 2, 3, 4, 10, 11, 12, 13, 80])
 (.cond (.t 80)
  .ret
  .skip))
  .skip))
 (.seq (.seq (.regionD [⟨some 81, none, .p (.mv (.t 1))⟩,⟨some 82, none, .p (.bin .gtr (.t 81) (.k (.c (C.int .i64 0))))⟩,⟨some 83, none, .p (.mv (.t 82))⟩,⟨some 84, some (83, true), .p (.mv (.t 4))⟩,⟨some 85, some (83, true), .p (.mv (.t 0))⟩,⟨some 86, some (83, true), .p (.mv (.t 1))⟩,⟨some 87, some (83, true), .p (.bin .sub (.t 86) (.k (.c (C.int .i64 1))))⟩,⟨some 88, some (83, true), .p (.ixS 4 (.t 85) (.t 87))⟩,⟨some 89, some (83, true), .h (.load 4 true (.t 88))⟩,⟨some 90, some (83, true), .p (.mv (.t 0))⟩,⟨some 91, some (83, true), .p (.mv (.t 13))⟩,⟨some 92, some (83, true), .p (.ixS 4 (.t 90) (.t 91))⟩,⟨some 93, some (83, true), .h (.load 4 true (.t 92))⟩,⟨some 94, some (83, true), .h (.call (.t 84) [.t 89, .t 93])⟩,⟨some 95, some (83, true), .p (.bin .lss (.t 94) (.k (.c (C.int .i64 0))))⟩,⟨some 96, some (83, true), .p (.un .not (.t 95))⟩,⟨some 97, none, .p (.pick (.t 83) (.t 96) (.k (.c (C.bool false))))⟩] [0, 1, 2, 3, 4, 10, 11, 12, 13, 97] [])
 (.cond (.t 97)
 (.seq (.region [⟨some 98, none, .p (.mv (.t 0))⟩,⟨some 99, none, .p (.mv (.t 1))⟩,⟨some 100, none, .p (.mv (.t 2))⟩,⟨some 101, none, .p (.mv (.t 13))⟩,⟨some 102, none, .p (.mv (.t 4))⟩,⟨some 103, none, .h (.call (.f 229) [.t 98, .t 99, .t 100, .t 101, .t 102])⟩,⟨some 15, none, .p (.mv (.t 103))⟩] [0, 2, 3, 4, 10, 11, 15])
 (.seq (.region [⟨some 104, none, .p (.mv (.t 15))⟩,⟨some 1, none, .p (.mv (.t 104))⟩] [0, 1, 2, 3, 4, 10, 11])
 (.exit 1)))
  .skip))
 (.seq (.region [⟨some 106, none, .p (.mv (.t 0))⟩,⟨some 107, none, .p (.mv (.t 1))⟩,⟨some 108, none, .p (.mv (.t 2))⟩,⟨some 109, none, .p (.mv (.t 13))⟩,⟨some 110, none, .p (.mv (.t 4))⟩,⟨some 111, none, .h (.call (.f 230) [.t 106, .t 107, .t 108, .t 109, .t 110])⟩,⟨some 105, none, .p (.mv (.t 111))⟩,⟨some 112, none, .p (.ext (.t 105) 0)⟩,⟨some 113, none, .p (.ext (.t 105) 1)⟩,⟨some 16, none, .p (.mv (.t 112))⟩,⟨some 17, none, .p (.mv (.t 113))⟩] [0, 1, 2, 3, 4, 12, 16, 17])
 (.seq (.region [⟨some 114, none, .p (.mv (.t 17))⟩,⟨some 11, none, .p (.mv (.t 114))⟩] [0, 1, 2, 3, 4, 11, 12, 16])
 (.seq (.region [⟨some 115, none, .p (.mv (.t 16))⟩,⟨some 116, none, .p (.mv (.t 1))⟩,⟨some 117, none, .p (.bin .sub (.t 115) (.t 116))⟩,⟨some 118, none, .p (.mv (.t 2))⟩,⟨some 119, none, .p (.mv (.t 16))⟩,⟨some 120, none, .p (.bin .sub (.t 118) (.t 119))⟩,⟨some 18, none, .p (.mv (.t 117))⟩,⟨some 19, none, .p (.mv (.t 120))⟩] [0, 1, 2, 3, 4, 11, 12, 16, 18, 19])
 (.seq (.region [⟨some 121, none, .p (.mv (.t 12))⟩,⟨some 122, none, .p (.bin .quo (.t 121) (.k (.c (C.int .i64 8))))⟩,⟨some 20, none, .p (.mv (.t 122))⟩] [0, 1, 2, 3, 4, 11, 16, 18, 19, 20])
 (.seq (.region [⟨some 123, none, .p (.mv (.t 18))⟩,⟨some 124, none, .p (.mv (.t 19))⟩,⟨some 125, none, .p (.bin .lss (.t 123) (.t 124))⟩] [0, 1, 2, 3, 4, 11, 16, 18, 19, 20, 125])
 (.cond (.t 125)
 (.seq (.region [⟨some 126, none, .p (.mv (.t 18))⟩,⟨some 127, none, .p (.mv (.t 20))⟩,⟨some 128, none, .p (.bin .geq (.t 126) (.t 127))⟩,⟨some 10, none, .p (.mv (.t 128))⟩] [0, 1, 2, 3, 4, 10, 11, 16])
 (.seq (.region [⟨some 129, none, .p (.mv (.t 0))⟩,⟨some 130, none, .p (.mv (.t 1))⟩,⟨some 131, none, .p (.mv (.t 16))⟩,⟨some 132, none, .p (.mv (.t 3))⟩,⟨some 133, none, .p (.mv (.t 4))⟩,⟨some 134, none, .h (.call (.f 203) [.t 129, .t 130, .t 131, .t 132, .t 133])⟩] [0, 2, 3, 4, 10, 11, 16])
 (.region [⟨some 135, none, .p (.mv (.t 16))⟩,⟨some 136, none, .p (.bin .add (.t 135) (.k (.c (C.int .i64 1))))⟩,⟨some 1, none, .p (.mv (.t 136))⟩] [0, 1, 2, 3, 4, 10, 11])))
 (.seq (.region [⟨some 137, none, .p (.mv (.t 19))⟩,⟨some 138, none, .p (.mv (.t 20))⟩,⟨some 139, none, .p (.bin .geq (.t 137) (.t 138))⟩,⟨some 10, none, .p (.mv (.t 139))⟩] [0, 1, 2, 3, 4, 10, 11, 16])
 (.seq (.region [⟨some 140, none, .p (.mv (.t 0))⟩,⟨some 141, none, .p (.mv (.t 16))⟩,⟨some 142, none, .p (.bin .add (.t 141) (.k (.c (C.int .i64 1))))⟩,⟨some 143, none, .p (.mv (.t 2))⟩,⟨some 144, none, .p (.mv (.t 3))⟩,⟨some 145, none, .p (.mv (.t 4))⟩,⟨some 146, none, .h (.call (.f 203) [.t 140, .t 142, .t 143, .t 144, .t 145])⟩] [0, 1, 3, 4, 10, 11, 16])
 (.region [⟨some 147, none, .p (.mv (.t 16))⟩,⟨some 2, none, .p (.mv (.t 147))⟩] [0, 1, 2, 3, 4, 10, 11])))))))))))))))))) [0, 1, 2, 3, 4, 10, 11])))) }
theorem a203_ok : okFn Tryz.prog 203 a203 = true := by kernel_rfl
/-- math/bits.Len -/
def a204 : AFn := { np := 1, nt := 8, res := [.t 2], body :=
 (.seq (.region [⟨some 2, none, .p (.mv (.k (.c (C.int .i64 0))))⟩] [0])
 (.seq (.cond (.k (.c (C.bool false)))
 (.seq (.region [⟨some 3, none, .p (.mv (.t 0))⟩,⟨some 4, none, .p (.conv .u32 (.t 3))⟩,⟨some 5, none, .h (.call (.f 231) [.t 4])⟩,⟨some 2, none, .p (.mv (.t 5))⟩] [2])
  .ret)
  .skip)
 (.seq (.region [⟨some 6, none, .p (.mv (.t 0))⟩,⟨some 7, none, .h (.call (.f 232) [.t 6])⟩,⟨some 2, none, .p (.mv (.t 7))⟩] [2])
  .ret))) }
theorem a204_ok : okFn Tryz.prog 204 a204 = true := by kernel_rfl
/-- slices.Compare[[]int,int] -/
def a205 : AFn := { np := 2, nt := 36, res := [.t 4], body :=
 (.seq (.region [⟨some 4, none, .p (.mv (.k (.c (C.int .i64 0))))⟩] [0, 1])
 (.seq (.seq (.region [⟨some 9, none, .p (.mv (.t 0))⟩,⟨some 10, none, .p (.len (.t 9))⟩,⟨some 11, none, .p (.mv (.k (.c (C.int .i64 0))))⟩] [0, 1, 9, 10, 11])
 (.block 0 (.loop (.seq (.region [⟨some 12, none, .p (.bin .lss (.t 11) (.t 10))⟩] [0, 1, 9, 10, 11, 12])
 (.seq (.cond (.t 12)
  .skip
 (.exit 0))
 (.seq (.block 1 (.seq (.region [⟨some 13, none, .p (.mv (.t 11))⟩,⟨some 14, none, .p (.ixS 1 (.t 9) (.t 11))⟩,⟨some 15, none, .h (.load 1 false (.t 14))⟩,⟨some 5, none, .p (.mv (.t 13))⟩,⟨some 6, none, .p (.mv (.t 15))⟩] [0, 1, 5, 6, 9, 10, 11])
 (.seq (.seq (.region [⟨some 16, none, .p (.mv (.t 5))⟩,⟨some 17, none, .p (.mv (.t 1))⟩,⟨some 18, none, .p (.len (.t 17))⟩,⟨some 19, none, .p (.bin .geq (.t 16) (.t 18))⟩] [0, 1, 5, 6, 9, 10, 11, 19])
 (.cond (.t 19)
 (.seq (.region [⟨some 4, none, .p (.mv (.k (.c (C.int .i64 1))))⟩] [4])
  .ret)
  .skip))
 (.seq (.region [⟨some 20, none, .p (.mv (.t 1))⟩,⟨some 21, none, .p (.mv (.t 5))⟩,⟨some 22, none, .p (.ixS 1 (.t 20) (.t 21))⟩,⟨some 23, none, .h (.load 1 false (.t 22))⟩,⟨some 7, none, .p (.mv (.t 23))⟩] [0, 1, 6, 7, 9, 10, 11])
 (.seq (.region [⟨some 24, none, .p (.mv (.t 6))⟩,⟨some 25, none, .p (.mv (.t 7))⟩,⟨some 26, none, .h (.call (.f 233) [.t 24, .t 25])⟩,⟨some 8, none, .p (.mv (.t 26))⟩] [0, 1, 8, 9, 10, 11])
 (.seq (.region [⟨some 27, none, .p (.mv (.t 8))⟩,⟨some 28, none, .p (.bin .neq (.t 27) (.k (.c (C.int .i64 0))))⟩] [0, 1, 8, 9, 10, 11, 28])
 (.cond (.t 28)
 (.seq (.region [⟨some 29, none, .p (.mv (.t 8))⟩,⟨some 4, none, .p (.mv (.t 29))⟩] [4])
  .ret)
  .skip)))))))
 (.region [⟨some 30, none, .p (.bin .add (.t 11) (.k (.c (C.int .i64 1))))⟩,⟨some 11, none, .p (.mv (.t 30))⟩] [0, 1, 9, 10, 11])))) [0, 1, 9, 10, 11])))
 (.seq (.seq (.region [⟨some 31, none, .p (.mv (.t 0))⟩,⟨some 32, none, .p (.len (.t 31))⟩,⟨some 33, none, .p (.mv (.t 1))⟩,⟨some 34, none, .p (.len (.t 33))⟩,⟨some 35, none, .p (.bin .lss (.t 32) (.t 34))⟩] [35])
 (.cond (.t 35)
 (.seq (.region [⟨some 4, none, .p (.mv (.k (.c (C.int .i64 (-1)))))⟩] [4])
  .ret)
  .skip))
 (.seq (.region [⟨some 4, none, .p (.mv (.k (.c (C.int .i64 0))))⟩] [4])
  .ret)))) }
theorem a205_ok : okFn Tryz.prog 205 a205 = true := by kernel_rfl
/-- loop.example/g01215/spec.l2Top -/
def a210 : AFn := { np := 1, nt := 33, res := [.t 2, .t 3], body :=
 (.seq (.region [⟨some 1, none, .p (.box 4 (.t 0))⟩,⟨some 2, none, .p (.mv (.k (.c (C.int .i64 0))))⟩,⟨some 3, none, .p (.mv (.k (.c (C.int .i64 0))))⟩] [1])
 (.seq (.region [⟨some 6, none, .h (.load 4 true (.t 1))⟩,⟨some 7, none, .h (.call (.f 179) [.t 6])⟩,⟨some 4, none, .p (.mv (.t 7))⟩] [1, 4])
 (.seq (.seq (.region [⟨some 8, none, .p (.mv (.t 4))⟩,⟨some 9, none, .p (.bin .eql (.t 8) (.k (.c (C.int .i64 0))))⟩] [1, 4, 9])
 (.cond (.t 9)
 (.seq (.region [⟨some 2, none, .p (.mv (.k (.c (C.int .i64 0))))⟩,⟨some 3, none, .p (.mv (.k (.c (C.int .i64 0))))⟩] [2, 3])
  .ret)
  .skip))
 (.seq (.region [⟨some 5, none, .p (.mv (.k (.c (C.int .i64 0))))⟩] [1, 4, 5])
 (.seq (.block 0 (.loop (.seq (.seq (.regionD [⟨some 10, none, .p (.mv (.t 5))⟩,⟨some 11, none, .p (.mv (.t 4))⟩,⟨some 12, none, .p (.bin .lss (.t 10) (.t 11))⟩,⟨some 13, none, .p (.mv (.t 12))⟩,⟨some 14, some (13, true), .p (.mv (.t 4))⟩,⟨some 15, some (13, true), .p (.bin .sub (.t 14) (.k (.c (C.int .i64 1))))⟩,⟨some 16, some (13, true), .p (.mv (.t 5))⟩,⟨some 17, some (13, true), .p (.bin .sub (.t 15) (.t 16))⟩,⟨some 18, some (13, true), .p (.ixA 4 1 (.t 1) (.t 17))⟩,⟨some 19, some (13, true), .h (.load 1 false (.t 18))⟩,⟨some 20, some (13, true), .p (.mv (.t 4))⟩,⟨some 21, some (13, true), .p (.bin .sub (.t 20) (.k (.c (C.int .i64 1))))⟩,⟨some 22, some (13, true), .p (.ixA 4 1 (.t 1) (.t 21))⟩,⟨some 23, some (13, true), .h (.load 1 false (.t 22))⟩,⟨some 24, some (13, true), .p (.bin .eql (.t 19) (.t 23))⟩,⟨some 25, none, .p (.pick (.t 13) (.t 24) (.k (.c (C.bool false))))⟩] [1, 4, 5, 25] [])
 (.cond (.t 25)
  .skip
 (.exit 0)))
 (.block 1 (.region [⟨some 26, none, .p (.mv (.t 5))⟩,⟨some 27, none, .p (.bin .add (.t 26) (.k (.c (C.int .i64 1))))⟩,⟨some 5, none, .p (.mv (.t 27))⟩] [1, 4, 5]))) [1, 4, 5]))
 (.seq (.region [⟨some 28, none, .p (.mv (.t 4))⟩,⟨some 29, none, .p (.bin .sub (.t 28) (.k (.c (C.int .i64 1))))⟩,⟨some 30, none, .p (.ixA 4 1 (.t 1) (.t 29))⟩,⟨some 31, none, .h (.load 1 false (.t 30))⟩,⟨some 32, none, .p (.mv (.t 5))⟩,⟨some 2, none, .p (.mv (.t 31))⟩,⟨some 3, none, .p (.mv (.t 32))⟩] [2, 3])
  .ret)))))) }
theorem a210_ok : okFn Tryz.prog 210 a210 = true := by kernel_rfl
/-- loop.example/g01215/spec.l1Least -/
def a211 : AFn := { np := 2, nt := 10, res := [.t 4], body :=
 (.seq (.region [⟨some 4, none, .p (.mv (.k (.c (C.int .i64 0))))⟩] [0, 1])
 (.seq (.seq (.region [⟨some 5, none, .p (.mv (.t 0))⟩,⟨some 6, none, .p (.mv (.t 1))⟩,⟨some 7, none, .p (.bin .lss (.t 5) (.t 6))⟩] [0, 1, 7])
 (.cond (.t 7)
 (.seq (.region [⟨some 8, none, .p (.mv (.t 0))⟩,⟨some 4, none, .p (.mv (.t 8))⟩] [4])
  .ret)
  .skip))
 (.seq (.region [⟨some 9, none, .p (.mv (.t 1))⟩,⟨some 4, none, .p (.mv (.t 9))⟩] [4])
  .ret))) }
theorem a211_ok : okFn Tryz.prog 211 a211 = true := by kernel_rfl
/-- loop.example/g01215/impl.VerifyChecksum -/
def a213 : AFn := { np := 1, nt := 28, res := [.t 2, .t 3], body :=
 (.seq (.region [⟨some 2, none, .p (.mv (.k (.c (C.str []))))⟩,⟨some 3, none, .p (.mv (.k (.c (C.bool false))))⟩] [0])
 (.seq (.region [⟨some 10, none, .p (.mv (.t 0))⟩,⟨some 11, none, .h (.call (.f 212) [.t 10, .k (.c (C.str [35]))])⟩,⟨some 9, none, .p (.mv (.t 11))⟩,⟨some 12, none, .p (.ext (.t 9) 0)⟩,⟨some 13, none, .p (.ext (.t 9) 1)⟩,⟨some 14, none, .p (.ext (.t 9) 2)⟩,⟨some 4, none, .p (.mv (.t 12))⟩,⟨some 5, none, .p (.mv (.t 13))⟩,⟨some 6, none, .p (.mv (.t 14))⟩] [0, 4])
 (.seq (.seq (.region [⟨some 16, none, .p (.mv (.t 4))⟩,⟨some 17, none, .h (.call (.f 116) [.t 16])⟩,⟨some 15, none, .p (.mv (.t 17))⟩,⟨some 18, none, .p (.ext (.t 15) 0)⟩,⟨some 19, none, .p (.ext (.t 15) 1)⟩,⟨some 7, none, .p (.mv (.t 18))⟩,⟨some 8, none, .p (.mv (.t 19))⟩] [0, 4, 7, 8])
 (.seq (.region [⟨some 20, none, .p (.mv (.t 8))⟩,⟨some 21, none, .p (.un .not (.t 20))⟩,⟨some 22, none, .p (.mv (.t 21))⟩,⟨some 23, some (22, false), .p (.mv (.t 7))⟩,⟨some 24, some (22, false), .p (.mv (.t 0))⟩,⟨some 25, some (22, false), .p (.bin .neq (.t 23) (.t 24))⟩,⟨some 26, none, .p (.pick (.t 22) (.k (.c (C.bool true))) (.t 25))⟩] [4, 26])
 (.cond (.t 26)
 (.seq (.region [⟨some 2, none, .p (.mv (.k (.c (C.str []))))⟩,⟨some 3, none, .p (.mv (.k (.c (C.bool false))))⟩] [2, 3])
  .ret)
  .skip)))
 (.seq (.region [⟨some 27, none, .p (.mv (.t 4))⟩,⟨some 2, none, .p (.mv (.t 27))⟩,⟨some 3, none, .p (.mv (.k (.c (C.bool true))))⟩] [2, 3])
  .ret)))) }
theorem a213_ok : okFn Tryz.prog 213 a213 = true := by kernel_rfl
/-- slices.insertionSortCmpFunc[[4]int] -/
def a223 : AFn := { np := 4, nt := 53, res := [], body :=
 (.seq (.region [⟨some 10, none, .p (.mv (.t 1))⟩,⟨some 11, none, .p (.bin .add (.t 10) (.k (.c (C.int .i64 1))))⟩,⟨some 8, none, .p (.mv (.t 11))⟩] [0, 1, 2, 3, 8])
 (.block 0 (.loop (.seq (.seq (.region [⟨some 12, none, .p (.mv (.t 8))⟩,⟨some 13, none, .p (.mv (.t 2))⟩,⟨some 14, none, .p (.bin .lss (.t 12) (.t 13))⟩] [0, 1, 2, 3, 8, 14])
 (.cond (.t 14)
  .skip
 (.exit 0)))
 (.seq (.block 1 (.seq (.region [⟨some 17, none, .p (.mv (.t 8))⟩,⟨some 9, none, .p (.mv (.t 17))⟩] [0, 1, 2, 3, 8, 9])
 (.block 2 (.loop (.seq (.seq (.regionD [⟨some 18, none, .p (.mv (.t 9))⟩,⟨some 19, none, .p (.mv (.t 1))⟩,⟨some 20, none, .p (.bin .gtr (.t 18) (.t 19))⟩,⟨some 21, none, .p (.mv (.t 20))⟩,⟨some 22, some (21, true), .p (.mv (.t 3))⟩,⟨some 23, some (21, true), .p (.mv (.t 0))⟩,⟨some 24, some (21, true), .p (.mv (.t 9))⟩,⟨some 25, some (21, true), .p (.ixS 4 (.t 23) (.t 24))⟩,⟨some 26, some (21, true), .h (.load 4 true (.t 25))⟩,⟨some 27, some (21, true), .p (.mv (.t 0))⟩,⟨some 28, some (21, true), .p (.mv (.t 9))⟩,⟨some 29, some (21, true), .p (.bin .sub (.t 28) (.k (.c (C.int .i64 1))))⟩,⟨some 30, some (21, true), .p (.ixS 4 (.t 27) (.t 29))⟩,⟨some 31, some (21, true), .h (.load 4 true (.t 30))⟩,⟨some 32, some (21, true), .h (.call (.t 22) [.t 26, .t 31])⟩,⟨some 33, some (21, true), .p (.bin .lss (.t 32) (.k (.c (C.int .i64 0))))⟩,⟨some 34, none, .p (.pick (.t 21) (.t 33) (.k (.c (C.bool false))))⟩] [0, 1, 2, 3, 8, 9, 34] [])
 (.cond (.t 34)
  .skip
 (.exit 2)))
 (.seq (.block 3 (.regionD [⟨some 37, none, .p (.mv (.t 0))⟩,⟨some 38, none, .p (.mv (.t 9))⟩,⟨some 39, none, .p (.mv (.t 0))⟩,⟨some 40, none, .p (.mv (.t 9))⟩,⟨some 41, none, .p (.bin .sub (.t 40) (.k (.c (C.int .i64 1))))⟩,⟨some 42, none, .p (.mv (.t 0))⟩,⟨some 43, none, .p (.mv (.t 9))⟩,⟨some 44, none, .p (.bin .sub (.t 43) (.k (.c (C.int .i64 1))))⟩,⟨some 45, none, .p (.ixS 4 (.t 42) (.t 44))⟩,⟨some 46, none, .h (.load 4 true (.t 45))⟩,⟨some 47, none, .p (.mv (.t 0))⟩,⟨some 48, none, .p (.mv (.t 9))⟩,⟨some 49, none, .p (.ixS 4 (.t 47) (.t 48))⟩,⟨some 50, none, .h (.load 4 true (.t 49))⟩,⟨some 51, none, .p (.ixS 4 (.t 37) (.t 38))⟩,⟨none, none, .h (.store 4 (.t 51) (.t 46))⟩,⟨some 52, none, .p (.ixS 4 (.t 39) (.t 41))⟩,⟨none, none, .h (.store 4 (.t 52) (.t 50))⟩] [0, 1, 2, 3, 8, 9] []))
 (.region [⟨some 35, none, .p (.mv (.t 9))⟩,⟨some 36, none, .p (.bin .sub (.t 35) (.k (.c (C.int .i64 1))))⟩,⟨some 9, none, .p (.mv (.t 36))⟩] [0, 1, 2, 3, 8, 9]))) [0, 1, 2, 3, 8, 9]))))
 (.region [⟨some 15, none, .p (.mv (.t 8))⟩,⟨some 16, none, .p (.bin .add (.t 15) (.k (.c (C.int .i64 1))))⟩,⟨some 8, none, .p (.mv (.t 16))⟩] [0, 1, 2, 3, 8]))) [0, 1, 2, 3, 8]))) }
theorem a223_ok : okFn Tryz.prog 223 a223 = true := by kernel_rfl
/-- math/bits.Len32 -/
def a231 : AFn := { np := 1, nt := 19, res := [.t 2], body :=
 (.seq (.region [⟨some 2, none, .p (.mv (.k (.c (C.int .i64 0))))⟩] [0, 2])
 (.seq (.seq (.region [⟨some 3, none, .p (.mv (.t 0))⟩,⟨some 4, none, .p (.bin .geq (.t 3) (.k (.c (C.int .u32 65536))))⟩] [0, 2, 4])
 (.cond (.t 4)
 (.seq (.region [⟨some 5, none, .p (.mv (.t 0))⟩,⟨some 6, none, .p (.bin .shr (.t 5) (.k (.c (C.int .u64 16))))⟩,⟨some 0, none, .p (.mv (.t 6))⟩] [0])
 (.region [⟨some 2, none, .p (.mv (.k (.c (C.int .i64 16))))⟩] [0, 2]))
  .skip))
 (.seq (.seq (.region [⟨some 7, none, .p (.mv (.t 0))⟩,⟨some 8, none, .p (.bin .geq (.t 7) (.k (.c (C.int .u32 256))))⟩] [0, 2, 8])
 (.cond (.t 8)
 (.seq (.region [⟨some 9, none, .p (.mv (.t 0))⟩,⟨some 10, none, .p (.bin .shr (.t 9) (.k (.c (C.int .u64 8))))⟩,⟨some 0, none, .p (.mv (.t 10))⟩] [0, 2])
 (.region [⟨some 11, none, .p (.mv (.t 2))⟩,⟨some 12, none, .p (.bin .add (.t 11) (.k (.c (C.int .i64 8))))⟩,⟨some 2, none, .p (.mv (.t 12))⟩] [0, 2]))
  .skip))
 (.seq (.region [⟨some 13, none, .p (.mv (.t 2))⟩,⟨some 14, none, .p (.mv (.t 0))⟩,⟨some 15, none, .p (.conv .u8 (.t 14))⟩,⟨some 16, none, .p (.ixStr (.k (.c (C.str [0, 1, 2, 2, 3, 3, 3, 3, 4, 4, 4, 4, 4, 4, 4, 4, 5, 5, 5, 5, 5, 5, 5, 5, 5, 5, 5, 5, 5, 5, 5, 5, 6, 6, 6, 6, 6, 6, 6, 6, 6, 6, 6, 6, 6, 6, 6, 6, 6, 6, 6, 6, 6, 6, 6, 6, 6, 6, 6, 6, 6, 6, 6, 6, 7, 7, 7, 7, 7, 7, 7, 7, 7, 7, 7, 7, 7, 7, 7, 7, 7, 7, 7, 7, 7, 7, 7, 7, 7, 7, 7, 7, 7, 7, 7, 7, 7, 7, 7, 7, 7, 7, 7, 7, 7, 7, 7, 7, 7, 7, 7, 7, 7, 7, 7, 7, 7, 7, 7, 7, 7, 7, 7, 7, 7, 7, 7, 7, 8, 8, 8, 8, 8, 8, 8, 8, 8, 8, 8, 8, 8, 8, 8, 8, 8, 8, 8, 8, 8, 8, 8, 8, 8, 8, 8, 8, 8, 8, 8, 8, 8, 8, 8, 8, 8, 8, 8, 8, 8, 8, 8, 8, 8, 8, 8, 8, 8, 8, 8, 8, 8, 8, 8, 8, 8, 8, 8, 8, 8, 8, 8, 8, 8, 8, 8, 8, 8, 8, 8, 8, 8, 8, 8, 8, 8, 8, 8, 8, 8, 8, 8, 8, 8, 8, 8, 8, 8, 8, 8, 8, 8, 8, 8, 8, 8, 8, 8, 8, 8, 8, 8, 8, 8, 8, 8, 8, 8, 8, 8, 8, 8, 8, 8, 8, 8, 8, 8, 8, 8, 8, 8, 8, 8, 8, 8, 8]))) (.t 15))⟩,⟨some 17, none, .p (.conv .i64 (.t 16))⟩,⟨some 18, none, .p (.bin .add (.t 13) (.t 17))⟩,⟨some 2, none, .p (.mv (.t 18))⟩] [2])
  .ret)))) }
theorem a231_ok : okFn Tryz.prog 231 a231 = true := by kernel_rfl
/-- math/bits.Len64 -/
def a232 : AFn := { np := 1, nt := 25, res := [.t 2], body :=
 (.seq (.region [⟨some 2, none, .p (.mv (.k (.c (C.int .i64 0))))⟩] [0, 2])
 (.seq (.seq (.region [⟨some 3, none, .p (.mv (.t 0))⟩,⟨some 4, none, .p (.bin .geq (.t 3) (.k (.c (C.int .u64 4294967296))))⟩] [0, 2, 4])
 (.cond (.t 4)
 (.seq (.region [⟨some 5, none, .p (.mv (.t 0))⟩,⟨some 6, none, .p (.bin .shr (.t 5) (.k (.c (C.int .u64 32))))⟩,⟨some 0, none, .p (.mv (.t 6))⟩] [0])
 (.region [⟨some 2, none, .p (.mv (.k (.c (C.int .i64 32))))⟩] [0, 2]))
  .skip))
 (.seq (.seq (.region [⟨some 7, none, .p (.mv (.t 0))⟩,⟨some 8, none, .p (.bin .geq (.t 7) (.k (.c (C.int .u64 65536))))⟩] [0, 2, 8])
 (.cond (.t 8)
 (.seq (.region [⟨some 9, none, .p (.mv (.t 0))⟩,⟨some 10, none, .p (.bin .shr (.t 9) (.k (.c (C.int .u64 16))))⟩,⟨some 0, none, .p (.mv (.t 10))⟩] [0, 2])
 (.region [⟨some 11, none, .p (.mv (.t 2))⟩,⟨some 12, none, .p (.bin .add (.t 11) (.k (.c (C.int .i64 16))))⟩,⟨some 2, none, .p (.mv (.t 12))⟩] [0, 2]))
  .skip))
 (.seq (.seq (.region [⟨some 13, none, .p (.mv (.t 0))⟩,⟨some 14, none, .p (.bin .geq (.t 13) (.k (.c (C.int .u64 256))))⟩] [0, 2, 14])
 (.cond (.t 14)
 (.seq (.region [⟨some 15, none, .p (.mv (.t 0))⟩,⟨some 16, none, .p (.bin .shr (.t 15) (.k (.c (C.int .u64 8))))⟩,⟨some 0, none, .p (.mv (.t 16))⟩] [0, 2])
 (.region [⟨some 17, none, .p (.mv (.t 2))⟩,⟨some 18, none, .p (.bin .add (.t 17) (.k (.c (C.int .i64 8))))⟩,⟨some 2, none, .p (.mv (.t 18))⟩] [0, 2]))
  .skip))
 (.seq (.region [⟨some 19, none, .p (.mv (.t 2))⟩,⟨some 20, none, .p (.mv (.t 0))⟩,⟨some 21, none, .p (.conv .u8 (.t 20))⟩,⟨some 22, none, .p (.ixStr (.k (.c (C.str [0, 1, 2, 2, 3, 3, 3, 3, 4, 4, 4, 4, 4, 4, 4, 4, 5, 5, 5, 5, 5, 5, 5, 5, 5, 5, 5, 5, 5, 5, 5, 5, 6, 6, 6, 6, 6, 6, 6, 6, 6, 6, 6, 6, 6, 6, 6, 6, 6, 6, 6, 6, 6, 6, 6, 6, 6, 6, 6, 6, 6, 6, 6, 6, 7, 7, 7, 7, 7, 7, 7, 7, 7, 7, 7, 7, 7, 7, 7, 7, 7, 7, 7, 7, 7, 7, 7, 7, 7, 7, 7, 7, 7, 7, 7, 7, 7, 7, 7, 7, 7, 7, 7, 7, 7, 7, 7, 7, 7, 7, 7, 7, 7, 7, 7, 7, 7, 7, 7, 7, 7, 7, 7, 7, 7, 7, 7, 7, 8, 8, 8, 8, 8, 8, 8, 8, 8, 8, 8, 8, 8, 8, 8, 8, 8, 8, 8, 8, 8, 8, 8, 8, 8, 8, 8, 8, 8, 8, 8, 8, 8, 8, 8, 8, 8, 8, 8, 8, 8, 8, 8, 8, 8, 8, 8, 8, 8, 8, 8, 8, 8, 8, 8, 8, 8, 8, 8, 8, 8, 8, 8, 8, 8, 8, 8, 8, 8, 8, 8, 8, 8, 8, 8, 8, 8, 8, 8, 8, 8, 8, 8, 8, 8, 8, 8, 8, 8, 8, 8, 8, 8, 8, 8, 8, 8, 8, 8, 8, 8, 8, 8, 8, 8, 8, 8, 8, 8, 8, 8, 8, 8, 8, 8, 8, 8, 8, 8, 8, 8, 8, 8, 8, 8, 8, 8, 8]))) (.t 21))⟩,⟨some 23, none, .p (.conv .i64 (.t 22))⟩,⟨some 24, none, .p (.bin .add (.t 19) (.t 23))⟩,⟨some 2, none, .p (.mv (.t 24))⟩] [2])
  .ret))))) }
theorem a232_ok : okFn Tryz.prog 232 a232 = true := by kernel_rfl
/-- cmp.Compare[int] -/
def a233 : AFn := { np := 2, nt := 20, res := [.t 4], body :=
 (.seq (.region [⟨some 4, none, .p (.mv (.k (.c (C.int .i64 0))))⟩] [0, 1])
 (.seq (.region [⟨some 7, none, .p (.mv (.t 0))⟩,⟨some 8, none, .h (.call (.f 247) [.t 7])⟩,⟨some 5, none, .p (.mv (.t 8))⟩] [0, 1, 5])
 (.seq (.region [⟨some 9, none, .p (.mv (.t 1))⟩,⟨some 10, none, .h (.call (.f 247) [.t 9])⟩,⟨some 6, none, .p (.mv (.t 10))⟩] [0, 1, 5, 6])
 (.seq (.seq (.region [⟨some 11, none, .p (.mv (.t 5))⟩] [0, 1, 6, 11])
 (.cond (.t 11)
 (.seq (.seq (.region [⟨some 12, none, .p (.mv (.t 6))⟩] [12])
 (.cond (.t 12)
 (.seq (.region [⟨some 4, none, .p (.mv (.k (.c (C.int .i64 0))))⟩] [4])
  .ret)
  .skip))
 (.seq (.region [⟨some 4, none, .p (.mv (.k (.c (C.int .i64 (-1)))))⟩] [4])
  .ret))
  .skip))
 (.seq (.seq (.region [⟨some 13, none, .p (.mv (.t 6))⟩] [0, 1, 13])
 (.cond (.t 13)
 (.seq (.region [⟨some 4, none, .p (.mv (.k (.c (C.int .i64 1))))⟩] [4])
  .ret)
  .skip))
 (.seq (.seq (.region [⟨some 14, none, .p (.mv (.t 0))⟩,⟨some 15, none, .p (.mv (.t 1))⟩,⟨some 16, none, .p (.bin .lss (.t 14) (.t 15))⟩] [0, 1, 16])
 (.cond (.t 16)
 (.seq (.region [⟨some 4, none, .p (.mv (.k (.c (C.int .i64 (-1)))))⟩] [4])
  .ret)
  .skip))
 (.seq (.seq (.region [⟨some 17, none, .p (.mv (.t 0))⟩,⟨some 18, none, .p (.mv (.t 1))⟩,⟨some 19, none, .p (.bin .gtr (.t 17) (.t 18))⟩] [19])
 (.cond (.t 19)
 (.seq (.region [⟨some 4, none, .p (.mv (.k (.c (C.int .i64 1))))⟩] [4])
  .ret)
  .skip))
 (.seq (.region [⟨some 4, none, .p (.mv (.k (.c (C.int .i64 0))))⟩] [4])
  .ret)))))))) }
theorem a233_ok : okFn Tryz.prog 233 a233 = true := by kernel_rfl
/-- cmp.isNaN[int] -/
def a247 : AFn := { np := 1, nt := 6, res := [.t 2], body :=
 (.seq (.region [⟨some 2, none, .p (.mv (.k (.c (C.bool false))))⟩] [0])
 (.seq (.region [⟨some 3, none, .p (.mv (.t 0))⟩,⟨some 4, none, .p (.mv (.t 0))⟩,⟨some 5, none, .p (.bin .neq (.t 3) (.t 4))⟩,⟨some 2, none, .p (.mv (.t 5))⟩] [2])
  .ret)) }
theorem a247_ok : okFn Tryz.prog 247 a247 = true := by kernel_rfl
def prB : Prog
  | 138 => some a138
  | 139 => some a139
  | 140 => some a140
  | 141 => some a141
  | 143 => some a143
  | 144 => some a144
  | 145 => some a145
  | 167 => some a167
  | 168 => some a168
  | 171 => some a171
  | 172 => some a172
  | 173 => some a173
  | 174 => some a174
  | 176 => some a176
  | 177 => some a177
  | 178 => some a178
  | 179 => some a179
  | 180 => some a180
  | 182 => some a182
  | 183 => some a183
  | 203 => some a203
  | 204 => some a204
  | 205 => some a205
  | 210 => some a210
  | 211 => some a211
  | 213 => some a213
  | 223 => some a223
  | 231 => some a231
  | 232 => some a232
  | 233 => some a233
  | 247 => some a247
  | _ => none
theorem prB_ok : ProgOK Tryz.prog prB := by
  intro f fn h
  unfold prB at h
  split at h
  · injection h with h; subst h; exact a138_ok
  · injection h with h; subst h; exact a139_ok
  · injection h with h; subst h; exact a140_ok
  · injection h with h; subst h; exact a141_ok
  · injection h with h; subst h; exact a143_ok
  · injection h with h; subst h; exact a144_ok
  · injection h with h; subst h; exact a145_ok
  · injection h with h; subst h; exact a167_ok
  · injection h with h; subst h; exact a168_ok
  · injection h with h; subst h; exact a171_ok
  · injection h with h; subst h; exact a172_ok
  · injection h with h; subst h; exact a173_ok
  · injection h with h; subst h; exact a174_ok
  · injection h with h; subst h; exact a176_ok
  · injection h with h; subst h; exact a177_ok
  · injection h with h; subst h; exact a178_ok
  · injection h with h; subst h; exact a179_ok
  · injection h with h; subst h; exact a180_ok
  · injection h with h; subst h; exact a182_ok
  · injection h with h; subst h; exact a183_ok
  · injection h with h; subst h; exact a203_ok
  · injection h with h; subst h; exact a204_ok
  · injection h with h; subst h; exact a205_ok
  · injection h with h; subst h; exact a210_ok
  · injection h with h; subst h; exact a211_ok
  · injection h with h; subst h; exact a213_ok
  · injection h with h; subst h; exact a223_ok
  · injection h with h; subst h; exact a231_ok
  · injection h with h; subst h; exact a232_ok
  · injection h with h; subst h; exact a233_ok
  · injection h with h; subst h; exact a247_ok
  · cases h
end Go.Proofs.YtgpafbbnobanbaaGreatDoor.AM
