/- the functions' code in the abstract machine: printed by a program (wip/tools/genparts.py) out of the loaded program -/
import Derived.Test.YtcnlkmooifoljaaDoorAmD
import Derived.Test.YtcnlkmooifoljaaDoorProg
import Derived.KernelRfl
namespace Go.Proofs.YtcnlkmooifoljaaDoor.AM
open Go
set_option maxRecDepth 100000
/-- loop.example/g01215/laws.FnExactReplayText -/
def a3 : AFn := { np := 1, nt := 40, res := [.t 2], body :=
  (.seq (.region [⟨some 1, none, .p (.box 25 (.t 0))⟩,
    ⟨some 2, none, .p (.mv (.k (.c (C.bool false))))⟩] [1])
  (.seq (.region [⟨some 3, none, .p (.mv (.k (.c (C.int .i64 1048576))))⟩] [1, 3])
  (.seq (.region [⟨some 9, none, .h (.load 25 true (.t 1))⟩,
    ⟨some 10, none, .p (.mv (.t 3))⟩,
    ⟨some 11, none, .h (.call (.f 4) [.t 9, .t 10])⟩,
    ⟨some 3, none, .p (.mv (.t 11))⟩] [1, 3])
  (.seq (.seq (.region [⟨some 12, none, .p (.mv (.t 3))⟩,
    ⟨some 13, none, .p (.bin .lss (.t 12) (.k (.c (C.int .i64 0))))⟩] [1, 13])
  (.cond (.t 13)
  (.seq (.region [⟨some 2, none, .p (.mv (.k (.c (C.bool true))))⟩] [2])
  .ret)
  .skip))
  (.seq (.region [⟨some 15, none, .h (.load 25 true (.t 1))⟩,
    ⟨some 16, none, .h (.call (.f 6) [.t 15])⟩,
    ⟨some 17, none, .h (.call (.f 5) [.t 16])⟩,
    ⟨some 14, none, .p (.mv (.t 17))⟩,
    ⟨some 18, none, .p (.ext (.t 14) 0)⟩,
    ⟨some 19, none, .p (.ext (.t 14) 1)⟩,
    ⟨some 4, none, .p (.mv (.t 18))⟩,
    ⟨some 5, none, .p (.mv (.t 19))⟩] [1, 4, 5])
  (.seq (.region [⟨some 20, none, .h (.load 25 true (.t 1))⟩,
    ⟨some 21, none, .h (.call (.f 6) [.t 20])⟩,
    ⟨some 6, none, .p (.alloc [.k (C.int .i64 0), .k (C.int .i64 0), .k (C.int .i64 0), .k (C.int .i64 0), .k (C.int .i64 0), .k (C.int .i64 0), .k (C.int .i64 0), .k (C.int .i64 0), .k (C.int .i64 0), .k (C.int .i64 0), .k (C.int .i64 0), .k (C.int .i64 0), .k (C.int .i64 0), .k (C.int .i64 0), .k (C.int .i64 0), .k (C.int .i64 0), .k (C.int .i64 0), .k (C.int .i64 0), .k (C.int .i64 0), .k (C.int .i64 0), .k (C.int .i64 0), .k (C.int .i64 0), .k (C.int .i64 0), .k (C.int .i64 0), .sl 2])⟩,
    ⟨none, none, .h (.store 25 (.t 6) (.t 21))⟩] [1, 4, 5, 6])
  (.seq (.region [⟨some 23, none, .h (.load 25 true (.t 6))⟩,
    ⟨some 24, none, .h (.call (.f 7) [.t 23])⟩,
    ⟨some 22, none, .p (.mv (.t 24))⟩,
    ⟨some 25, none, .p (.ext (.t 22) 0)⟩,
    ⟨some 26, none, .p (.ext (.t 22) 1)⟩,
    ⟨some 7, none, .p (.mv (.t 25))⟩,
    ⟨some 8, none, .p (.mv (.t 26))⟩] [1, 4, 5, 6, 7, 8])
  (.seq (.seq (.region [⟨some 27, none, .p (.mv (.t 7))⟩,
    ⟨some 28, none, .p (.mv (.t 4))⟩,
    ⟨some 29, none, .p (.bin .neq (.t 27) (.t 28))⟩,
    ⟨some 30, none, .p (.mv (.t 29))⟩,
    ⟨some 31, some (30, false), .p (.mv (.t 8))⟩,
    ⟨some 32, some (30, false), .p (.mv (.t 5))⟩,
    ⟨some 33, some (30, false), .p (.eqb true (.t 31) (.t 32))⟩,
    ⟨some 34, none, .p (.pick (.t 30) (.k (.c (C.bool true))) (.t 33))⟩] [1, 6, 34])
  (.cond (.t 34)
  (.seq (.region [⟨some 2, none, .p (.mv (.k (.c (C.bool false))))⟩] [2])
  .ret)
  .skip))
  (.seq (.seq (.regionE [⟨some 35, none, .h (.load 25 true (.t 6))⟩,
    ⟨some 36, none, .h (.load 25 true (.t 1))⟩,
    ⟨some 37, none, .h (.call (.f 6) [.t 36])⟩,
    ⟨some 38, none, .h (.call (.f 8) [.t 35, .t 37])⟩,
    ⟨some 39, none, .p (.un .not (.t 38))⟩] [39] [] [[], [], [], [2]])
  (.cond (.t 39)
  (.seq (.region [⟨some 2, none, .p (.mv (.k (.c (C.bool false))))⟩] [2])
  .ret)
  .skip))
  (.seq (.region [⟨some 2, none, .p (.mv (.k (.c (C.bool true))))⟩] [2])
  .ret)))))))))) }
theorem a3_ok : okFn Tryd.prog 3 a3 = true := by kernel_rfl
/-- loop.example/g01215/laws.szReplay -/
def a4 : AFn := { np := 2, nt := 12, res := [.t 4], body :=
  (.seq (.region [⟨some 2, none, .p (.box 25 (.t 0))⟩,
    ⟨some 4, none, .p (.mv (.k (.c (C.int .i64 0))))⟩] [1, 2])
  (.seq (.region [⟨some 5, none, .p (.fld 24 (.t 2))⟩,
    ⟨some 6, none, .h (.load 1 false (.t 5))⟩,
    ⟨some 7, none, .p (.mv (.t 1))⟩,
    ⟨some 8, none, .h (.call (.f 9) [.t 6, .t 7])⟩,
    ⟨some 1, none, .p (.mv (.t 8))⟩] [1])
  (.seq (.seq (.region [⟨some 9, none, .p (.mv (.t 1))⟩,
    ⟨some 10, none, .p (.bin .lss (.t 9) (.k (.c (C.int .i64 0))))⟩] [1, 10])
  (.cond (.t 10)
  (.seq (.region [⟨some 4, none, .p (.mv (.k (.c (C.int .i64 (-1)))))⟩] [4])
  .ret)
  .skip))
  (.seq (.region [⟨some 11, none, .p (.mv (.t 1))⟩,
    ⟨some 4, none, .p (.mv (.t 11))⟩] [4])
  .ret)))) }
theorem a4_ok : okFn Tryd.prog 4 a4 = true := by kernel_rfl
/-- loop.example/g01215/spec.ReplayText -/
def a5 : AFn := { np := 1, nt := 9, res := [.t 2, .t 3], body :=
  (.seq (.region [⟨some 1, none, .p (.box 25 (.t 0))⟩,
    ⟨some 2, none, .p (.mv (.k (.c (C.str []))))⟩,
    ⟨some 3, none, .p (.mv (.k (.c (C.bool false))))⟩] [1])
  (.seq (.seq (.region [⟨some 4, none, .h (.load 25 true (.t 1))⟩,
    ⟨some 5, none, .h (.call (.f 10) [.t 4])⟩,
    ⟨some 6, none, .p (.un .not (.t 5))⟩] [1, 6])
  (.cond (.t 6)
  (.seq (.region [⟨some 2, none, .p (.mv (.k (.c (C.str []))))⟩,
    ⟨some 3, none, .p (.mv (.k (.c (C.bool false))))⟩] [2, 3])
  .ret)
  .skip))
  (.seq (.region [⟨some 7, none, .h (.load 25 true (.t 1))⟩,
    ⟨some 8, none, .h (.call (.f 11) [.t 7])⟩,
    ⟨some 2, none, .p (.mv (.t 8))⟩,
    ⟨some 3, none, .p (.mv (.k (.c (C.bool true))))⟩] [2, 3])
  .ret))) }
theorem a5_ok : okFn Tryd.prog 5 a5 = true := by kernel_rfl
/-- loop.example/g01215/laws.toReplay -/
def a6 : AFn := { np := 1, nt := 13, res := [.cell 2 25 true], body :=
  (.seq (.region [⟨some 1, none, .p (.box 25 (.t 0))⟩,
    ⟨some 2, none, .p (.alloc [.k (C.int .i64 0), .k (C.int .i64 0), .k (C.int .i64 0), .k (C.int .i64 0), .k (C.int .i64 0), .k (C.int .i64 0), .k (C.int .i64 0), .k (C.int .i64 0), .k (C.int .i64 0), .k (C.int .i64 0), .k (C.int .i64 0), .k (C.int .i64 0), .k (C.int .i64 0), .k (C.int .i64 0), .k (C.int .i64 0), .k (C.int .i64 0), .k (C.int .i64 0), .k (C.int .i64 0), .k (C.int .i64 0), .k (C.int .i64 0), .k (C.int .i64 0), .k (C.int .i64 0), .k (C.int .i64 0), .k (C.int .i64 0), .sl 2])⟩] [1, 2])
  (.seq (.region [⟨some 3, none, .p (.alloc [.k (C.int .i64 0), .k (C.int .i64 0), .k (C.int .i64 0), .k (C.int .i64 0), .k (C.int .i64 0), .k (C.int .i64 0), .k (C.int .i64 0), .k (C.int .i64 0), .k (C.int .i64 0), .k (C.int .i64 0), .k (C.int .i64 0), .k (C.int .i64 0), .k (C.int .i64 0), .k (C.int .i64 0), .k (C.int .i64 0), .k (C.int .i64 0), .k (C.int .i64 0), .k (C.int .i64 0), .k (C.int .i64 0), .k (C.int .i64 0), .k (C.int .i64 0), .k (C.int .i64 0), .k (C.int .i64 0), .k (C.int .i64 0), .sl 2])⟩] [1, 2, 3])
  (.seq (.region [⟨some 4, none, .p (.fld 0 (.t 1))⟩,
    ⟨some 5, none, .h (.load 24 true (.t 4))⟩,
    ⟨some 6, none, .h (.call (.f 12) [.t 5])⟩,
    ⟨some 7, none, .p (.fld 0 (.t 3))⟩,
    ⟨none, none, .h (.store 24 (.t 7) (.t 6))⟩] [1, 2, 3])
  (.seq (.region [⟨some 8, none, .p (.fld 24 (.t 1))⟩,
    ⟨some 9, none, .h (.load 1 false (.t 8))⟩,
    ⟨some 10, none, .h (.call (.f 13) [.t 9])⟩,
    ⟨some 11, none, .p (.fld 24 (.t 3))⟩,
    ⟨none, none, .h (.store 1 (.t 11) (.t 10))⟩] [2, 3])
  (.seq (.region [⟨some 12, none, .h (.load 25 true (.t 3))⟩,
    ⟨none, none, .h (.store 25 (.t 2) (.t 12))⟩] [2])
  .ret))))) }
theorem a6_ok : okFn Tryd.prog 6 a6 = true := by kernel_rfl
/-- loop.example/g01215/impl.ReplayText -/
def a7 : AFn := { np := 1, nt := 9, res := [.t 2, .t 3], body :=
  (.seq (.region [⟨some 1, none, .p (.box 25 (.t 0))⟩,
    ⟨some 2, none, .p (.mv (.k (.c (C.str []))))⟩,
    ⟨some 3, none, .p (.mv (.k (.c (C.bool false))))⟩] [1])
  (.seq (.seq (.region [⟨some 4, none, .h (.load 25 true (.t 1))⟩,
    ⟨some 5, none, .h (.call (.f 14) [.t 4])⟩,
    ⟨some 6, none, .p (.un .not (.t 5))⟩] [1, 6])
  (.cond (.t 6)
  (.seq (.region [⟨some 2, none, .p (.mv (.k (.c (C.str []))))⟩,
    ⟨some 3, none, .p (.mv (.k (.c (C.bool false))))⟩] [2, 3])
  .ret)
  .skip))
  (.seq (.region [⟨some 7, none, .h (.load 25 true (.t 1))⟩,
    ⟨some 8, none, .h (.call (.f 15) [.t 7])⟩,
    ⟨some 2, none, .p (.mv (.t 8))⟩,
    ⟨some 3, none, .p (.mv (.k (.c (C.bool true))))⟩] [2, 3])
  .ret))) }
theorem a7_ok : okFn Tryd.prog 7 a7 = true := by kernel_rfl
/-- loop.example/g01215/laws.eqReplay -/
def a8 : AFn := { np := 2, nt := 17, res := [.t 4], body :=
  (.seq (.region [⟨some 2, none, .p (.box 25 (.t 0))⟩,
    ⟨some 3, none, .p (.box 25 (.t 1))⟩,
    ⟨some 4, none, .p (.mv (.k (.c (C.bool false))))⟩] [2, 3])
  (.seq (.seq (.region [⟨some 5, none, .p (.fld 0 (.t 2))⟩,
    ⟨some 6, none, .h (.load 24 true (.t 5))⟩,
    ⟨some 7, none, .p (.fld 0 (.t 3))⟩,
    ⟨some 8, none, .h (.load 24 true (.t 7))⟩,
    ⟨some 9, none, .h (.call (.f 16) [.t 6, .t 8])⟩,
    ⟨some 10, none, .p (.un .not (.t 9))⟩] [2, 3, 10])
  (.cond (.t 10)
  (.seq (.region [⟨some 4, none, .p (.mv (.k (.c (C.bool false))))⟩] [4])
  .ret)
  .skip))
  (.seq (.seq (.region [⟨some 11, none, .p (.fld 24 (.t 2))⟩,
    ⟨some 12, none, .h (.load 1 false (.t 11))⟩,
    ⟨some 13, none, .p (.fld 24 (.t 3))⟩,
    ⟨some 14, none, .h (.load 1 false (.t 13))⟩,
    ⟨some 15, none, .h (.call (.f 17) [.t 12, .t 14])⟩,
    ⟨some 16, none, .p (.un .not (.t 15))⟩] [16])
  (.cond (.t 16)
  (.seq (.region [⟨some 4, none, .p (.mv (.k (.c (C.bool false))))⟩] [4])
  .ret)
  .skip))
  (.seq (.region [⟨some 4, none, .p (.mv (.k (.c (C.bool true))))⟩] [4])
  .ret)))) }
theorem a8_ok : okFn Tryd.prog 8 a8 = true := by kernel_rfl
/-- loop.example/g01215/laws.szIntA2S -/
def a9 : AFn := { np := 2, nt := 12, res := [.t 4], body :=
  (.seq (.region [⟨some 4, none, .p (.mv (.k (.c (C.int .i64 0))))⟩] [0, 1])
  (.seq (.region [⟨some 5, none, .p (.mv (.t 1))⟩,
    ⟨some 6, none, .p (.mv (.t 0))⟩,
    ⟨some 7, none, .p (.len (.t 6))⟩,
    ⟨some 8, none, .p (.bin .sub (.t 5) (.t 7))⟩,
    ⟨some 1, none, .p (.mv (.t 8))⟩] [1])
  (.seq (.seq (.region [⟨some 9, none, .p (.mv (.t 1))⟩,
    ⟨some 10, none, .p (.bin .lss (.t 9) (.k (.c (C.int .i64 0))))⟩] [1, 10])
  (.cond (.t 10)
  (.seq (.region [⟨some 4, none, .p (.mv (.k (.c (C.int .i64 (-1)))))⟩] [4])
  .ret)
  .skip))
  (.seq (.region [⟨some 11, none, .p (.mv (.t 1))⟩,
    ⟨some 4, none, .p (.mv (.t 11))⟩] [4])
  .ret)))) }
theorem a9_ok : okFn Tryd.prog 9 a9 = true := by kernel_rfl
/-- loop.example/g01215/spec.IsReplay -/
def a10 : AFn := { np := 1, nt := 11, res := [.t 2], body :=
  (.seq (.region [⟨some 1, none, .p (.box 25 (.t 0))⟩,
    ⟨some 2, none, .p (.mv (.k (.c (C.bool false))))⟩] [1])
  (.seq (.region [⟨some 6, none, .h (.load 25 true (.t 1))⟩,
    ⟨some 7, none, .h (.call (.f 18) [.t 6])⟩,
    ⟨some 5, none, .p (.mv (.t 7))⟩,
    ⟨some 8, none, .p (.ext (.t 5) 0)⟩,
    ⟨some 9, none, .p (.ext (.t 5) 1)⟩,
    ⟨some 3, none, .p (.mv (.t 8))⟩,
    ⟨some 4, none, .p (.mv (.t 9))⟩] [4])
  (.seq (.region [⟨some 10, none, .p (.mv (.t 4))⟩,
    ⟨some 2, none, .p (.mv (.t 10))⟩] [2])
  .ret))) }
theorem a10_ok : okFn Tryd.prog 10 a10 = true := by kernel_rfl
/-- loop.example/g01215/spec.l11Write -/
def a11 : AFn := { np := 1, nt := 34, res := [.t 2], body :=
  (.seq (.region [⟨some 1, none, .p (.box 25 (.t 0))⟩,
    ⟨some 2, none, .p (.mv (.k (.c (C.str []))))⟩] [1])
  (.seq (.region [⟨some 5, none, .p (.fld 0 (.t 1))⟩,
    ⟨some 6, none, .h (.load 24 true (.t 5))⟩,
    ⟨some 7, none, .h (.call (.f 19) [.t 6])⟩,
    ⟨some 3, none, .p (.mv (.t 7))⟩] [1, 3])
  (.seq (.seq (.region [⟨some 4, none, .p (.mv (.k (.c (C.int .i64 0))))⟩] [1, 3, 4])
  (.block 0 (.loop (.seq (.seq (.region [⟨some 8, none, .p (.mv (.t 4))⟩,
    ⟨some 9, none, .p (.fld 24 (.t 1))⟩,
    ⟨some 10, none, .h (.load 1 false (.t 9))⟩,
    ⟨some 11, none, .p (.len (.t 10))⟩,
    ⟨some 12, none, .p (.bin .lss (.t 8) (.t 11))⟩] [1, 3, 4, 12])
  (.cond (.t 12)
  .skip
  (.exit 0)))
  (.seq (.block 1 (.regionD [⟨some 15, none, .p (.mv (.t 3))⟩,
    ⟨some 16, none, .p (.bin .add (.t 15) (.k (.c (C.str [32]))))⟩,
    ⟨some 17, none, .p (.fld 24 (.t 1))⟩,
    ⟨some 18, none, .h (.load 1 false (.t 17))⟩,
    ⟨some 19, none, .p (.mv (.t 4))⟩,
    ⟨some 20, none, .p (.ixS 2 (.t 18) (.t 19))⟩,
    ⟨some 21, none, .p (.ixA 2 1 (.t 20) (.k (.c (C.int .i64 0))))⟩,
    ⟨some 22, none, .h (.load 1 false (.t 21))⟩,
    ⟨some 23, none, .h (.call (.f 20) [.t 22])⟩,
    ⟨some 24, none, .p (.bin .add (.t 16) (.t 23))⟩,
    ⟨some 25, none, .p (.fld 24 (.t 1))⟩,
    ⟨some 26, none, .h (.load 1 false (.t 25))⟩,
    ⟨some 27, none, .p (.mv (.t 4))⟩,
    ⟨some 28, none, .p (.ixS 2 (.t 26) (.t 27))⟩,
    ⟨some 29, none, .p (.ixA 2 1 (.t 28) (.k (.c (C.int .i64 1))))⟩,
    ⟨some 30, none, .h (.load 1 false (.t 29))⟩,
    ⟨some 31, none, .h (.call (.f 20) [.t 30])⟩,
    ⟨some 32, none, .p (.bin .add (.t 24) (.t 31))⟩,
    ⟨some 3, none, .p (.mv (.t 32))⟩] [1, 3, 4] []))
  (.region [⟨some 13, none, .p (.mv (.t 4))⟩,
    ⟨some 14, none, .p (.bin .add (.t 13) (.k (.c (C.int .i64 1))))⟩,
    ⟨some 4, none, .p (.mv (.t 14))⟩] [1, 3, 4]))) [1, 3, 4])))
  (.seq (.region [⟨some 33, none, .p (.mv (.t 3))⟩,
    ⟨some 2, none, .p (.mv (.t 33))⟩] [2])
  .ret)))) }
theorem a11_ok : okFn Tryd.prog 11 a11 = true := by kernel_rfl
/-- loop.example/g01215/laws.toRack -/
def a12 : AFn := { np := 1, nt := 9, res := [.cell 2 24 true], body :=
  (.seq (.region [⟨some 1, none, .p (.box 24 (.t 0))⟩,
    ⟨some 2, none, .p (.alloc (List.replicate 24 (.k (C.int .i64 0))))⟩] [1, 2])
  (.seq (.region [⟨some 3, none, .p (.alloc (List.replicate 24 (.k (C.int .i64 0))))⟩] [1, 2, 3])
  (.seq (.region [⟨some 4, none, .p (.fld 0 (.t 1))⟩,
    ⟨some 5, none, .h (.load 24 true (.t 4))⟩,
    ⟨some 6, none, .h (.call (.f 21) [.t 5])⟩,
    ⟨some 7, none, .p (.fld 0 (.t 3))⟩,
    ⟨none, none, .h (.store 24 (.t 7) (.t 6))⟩] [2, 3])
  (.seq (.region [⟨some 8, none, .h (.load 24 true (.t 3))⟩,
    ⟨none, none, .h (.store 24 (.t 2) (.t 8))⟩] [2])
  .ret)))) }
theorem a12_ok : okFn Tryd.prog 12 a12 = true := by kernel_rfl
/-- loop.example/g01215/laws.toIntA2S -/
def a13 : AFn := { np := 1, nt := 23, res := [.t 2], body :=
  (.seq (.region [⟨some 2, none, .p (.nilsl 2)⟩] [0])
  (.seq (.region [⟨some 5, none, .p (.mv (.t 0))⟩,
    ⟨some 6, none, .p (.len (.t 5))⟩,
    ⟨some 7, none, .p (.mkslice 2 [.k (C.int .i64 0), .k (C.int .i64 0)] (.t 6) (.t 6))⟩,
    ⟨some 3, none, .p (.mv (.t 7))⟩] [0, 3])
  (.seq (.seq (.region [⟨some 4, none, .p (.mv (.k (.c (C.int .i64 0))))⟩] [0, 3, 4])
  (.block 0 (.loop (.seq (.seq (.region [⟨some 8, none, .p (.mv (.t 4))⟩,
    ⟨some 9, none, .p (.mv (.t 0))⟩,
    ⟨some 10, none, .p (.len (.t 9))⟩,
    ⟨some 11, none, .p (.bin .lss (.t 8) (.t 10))⟩] [0, 3, 4, 11])
  (.cond (.t 11)
  .skip
  (.exit 0)))
  (.seq (.block 1 (.region [⟨some 14, none, .p (.mv (.t 3))⟩,
    ⟨some 15, none, .p (.mv (.t 4))⟩,
    ⟨some 16, none, .p (.mv (.t 0))⟩,
    ⟨some 17, none, .p (.mv (.t 4))⟩,
    ⟨some 18, none, .p (.ixS 2 (.t 16) (.t 17))⟩,
    ⟨some 19, none, .h (.load 2 true (.t 18))⟩,
    ⟨some 20, none, .h (.call (.f 22) [.t 19])⟩,
    ⟨some 21, none, .p (.ixS 2 (.t 14) (.t 15))⟩,
    ⟨none, none, .h (.store 2 (.t 21) (.t 20))⟩] [0, 3, 4]))
  (.region [⟨some 12, none, .p (.mv (.t 4))⟩,
    ⟨some 13, none, .p (.bin .add (.t 12) (.k (.c (C.int .i64 1))))⟩,
    ⟨some 4, none, .p (.mv (.t 13))⟩] [0, 3, 4]))) [0, 3, 4])))
  (.seq (.region [⟨some 22, none, .p (.mv (.t 3))⟩,
    ⟨some 2, none, .p (.mv (.t 22))⟩] [2])
  .ret)))) }
theorem a13_ok : okFn Tryd.prog 13 a13 = true := by kernel_rfl
/-- loop.example/g01215/impl.IsReplay -/
def a14 : AFn := { np := 1, nt := 11, res := [.t 2], body :=
  (.seq (.region [⟨some 1, none, .p (.box 25 (.t 0))⟩,
    ⟨some 2, none, .p (.mv (.k (.c (C.bool false))))⟩] [1])
  (.seq (.region [⟨some 6, none, .h (.load 25 true (.t 1))⟩,
    ⟨some 7, none, .h (.call (.f 23) [.t 6])⟩,
    ⟨some 5, none, .p (.mv (.t 7))⟩,
    ⟨some 8, none, .p (.ext (.t 5) 0)⟩,
    ⟨some 9, none, .p (.ext (.t 5) 1)⟩,
    ⟨some 3, none, .p (.mv (.t 8))⟩,
    ⟨some 4, none, .p (.mv (.t 9))⟩] [4])
  (.seq (.region [⟨some 10, none, .p (.mv (.t 4))⟩,
    ⟨some 2, none, .p (.mv (.t 10))⟩] [2])
  .ret))) }
theorem a14_ok : okFn Tryd.prog 14 a14 = true := by kernel_rfl
/-- (loop.example/g01215/impl.Replay).text -/
def a15 : AFn := { np := 1, nt := 28, res := [.t 2], body :=
  (.seq (.region [⟨some 1, none, .p (.box 25 (.t 0))⟩,
    ⟨some 2, none, .p (.mv (.k (.c (C.str []))))⟩] [1])
  (.seq (.region [⟨some 6, none, .p (.fld 0 (.t 1))⟩,
    ⟨some 7, none, .h (.load 24 true (.t 6))⟩,
    ⟨some 8, none, .h (.call (.f 24) [.t 7])⟩,
    ⟨some 3, none, .p (.mv (.t 8))⟩] [1, 3])
  (.seq (.seq (.region [⟨some 9, none, .p (.fld 24 (.t 1))⟩,
    ⟨some 10, none, .h (.load 1 false (.t 9))⟩,
    ⟨some 11, none, .p (.len (.t 10))⟩,
    ⟨some 12, none, .p (.mv (.k (.c (C.int .i64 0))))⟩] [3, 10, 11, 12])
  (.block 0 (.loop (.seq (.region [⟨some 13, none, .p (.bin .lss (.t 12) (.t 11))⟩] [3, 10, 11, 12, 13])
  (.seq (.cond (.t 13)
  .skip
  (.exit 0))
  (.seq (.block 1 (.seq (.region [⟨some 14, none, .p (.ixS 2 (.t 10) (.t 12))⟩,
    ⟨some 15, none, .h (.load 2 true (.t 14))⟩,
    ⟨some 5, none, .p (.alloc [.k (C.int .i64 0), .k (C.int .i64 0)])⟩,
    ⟨none, none, .h (.store 2 (.t 5) (.t 15))⟩] [3, 5, 10, 11, 12])
  (.regionD [⟨some 16, none, .p (.mv (.t 3))⟩,
    ⟨some 17, none, .p (.ixA 2 1 (.t 5) (.k (.c (C.int .i64 0))))⟩,
    ⟨some 18, none, .h (.load 1 false (.t 17))⟩,
    ⟨some 19, none, .h (.call (.f 25) [.t 18])⟩,
    ⟨some 20, none, .p (.bin .add (.k (.c (C.str [32]))) (.t 19))⟩,
    ⟨some 21, none, .p (.ixA 2 1 (.t 5) (.k (.c (C.int .i64 1))))⟩,
    ⟨some 22, none, .h (.load 1 false (.t 21))⟩,
    ⟨some 23, none, .h (.call (.f 25) [.t 22])⟩,
    ⟨some 24, none, .p (.bin .add (.t 20) (.t 23))⟩,
    ⟨some 25, none, .p (.bin .add (.t 16) (.t 24))⟩,
    ⟨some 3, none, .p (.mv (.t 25))⟩] [3, 10, 11, 12] [])))
  (.region [⟨some 26, none, .p (.bin .add (.t 12) (.k (.c (C.int .i64 1))))⟩,
    ⟨some 12, none, .p (.mv (.t 26))⟩] [3, 10, 11, 12])))) [3, 10, 11, 12])))
  (.seq (.region [⟨some 27, none, .p (.mv (.t 3))⟩,
    ⟨some 2, none, .p (.mv (.t 27))⟩] [2])
  .ret)))) }
theorem a15_ok : okFn Tryd.prog 15 a15 = true := by kernel_rfl
/-- loop.example/g01215/laws.eqRack -/
def a16 : AFn := { np := 2, nt := 11, res := [.t 4], body :=
  (.seq (.region [⟨some 2, none, .p (.box 24 (.t 0))⟩,
    ⟨some 3, none, .p (.box 24 (.t 1))⟩,
    ⟨some 4, none, .p (.mv (.k (.c (C.bool false))))⟩] [2, 3])
  (.seq (.seq (.region [⟨some 5, none, .p (.fld 0 (.t 2))⟩,
    ⟨some 6, none, .h (.load 24 true (.t 5))⟩,
    ⟨some 7, none, .p (.fld 0 (.t 3))⟩,
    ⟨some 8, none, .h (.load 24 true (.t 7))⟩,
    ⟨some 9, none, .h (.call (.f 26) [.t 6, .t 8])⟩,
    ⟨some 10, none, .p (.un .not (.t 9))⟩] [10])
  (.cond (.t 10)
  (.seq (.region [⟨some 4, none, .p (.mv (.k (.c (C.bool false))))⟩] [4])
  .ret)
  .skip))
  (.seq (.region [⟨some 4, none, .p (.mv (.k (.c (C.bool true))))⟩] [4])
  .ret))) }
theorem a16_ok : okFn Tryd.prog 16 a16 = true := by kernel_rfl
/-- loop.example/g01215/laws.eqIntA2S -/
def a17 : AFn := { np := 2, nt := 27, res := [.t 4], body :=
  (.seq (.region [⟨some 4, none, .p (.mv (.k (.c (C.bool false))))⟩] [0, 1])
  (.seq (.seq (.region [⟨some 6, none, .p (.mv (.t 0))⟩,
    ⟨some 7, none, .p (.len (.t 6))⟩,
    ⟨some 8, none, .p (.mv (.t 1))⟩,
    ⟨some 9, none, .p (.len (.t 8))⟩,
    ⟨some 10, none, .p (.bin .neq (.t 7) (.t 9))⟩] [0, 1, 10])
  (.cond (.t 10)
  (.seq (.region [⟨some 4, none, .p (.mv (.k (.c (C.bool false))))⟩] [4])
  .ret)
  .skip))
  (.seq (.seq (.region [⟨some 5, none, .p (.mv (.k (.c (C.int .i64 0))))⟩] [0, 1, 5])
  (.block 0 (.loop (.seq (.seq (.region [⟨some 11, none, .p (.mv (.t 5))⟩,
    ⟨some 12, none, .p (.mv (.t 0))⟩,
    ⟨some 13, none, .p (.len (.t 12))⟩,
    ⟨some 14, none, .p (.bin .lss (.t 11) (.t 13))⟩] [0, 1, 5, 14])
  (.cond (.t 14)
  .skip
  (.exit 0)))
  (.seq (.block 1 (.seq (.regionD [⟨some 17, none, .p (.mv (.t 0))⟩,
    ⟨some 18, none, .p (.mv (.t 5))⟩,
    ⟨some 19, none, .p (.ixS 2 (.t 17) (.t 18))⟩,
    ⟨some 20, none, .h (.load 2 true (.t 19))⟩,
    ⟨some 21, none, .p (.mv (.t 1))⟩,
    ⟨some 22, none, .p (.mv (.t 5))⟩,
    ⟨some 23, none, .p (.ixS 2 (.t 21) (.t 22))⟩,
    ⟨some 24, none, .h (.load 2 true (.t 23))⟩,
    ⟨some 25, none, .h (.call (.f 27) [.t 20, .t 24])⟩,
    ⟨some 26, none, .p (.un .not (.t 25))⟩] [0, 1, 5, 26] [])
  (.cond (.t 26)
  (.seq (.region [⟨some 4, none, .p (.mv (.k (.c (C.bool false))))⟩] [4])
  .ret)
  .skip)))
  (.region [⟨some 15, none, .p (.mv (.t 5))⟩,
    ⟨some 16, none, .p (.bin .add (.t 15) (.k (.c (C.int .i64 1))))⟩,
    ⟨some 5, none, .p (.mv (.t 16))⟩] [0, 1, 5]))) [0, 1, 5])))
  (.seq (.region [⟨some 4, none, .p (.mv (.k (.c (C.bool true))))⟩] [4])
  .ret)))) }
theorem a17_ok : okFn Tryd.prog 17 a17 = true := by kernel_rfl
/-- loop.example/g01215/spec.l11Racks -/
def a18 : AFn := { np := 1, nt := 66, res := [.t 2, .t 3], body :=
  (.seq (.region [⟨some 1, none, .p (.box 25 (.t 0))⟩,
    ⟨some 2, none, .p (.nilsl 24)⟩,
    ⟨some 3, none, .p (.mv (.k (.c (C.bool false))))⟩] [1])
  (.seq (.seq (.region [⟨some 8, none, .p (.fld 0 (.t 1))⟩,
    ⟨some 9, none, .h (.load 24 true (.t 8))⟩,
    ⟨some 10, none, .h (.call (.f 28) [.t 9])⟩,
    ⟨some 11, none, .p (.un .not (.t 10))⟩,
    ⟨some 12, none, .p (.mv (.t 11))⟩,
    ⟨some 13, some (12, false), .p (.fld 24 (.t 1))⟩,
    ⟨some 14, some (12, false), .h (.load 1 false (.t 13))⟩,
    ⟨some 15, some (12, false), .p (.len (.t 14))⟩,
    ⟨some 16, some (12, false), .p (.bin .gtr (.t 15) (.k (.c (C.int .i64 60))))⟩,
    ⟨some 17, none, .p (.pick (.t 12) (.k (.c (C.bool true))) (.t 16))⟩] [1, 17])
  (.cond (.t 17)
  (.seq (.region [⟨some 18, none, .p (.mksl 24 0 (List.replicate 24 (.k (C.int .i64 0))) [])⟩,
    ⟨some 2, none, .p (.mv (.t 18))⟩,
    ⟨some 3, none, .p (.mv (.k (.c (C.bool false))))⟩] [2, 3])
  .ret)
  .skip))
  (.seq (.region [⟨some 19, none, .p (.fld 0 (.t 1))⟩,
    ⟨some 20, none, .h (.load 24 true (.t 19))⟩,
    ⟨some 21, none, .p (.mksl 24 1 (List.replicate 24 (.k (C.int .i64 0))) [(0, 24, .t 20)])⟩,
    ⟨some 4, none, .p (.mv (.t 21))⟩] [1, 4])
  (.seq (.seq (.region [⟨some 5, none, .p (.mv (.k (.c (C.int .i64 0))))⟩] [1, 4, 5])
  (.block 0 (.loop (.seq (.seq (.region [⟨some 22, none, .p (.mv (.t 5))⟩,
    ⟨some 23, none, .p (.fld 24 (.t 1))⟩,
    ⟨some 24, none, .h (.load 1 false (.t 23))⟩,
    ⟨some 25, none, .p (.len (.t 24))⟩,
    ⟨some 26, none, .p (.bin .lss (.t 22) (.t 25))⟩] [1, 4, 5, 26])
  (.cond (.t 26)
  .skip
  (.exit 0)))
  (.seq (.block 1 (.seq (.seq (.regionD [⟨some 29, none, .p (.mv (.t 4))⟩,
    ⟨some 30, none, .p (.mv (.t 5))⟩,
    ⟨some 31, none, .p (.ixS 24 (.t 29) (.t 30))⟩,
    ⟨some 32, none, .h (.load 24 true (.t 31))⟩,
    ⟨some 33, none, .p (.fld 24 (.t 1))⟩,
    ⟨some 34, none, .h (.load 1 false (.t 33))⟩,
    ⟨some 35, none, .p (.mv (.t 5))⟩,
    ⟨some 36, none, .p (.ixS 2 (.t 34) (.t 35))⟩,
    ⟨some 37, none, .h (.load 2 true (.t 36))⟩,
    ⟨some 38, none, .h (.call (.f 29) [.t 32, .t 37])⟩,
    ⟨some 39, none, .p (.un .not (.t 38))⟩] [1, 4, 5, 39] [])
  (.cond (.t 39)
  (.seq (.region [⟨some 40, none, .p (.mksl 24 0 (List.replicate 24 (.k (C.int .i64 0))) [])⟩,
    ⟨some 2, none, .p (.mv (.t 40))⟩,
    ⟨some 3, none, .p (.mv (.k (.c (C.bool false))))⟩] [2, 3])
  .ret)
  .skip))
  (.seq (.regionD [⟨some 42, none, .p (.mv (.t 4))⟩,
    ⟨some 43, none, .p (.mv (.t 5))⟩,
    ⟨some 44, none, .p (.ixS 24 (.t 42) (.t 43))⟩,
    ⟨some 45, none, .h (.load 24 true (.t 44))⟩,
    ⟨some 46, none, .p (.fld 24 (.t 1))⟩,
    ⟨some 47, none, .h (.load 1 false (.t 46))⟩,
    ⟨some 48, none, .p (.mv (.t 5))⟩,
    ⟨some 49, none, .p (.ixS 2 (.t 47) (.t 48))⟩,
    ⟨some 50, none, .p (.ixA 2 1 (.t 49) (.k (.c (C.int .i64 0))))⟩,
    ⟨some 51, none, .h (.load 1 false (.t 50))⟩,
    ⟨some 52, none, .p (.fld 24 (.t 1))⟩,
    ⟨some 53, none, .h (.load 1 false (.t 52))⟩,
    ⟨some 54, none, .p (.mv (.t 5))⟩,
    ⟨some 55, none, .p (.ixS 2 (.t 53) (.t 54))⟩,
    ⟨some 56, none, .p (.ixA 2 1 (.t 55) (.k (.c (C.int .i64 1))))⟩,
    ⟨some 57, none, .h (.load 1 false (.t 56))⟩,
    ⟨some 58, none, .h (.call (.f 30) [.t 45, .t 51, .t 57])⟩,
    ⟨some 41, none, .p (.mv (.t 58))⟩,
    ⟨some 59, none, .p (.ext (.t 41) 0)⟩,
    ⟨some 60, none, .p (.ext (.t 41) 1)⟩,
    ⟨some 6, none, .p (.alloc (List.replicate 24 (.k (C.int .i64 0))))⟩,
    ⟨none, none, .h (.store 24 (.t 6) (.t 59))⟩,
    ⟨some 7, none, .p (.mv (.t 60))⟩] [1, 4, 5, 6] [])
  (.region [⟨some 61, none, .p (.mv (.t 4))⟩,
    ⟨some 62, none, .h (.load 24 true (.t 6))⟩,
    ⟨some 63, none, .p (.mksl 24 1 (List.replicate 24 (.k (C.int .i64 0))) [(0, 24, .t 62)])⟩,
    ⟨some 64, none, .h (.app 24 (.t 61) (.t 63))⟩,
    ⟨some 4, none, .p (.mv (.t 64))⟩] [1, 4, 5]))))
  (.region [⟨some 27, none, .p (.mv (.t 5))⟩,
    ⟨some 28, none, .p (.bin .add (.t 27) (.k (.c (C.int .i64 1))))⟩,
    ⟨some 5, none, .p (.mv (.t 28))⟩] [1, 4, 5]))) [1, 4, 5])))
  (.seq (.region [⟨some 65, none, .p (.mv (.t 4))⟩,
    ⟨some 2, none, .p (.mv (.t 65))⟩,
    ⟨some 3, none, .p (.mv (.k (.c (C.bool true))))⟩] [2, 3])
  .ret))))) }
theorem a18_ok : okFn Tryd.prog 18 a18 = true := by kernel_rfl
/-- loop.example/g01215/spec.l2Text -/
def a19 : AFn := { np := 1, nt := 32, res := [.t 2], body :=
  (.seq (.region [⟨some 1, none, .p (.box 24 (.t 0))⟩,
    ⟨some 2, none, .p (.mv (.k (.c (C.str []))))⟩] [1])
  (.seq (.region [⟨some 3, none, .p (.mv (.k (.c (C.str []))))⟩] [1, 3])
  (.seq (.seq (.region [⟨some 4, none, .p (.mv (.k (.c (C.int .i64 0))))⟩] [1, 3, 4])
  (.block 0 (.loop (.seq (.seq (.region [⟨some 7, none, .p (.mv (.t 4))⟩,
    ⟨some 8, none, .p (.bin .lss (.t 7) (.k (.c (C.int .i64 6))))⟩] [1, 3, 4, 8])
  (.cond (.t 8)
  .skip
  (.exit 0)))
  (.seq (.block 1 (.seq (.seq (.region [⟨some 11, none, .p (.mv (.t 4))⟩,
    ⟨some 12, none, .p (.bin .gtr (.t 11) (.k (.c (C.int .i64 0))))⟩] [1, 3, 4, 12])
  (.cond (.t 12)
  (.region [⟨some 13, none, .p (.mv (.t 3))⟩,
    ⟨some 14, none, .p (.bin .add (.t 13) (.k (.c (C.str [47]))))⟩,
    ⟨some 3, none, .p (.mv (.t 14))⟩] [1, 3, 4])
  .skip))
  (.seq (.region [⟨some 5, none, .p (.mv (.k (.c (C.int .i64 0))))⟩] [1, 3, 4, 5])
  (.block 2 (.loop (.seq (.seq (.region [⟨some 15, none, .p (.mv (.t 5))⟩,
    ⟨some 16, none, .p (.bin .lss (.t 15) (.k (.c (C.int .i64 4))))⟩] [1, 3, 4, 5, 16])
  (.cond (.t 16)
  .skip
  (.exit 2)))
  (.seq (.block 3 (.seq (.region [⟨some 19, none, .p (.mv (.t 4))⟩,
    ⟨some 20, none, .p (.mv (.t 5))⟩,
    ⟨some 21, none, .p (.fld 0 (.t 1))⟩,
    ⟨some 22, none, .p (.ixA 6 4 (.t 21) (.t 19))⟩,
    ⟨some 23, none, .p (.ixA 4 1 (.t 22) (.t 20))⟩,
    ⟨some 24, none, .h (.load 1 false (.t 23))⟩,
    ⟨some 6, none, .p (.mv (.t 24))⟩] [1, 3, 4, 5, 6])
  (.region [⟨some 25, none, .p (.mv (.t 3))⟩,
    ⟨some 26, none, .p (.mv (.t 6))⟩,
    ⟨some 27, none, .p (.mv (.t 6))⟩,
    ⟨some 28, none, .p (.bin .add (.t 27) (.k (.c (C.int .i64 1))))⟩,
    ⟨some 29, none, .p (.slStr (.k (.c (C.str [46, 97, 98, 99, 100, 101]))) (some (.t 26)) (some (.t 28)))⟩,
    ⟨some 30, none, .p (.bin .add (.t 25) (.t 29))⟩,
    ⟨some 3, none, .p (.mv (.t 30))⟩] [1, 3, 4, 5])))
  (.region [⟨some 17, none, .p (.mv (.t 5))⟩,
    ⟨some 18, none, .p (.bin .add (.t 17) (.k (.c (C.int .i64 1))))⟩,
    ⟨some 5, none, .p (.mv (.t 18))⟩] [1, 3, 4, 5]))) [1, 3, 4, 5])))))
  (.region [⟨some 9, none, .p (.mv (.t 4))⟩,
    ⟨some 10, none, .p (.bin .add (.t 9) (.k (.c (C.int .i64 1))))⟩,
    ⟨some 4, none, .p (.mv (.t 10))⟩] [1, 3, 4]))) [1, 3, 4])))
  (.seq (.region [⟨some 31, none, .p (.mv (.t 3))⟩,
    ⟨some 2, none, .p (.mv (.t 31))⟩] [2])
  .ret)))) }
theorem a19_ok : okFn Tryd.prog 19 a19 = true := by kernel_rfl
/-- loop.example/g01215/spec.l1Num -/
def a20 : AFn := { np := 1, nt := 35, res := [.t 2], body :=
  (.seq (.region [⟨some 2, none, .p (.mv (.k (.c (C.str []))))⟩] [0])
  (.seq (.seq (.region [⟨some 3, none, .p (.mv (.t 0))⟩,
    ⟨some 4, none, .p (.bin .lss (.t 3) (.k (.c (C.int .i64 0))))⟩] [0, 4])
  (.cond (.t 4)
  (.seq (.seq (.region [⟨some 5, none, .p (.mv (.t 0))⟩,
    ⟨some 6, none, .p (.bin .gtr (.t 5) (.k (.c (C.int .i64 (-10)))))⟩] [0, 6])
  (.cond (.t 6)
  (.seq (.region [⟨some 7, none, .p (.mv (.t 0))⟩,
    ⟨some 8, none, .p (.un .neg (.t 7))⟩,
    ⟨some 9, none, .h (.call (.f 20) [.t 8])⟩,
    ⟨some 10, none, .p (.bin .add (.k (.c (C.str [45]))) (.t 9))⟩,
    ⟨some 2, none, .p (.mv (.t 10))⟩] [2])
  .ret)
  .skip))
  (.seq (.region [⟨some 11, none, .p (.mv (.t 0))⟩,
    ⟨some 12, none, .p (.bin .quo (.t 11) (.k (.c (C.int .i64 10))))⟩,
    ⟨some 13, none, .h (.call (.f 20) [.t 12])⟩,
    ⟨some 14, none, .p (.mv (.t 0))⟩,
    ⟨some 15, none, .p (.bin .rem (.t 14) (.k (.c (C.int .i64 10))))⟩,
    ⟨some 16, none, .p (.un .neg (.t 15))⟩,
    ⟨some 17, none, .h (.call (.f 20) [.t 16])⟩,
    ⟨some 18, none, .p (.bin .add (.t 13) (.t 17))⟩,
    ⟨some 2, none, .p (.mv (.t 18))⟩] [2])
  .ret))
  .skip))
  (.seq (.seq (.region [⟨some 19, none, .p (.mv (.t 0))⟩,
    ⟨some 20, none, .p (.bin .lss (.t 19) (.k (.c (C.int .i64 10))))⟩] [0, 20])
  (.cond (.t 20)
  (.seq (.region [⟨some 21, none, .p (.mv (.t 0))⟩,
    ⟨some 22, none, .p (.mv (.t 0))⟩,
    ⟨some 23, none, .p (.bin .add (.t 22) (.k (.c (C.int .i64 1))))⟩,
    ⟨some 24, none, .p (.slStr (.k (.c (C.str [48, 49, 50, 51, 52, 53, 54, 55, 56, 57]))) (some (.t 21)) (some (.t 23)))⟩,
    ⟨some 2, none, .p (.mv (.t 24))⟩] [2])
  .ret)
  .skip))
  (.seq (.regionD [⟨some 25, none, .p (.mv (.t 0))⟩,
    ⟨some 26, none, .p (.bin .quo (.t 25) (.k (.c (C.int .i64 10))))⟩,
    ⟨some 27, none, .h (.call (.f 20) [.t 26])⟩,
    ⟨some 28, none, .p (.mv (.t 0))⟩,
    ⟨some 29, none, .p (.bin .rem (.t 28) (.k (.c (C.int .i64 10))))⟩,
    ⟨some 30, none, .p (.mv (.t 0))⟩,
    ⟨some 31, none, .p (.bin .rem (.t 30) (.k (.c (C.int .i64 10))))⟩,
    ⟨some 32, none, .p (.bin .add (.t 31) (.k (.c (C.int .i64 1))))⟩,
    ⟨some 33, none, .p (.slStr (.k (.c (C.str [48, 49, 50, 51, 52, 53, 54, 55, 56, 57]))) (some (.t 29)) (some (.t 32)))⟩,
    ⟨some 34, none, .p (.bin .add (.t 27) (.t 33))⟩,
    ⟨some 2, none, .p (.mv (.t 34))⟩] [2] [])
  .ret)))) }
theorem a20_ok : okFn Tryd.prog 20 a20 = true := by kernel_rfl
/-- loop.example/g01215/laws.toIntA4A6 -/
def a21 : AFn := { np := 1, nt := 16, res := [.cell 2 24 true], body :=
  (.seq (.region [⟨some 1, none, .p (.box 24 (.t 0))⟩,
    ⟨some 2, none, .p (.alloc (List.replicate 24 (.k (C.int .i64 0))))⟩] [1, 2])
  (.seq (.region [⟨some 3, none, .p (.alloc (List.replicate 24 (.k (C.int .i64 0))))⟩] [1, 2, 3])
  (.seq (.seq (.region [⟨some 4, none, .p (.mv (.k (.c (C.int .i64 0))))⟩] [1, 2, 3, 4])
  (.block 0 (.loop (.seq (.seq (.region [⟨some 5, none, .p (.mv (.t 4))⟩,
    ⟨some 6, none, .p (.bin .lss (.t 5) (.k (.c (C.int .i64 6))))⟩] [1, 2, 3, 4, 6])
  (.cond (.t 6)
  .skip
  (.exit 0)))
  (.seq (.block 1 (.region [⟨some 9, none, .p (.mv (.t 4))⟩,
    ⟨some 10, none, .p (.mv (.t 4))⟩,
    ⟨some 11, none, .p (.ixA 6 4 (.t 1) (.t 10))⟩,
    ⟨some 12, none, .h (.load 4 true (.t 11))⟩,
    ⟨some 13, none, .h (.call (.f 31) [.t 12])⟩,
    ⟨some 14, none, .p (.ixA 6 4 (.t 3) (.t 9))⟩,
    ⟨none, none, .h (.store 4 (.t 14) (.t 13))⟩] [1, 2, 3, 4]))
  (.region [⟨some 7, none, .p (.mv (.t 4))⟩,
    ⟨some 8, none, .p (.bin .add (.t 7) (.k (.c (C.int .i64 1))))⟩,
    ⟨some 4, none, .p (.mv (.t 8))⟩] [1, 2, 3, 4]))) [1, 2, 3, 4])))
  (.seq (.region [⟨some 15, none, .h (.load 24 true (.t 3))⟩,
    ⟨none, none, .h (.store 24 (.t 2) (.t 15))⟩] [2])
  .ret)))) }
theorem a21_ok : okFn Tryd.prog 21 a21 = true := by kernel_rfl
/-- loop.example/g01215/laws.toIntA2 -/
def a22 : AFn := { np := 1, nt := 15, res := [.cell 2 2 true], body :=
  (.seq (.region [⟨some 1, none, .p (.box 2 (.t 0))⟩,
    ⟨some 2, none, .p (.alloc [.k (C.int .i64 0), .k (C.int .i64 0)])⟩] [1, 2])
  (.seq (.region [⟨some 3, none, .p (.alloc [.k (C.int .i64 0), .k (C.int .i64 0)])⟩] [1, 2, 3])
  (.seq (.seq (.region [⟨some 4, none, .p (.mv (.k (.c (C.int .i64 0))))⟩] [1, 2, 3, 4])
  (.block 0 (.loop (.seq (.seq (.region [⟨some 5, none, .p (.mv (.t 4))⟩,
    ⟨some 6, none, .p (.bin .lss (.t 5) (.k (.c (C.int .i64 2))))⟩] [1, 2, 3, 4, 6])
  (.cond (.t 6)
  .skip
  (.exit 0)))
  (.seq (.block 1 (.region [⟨some 9, none, .p (.mv (.t 4))⟩,
    ⟨some 10, none, .p (.mv (.t 4))⟩,
    ⟨some 11, none, .p (.ixA 2 1 (.t 1) (.t 10))⟩,
    ⟨some 12, none, .h (.load 1 false (.t 11))⟩,
    ⟨some 13, none, .p (.ixA 2 1 (.t 3) (.t 9))⟩,
    ⟨none, none, .h (.store 1 (.t 13) (.t 12))⟩] [1, 2, 3, 4]))
  (.region [⟨some 7, none, .p (.mv (.t 4))⟩,
    ⟨some 8, none, .p (.bin .add (.t 7) (.k (.c (C.int .i64 1))))⟩,
    ⟨some 4, none, .p (.mv (.t 8))⟩] [1, 2, 3, 4]))) [1, 2, 3, 4])))
  (.seq (.region [⟨some 14, none, .h (.load 2 true (.t 3))⟩,
    ⟨none, none, .h (.store 2 (.t 2) (.t 14))⟩] [2])
  .ret)))) }
theorem a22_ok : okFn Tryd.prog 22 a22 = true := by kernel_rfl
/-- (loop.example/g01215/impl.Replay).racks -/
def a23 : AFn := { np := 1, nt := 55, res := [.t 2, .t 3], body :=
  (.seq (.region [⟨some 1, none, .p (.box 25 (.t 0))⟩,
    ⟨some 2, none, .p (.nilsl 24)⟩,
    ⟨some 3, none, .p (.mv (.k (.c (C.bool false))))⟩] [1])
  (.seq (.seq (.region [⟨some 9, none, .p (.fld 0 (.t 1))⟩,
    ⟨some 10, none, .h (.load 24 true (.t 9))⟩,
    ⟨some 11, none, .h (.call (.f 32) [.t 10])⟩,
    ⟨some 12, none, .p (.un .not (.t 11))⟩,
    ⟨some 13, none, .p (.mv (.t 12))⟩,
    ⟨some 14, some (13, false), .p (.fld 24 (.t 1))⟩,
    ⟨some 15, some (13, false), .h (.load 1 false (.t 14))⟩,
    ⟨some 16, some (13, false), .p (.len (.t 15))⟩,
    ⟨some 17, some (13, false), .p (.bin .gtr (.t 16) (.k (.c (C.int .i64 60))))⟩,
    ⟨some 18, none, .p (.pick (.t 13) (.k (.c (C.bool true))) (.t 17))⟩] [1, 18])
  (.cond (.t 18)
  (.seq (.region [⟨some 2, none, .p (.nilsl 24)⟩,
    ⟨some 3, none, .p (.mv (.k (.c (C.bool false))))⟩] [2, 3])
  .ret)
  .skip))
  (.seq (.region [⟨some 19, none, .p (.fld 0 (.t 1))⟩,
    ⟨some 20, none, .h (.load 24 true (.t 19))⟩,
    ⟨some 21, none, .p (.mksl 24 1 (List.replicate 24 (.k (C.int .i64 0))) [(0, 24, .t 20)])⟩,
    ⟨some 4, none, .p (.mv (.t 21))⟩] [1, 4])
  (.seq (.seq (.region [⟨some 22, none, .p (.fld 24 (.t 1))⟩,
    ⟨some 23, none, .h (.load 1 false (.t 22))⟩,
    ⟨some 24, none, .p (.len (.t 23))⟩,
    ⟨some 25, none, .p (.mv (.k (.c (C.int .i64 0))))⟩] [4, 23, 24, 25])
  (.block 0 (.loop (.seq (.region [⟨some 26, none, .p (.bin .lss (.t 25) (.t 24))⟩] [4, 23, 24, 25, 26])
  (.seq (.cond (.t 26)
  .skip
  (.exit 0))
  (.seq (.block 1 (.seq (.region [⟨some 27, none, .p (.mv (.t 25))⟩,
    ⟨some 28, none, .p (.ixS 2 (.t 23) (.t 25))⟩,
    ⟨some 29, none, .h (.load 2 true (.t 28))⟩,
    ⟨some 6, none, .p (.alloc [.k (C.int .i64 0), .k (C.int .i64 0)])⟩,
    ⟨some 5, none, .p (.mv (.t 27))⟩,
    ⟨none, none, .h (.store 2 (.t 6) (.t 29))⟩] [4, 5, 6, 23, 24, 25])
  (.seq (.seq (.regionD [⟨some 30, none, .p (.mv (.t 4))⟩,
    ⟨some 31, none, .p (.mv (.t 5))⟩,
    ⟨some 32, none, .p (.ixS 24 (.t 30) (.t 31))⟩,
    ⟨some 33, none, .h (.load 24 true (.t 32))⟩,
    ⟨some 34, none, .h (.load 2 true (.t 6))⟩,
    ⟨some 35, none, .h (.call (.f 33) [.t 33, .t 34])⟩,
    ⟨some 36, none, .p (.un .not (.t 35))⟩] [4, 5, 6, 23, 24, 25, 36] [])
  (.cond (.t 36)
  (.seq (.region [⟨some 2, none, .p (.nilsl 24)⟩,
    ⟨some 3, none, .p (.mv (.k (.c (C.bool false))))⟩] [2, 3])
  .ret)
  .skip))
  (.seq (.regionD [⟨some 38, none, .p (.mv (.t 4))⟩,
    ⟨some 39, none, .p (.mv (.t 5))⟩,
    ⟨some 40, none, .p (.ixS 24 (.t 38) (.t 39))⟩,
    ⟨some 41, none, .h (.load 24 true (.t 40))⟩,
    ⟨some 42, none, .p (.ixA 2 1 (.t 6) (.k (.c (C.int .i64 0))))⟩,
    ⟨some 43, none, .h (.load 1 false (.t 42))⟩,
    ⟨some 44, none, .p (.ixA 2 1 (.t 6) (.k (.c (C.int .i64 1))))⟩,
    ⟨some 45, none, .h (.load 1 false (.t 44))⟩,
    ⟨some 46, none, .h (.call (.f 34) [.t 41, .t 43, .t 45])⟩,
    ⟨some 37, none, .p (.mv (.t 46))⟩,
    ⟨some 47, none, .p (.ext (.t 37) 0)⟩,
    ⟨some 48, none, .p (.ext (.t 37) 1)⟩,
    ⟨some 7, none, .p (.alloc (List.replicate 24 (.k (C.int .i64 0))))⟩,
    ⟨none, none, .h (.store 24 (.t 7) (.t 47))⟩,
    ⟨some 8, none, .p (.mv (.t 48))⟩] [4, 7, 23, 24, 25] [])
  (.region [⟨some 49, none, .p (.mv (.t 4))⟩,
    ⟨some 50, none, .h (.load 24 true (.t 7))⟩,
    ⟨some 51, none, .p (.mksl 24 1 (List.replicate 24 (.k (C.int .i64 0))) [(0, 24, .t 50)])⟩,
    ⟨some 52, none, .h (.app 24 (.t 49) (.t 51))⟩,
    ⟨some 4, none, .p (.mv (.t 52))⟩] [4, 23, 24, 25])))))
  (.region [⟨some 53, none, .p (.bin .add (.t 25) (.k (.c (C.int .i64 1))))⟩,
    ⟨some 25, none, .p (.mv (.t 53))⟩] [4, 23, 24, 25])))) [4, 23, 24, 25])))
  (.seq (.region [⟨some 54, none, .p (.mv (.t 4))⟩,
    ⟨some 2, none, .p (.mv (.t 54))⟩,
    ⟨some 3, none, .p (.mv (.k (.c (C.bool true))))⟩] [2, 3])
  .ret))))) }
theorem a23_ok : okFn Tryd.prog 23 a23 = true := by kernel_rfl
/-- loop.example/g01215/impl.rackText -/
def a24 : AFn := { np := 1, nt := 30, res := [.t 2], body :=
  (.seq (.region [⟨some 1, none, .p (.box 24 (.t 0))⟩,
    ⟨some 2, none, .p (.mv (.k (.c (C.str []))))⟩] [1])
  (.seq (.region [⟨some 3, none, .p (.nilsl 1)⟩] [1, 3])
  (.seq (.seq (.region [⟨some 9, none, .p (.fld 0 (.t 1))⟩,
    ⟨some 10, none, .h (.load 24 true (.t 9))⟩,
    ⟨some 11, none, .p (.mv (.k (.c (C.int .i64 0))))⟩] [3, 10, 11])
  (.block 0 (.loop (.seq (.region [⟨some 12, none, .p (.bin .lss (.t 11) (.k (.c (C.int .i64 6))))⟩] [3, 10, 11, 12])
  (.seq (.cond (.t 12)
  .skip
  (.exit 0))
  (.seq (.block 1 (.seq (.region [⟨some 13, none, .p (.ixV 6 4 true (.t 10) (.t 11))⟩,
    ⟨some 5, none, .p (.alloc [.k (C.int .i64 0), .k (C.int .i64 0), .k (C.int .i64 0), .k (C.int .i64 0)])⟩,
    ⟨none, none, .h (.store 4 (.t 5) (.t 13))⟩] [3, 5, 10, 11])
  (.seq (.region [⟨some 6, none, .p (.mv (.k (.c (C.str []))))⟩] [3, 5, 6, 10, 11])
  (.seq (.seq (.region [⟨some 14, none, .h (.load 4 true (.t 5))⟩,
    ⟨some 15, none, .p (.mv (.k (.c (C.int .i64 0))))⟩] [3, 6, 10, 11, 14, 15])
  (.block 2 (.loop (.seq (.region [⟨some 16, none, .p (.bin .lss (.t 15) (.k (.c (C.int .i64 4))))⟩] [3, 6, 10, 11, 14, 15, 16])
  (.seq (.cond (.t 16)
  .skip
  (.exit 2))
  (.seq (.block 3 (.seq (.region [⟨some 17, none, .p (.ixV 4 1 false (.t 14) (.t 15))⟩,
    ⟨some 8, none, .p (.mv (.t 17))⟩] [3, 6, 8, 10, 11, 14, 15])
  (.region [⟨some 18, none, .p (.mv (.t 6))⟩,
    ⟨some 19, none, .p (.mv (.t 8))⟩,
    ⟨some 20, none, .h (.call (.f 35) [.t 19])⟩,
    ⟨some 21, none, .p (.bin .add (.t 18) (.t 20))⟩,
    ⟨some 6, none, .p (.mv (.t 21))⟩] [3, 6, 10, 11, 14, 15])))
  (.region [⟨some 22, none, .p (.bin .add (.t 15) (.k (.c (C.int .i64 1))))⟩,
    ⟨some 15, none, .p (.mv (.t 22))⟩] [3, 6, 10, 11, 14, 15])))) [3, 6, 10, 11, 14, 15])))
  (.region [⟨some 23, none, .p (.mv (.t 3))⟩,
    ⟨some 24, none, .p (.mv (.t 6))⟩,
    ⟨some 25, none, .p (.mksl 1 1 [.k (C.str [])] [(0, 1, .t 24)])⟩,
    ⟨some 26, none, .h (.app 1 (.t 23) (.t 25))⟩,
    ⟨some 3, none, .p (.mv (.t 26))⟩] [3, 10, 11])))))
  (.region [⟨some 27, none, .p (.bin .add (.t 11) (.k (.c (C.int .i64 1))))⟩,
    ⟨some 11, none, .p (.mv (.t 27))⟩] [3, 10, 11])))) [3, 10, 11])))
  (.seq (.region [⟨some 28, none, .p (.mv (.t 3))⟩,
    ⟨some 29, none, .h (.call (.f 36) [.t 28, .k (.c (C.str [47]))])⟩,
    ⟨some 2, none, .p (.mv (.t 29))⟩] [2])
  .ret)))) }
theorem a24_ok : okFn Tryd.prog 24 a24 = true := by kernel_rfl
/-- loop.example/g01215/laws.eqIntA4A6 -/
def a26 : AFn := { np := 2, nt := 18, res := [.t 4], body :=
  (.seq (.region [⟨some 2, none, .p (.box 24 (.t 0))⟩,
    ⟨some 3, none, .p (.box 24 (.t 1))⟩,
    ⟨some 4, none, .p (.mv (.k (.c (C.bool false))))⟩] [2, 3])
  (.seq (.seq (.region [⟨some 5, none, .p (.mv (.k (.c (C.int .i64 0))))⟩] [2, 3, 5])
  (.block 0 (.loop (.seq (.seq (.region [⟨some 6, none, .p (.mv (.t 5))⟩,
    ⟨some 7, none, .p (.bin .lss (.t 6) (.k (.c (C.int .i64 6))))⟩] [2, 3, 5, 7])
  (.cond (.t 7)
  .skip
  (.exit 0)))
  (.seq (.block 1 (.seq (.regionD [⟨some 10, none, .p (.mv (.t 5))⟩,
    ⟨some 11, none, .p (.ixA 6 4 (.t 2) (.t 10))⟩,
    ⟨some 12, none, .h (.load 4 true (.t 11))⟩,
    ⟨some 13, none, .p (.mv (.t 5))⟩,
    ⟨some 14, none, .p (.ixA 6 4 (.t 3) (.t 13))⟩,
    ⟨some 15, none, .h (.load 4 true (.t 14))⟩,
    ⟨some 16, none, .h (.call (.f 38) [.t 12, .t 15])⟩,
    ⟨some 17, none, .p (.un .not (.t 16))⟩] [2, 3, 5, 17] [])
  (.cond (.t 17)
  (.seq (.region [⟨some 4, none, .p (.mv (.k (.c (C.bool false))))⟩] [4])
  .ret)
  .skip)))
  (.region [⟨some 8, none, .p (.mv (.t 5))⟩,
    ⟨some 9, none, .p (.bin .add (.t 8) (.k (.c (C.int .i64 1))))⟩,
    ⟨some 5, none, .p (.mv (.t 9))⟩] [2, 3, 5]))) [2, 3, 5])))
  (.seq (.region [⟨some 4, none, .p (.mv (.k (.c (C.bool true))))⟩] [4])
  .ret))) }
theorem a26_ok : okFn Tryd.prog 26 a26 = true := by kernel_rfl
/-- loop.example/g01215/laws.eqIntA2 -/
def a27 : AFn := { np := 2, nt := 17, res := [.t 4], body :=
  (.seq (.region [⟨some 2, none, .p (.box 2 (.t 0))⟩,
    ⟨some 3, none, .p (.box 2 (.t 1))⟩,
    ⟨some 4, none, .p (.mv (.k (.c (C.bool false))))⟩] [2, 3])
  (.seq (.seq (.region [⟨some 5, none, .p (.mv (.k (.c (C.int .i64 0))))⟩] [2, 3, 5])
  (.block 0 (.loop (.seq (.seq (.region [⟨some 6, none, .p (.mv (.t 5))⟩,
    ⟨some 7, none, .p (.bin .lss (.t 6) (.k (.c (C.int .i64 2))))⟩] [2, 3, 5, 7])
  (.cond (.t 7)
  .skip
  (.exit 0)))
  (.seq (.block 1 (.seq (.regionD [⟨some 10, none, .p (.mv (.t 5))⟩,
    ⟨some 11, none, .p (.ixA 2 1 (.t 2) (.t 10))⟩,
    ⟨some 12, none, .h (.load 1 false (.t 11))⟩,
    ⟨some 13, none, .p (.mv (.t 5))⟩,
    ⟨some 14, none, .p (.ixA 2 1 (.t 3) (.t 13))⟩,
    ⟨some 15, none, .h (.load 1 false (.t 14))⟩,
    ⟨some 16, none, .p (.bin .neq (.t 12) (.t 15))⟩] [2, 3, 5, 16] [])
  (.cond (.t 16)
  (.seq (.region [⟨some 4, none, .p (.mv (.k (.c (C.bool false))))⟩] [4])
  .ret)
  .skip)))
  (.region [⟨some 8, none, .p (.mv (.t 5))⟩,
    ⟨some 9, none, .p (.bin .add (.t 8) (.k (.c (C.int .i64 1))))⟩,
    ⟨some 5, none, .p (.mv (.t 9))⟩] [2, 3, 5]))) [2, 3, 5])))
  (.seq (.region [⟨some 4, none, .p (.mv (.k (.c (C.bool true))))⟩] [4])
  .ret))) }
theorem a27_ok : okFn Tryd.prog 27 a27 = true := by kernel_rfl
/-- loop.example/g01215/spec.l2Rack -/
def a28 : AFn := { np := 1, nt := 44, res := [.t 2], body :=
  (.seq (.region [⟨some 1, none, .p (.box 24 (.t 0))⟩,
    ⟨some 2, none, .p (.mv (.k (.c (C.bool false))))⟩] [1])
  (.seq (.seq (.region [⟨some 3, none, .p (.mv (.k (.c (C.int .i64 0))))⟩] [1, 3])
  (.block 0 (.loop (.seq (.seq (.region [⟨some 5, none, .p (.mv (.t 3))⟩,
    ⟨some 6, none, .p (.bin .lss (.t 5) (.k (.c (C.int .i64 6))))⟩] [1, 3, 6])
  (.cond (.t 6)
  .skip
  (.exit 0)))
  (.seq (.block 1 (.seq (.region [⟨some 4, none, .p (.mv (.k (.c (C.int .i64 0))))⟩] [1, 3, 4])
  (.block 2 (.loop (.seq (.seq (.region [⟨some 9, none, .p (.mv (.t 4))⟩,
    ⟨some 10, none, .p (.bin .lss (.t 9) (.k (.c (C.int .i64 4))))⟩] [1, 3, 4, 10])
  (.cond (.t 10)
  .skip
  (.exit 2)))
  (.seq (.block 3 (.seq (.region [⟨some 13, none, .p (.mv (.t 3))⟩,
    ⟨some 14, none, .p (.mv (.t 4))⟩,
    ⟨some 15, none, .p (.fld 0 (.t 1))⟩,
    ⟨some 16, none, .p (.ixA 6 4 (.t 15) (.t 13))⟩,
    ⟨some 17, none, .p (.ixA 4 1 (.t 16) (.t 14))⟩,
    ⟨some 18, none, .h (.load 1 false (.t 17))⟩,
    ⟨some 19, none, .h (.call (.f 39) [.t 18, .k (.c (C.int .i64 0)), .k (.c (C.int .i64 5))])⟩,
    ⟨some 20, none, .p (.un .not (.t 19))⟩,
    ⟨some 21, none, .p (.mv (.t 20))⟩,
    ⟨some 22, some (21, false), .p (.mv (.t 4))⟩,
    ⟨some 23, some (21, false), .p (.bin .gtr (.t 22) (.k (.c (C.int .i64 0))))⟩,
    ⟨some 24, some (21, false), .p (.mv (.t 23))⟩,
    ⟨some 25, some (24, true), .p (.mv (.t 3))⟩,
    ⟨some 26, some (24, true), .p (.mv (.t 4))⟩,
    ⟨some 27, some (24, true), .p (.fld 0 (.t 1))⟩,
    ⟨some 28, some (24, true), .p (.ixA 6 4 (.t 27) (.t 25))⟩,
    ⟨some 29, some (24, true), .p (.ixA 4 1 (.t 28) (.t 26))⟩,
    ⟨some 30, some (24, true), .h (.load 1 false (.t 29))⟩,
    ⟨some 31, some (24, true), .p (.bin .gtr (.t 30) (.k (.c (C.int .i64 0))))⟩,
    ⟨some 32, some (21, false), .p (.pick (.t 24) (.t 31) (.k (.c (C.bool false))))⟩,
    ⟨some 33, some (21, false), .p (.mv (.t 32))⟩,
    ⟨some 34, some (33, true), .p (.mv (.t 3))⟩,
    ⟨some 35, some (33, true), .p (.mv (.t 4))⟩,
    ⟨some 36, some (33, true), .p (.bin .sub (.t 35) (.k (.c (C.int .i64 1))))⟩,
    ⟨some 37, some (33, true), .p (.fld 0 (.t 1))⟩,
    ⟨some 38, some (33, true), .p (.ixA 6 4 (.t 37) (.t 34))⟩,
    ⟨some 39, some (33, true), .p (.ixA 4 1 (.t 38) (.t 36))⟩,
    ⟨some 40, some (33, true), .h (.load 1 false (.t 39))⟩,
    ⟨some 41, some (33, true), .p (.bin .eql (.t 40) (.k (.c (C.int .i64 0))))⟩,
    ⟨some 42, some (21, false), .p (.pick (.t 33) (.t 41) (.k (.c (C.bool false))))⟩,
    ⟨some 43, none, .p (.pick (.t 21) (.k (.c (C.bool true))) (.t 42))⟩] [1, 3, 4, 43])
  (.cond (.t 43)
  (.seq (.region [⟨some 2, none, .p (.mv (.k (.c (C.bool false))))⟩] [2])
  .ret)
  .skip)))
  (.region [⟨some 11, none, .p (.mv (.t 4))⟩,
    ⟨some 12, none, .p (.bin .add (.t 11) (.k (.c (C.int .i64 1))))⟩,
    ⟨some 4, none, .p (.mv (.t 12))⟩] [1, 3, 4]))) [1, 3, 4]))))
  (.region [⟨some 7, none, .p (.mv (.t 3))⟩,
    ⟨some 8, none, .p (.bin .add (.t 7) (.k (.c (C.int .i64 1))))⟩,
    ⟨some 3, none, .p (.mv (.t 8))⟩] [1, 3]))) [1, 3])))
  (.seq (.region [⟨some 2, none, .p (.mv (.k (.c (C.bool true))))⟩] [2])
  .ret))) }
theorem a28_ok : okFn Tryd.prog 28 a28 = true := by kernel_rfl
/-- loop.example/g01215/spec.l6Can -/
def a29 : AFn := { np := 2, nt := 21, res := [.t 4], body :=
  (.seq (.region [⟨some 2, none, .p (.box 24 (.t 0))⟩,
    ⟨some 3, none, .p (.box 2 (.t 1))⟩,
    ⟨some 4, none, .p (.mv (.k (.c (C.bool false))))⟩] [2, 3])
  (.seq (.region [⟨some 5, none, .p (.ixA 2 1 (.t 3) (.k (.c (C.int .i64 0))))⟩,
    ⟨some 6, none, .h (.load 1 false (.t 5))⟩,
    ⟨some 7, none, .h (.call (.f 40) [.t 6])⟩,
    ⟨some 8, none, .p (.mv (.t 7))⟩,
    ⟨some 9, some (8, true), .p (.ixA 2 1 (.t 3) (.k (.c (C.int .i64 1))))⟩,
    ⟨some 10, some (8, true), .h (.load 1 false (.t 9))⟩,
    ⟨some 11, some (8, true), .h (.call (.f 40) [.t 10])⟩,
    ⟨some 12, none, .p (.pick (.t 8) (.t 11) (.k (.c (C.bool false))))⟩,
    ⟨some 13, none, .p (.mv (.t 12))⟩,
    ⟨some 14, some (13, true), .h (.load 24 true (.t 2))⟩,
    ⟨some 15, some (13, true), .p (.ixA 2 1 (.t 3) (.k (.c (C.int .i64 0))))⟩,
    ⟨some 16, some (13, true), .h (.load 1 false (.t 15))⟩,
    ⟨some 17, some (13, true), .p (.ixA 2 1 (.t 3) (.k (.c (C.int .i64 1))))⟩,
    ⟨some 18, some (13, true), .h (.load 1 false (.t 17))⟩,
    ⟨some 19, some (13, true), .h (.call (.f 41) [.t 14, .t 16, .t 18])⟩,
    ⟨some 20, none, .p (.pick (.t 13) (.t 19) (.k (.c (C.bool false))))⟩,
    ⟨some 4, none, .p (.mv (.t 20))⟩] [4])
  .ret)) }
theorem a29_ok : okFn Tryd.prog 29 a29 = true := by kernel_rfl
/-- loop.example/g01215/spec.l2Pour -/
def a30 : AFn := { np := 3, nt := 59, res := [.cell 6 24 true, .t 7], body :=
  (.seq (.region [⟨some 3, none, .p (.box 24 (.t 0))⟩,
    ⟨some 6, none, .p (.alloc (List.replicate 24 (.k (C.int .i64 0))))⟩,
    ⟨some 7, none, .p (.mv (.k (.c (C.int .i64 0))))⟩] [1, 2, 3, 6])
  (.seq (.region [⟨some 15, none, .p (.mv (.t 1))⟩,
    ⟨some 16, none, .p (.fld 0 (.t 3))⟩,
    ⟨some 17, none, .p (.ixA 6 4 (.t 16) (.t 15))⟩,
    ⟨some 18, none, .h (.load 4 true (.t 17))⟩,
    ⟨some 19, none, .h (.call (.f 42) [.t 18])⟩,
    ⟨some 14, none, .p (.mv (.t 19))⟩,
    ⟨some 20, none, .p (.ext (.t 14) 0)⟩,
    ⟨some 21, none, .p (.ext (.t 14) 1)⟩,
    ⟨some 8, none, .p (.mv (.t 20))⟩,
    ⟨some 9, none, .p (.mv (.t 21))⟩] [1, 2, 3, 6, 8, 9])
  (.seq (.regionD [⟨some 22, none, .p (.mv (.t 1))⟩,
    ⟨some 23, none, .p (.fld 0 (.t 3))⟩,
    ⟨some 24, none, .p (.ixA 6 4 (.t 23) (.t 22))⟩,
    ⟨some 25, none, .h (.load 4 true (.t 24))⟩,
    ⟨some 26, none, .h (.call (.f 43) [.t 25])⟩,
    ⟨some 27, none, .p (.mv (.t 2))⟩,
    ⟨some 28, none, .p (.fld 0 (.t 3))⟩,
    ⟨some 29, none, .p (.ixA 6 4 (.t 28) (.t 27))⟩,
    ⟨some 30, none, .h (.load 4 true (.t 29))⟩,
    ⟨some 31, none, .h (.call (.f 43) [.t 30])⟩,
    ⟨some 10, none, .p (.mv (.t 26))⟩,
    ⟨some 11, none, .p (.mv (.t 31))⟩] [1, 2, 3, 6, 8, 9, 10, 11] [])
  (.seq (.region [⟨some 32, none, .p (.mv (.t 9))⟩,
    ⟨some 33, none, .p (.mv (.t 11))⟩,
    ⟨some 34, none, .p (.bin .sub (.k (.c (C.int .i64 4))) (.t 33))⟩,
    ⟨some 35, none, .h (.call (.f 44) [.t 32, .t 34])⟩,
    ⟨some 12, none, .p (.mv (.t 35))⟩] [1, 2, 3, 6, 8, 10, 11, 12])
  (.seq (.seq (.region [⟨some 13, none, .p (.mv (.k (.c (C.int .i64 0))))⟩] [1, 2, 3, 6, 8, 10, 11, 12, 13])
  (.block 0 (.loop (.seq (.seq (.region [⟨some 36, none, .p (.mv (.t 13))⟩,
    ⟨some 37, none, .p (.mv (.t 12))⟩,
    ⟨some 38, none, .p (.bin .lss (.t 36) (.t 37))⟩] [1, 2, 3, 6, 8, 10, 11, 12, 13, 38])
  (.cond (.t 38)
  .skip
  (.exit 0)))
  (.seq (.block 1 (.seq (.region [⟨some 41, none, .p (.mv (.t 1))⟩,
    ⟨some 42, none, .p (.mv (.t 10))⟩,
    ⟨some 43, none, .p (.bin .sub (.t 42) (.k (.c (C.int .i64 1))))⟩,
    ⟨some 44, none, .p (.mv (.t 13))⟩,
    ⟨some 45, none, .p (.bin .sub (.t 43) (.t 44))⟩,
    ⟨some 46, none, .p (.fld 0 (.t 3))⟩,
    ⟨some 47, none, .p (.ixA 6 4 (.t 46) (.t 41))⟩,
    ⟨some 48, none, .p (.ixA 4 1 (.t 47) (.t 45))⟩,
    ⟨none, none, .h (.store 1 (.t 48) (.k (.c (C.int .i64 0))))⟩] [1, 2, 3, 6, 8, 10, 11, 12, 13])
  (.region [⟨some 49, none, .p (.mv (.t 2))⟩,
    ⟨some 50, none, .p (.mv (.t 11))⟩,
    ⟨some 51, none, .p (.mv (.t 13))⟩,
    ⟨some 52, none, .p (.bin .add (.t 50) (.t 51))⟩,
    ⟨some 53, none, .p (.mv (.t 8))⟩,
    ⟨some 54, none, .p (.fld 0 (.t 3))⟩,
    ⟨some 55, none, .p (.ixA 6 4 (.t 54) (.t 49))⟩,
    ⟨some 56, none, .p (.ixA 4 1 (.t 55) (.t 52))⟩,
    ⟨none, none, .h (.store 1 (.t 56) (.t 53))⟩] [1, 2, 3, 6, 8, 10, 11, 12, 13])))
  (.region [⟨some 39, none, .p (.mv (.t 13))⟩,
    ⟨some 40, none, .p (.bin .add (.t 39) (.k (.c (C.int .i64 1))))⟩,
    ⟨some 13, none, .p (.mv (.t 40))⟩] [1, 2, 3, 6, 8, 10, 11, 12, 13]))) [1, 2, 3, 6, 8, 10, 11, 12, 13])))
  (.seq (.region [⟨some 57, none, .h (.load 24 true (.t 3))⟩,
    ⟨some 58, none, .p (.mv (.t 12))⟩,
    ⟨none, none, .h (.store 24 (.t 6) (.t 57))⟩,
    ⟨some 7, none, .p (.mv (.t 58))⟩] [6, 7])
  .ret)))))) }
theorem a30_ok : okFn Tryd.prog 30 a30 = true := by kernel_rfl
/-- loop.example/g01215/laws.toIntA4 -/
def a31 : AFn := { np := 1, nt := 15, res := [.cell 2 4 true], body :=
  (.seq (.region [⟨some 1, none, .p (.box 4 (.t 0))⟩,
    ⟨some 2, none, .p (.alloc [.k (C.int .i64 0), .k (C.int .i64 0), .k (C.int .i64 0), .k (C.int .i64 0)])⟩] [1, 2])
  (.seq (.region [⟨some 3, none, .p (.alloc [.k (C.int .i64 0), .k (C.int .i64 0), .k (C.int .i64 0), .k (C.int .i64 0)])⟩] [1, 2, 3])
  (.seq (.seq (.region [⟨some 4, none, .p (.mv (.k (.c (C.int .i64 0))))⟩] [1, 2, 3, 4])
  (.block 0 (.loop (.seq (.seq (.region [⟨some 5, none, .p (.mv (.t 4))⟩,
    ⟨some 6, none, .p (.bin .lss (.t 5) (.k (.c (C.int .i64 4))))⟩] [1, 2, 3, 4, 6])
  (.cond (.t 6)
  .skip
  (.exit 0)))
  (.seq (.block 1 (.region [⟨some 9, none, .p (.mv (.t 4))⟩,
    ⟨some 10, none, .p (.mv (.t 4))⟩,
    ⟨some 11, none, .p (.ixA 4 1 (.t 1) (.t 10))⟩,
    ⟨some 12, none, .h (.load 1 false (.t 11))⟩,
    ⟨some 13, none, .p (.ixA 4 1 (.t 3) (.t 9))⟩,
    ⟨none, none, .h (.store 1 (.t 13) (.t 12))⟩] [1, 2, 3, 4]))
  (.region [⟨some 7, none, .p (.mv (.t 4))⟩,
    ⟨some 8, none, .p (.bin .add (.t 7) (.k (.c (C.int .i64 1))))⟩,
    ⟨some 4, none, .p (.mv (.t 8))⟩] [1, 2, 3, 4]))) [1, 2, 3, 4])))
  (.seq (.region [⟨some 14, none, .h (.load 4 true (.t 3))⟩,
    ⟨none, none, .h (.store 4 (.t 2) (.t 14))⟩] [2])
  .ret)))) }
theorem a31_ok : okFn Tryd.prog 31 a31 = true := by kernel_rfl
/-- loop.example/g01215/impl.IsRack -/
def a32 : AFn := { np := 1, nt := 6, res := [.t 2], body :=
  (.seq (.region [⟨some 1, none, .p (.box 24 (.t 0))⟩,
    ⟨some 2, none, .p (.mv (.k (.c (C.bool false))))⟩] [1])
  (.seq (.region [⟨some 3, none, .p (.fld 0 (.t 1))⟩,
    ⟨some 4, none, .h (.slA 6 4 (.t 3) none none)⟩,
    ⟨some 5, none, .h (.call (.f 45) [.t 4, .f 46])⟩,
    ⟨some 2, none, .p (.mv (.t 5))⟩] [2])
  .ret)) }
theorem a32_ok : okFn Tryd.prog 32 a32 = true := by kernel_rfl
/-- loop.example/g01215/impl.canPourPath -/
def a33 : AFn := { np := 2, nt := 21, res := [.t 4], body :=
  (.seq (.region [⟨some 2, none, .p (.box 24 (.t 0))⟩,
    ⟨some 3, none, .p (.box 2 (.t 1))⟩,
    ⟨some 4, none, .p (.mv (.k (.c (C.bool false))))⟩] [2, 3])
  (.seq (.region [⟨some 5, none, .p (.ixA 2 1 (.t 3) (.k (.c (C.int .i64 0))))⟩,
    ⟨some 6, none, .h (.load 1 false (.t 5))⟩,
    ⟨some 7, none, .h (.call (.f 47) [.t 6])⟩,
    ⟨some 8, none, .p (.mv (.t 7))⟩,
    ⟨some 9, some (8, true), .p (.ixA 2 1 (.t 3) (.k (.c (C.int .i64 1))))⟩,
    ⟨some 10, some (8, true), .h (.load 1 false (.t 9))⟩,
    ⟨some 11, some (8, true), .h (.call (.f 47) [.t 10])⟩,
    ⟨some 12, none, .p (.pick (.t 8) (.t 11) (.k (.c (C.bool false))))⟩,
    ⟨some 13, none, .p (.mv (.t 12))⟩,
    ⟨some 14, some (13, true), .h (.load 24 true (.t 2))⟩,
    ⟨some 15, some (13, true), .p (.ixA 2 1 (.t 3) (.k (.c (C.int .i64 0))))⟩,
    ⟨some 16, some (13, true), .h (.load 1 false (.t 15))⟩,
    ⟨some 17, some (13, true), .p (.ixA 2 1 (.t 3) (.k (.c (C.int .i64 1))))⟩,
    ⟨some 18, some (13, true), .h (.load 1 false (.t 17))⟩,
    ⟨some 19, some (13, true), .h (.call (.f 48) [.t 14, .t 16, .t 18])⟩,
    ⟨some 20, none, .p (.pick (.t 13) (.t 19) (.k (.c (C.bool false))))⟩,
    ⟨some 4, none, .p (.mv (.t 20))⟩] [4])
  .ret)) }
theorem a33_ok : okFn Tryd.prog 33 a33 = true := by kernel_rfl
/-- loop.example/g01215/impl.pour -/
def a34 : AFn := { np := 3, nt := 58, res := [.cell 6 24 true, .t 7], body :=
  (.seq (.region [⟨some 3, none, .p (.box 24 (.t 0))⟩,
    ⟨some 6, none, .p (.alloc (List.replicate 24 (.k (C.int .i64 0))))⟩,
    ⟨some 7, none, .p (.mv (.k (.c (C.int .i64 0))))⟩] [1, 2, 3, 6])
  (.seq (.region [⟨some 14, none, .p (.mv (.t 1))⟩,
    ⟨some 15, none, .p (.fld 0 (.t 3))⟩,
    ⟨some 16, none, .p (.ixA 6 4 (.t 15) (.t 14))⟩,
    ⟨some 17, none, .h (.load 4 true (.t 16))⟩,
    ⟨some 18, none, .h (.call (.f 49) [.t 17])⟩,
    ⟨some 13, none, .p (.mv (.t 18))⟩,
    ⟨some 19, none, .p (.ext (.t 13) 0)⟩,
    ⟨some 20, none, .p (.ext (.t 13) 1)⟩,
    ⟨some 8, none, .p (.mv (.t 19))⟩,
    ⟨some 9, none, .p (.mv (.t 20))⟩] [1, 2, 3, 6, 8, 9])
  (.seq (.regionD [⟨some 21, none, .p (.mv (.t 1))⟩,
    ⟨some 22, none, .p (.fld 0 (.t 3))⟩,
    ⟨some 23, none, .p (.ixA 6 4 (.t 22) (.t 21))⟩,
    ⟨some 24, none, .h (.load 4 true (.t 23))⟩,
    ⟨some 25, none, .h (.call (.f 50) [.t 24])⟩,
    ⟨some 26, none, .p (.mv (.t 2))⟩,
    ⟨some 27, none, .p (.fld 0 (.t 3))⟩,
    ⟨some 28, none, .p (.ixA 6 4 (.t 27) (.t 26))⟩,
    ⟨some 29, none, .h (.load 4 true (.t 28))⟩,
    ⟨some 30, none, .h (.call (.f 50) [.t 29])⟩,
    ⟨some 10, none, .p (.mv (.t 25))⟩,
    ⟨some 11, none, .p (.mv (.t 30))⟩] [1, 2, 3, 6, 8, 9, 10, 11] [])
  (.seq (.region [⟨some 31, none, .p (.mv (.t 9))⟩,
    ⟨some 32, none, .p (.mv (.t 11))⟩,
    ⟨some 33, none, .p (.bin .sub (.k (.c (C.int .i64 4))) (.t 32))⟩,
    ⟨some 34, none, .p (.mnmx false [.t 31, .t 33])⟩,
    ⟨some 9, none, .p (.mv (.t 34))⟩] [1, 2, 3, 6, 8, 9, 10, 11])
  (.seq (.seq (.region [⟨some 35, none, .p (.mv (.t 9))⟩,
    ⟨some 36, none, .p (.mv (.k (.c (C.int .i64 0))))⟩] [1, 2, 3, 6, 8, 9, 10, 11, 35, 36])
  (.block 0 (.loop (.seq (.region [⟨some 37, none, .p (.bin .lss (.t 36) (.t 35))⟩] [1, 2, 3, 6, 8, 9, 10, 11, 35, 36, 37])
  (.seq (.cond (.t 37)
  .skip
  (.exit 0))
  (.seq (.block 1 (.seq (.region [⟨some 38, none, .p (.mv (.t 36))⟩,
    ⟨some 12, none, .p (.mv (.t 38))⟩] [1, 2, 3, 6, 8, 9, 10, 11, 12, 35, 36])
  (.seq (.region [⟨some 39, none, .p (.mv (.t 1))⟩,
    ⟨some 40, none, .p (.mv (.t 10))⟩,
    ⟨some 41, none, .p (.bin .sub (.t 40) (.k (.c (C.int .i64 1))))⟩,
    ⟨some 42, none, .p (.mv (.t 12))⟩,
    ⟨some 43, none, .p (.bin .sub (.t 41) (.t 42))⟩,
    ⟨some 44, none, .p (.fld 0 (.t 3))⟩,
    ⟨some 45, none, .p (.ixA 6 4 (.t 44) (.t 39))⟩,
    ⟨some 46, none, .p (.ixA 4 1 (.t 45) (.t 43))⟩,
    ⟨none, none, .h (.store 1 (.t 46) (.k (.c (C.int .i64 0))))⟩] [1, 2, 3, 6, 8, 9, 10, 11, 12, 35, 36])
  (.region [⟨some 47, none, .p (.mv (.t 2))⟩,
    ⟨some 48, none, .p (.mv (.t 11))⟩,
    ⟨some 49, none, .p (.mv (.t 12))⟩,
    ⟨some 50, none, .p (.bin .add (.t 48) (.t 49))⟩,
    ⟨some 51, none, .p (.mv (.t 8))⟩,
    ⟨some 52, none, .p (.fld 0 (.t 3))⟩,
    ⟨some 53, none, .p (.ixA 6 4 (.t 52) (.t 47))⟩,
    ⟨some 54, none, .p (.ixA 4 1 (.t 53) (.t 50))⟩,
    ⟨none, none, .h (.store 1 (.t 54) (.t 51))⟩] [1, 2, 3, 6, 8, 9, 10, 11, 35, 36]))))
  (.region [⟨some 55, none, .p (.bin .add (.t 36) (.k (.c (C.int .i64 1))))⟩,
    ⟨some 36, none, .p (.mv (.t 55))⟩] [1, 2, 3, 6, 8, 9, 10, 11, 35, 36])))) [1, 2, 3, 6, 8, 9, 10, 11, 35, 36])))
  (.seq (.region [⟨some 56, none, .h (.load 24 true (.t 3))⟩,
    ⟨some 57, none, .p (.mv (.t 9))⟩,
    ⟨none, none, .h (.store 24 (.t 6) (.t 56))⟩,
    ⟨some 7, none, .p (.mv (.t 57))⟩] [6, 7])
  .ret)))))) }
theorem a34_ok : okFn Tryd.prog 34 a34 = true := by kernel_rfl
/-- loop.example/g01215/impl.colorText -/
def a35 : AFn := { np := 1, nt := 11, res := [.t 2], body :=
  (.seq (.region [⟨some 2, none, .p (.mv (.k (.c (C.str []))))⟩] [0])
  (.seq (.seq (.region [⟨some 3, none, .p (.mv (.t 0))⟩,
    ⟨some 4, none, .p (.bin .eql (.t 3) (.k (.c (C.int .i64 0))))⟩] [0, 4])
  (.cond (.t 4)
  (.seq (.region [⟨some 2, none, .p (.mv (.k (.c (C.str [46]))))⟩] [2])
  .ret)
  .skip))
  (.seq (.region [⟨some 5, none, .p (.mv (.t 0))⟩,
    ⟨some 6, none, .p (.conv .u8 (.t 5))⟩,
    ⟨some 7, none, .p (.bin .add (.k (.c (C.int .u8 97))) (.t 6))⟩,
    ⟨some 8, none, .p (.bin .sub (.t 7) (.k (.c (C.int .u8 1))))⟩,
    ⟨some 9, none, .p (.mksl 1 1 [.k (C.int .u8 0)] [(0, 1, .t 8)])⟩,
    ⟨some 10, none, .h (.b2s (.t 9))⟩,
    ⟨some 2, none, .p (.mv (.t 10))⟩] [2])
  .ret))) }
theorem a35_ok : okFn Tryd.prog 35 a35 = true := by kernel_rfl
/-- loop.example/g01215/laws.eqIntA4 -/
def a38 : AFn := { np := 2, nt := 17, res := [.t 4], body :=
  (.seq (.region [⟨some 2, none, .p (.box 4 (.t 0))⟩,
    ⟨some 3, none, .p (.box 4 (.t 1))⟩,
    ⟨some 4, none, .p (.mv (.k (.c (C.bool false))))⟩] [2, 3])
  (.seq (.seq (.region [⟨some 5, none, .p (.mv (.k (.c (C.int .i64 0))))⟩] [2, 3, 5])
  (.block 0 (.loop (.seq (.seq (.region [⟨some 6, none, .p (.mv (.t 5))⟩,
    ⟨some 7, none, .p (.bin .lss (.t 6) (.k (.c (C.int .i64 4))))⟩] [2, 3, 5, 7])
  (.cond (.t 7)
  .skip
  (.exit 0)))
  (.seq (.block 1 (.seq (.regionD [⟨some 10, none, .p (.mv (.t 5))⟩,
    ⟨some 11, none, .p (.ixA 4 1 (.t 2) (.t 10))⟩,
    ⟨some 12, none, .h (.load 1 false (.t 11))⟩,
    ⟨some 13, none, .p (.mv (.t 5))⟩,
    ⟨some 14, none, .p (.ixA 4 1 (.t 3) (.t 13))⟩,
    ⟨some 15, none, .h (.load 1 false (.t 14))⟩,
    ⟨some 16, none, .p (.bin .neq (.t 12) (.t 15))⟩] [2, 3, 5, 16] [])
  (.cond (.t 16)
  (.seq (.region [⟨some 4, none, .p (.mv (.k (.c (C.bool false))))⟩] [4])
  .ret)
  .skip)))
  (.region [⟨some 8, none, .p (.mv (.t 5))⟩,
    ⟨some 9, none, .p (.bin .add (.t 8) (.k (.c (C.int .i64 1))))⟩,
    ⟨some 5, none, .p (.mv (.t 9))⟩] [2, 3, 5]))) [2, 3, 5])))
  (.seq (.region [⟨some 4, none, .p (.mv (.k (.c (C.bool true))))⟩] [4])
  .ret))) }
theorem a38_ok : okFn Tryd.prog 38 a38 = true := by kernel_rfl
/-- loop.example/g01215/spec.l1In -/
def a39 : AFn := { np := 3, nt := 15, res := [.t 6], body :=
  (.seq (.region [⟨some 6, none, .p (.mv (.k (.c (C.bool false))))⟩] [0, 1, 2])
  (.seq (.region [⟨some 7, none, .p (.mv (.t 0))⟩,
    ⟨some 8, none, .p (.mv (.t 1))⟩,
    ⟨some 9, none, .p (.bin .geq (.t 7) (.t 8))⟩,
    ⟨some 10, none, .p (.mv (.t 9))⟩,
    ⟨some 11, some (10, true), .p (.mv (.t 0))⟩,
    ⟨some 12, some (10, true), .p (.mv (.t 2))⟩,
    ⟨some 13, some (10, true), .p (.bin .leq (.t 11) (.t 12))⟩,
    ⟨some 14, none, .p (.pick (.t 10) (.t 13) (.k (.c (C.bool false))))⟩,
    ⟨some 6, none, .p (.mv (.t 14))⟩] [6])
  .ret)) }
theorem a39_ok : okFn Tryd.prog 39 a39 = true := by kernel_rfl
/-- loop.example/g01215/spec.l2Place -/
def a40 : AFn := { np := 1, nt := 5, res := [.t 2], body :=
  (.seq (.region [⟨some 2, none, .p (.mv (.k (.c (C.bool false))))⟩] [0])
  (.seq (.region [⟨some 3, none, .p (.mv (.t 0))⟩,
    ⟨some 4, none, .h (.call (.f 39) [.t 3, .k (.c (C.int .i64 0)), .k (.c (C.int .i64 5))])⟩,
    ⟨some 2, none, .p (.mv (.t 4))⟩] [2])
  .ret)) }
theorem a40_ok : okFn Tryd.prog 40 a40 = true := by kernel_rfl
/-- loop.example/g01215/spec.l2Can -/
def a41 : AFn := { np := 3, nt := 51, res := [.t 6], body :=
  (.seq (.region [⟨some 3, none, .p (.box 24 (.t 0))⟩,
    ⟨some 6, none, .p (.mv (.k (.c (C.bool false))))⟩] [1, 2, 3])
  (.seq (.region [⟨some 12, none, .p (.mv (.t 1))⟩,
    ⟨some 13, none, .p (.fld 0 (.t 3))⟩,
    ⟨some 14, none, .p (.ixA 6 4 (.t 13) (.t 12))⟩,
    ⟨some 15, none, .h (.load 4 true (.t 14))⟩,
    ⟨some 16, none, .h (.call (.f 42) [.t 15])⟩,
    ⟨some 11, none, .p (.mv (.t 16))⟩,
    ⟨some 17, none, .p (.ext (.t 11) 0)⟩,
    ⟨some 18, none, .p (.ext (.t 11) 1)⟩,
    ⟨some 7, none, .p (.mv (.t 17))⟩,
    ⟨some 8, none, .p (.mv (.t 18))⟩] [1, 2, 3, 7, 8])
  (.seq (.region [⟨some 20, none, .p (.mv (.t 2))⟩,
    ⟨some 21, none, .p (.fld 0 (.t 3))⟩,
    ⟨some 22, none, .p (.ixA 6 4 (.t 21) (.t 20))⟩,
    ⟨some 23, none, .h (.load 4 true (.t 22))⟩,
    ⟨some 24, none, .h (.call (.f 42) [.t 23])⟩,
    ⟨some 19, none, .p (.mv (.t 24))⟩,
    ⟨some 25, none, .p (.ext (.t 19) 0)⟩,
    ⟨some 26, none, .p (.ext (.t 19) 1)⟩,
    ⟨some 9, none, .p (.mv (.t 25))⟩,
    ⟨some 10, none, .p (.mv (.t 26))⟩] [1, 2, 3, 7, 8, 9])
  (.seq (.region [⟨some 27, none, .p (.mv (.t 1))⟩,
    ⟨some 28, none, .p (.mv (.t 2))⟩,
    ⟨some 29, none, .p (.bin .neq (.t 27) (.t 28))⟩,
    ⟨some 30, none, .p (.mv (.t 29))⟩,
    ⟨some 31, some (30, true), .p (.mv (.t 8))⟩,
    ⟨some 32, some (30, true), .p (.bin .gtr (.t 31) (.k (.c (C.int .i64 0))))⟩,
    ⟨some 33, none, .p (.pick (.t 30) (.t 32) (.k (.c (C.bool false))))⟩,
    ⟨some 34, none, .p (.mv (.t 33))⟩,
    ⟨some 35, some (34, true), .p (.mv (.t 2))⟩,
    ⟨some 36, some (34, true), .p (.fld 0 (.t 3))⟩,
    ⟨some 37, some (34, true), .p (.ixA 6 4 (.t 36) (.t 35))⟩,
    ⟨some 38, some (34, true), .h (.load 4 true (.t 37))⟩,
    ⟨some 39, some (34, true), .h (.call (.f 43) [.t 38])⟩,
    ⟨some 40, some (34, true), .p (.bin .lss (.t 39) (.k (.c (C.int .i64 4))))⟩,
    ⟨some 41, none, .p (.pick (.t 34) (.t 40) (.k (.c (C.bool false))))⟩,
    ⟨some 42, none, .p (.mv (.t 41))⟩,
    ⟨some 43, some (42, true), .p (.mv (.t 9))⟩,
    ⟨some 44, some (42, true), .p (.bin .eql (.t 43) (.k (.c (C.int .i64 0))))⟩,
    ⟨some 45, some (42, true), .p (.mv (.t 44))⟩,
    ⟨some 46, some (45, false), .p (.mv (.t 9))⟩,
    ⟨some 47, some (45, false), .p (.mv (.t 7))⟩,
    ⟨some 48, some (45, false), .p (.bin .eql (.t 46) (.t 47))⟩,
    ⟨some 49, some (42, true), .p (.pick (.t 45) (.k (.c (C.bool true))) (.t 48))⟩,
    ⟨some 50, none, .p (.pick (.t 42) (.t 49) (.k (.c (C.bool false))))⟩,
    ⟨some 6, none, .p (.mv (.t 50))⟩] [6])
  .ret)))) }
theorem a41_ok : okFn Tryd.prog 41 a41 = true := by kernel_rfl
/-- loop.example/g01215/spec.l2Top -/
def a42 : AFn := { np := 1, nt := 33, res := [.t 2, .t 3], body :=
  (.seq (.region [⟨some 1, none, .p (.box 4 (.t 0))⟩,
    ⟨some 2, none, .p (.mv (.k (.c (C.int .i64 0))))⟩,
    ⟨some 3, none, .p (.mv (.k (.c (C.int .i64 0))))⟩] [1])
  (.seq (.region [⟨some 6, none, .h (.load 4 true (.t 1))⟩,
    ⟨some 7, none, .h (.call (.f 43) [.t 6])⟩,
    ⟨some 4, none, .p (.mv (.t 7))⟩] [1, 4])
  (.seq (.seq (.region [⟨some 8, none, .p (.mv (.t 4))⟩,
    ⟨some 9, none, .p (.bin .eql (.t 8) (.k (.c (C.int .i64 0))))⟩] [1, 4, 9])
  (.cond (.t 9)
  (.seq (.region [⟨some 2, none, .p (.mv (.k (.c (C.int .i64 0))))⟩,
    ⟨some 3, none, .p (.mv (.k (.c (C.int .i64 0))))⟩] [2, 3])
  .ret)
  .skip))
  (.seq (.region [⟨some 5, none, .p (.mv (.k (.c (C.int .i64 0))))⟩] [1, 4, 5])
  (.seq (.block 0 (.loop (.seq (.seq (.regionD [⟨some 10, none, .p (.mv (.t 5))⟩,
    ⟨some 11, none, .p (.mv (.t 4))⟩,
    ⟨some 12, none, .p (.bin .lss (.t 10) (.t 11))⟩,
    ⟨some 13, none, .p (.mv (.t 12))⟩,
    ⟨some 14, some (13, true), .p (.mv (.t 4))⟩,
    ⟨some 15, some (13, true), .p (.bin .sub (.t 14) (.k (.c (C.int .i64 1))))⟩,
    ⟨some 16, some (13, true), .p (.mv (.t 5))⟩,
    ⟨some 17, some (13, true), .p (.bin .sub (.t 15) (.t 16))⟩,
    ⟨some 18, some (13, true), .p (.ixA 4 1 (.t 1) (.t 17))⟩,
    ⟨some 19, some (13, true), .h (.load 1 false (.t 18))⟩,
    ⟨some 20, some (13, true), .p (.mv (.t 4))⟩,
    ⟨some 21, some (13, true), .p (.bin .sub (.t 20) (.k (.c (C.int .i64 1))))⟩,
    ⟨some 22, some (13, true), .p (.ixA 4 1 (.t 1) (.t 21))⟩,
    ⟨some 23, some (13, true), .h (.load 1 false (.t 22))⟩,
    ⟨some 24, some (13, true), .p (.bin .eql (.t 19) (.t 23))⟩,
    ⟨some 25, none, .p (.pick (.t 13) (.t 24) (.k (.c (C.bool false))))⟩] [1, 4, 5, 25] [])
  (.cond (.t 25)
  .skip
  (.exit 0)))
  (.block 1 (.region [⟨some 26, none, .p (.mv (.t 5))⟩,
    ⟨some 27, none, .p (.bin .add (.t 26) (.k (.c (C.int .i64 1))))⟩,
    ⟨some 5, none, .p (.mv (.t 27))⟩] [1, 4, 5]))) [1, 4, 5]))
  (.seq (.region [⟨some 28, none, .p (.mv (.t 4))⟩,
    ⟨some 29, none, .p (.bin .sub (.t 28) (.k (.c (C.int .i64 1))))⟩,
    ⟨some 30, none, .p (.ixA 4 1 (.t 1) (.t 29))⟩,
    ⟨some 31, none, .h (.load 1 false (.t 30))⟩,
    ⟨some 32, none, .p (.mv (.t 5))⟩,
    ⟨some 2, none, .p (.mv (.t 31))⟩,
    ⟨some 3, none, .p (.mv (.t 32))⟩] [2, 3])
  .ret)))))) }
theorem a42_ok : okFn Tryd.prog 42 a42 = true := by kernel_rfl
/-- loop.example/g01215/spec.l2Many -/
def a43 : AFn := { np := 1, nt := 16, res := [.t 2], body :=
  (.seq (.region [⟨some 1, none, .p (.box 4 (.t 0))⟩,
    ⟨some 2, none, .p (.mv (.k (.c (C.int .i64 0))))⟩] [1])
  (.seq (.region [⟨some 3, none, .p (.mv (.k (.c (C.int .i64 0))))⟩] [1, 3])
  (.seq (.seq (.region [⟨some 4, none, .p (.mv (.k (.c (C.int .i64 0))))⟩] [1, 3, 4])
  (.block 0 (.loop (.seq (.seq (.region [⟨some 5, none, .p (.mv (.t 4))⟩,
    ⟨some 6, none, .p (.bin .lss (.t 5) (.k (.c (C.int .i64 4))))⟩] [1, 3, 4, 6])
  (.cond (.t 6)
  .skip
  (.exit 0)))
  (.seq (.block 1 (.seq (.region [⟨some 9, none, .p (.mv (.t 4))⟩,
    ⟨some 10, none, .p (.ixA 4 1 (.t 1) (.t 9))⟩,
    ⟨some 11, none, .h (.load 1 false (.t 10))⟩,
    ⟨some 12, none, .p (.bin .gtr (.t 11) (.k (.c (C.int .i64 0))))⟩] [1, 3, 4, 12])
  (.cond (.t 12)
  (.region [⟨some 13, none, .p (.mv (.t 3))⟩,
    ⟨some 14, none, .p (.bin .add (.t 13) (.k (.c (C.int .i64 1))))⟩,
    ⟨some 3, none, .p (.mv (.t 14))⟩] [1, 3, 4])
  .skip)))
  (.region [⟨some 7, none, .p (.mv (.t 4))⟩,
    ⟨some 8, none, .p (.bin .add (.t 7) (.k (.c (C.int .i64 1))))⟩,
    ⟨some 4, none, .p (.mv (.t 8))⟩] [1, 3, 4]))) [1, 3, 4])))
  (.seq (.region [⟨some 15, none, .p (.mv (.t 3))⟩,
    ⟨some 2, none, .p (.mv (.t 15))⟩] [2])
  .ret)))) }
theorem a43_ok : okFn Tryd.prog 43 a43 = true := by kernel_rfl
/-- loop.example/g01215/spec.l1Least -/
def a44 : AFn := { np := 2, nt := 10, res := [.t 4], body :=
  (.seq (.region [⟨some 4, none, .p (.mv (.k (.c (C.int .i64 0))))⟩] [0, 1])
  (.seq (.seq (.region [⟨some 5, none, .p (.mv (.t 0))⟩,
    ⟨some 6, none, .p (.mv (.t 1))⟩,
    ⟨some 7, none, .p (.bin .lss (.t 5) (.t 6))⟩] [0, 1, 7])
  (.cond (.t 7)
  (.seq (.region [⟨some 8, none, .p (.mv (.t 0))⟩,
    ⟨some 4, none, .p (.mv (.t 8))⟩] [4])
  .ret)
  .skip))
  (.seq (.region [⟨some 9, none, .p (.mv (.t 1))⟩,
    ⟨some 4, none, .p (.mv (.t 9))⟩] [4])
  .ret))) }
theorem a44_ok : okFn Tryd.prog 44 a44 = true := by kernel_rfl
/-- loop.example/g01215/impl.areAll[[4]int] -/
def a45 : AFn := { np := 2, nt := 9, res := [.t 4], body :=
  (.seq (.region [⟨some 3, none, .p (.box 1 (.t 1))⟩,
    ⟨some 4, none, .p (.mv (.k (.c (C.bool false))))⟩] [0, 3])
  (.seq (.region [⟨some 5, none, .p (.mv (.t 0))⟩,
    ⟨some 6, none, .p (.mkfn 56 [.t 3])⟩,
    ⟨some 7, none, .h (.call (.f 55) [.t 5, .t 6])⟩,
    ⟨some 8, none, .p (.un .not (.t 7))⟩,
    ⟨some 4, none, .p (.mv (.t 8))⟩] [4])
  .ret)) }
theorem a45_ok : okFn Tryd.prog 45 a45 = true := by kernel_rfl
/-- loop.example/g01215/impl.isTube -/
def a46 : AFn := { np := 1, nt := 14, res := [.t 2], body :=
  (.seq (.region [⟨some 1, none, .p (.box 4 (.t 0))⟩,
    ⟨some 2, none, .p (.mv (.k (.c (C.bool false))))⟩] [1])
  (.seq (.region [⟨some 4, none, .h (.load 4 true (.t 1))⟩,
    ⟨some 5, none, .h (.call (.f 50) [.t 4])⟩,
    ⟨some 3, none, .p (.mv (.t 5))⟩] [1, 3])
  (.seq (.region [⟨some 6, none, .p (.mv (.t 3))⟩,
    ⟨some 7, none, .h (.slA 4 1 (.t 1) none (some (.t 6)))⟩,
    ⟨some 8, none, .h (.call (.f 57) [.t 7, .f 58])⟩,
    ⟨some 9, none, .p (.mv (.t 8))⟩,
    ⟨some 10, some (9, true), .p (.mv (.t 3))⟩,
    ⟨some 11, some (9, true), .h (.slA 4 1 (.t 1) (some (.t 10)) none)⟩,
    ⟨some 12, some (9, true), .h (.call (.f 57) [.t 11, .f 59])⟩,
    ⟨some 13, none, .p (.pick (.t 9) (.t 12) (.k (.c (C.bool false))))⟩,
    ⟨some 2, none, .p (.mv (.t 13))⟩] [2])
  .ret))) }
theorem a46_ok : okFn Tryd.prog 46 a46 = true := by kernel_rfl
/-- loop.example/g01215/impl.isPlace -/
def a47 : AFn := { np := 1, nt := 5, res := [.t 2], body :=
  (.seq (.region [⟨some 2, none, .p (.mv (.k (.c (C.bool false))))⟩] [0])
  (.seq (.region [⟨some 3, none, .p (.mv (.t 0))⟩,
    ⟨some 4, none, .h (.call (.f 60) [.t 3, .k (.c (C.int .i64 0)), .k (.c (C.int .i64 5))])⟩,
    ⟨some 2, none, .p (.mv (.t 4))⟩] [2])
  .ret)) }
theorem a47_ok : okFn Tryd.prog 47 a47 = true := by kernel_rfl
/-- loop.example/g01215/impl.canPour -/
def a48 : AFn := { np := 3, nt := 51, res := [.t 6], body :=
  (.seq (.region [⟨some 3, none, .p (.box 24 (.t 0))⟩,
    ⟨some 6, none, .p (.mv (.k (.c (C.bool false))))⟩] [1, 2, 3])
  (.seq (.region [⟨some 12, none, .p (.mv (.t 1))⟩,
    ⟨some 13, none, .p (.fld 0 (.t 3))⟩,
    ⟨some 14, none, .p (.ixA 6 4 (.t 13) (.t 12))⟩,
    ⟨some 15, none, .h (.load 4 true (.t 14))⟩,
    ⟨some 16, none, .h (.call (.f 49) [.t 15])⟩,
    ⟨some 11, none, .p (.mv (.t 16))⟩,
    ⟨some 17, none, .p (.ext (.t 11) 0)⟩,
    ⟨some 18, none, .p (.ext (.t 11) 1)⟩,
    ⟨some 7, none, .p (.mv (.t 17))⟩,
    ⟨some 8, none, .p (.mv (.t 18))⟩] [1, 2, 3, 7])
  (.seq (.region [⟨some 20, none, .p (.mv (.t 2))⟩,
    ⟨some 21, none, .p (.fld 0 (.t 3))⟩,
    ⟨some 22, none, .p (.ixA 6 4 (.t 21) (.t 20))⟩,
    ⟨some 23, none, .h (.load 4 true (.t 22))⟩,
    ⟨some 24, none, .h (.call (.f 49) [.t 23])⟩,
    ⟨some 19, none, .p (.mv (.t 24))⟩,
    ⟨some 25, none, .p (.ext (.t 19) 0)⟩,
    ⟨some 26, none, .p (.ext (.t 19) 1)⟩,
    ⟨some 9, none, .p (.mv (.t 25))⟩,
    ⟨some 10, none, .p (.mv (.t 26))⟩] [1, 2, 3, 7, 9])
  (.seq (.region [⟨some 27, none, .p (.mv (.t 1))⟩,
    ⟨some 28, none, .p (.mv (.t 2))⟩,
    ⟨some 29, none, .p (.bin .neq (.t 27) (.t 28))⟩,
    ⟨some 30, none, .p (.mv (.t 29))⟩,
    ⟨some 31, some (30, true), .p (.mv (.t 7))⟩,
    ⟨some 32, some (30, true), .p (.bin .gtr (.t 31) (.k (.c (C.int .i64 0))))⟩,
    ⟨some 33, none, .p (.pick (.t 30) (.t 32) (.k (.c (C.bool false))))⟩,
    ⟨some 34, none, .p (.mv (.t 33))⟩,
    ⟨some 35, some (34, true), .p (.mv (.t 2))⟩,
    ⟨some 36, some (34, true), .p (.fld 0 (.t 3))⟩,
    ⟨some 37, some (34, true), .p (.ixA 6 4 (.t 36) (.t 35))⟩,
    ⟨some 38, some (34, true), .h (.load 4 true (.t 37))⟩,
    ⟨some 39, some (34, true), .h (.call (.f 50) [.t 38])⟩,
    ⟨some 40, some (34, true), .p (.bin .lss (.t 39) (.k (.c (C.int .i64 4))))⟩,
    ⟨some 41, none, .p (.pick (.t 34) (.t 40) (.k (.c (C.bool false))))⟩,
    ⟨some 42, none, .p (.mv (.t 41))⟩,
    ⟨some 43, some (42, true), .p (.mv (.t 9))⟩,
    ⟨some 44, some (42, true), .p (.bin .eql (.t 43) (.k (.c (C.int .i64 0))))⟩,
    ⟨some 45, some (42, true), .p (.mv (.t 44))⟩,
    ⟨some 46, some (45, false), .p (.mv (.t 9))⟩,
    ⟨some 47, some (45, false), .p (.mv (.t 7))⟩,
    ⟨some 48, some (45, false), .p (.bin .eql (.t 46) (.t 47))⟩,
    ⟨some 49, some (42, true), .p (.pick (.t 45) (.k (.c (C.bool true))) (.t 48))⟩,
    ⟨some 50, none, .p (.pick (.t 42) (.t 49) (.k (.c (C.bool false))))⟩,
    ⟨some 6, none, .p (.mv (.t 50))⟩] [6])
  .ret)))) }
theorem a48_ok : okFn Tryd.prog 48 a48 = true := by kernel_rfl
/-- loop.example/g01215/impl.top -/
def a49 : AFn := { np := 1, nt := 21, res := [.t 2, .t 3], body :=
  (.seq (.region [⟨some 1, none, .p (.box 4 (.t 0))⟩,
    ⟨some 2, none, .p (.mv (.k (.c (C.int .i64 0))))⟩,
    ⟨some 3, none, .p (.mv (.k (.c (C.int .i64 0))))⟩] [1])
  (.seq (.region [⟨some 6, none, .h (.load 4 true (.t 1))⟩,
    ⟨some 7, none, .h (.call (.f 61) [.t 6])⟩,
    ⟨some 4, none, .p (.mv (.t 7))⟩] [4])
  (.seq (.seq (.region [⟨some 8, none, .p (.mv (.t 4))⟩,
    ⟨some 9, none, .p (.len (.t 8))⟩,
    ⟨some 10, none, .p (.bin .eql (.t 9) (.k (.c (C.int .i64 0))))⟩] [4, 10])
  (.cond (.t 10)
  (.seq (.region [⟨some 2, none, .p (.mv (.k (.c (C.int .i64 0))))⟩,
    ⟨some 3, none, .p (.mv (.k (.c (C.int .i64 0))))⟩] [2, 3])
  .ret)
  .skip))
  (.seq (.region [⟨some 11, none, .p (.mv (.t 4))⟩,
    ⟨some 12, none, .p (.mv (.t 4))⟩,
    ⟨some 13, none, .p (.len (.t 12))⟩,
    ⟨some 14, none, .p (.bin .sub (.t 13) (.k (.c (C.int .i64 1))))⟩,
    ⟨some 15, none, .p (.ixS 2 (.t 11) (.t 14))⟩,
    ⟨some 16, none, .h (.load 2 true (.t 15))⟩,
    ⟨some 5, none, .p (.alloc [.k (C.int .i64 0), .k (C.int .i64 0)])⟩,
    ⟨none, none, .h (.store 2 (.t 5) (.t 16))⟩] [5])
  (.seq (.regionD [⟨some 17, none, .p (.ixA 2 1 (.t 5) (.k (.c (C.int .i64 0))))⟩,
    ⟨some 18, none, .h (.load 1 false (.t 17))⟩,
    ⟨some 19, none, .p (.ixA 2 1 (.t 5) (.k (.c (C.int .i64 1))))⟩,
    ⟨some 20, none, .h (.load 1 false (.t 19))⟩,
    ⟨some 2, none, .p (.mv (.t 18))⟩,
    ⟨some 3, none, .p (.mv (.t 20))⟩] [2, 3] [])
  .ret))))) }
theorem a49_ok : okFn Tryd.prog 49 a49 = true := by kernel_rfl
/-- loop.example/g01215/impl.layers -/
def a50 : AFn := { np := 1, nt := 9, res := [.t 2], body :=
  (.seq (.region [⟨some 1, none, .p (.box 4 (.t 0))⟩,
    ⟨some 2, none, .p (.mv (.k (.c (C.int .i64 0))))⟩] [1])
  (.seq (.region [⟨some 4, none, .h (.slA 4 1 (.t 1) none none)⟩,
    ⟨some 5, none, .h (.call (.f 62) [.t 4, .k (.c (C.int .i64 0))])⟩,
    ⟨some 3, none, .p (.mv (.t 5))⟩] [3])
  (.seq (.seq (.region [⟨some 6, none, .p (.mv (.t 3))⟩,
    ⟨some 7, none, .p (.bin .lss (.t 6) (.k (.c (C.int .i64 0))))⟩] [3, 7])
  (.cond (.t 7)
  (.seq (.region [⟨some 2, none, .p (.mv (.k (.c (C.int .i64 4))))⟩] [2])
  .ret)
  .skip))
  (.seq (.region [⟨some 8, none, .p (.mv (.t 3))⟩,
    ⟨some 2, none, .p (.mv (.t 8))⟩] [2])
  .ret)))) }
theorem a50_ok : okFn Tryd.prog 50 a50 = true := by kernel_rfl
/-- slices.ContainsFunc[[][4]int,[4]int] -/
def a55 : AFn := { np := 2, nt := 9, res := [.t 4], body :=
  (.seq (.region [⟨some 4, none, .p (.mv (.k (.c (C.bool false))))⟩] [0, 1])
  (.seq (.region [⟨some 5, none, .p (.mv (.t 0))⟩,
    ⟨some 6, none, .p (.mv (.t 1))⟩,
    ⟨some 7, none, .h (.call (.f 69) [.t 5, .t 6])⟩,
    ⟨some 8, none, .p (.bin .geq (.t 7) (.k (.c (C.int .i64 0))))⟩,
    ⟨some 4, none, .p (.mv (.t 8))⟩] [4])
  .ret)) }
theorem a55_ok : okFn Tryd.prog 55 a55 = true := by kernel_rfl
/-- loop.example/g01215/impl.areAll[[4]int]$1 -/
def a56 : AFn := { np := 2, nt := 8, res := [.t 3], body :=
  (.seq (.region [⟨some 2, none, .p (.box 4 (.t 0))⟩,
    ⟨some 3, none, .p (.mv (.k (.c (C.bool false))))⟩] [1, 2])
  (.seq (.region [⟨some 4, none, .h (.load 1 false (.t 1))⟩,
    ⟨some 5, none, .h (.load 4 true (.t 2))⟩,
    ⟨some 6, none, .h (.call (.t 4) [.t 5])⟩,
    ⟨some 7, none, .p (.un .not (.t 6))⟩,
    ⟨some 3, none, .p (.mv (.t 7))⟩] [3])
  .ret)) }
theorem a56_ok : okFn Tryd.prog 56 a56 = true := by kernel_rfl
/-- loop.example/g01215/impl.areAll[int] -/
def a57 : AFn := { np := 2, nt := 9, res := [.t 4], body :=
  (.seq (.region [⟨some 3, none, .p (.box 1 (.t 1))⟩,
    ⟨some 4, none, .p (.mv (.k (.c (C.bool false))))⟩] [0, 3])
  (.seq (.region [⟨some 5, none, .p (.mv (.t 0))⟩,
    ⟨some 6, none, .p (.mkfn 71 [.t 3])⟩,
    ⟨some 7, none, .h (.call (.f 70) [.t 5, .t 6])⟩,
    ⟨some 8, none, .p (.un .not (.t 7))⟩,
    ⟨some 4, none, .p (.mv (.t 8))⟩] [4])
  .ret)) }
theorem a57_ok : okFn Tryd.prog 57 a57 = true := by kernel_rfl
/-- loop.example/g01215/impl.isColor -/
def a58 : AFn := { np := 1, nt := 5, res := [.t 2], body :=
  (.seq (.region [⟨some 2, none, .p (.mv (.k (.c (C.bool false))))⟩] [0])
  (.seq (.region [⟨some 3, none, .p (.mv (.t 0))⟩,
    ⟨some 4, none, .h (.call (.f 60) [.t 3, .k (.c (C.int .i64 1)), .k (.c (C.int .i64 5))])⟩,
    ⟨some 2, none, .p (.mv (.t 4))⟩] [2])
  .ret)) }
theorem a58_ok : okFn Tryd.prog 58 a58 = true := by kernel_rfl
/-- loop.example/g01215/impl.isTube$1 -/
def a59 : AFn := { np := 1, nt := 5, res := [.t 2], body :=
  (.seq (.region [⟨some 2, none, .p (.mv (.k (.c (C.bool false))))⟩] [0])
  (.seq (.region [⟨some 3, none, .p (.mv (.t 0))⟩,
    ⟨some 4, none, .p (.bin .eql (.t 3) (.k (.c (C.int .i64 0))))⟩,
    ⟨some 2, none, .p (.mv (.t 4))⟩] [2])
  .ret)) }
theorem a59_ok : okFn Tryd.prog 59 a59 = true := by kernel_rfl
/-- loop.example/g01215/impl.within -/
def a60 : AFn := { np := 3, nt := 15, res := [.t 6], body :=
  (.seq (.region [⟨some 6, none, .p (.mv (.k (.c (C.bool false))))⟩] [0, 1, 2])
  (.seq (.region [⟨some 7, none, .p (.mv (.t 1))⟩,
    ⟨some 8, none, .p (.mv (.t 0))⟩,
    ⟨some 9, none, .p (.bin .leq (.t 7) (.t 8))⟩,
    ⟨some 10, none, .p (.mv (.t 9))⟩,
    ⟨some 11, some (10, true), .p (.mv (.t 0))⟩,
    ⟨some 12, some (10, true), .p (.mv (.t 2))⟩,
    ⟨some 13, some (10, true), .p (.bin .leq (.t 11) (.t 12))⟩,
    ⟨some 14, none, .p (.pick (.t 10) (.t 13) (.k (.c (C.bool false))))⟩,
    ⟨some 6, none, .p (.mv (.t 14))⟩] [6])
  .ret)) }
theorem a60_ok : okFn Tryd.prog 60 a60 = true := by kernel_rfl
/-- loop.example/g01215/impl.runs -/
def a61 : AFn := { np := 1, nt := 45, res := [.t 2], body :=
  (.seq (.region [⟨some 1, none, .p (.box 4 (.t 0))⟩,
    ⟨some 2, none, .p (.nilsl 2)⟩] [1])
  (.seq (.region [⟨some 3, none, .p (.nilsl 2)⟩] [1, 3])
  (.seq (.seq (.region [⟨some 7, none, .h (.load 4 true (.t 1))⟩,
    ⟨some 8, none, .h (.call (.f 50) [.t 7])⟩,
    ⟨some 9, none, .h (.slA 4 1 (.t 1) none (some (.t 8)))⟩,
    ⟨some 10, none, .p (.len (.t 9))⟩,
    ⟨some 11, none, .p (.mv (.k (.c (C.int .i64 0))))⟩] [3, 9, 10, 11])
  (.block 0 (.loop (.seq (.region [⟨some 12, none, .p (.bin .lss (.t 11) (.t 10))⟩] [3, 9, 10, 11, 12])
  (.seq (.cond (.t 12)
  .skip
  (.exit 0))
  (.seq (.block 1 (.seq (.region [⟨some 13, none, .p (.ixS 1 (.t 9) (.t 11))⟩,
    ⟨some 14, none, .h (.load 1 false (.t 13))⟩,
    ⟨some 5, none, .p (.mv (.t 14))⟩] [3, 5, 9, 10, 11])
  (.seq (.region [⟨some 15, none, .p (.mv (.t 3))⟩,
    ⟨some 16, none, .p (.len (.t 15))⟩,
    ⟨some 6, none, .p (.mv (.t 16))⟩] [3, 5, 6, 9, 10, 11])
  (.seq (.region [⟨some 17, none, .p (.mv (.t 6))⟩,
    ⟨some 18, none, .p (.bin .gtr (.t 17) (.k (.c (C.int .i64 0))))⟩,
    ⟨some 19, none, .p (.mv (.t 18))⟩,
    ⟨some 20, some (19, true), .p (.mv (.t 3))⟩,
    ⟨some 21, some (19, true), .p (.mv (.t 6))⟩,
    ⟨some 22, some (19, true), .p (.bin .sub (.t 21) (.k (.c (C.int .i64 1))))⟩,
    ⟨some 23, some (19, true), .p (.ixS 2 (.t 20) (.t 22))⟩,
    ⟨some 24, some (19, true), .p (.ixA 2 1 (.t 23) (.k (.c (C.int .i64 0))))⟩,
    ⟨some 25, some (19, true), .h (.load 1 false (.t 24))⟩,
    ⟨some 26, some (19, true), .p (.mv (.t 5))⟩,
    ⟨some 27, some (19, true), .p (.bin .eql (.t 25) (.t 26))⟩,
    ⟨some 28, none, .p (.pick (.t 19) (.t 27) (.k (.c (C.bool false))))⟩] [3, 5, 6, 9, 10, 11, 28])
  (.cond (.t 28)
  (.regionD [⟨some 29, none, .p (.mv (.t 3))⟩,
    ⟨some 30, none, .p (.mv (.t 6))⟩,
    ⟨some 31, none, .p (.bin .sub (.t 30) (.k (.c (C.int .i64 1))))⟩,
    ⟨some 32, none, .p (.ixS 2 (.t 29) (.t 31))⟩,
    ⟨some 33, none, .p (.ixA 2 1 (.t 32) (.k (.c (C.int .i64 1))))⟩,
    ⟨some 34, none, .h (.load 1 false (.t 33))⟩,
    ⟨some 35, none, .p (.bin .add (.t 34) (.k (.c (C.int .i64 1))))⟩,
    ⟨some 36, none, .p (.ixS 2 (.t 29) (.t 31))⟩,
    ⟨some 37, none, .p (.ixA 2 1 (.t 36) (.k (.c (C.int .i64 1))))⟩,
    ⟨none, none, .h (.store 1 (.t 37) (.t 35))⟩] [3, 9, 10, 11] [])
  (.region [⟨some 38, none, .p (.mv (.t 3))⟩,
    ⟨some 39, none, .p (.mv (.t 5))⟩,
    ⟨some 40, none, .p (.build [.k (C.int .i64 0), .k (C.int .i64 0)] [(0, 1, .t 39), (1, 1, .k (.c (C.int .i64 1)))])⟩,
    ⟨some 41, none, .p (.mksl 2 1 [.k (C.int .i64 0), .k (C.int .i64 0)] [(0, 2, .t 40)])⟩,
    ⟨some 42, none, .h (.app 2 (.t 38) (.t 41))⟩,
    ⟨some 3, none, .p (.mv (.t 42))⟩] [3, 9, 10, 11]))))))
  (.region [⟨some 43, none, .p (.bin .add (.t 11) (.k (.c (C.int .i64 1))))⟩,
    ⟨some 11, none, .p (.mv (.t 43))⟩] [3, 9, 10, 11])))) [3, 9, 10, 11])))
  (.seq (.region [⟨some 44, none, .p (.mv (.t 3))⟩,
    ⟨some 2, none, .p (.mv (.t 44))⟩] [2])
  .ret)))) }
theorem a61_ok : okFn Tryd.prog 61 a61 = true := by kernel_rfl
/-- slices.Index[[]int,int] -/
def a62 : AFn := { np := 2, nt := 19, res := [.t 4], body :=
  (.seq (.region [⟨some 4, none, .p (.mv (.k (.c (C.int .i64 0))))⟩] [0, 1])
  (.seq (.seq (.region [⟨some 6, none, .p (.mv (.t 0))⟩,
    ⟨some 7, none, .p (.len (.t 6))⟩,
    ⟨some 8, none, .p (.mv (.k (.c (C.int .i64 0))))⟩] [0, 1, 7, 8])
  (.block 0 (.loop (.seq (.region [⟨some 9, none, .p (.bin .lss (.t 8) (.t 7))⟩] [0, 1, 7, 8, 9])
  (.seq (.cond (.t 9)
  .skip
  (.exit 0))
  (.seq (.block 1 (.seq (.region [⟨some 10, none, .p (.mv (.t 8))⟩,
    ⟨some 5, none, .p (.mv (.t 10))⟩] [0, 1, 5, 7, 8])
  (.seq (.region [⟨some 11, none, .p (.mv (.t 1))⟩,
    ⟨some 12, none, .p (.mv (.t 0))⟩,
    ⟨some 13, none, .p (.mv (.t 5))⟩,
    ⟨some 14, none, .p (.ixS 1 (.t 12) (.t 13))⟩,
    ⟨some 15, none, .h (.load 1 false (.t 14))⟩,
    ⟨some 16, none, .p (.bin .eql (.t 11) (.t 15))⟩] [0, 1, 5, 7, 8, 16])
  (.cond (.t 16)
  (.seq (.region [⟨some 17, none, .p (.mv (.t 5))⟩,
    ⟨some 4, none, .p (.mv (.t 17))⟩] [4])
  .ret)
  .skip))))
  (.region [⟨some 18, none, .p (.bin .add (.t 8) (.k (.c (C.int .i64 1))))⟩,
    ⟨some 8, none, .p (.mv (.t 18))⟩] [0, 1, 7, 8])))) [0, 1, 7, 8])))
  (.seq (.region [⟨some 4, none, .p (.mv (.k (.c (C.int .i64 (-1)))))⟩] [4])
  .ret))) }
theorem a62_ok : okFn Tryd.prog 62 a62 = true := by kernel_rfl
/-- slices.IndexFunc[[][4]int,[4]int] -/
def a69 : AFn := { np := 2, nt := 19, res := [.t 4], body :=
  (.seq (.region [⟨some 4, none, .p (.mv (.k (.c (C.int .i64 0))))⟩] [0, 1])
  (.seq (.seq (.region [⟨some 6, none, .p (.mv (.t 0))⟩,
    ⟨some 7, none, .p (.len (.t 6))⟩,
    ⟨some 8, none, .p (.mv (.k (.c (C.int .i64 0))))⟩] [0, 1, 7, 8])
  (.block 0 (.loop (.seq (.region [⟨some 9, none, .p (.bin .lss (.t 8) (.t 7))⟩] [0, 1, 7, 8, 9])
  (.seq (.cond (.t 9)
  .skip
  (.exit 0))
  (.seq (.block 1 (.seq (.region [⟨some 10, none, .p (.mv (.t 8))⟩,
    ⟨some 5, none, .p (.mv (.t 10))⟩] [0, 1, 5, 7, 8])
  (.seq (.region [⟨some 11, none, .p (.mv (.t 1))⟩,
    ⟨some 12, none, .p (.mv (.t 0))⟩,
    ⟨some 13, none, .p (.mv (.t 5))⟩,
    ⟨some 14, none, .p (.ixS 4 (.t 12) (.t 13))⟩,
    ⟨some 15, none, .h (.load 4 true (.t 14))⟩,
    ⟨some 16, none, .h (.call (.t 11) [.t 15])⟩] [0, 1, 5, 7, 8, 16])
  (.cond (.t 16)
  (.seq (.region [⟨some 17, none, .p (.mv (.t 5))⟩,
    ⟨some 4, none, .p (.mv (.t 17))⟩] [4])
  .ret)
  .skip))))
  (.region [⟨some 18, none, .p (.bin .add (.t 8) (.k (.c (C.int .i64 1))))⟩,
    ⟨some 8, none, .p (.mv (.t 18))⟩] [0, 1, 7, 8])))) [0, 1, 7, 8])))
  (.seq (.region [⟨some 4, none, .p (.mv (.k (.c (C.int .i64 (-1)))))⟩] [4])
  .ret))) }
theorem a69_ok : okFn Tryd.prog 69 a69 = true := by kernel_rfl
/-- slices.ContainsFunc[[]int,int] -/
def a70 : AFn := { np := 2, nt := 9, res := [.t 4], body :=
  (.seq (.region [⟨some 4, none, .p (.mv (.k (.c (C.bool false))))⟩] [0, 1])
  (.seq (.region [⟨some 5, none, .p (.mv (.t 0))⟩,
    ⟨some 6, none, .p (.mv (.t 1))⟩,
    ⟨some 7, none, .h (.call (.f 79) [.t 5, .t 6])⟩,
    ⟨some 8, none, .p (.bin .geq (.t 7) (.k (.c (C.int .i64 0))))⟩,
    ⟨some 4, none, .p (.mv (.t 8))⟩] [4])
  .ret)) }
theorem a70_ok : okFn Tryd.prog 70 a70 = true := by kernel_rfl
/-- loop.example/g01215/impl.areAll[int]$1 -/
def a71 : AFn := { np := 2, nt := 8, res := [.t 3], body :=
  (.seq (.region [⟨some 3, none, .p (.mv (.k (.c (C.bool false))))⟩] [0, 1])
  (.seq (.region [⟨some 4, none, .h (.load 1 false (.t 1))⟩,
    ⟨some 5, none, .p (.mv (.t 0))⟩,
    ⟨some 6, none, .h (.call (.t 4) [.t 5])⟩,
    ⟨some 7, none, .p (.un .not (.t 6))⟩,
    ⟨some 3, none, .p (.mv (.t 7))⟩] [3])
  .ret)) }
theorem a71_ok : okFn Tryd.prog 71 a71 = true := by kernel_rfl
/-- slices.IndexFunc[[]int,int] -/
def a79 : AFn := { np := 2, nt := 19, res := [.t 4], body :=
  (.seq (.region [⟨some 4, none, .p (.mv (.k (.c (C.int .i64 0))))⟩] [0, 1])
  (.seq (.seq (.region [⟨some 6, none, .p (.mv (.t 0))⟩,
    ⟨some 7, none, .p (.len (.t 6))⟩,
    ⟨some 8, none, .p (.mv (.k (.c (C.int .i64 0))))⟩] [0, 1, 7, 8])
  (.block 0 (.loop (.seq (.region [⟨some 9, none, .p (.bin .lss (.t 8) (.t 7))⟩] [0, 1, 7, 8, 9])
  (.seq (.cond (.t 9)
  .skip
  (.exit 0))
  (.seq (.block 1 (.seq (.region [⟨some 10, none, .p (.mv (.t 8))⟩,
    ⟨some 5, none, .p (.mv (.t 10))⟩] [0, 1, 5, 7, 8])
  (.seq (.region [⟨some 11, none, .p (.mv (.t 1))⟩,
    ⟨some 12, none, .p (.mv (.t 0))⟩,
    ⟨some 13, none, .p (.mv (.t 5))⟩,
    ⟨some 14, none, .p (.ixS 1 (.t 12) (.t 13))⟩,
    ⟨some 15, none, .h (.load 1 false (.t 14))⟩,
    ⟨some 16, none, .h (.call (.t 11) [.t 15])⟩] [0, 1, 5, 7, 8, 16])
  (.cond (.t 16)
  (.seq (.region [⟨some 17, none, .p (.mv (.t 5))⟩,
    ⟨some 4, none, .p (.mv (.t 17))⟩] [4])
  .ret)
  .skip))))
  (.region [⟨some 18, none, .p (.bin .add (.t 8) (.k (.c (C.int .i64 1))))⟩,
    ⟨some 8, none, .p (.mv (.t 18))⟩] [0, 1, 7, 8])))) [0, 1, 7, 8])))
  (.seq (.region [⟨some 4, none, .p (.mv (.k (.c (C.int .i64 (-1)))))⟩] [4])
  .ret))) }
theorem a79_ok : okFn Tryd.prog 79 a79 = true := by kernel_rfl
def prA : Prog
  | 3 => some a3
  | 4 => some a4
  | 5 => some a5
  | 6 => some a6
  | 7 => some a7
  | 8 => some a8
  | 9 => some a9
  | 10 => some a10
  | 11 => some a11
  | 12 => some a12
  | 13 => some a13
  | 14 => some a14
  | 15 => some a15
  | 16 => some a16
  | 17 => some a17
  | 18 => some a18
  | 19 => some a19
  | 20 => some a20
  | 21 => some a21
  | 22 => some a22
  | 23 => some a23
  | 24 => some a24
  | 26 => some a26
  | 27 => some a27
  | 28 => some a28
  | 29 => some a29
  | 30 => some a30
  | 31 => some a31
  | 32 => some a32
  | 33 => some a33
  | 34 => some a34
  | 35 => some a35
  | 38 => some a38
  | 39 => some a39
  | 40 => some a40
  | 41 => some a41
  | 42 => some a42
  | 43 => some a43
  | 44 => some a44
  | 45 => some a45
  | 46 => some a46
  | 47 => some a47
  | 48 => some a48
  | 49 => some a49
  | 50 => some a50
  | 55 => some a55
  | 56 => some a56
  | 57 => some a57
  | 58 => some a58
  | 59 => some a59
  | 60 => some a60
  | 61 => some a61
  | 62 => some a62
  | 69 => some a69
  | 70 => some a70
  | 71 => some a71
  | 79 => some a79
  | _ => none
theorem prA_ok : ProgOK Tryd.prog prA := by
  intro f fn h
  unfold prA at h
  split at h
  · injection h with h; subst h; exact a3_ok
  · injection h with h; subst h; exact a4_ok
  · injection h with h; subst h; exact a5_ok
  · injection h with h; subst h; exact a6_ok
  · injection h with h; subst h; exact a7_ok
  · injection h with h; subst h; exact a8_ok
  · injection h with h; subst h; exact a9_ok
  · injection h with h; subst h; exact a10_ok
  · injection h with h; subst h; exact a11_ok
  · injection h with h; subst h; exact a12_ok
  · injection h with h; subst h; exact a13_ok
  · injection h with h; subst h; exact a14_ok
  · injection h with h; subst h; exact a15_ok
  · injection h with h; subst h; exact a16_ok
  · injection h with h; subst h; exact a17_ok
  · injection h with h; subst h; exact a18_ok
  · injection h with h; subst h; exact a19_ok
  · injection h with h; subst h; exact a20_ok
  · injection h with h; subst h; exact a21_ok
  · injection h with h; subst h; exact a22_ok
  · injection h with h; subst h; exact a23_ok
  · injection h with h; subst h; exact a24_ok
  · injection h with h; subst h; exact a26_ok
  · injection h with h; subst h; exact a27_ok
  · injection h with h; subst h; exact a28_ok
  · injection h with h; subst h; exact a29_ok
  · injection h with h; subst h; exact a30_ok
  · injection h with h; subst h; exact a31_ok
  · injection h with h; subst h; exact a32_ok
  · injection h with h; subst h; exact a33_ok
  · injection h with h; subst h; exact a34_ok
  · injection h with h; subst h; exact a35_ok
  · injection h with h; subst h; exact a38_ok
  · injection h with h; subst h; exact a39_ok
  · injection h with h; subst h; exact a40_ok
  · injection h with h; subst h; exact a41_ok
  · injection h with h; subst h; exact a42_ok
  · injection h with h; subst h; exact a43_ok
  · injection h with h; subst h; exact a44_ok
  · injection h with h; subst h; exact a45_ok
  · injection h with h; subst h; exact a46_ok
  · injection h with h; subst h; exact a47_ok
  · injection h with h; subst h; exact a48_ok
  · injection h with h; subst h; exact a49_ok
  · injection h with h; subst h; exact a50_ok
  · injection h with h; subst h; exact a55_ok
  · injection h with h; subst h; exact a56_ok
  · injection h with h; subst h; exact a57_ok
  · injection h with h; subst h; exact a58_ok
  · injection h with h; subst h; exact a59_ok
  · injection h with h; subst h; exact a60_ok
  · injection h with h; subst h; exact a61_ok
  · injection h with h; subst h; exact a62_ok
  · injection h with h; subst h; exact a69_ok
  · injection h with h; subst h; exact a70_ok
  · injection h with h; subst h; exact a71_ok
  · injection h with h; subst h; exact a79_ok
  · cases h
end Go.Proofs.YtcnlkmooifoljaaDoor.AM
