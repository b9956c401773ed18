import Derived.Test.YtafphbegpjjolaaMapX
/- the code of loop.example/g01215/impl.CountEnds with its maps: printed by a program (wip/tools/xgen.py) out of the loaded program -/
namespace Go.Proofs.Ytafphbegpjjolaa.AM
open Go
set_option maxRecDepth 100000
def xFn : Nat := 13
def xKey : TypeId := 27
def xSix : TypeId := 25
def xFour : TypeId := 24
def xInt : TypeId := 3
def xBool : TypeId := 4
def xTm : TypeId := 71
def xRes : List RV := [.t 4, .t 5]
def xL2 : XC :=
  (.seq (.am (.region [⟨some 38, none, .p (.bin .lss (.t 37) (.t 36))⟩] [7, 8, 20, 21, 24, 25, 35, 36, 37, 38]))
  (.seq (.am (.cond (.t 38)
  .skip
  (.exit 4)))
  (.seq (.block 5 (.seq (.am (.region [⟨some 39, none, .p (.ixS 2 (.t 35) (.t 37))⟩,
    ⟨some 40, none, .h (.load 2 true (.t 39))⟩,
    ⟨some 10, none, .p (.alloc [.k (C.int .i64 0), .k (C.int .i64 0)])⟩,
    ⟨none, none, .h (.store 2 (.t 10) (.t 40))⟩] [7, 8, 10, 20, 21, 24, 25, 35, 36, 37]))
  (.seq (.am (.region [⟨some 42, none, .h (.load 24 true (.t 8))⟩,
    ⟨some 43, none, .p (.ixA 2 1 (.t 10) (.k (.c (C.int .i64 0))))⟩,
    ⟨some 44, none, .h (.load 1 false (.t 43))⟩,
    ⟨some 45, none, .p (.ixA 2 1 (.t 10) (.k (.c (C.int .i64 1))))⟩,
    ⟨some 46, none, .h (.load 1 false (.t 45))⟩,
    ⟨some 47, none, .h (.call (.f 43) [.t 42, .t 44, .t 46])⟩,
    ⟨some 41, none, .p (.mv (.t 47))⟩,
    ⟨some 48, none, .p (.ext (.t 41) 0)⟩,
    ⟨some 49, none, .p (.ext (.t 41) 1)⟩,
    ⟨some 11, none, .p (.alloc (List.replicate 24 (.k (C.int .i64 0))))⟩,
    ⟨none, none, .h (.store 24 (.t 11) (.t 48))⟩,
    ⟨some 12, none, .p (.mv (.t 49))⟩] [7, 8, 11, 20, 21, 24, 25, 35, 36, 37]))
  (.ops [.am ⟨some 50, none, .p (.mv (.t 7))⟩,
    .am ⟨some 51, none, .h (.load 24 true (.t 11))⟩,
    .ins (.t 50) (.t 51)] [7, 8, 20, 21, 24, 25, 35, 36, 37]))))
  (.am (.region [⟨some 52, none, .p (.bin .add (.t 37) (.k (.c (C.int .i64 1))))⟩,
    ⟨some 37, none, .p (.mv (.t 52))⟩] [7, 8, 20, 21, 24, 25, 35, 36, 37])))))
def xL1 : XC :=
  (.seq (.ops [.nxt 26 (.t 25),
    .am ⟨some 27, none, .p (.ext (.t 26) 0)⟩] [7, 20, 21, 24, 25, 27])
  (.seq (.am (.cond (.t 27)
  .skip
  (.exit 2)))
  (.block 3 (.seq (.ops [.ent 28 (.t 25),
    .am ⟨some 29, none, .p (.ext (.t 28) 0)⟩,
    .am ⟨some 8, none, .p (.alloc (List.replicate 24 (.k (C.int .i64 0))))⟩,
    .am ⟨none, none, .h (.store 24 (.t 8) (.t 29))⟩] [7, 8, 20, 21, 24, 25])
  (.seq (.seq (.am (.region [⟨some 30, none, .h (.load 24 true (.t 8))⟩,
    ⟨some 31, none, .h (.call (.f 41) [.t 30])⟩] [7, 8, 20, 21, 24, 25, 31]))
  (.cond (.t 31)
  (.seq (.ops [.am ⟨some 32, none, .p (.mv (.t 7))⟩,
    .am ⟨some 33, none, .h (.load 24 true (.t 8))⟩,
    .ins (.t 32) (.t 33)] [7, 20, 21, 24, 25])
  (.am (.exit 3)))
  (.am .skip)))
  (.seq (.am (.region [⟨some 34, none, .h (.load 24 true (.t 8))⟩,
    ⟨some 35, none, .h (.call (.f 42) [.t 34])⟩,
    ⟨some 36, none, .p (.len (.t 35))⟩,
    ⟨some 37, none, .p (.mv (.k (.c (C.int .i64 0))))⟩] [7, 8, 20, 21, 24, 25, 35, 36, 37]))
  (.block 4 (.loop xL2))))))))
def xL0 : XC :=
  (.seq (.am (.region [⟨some 22, none, .p (.bin .lss (.t 21) (.t 20))⟩] [6, 20, 21, 22, 24]))
  (.seq (.am (.cond (.t 22)
  .skip
  (.exit 0)))
  (.seq (.block 1 (.seq (.ops [.mk 23,
    .am ⟨some 7, none, .p (.mv (.t 23))⟩] [6, 7, 20, 21, 24])
  (.seq (.seq (.ops [.am ⟨some 24, none, .p (.mv (.t 6))⟩,
    .rng 25 (.t 24)] [7, 20, 21, 24, 25])
  (.block 2 (.loop xL1)))
  (.am (.region [⟨some 53, none, .p (.mv (.t 7))⟩,
    ⟨some 6, none, .p (.mv (.t 53))⟩] [6, 20, 21, 24])))))
  (.am (.region [⟨some 54, none, .p (.bin .add (.t 21) (.k (.c (C.int .i64 1))))⟩,
    ⟨some 21, none, .p (.mv (.t 54))⟩] [6, 20, 21, 24])))))
def xCode : XC :=
  (.seq (.am (.region [⟨some 2, none, .p (.box 24 (.t 0))⟩,
    ⟨some 4, none, .p (.mv (.k (.c (C.int .i64 0))))⟩,
    ⟨some 5, none, .p (.mv (.k (.c (C.bool false))))⟩] [1, 2, 24]))
  (.seq (.am (.seq (.region [⟨some 13, none, .h (.load 24 true (.t 2))⟩,
    ⟨some 14, none, .p (.mv (.t 1))⟩,
    ⟨some 15, none, .h (.call (.f 33) [.t 13, .t 14, .k (.c (C.int .i64 2))])⟩,
    ⟨some 16, none, .p (.un .not (.t 15))⟩] [1, 2, 16, 24])
  (.cond (.t 16)
  (.seq (.region [⟨some 4, none, .p (.mv (.k (.c (C.int .i64 0))))⟩,
    ⟨some 5, none, .p (.mv (.k (.c (C.bool false))))⟩] [4, 5, 24])
  .ret)
  .skip)))
  (.seq (.ops [.mk 17,
    .am ⟨some 18, none, .h (.load 24 true (.t 2))⟩,
    .ins (.t 17) (.t 18),
    .am ⟨some 19, none, .p (.mv (.t 17))⟩,
    .am ⟨some 6, none, .p (.mv (.t 19))⟩] [1, 6, 24])
  (.seq (.seq (.am (.region [⟨some 20, none, .p (.mv (.t 1))⟩,
    ⟨some 21, none, .p (.mv (.k (.c (C.int .i64 0))))⟩] [6, 20, 21, 24]))
  (.block 0 (.loop xL0)))
  (.seq (.ops [.am ⟨some 55, none, .p (.mv (.t 6))⟩,
    .len 56 (.t 55),
    .am ⟨some 4, none, .p (.mv (.t 56))⟩,
    .am ⟨some 5, none, .p (.mv (.k (.c (C.bool true))))⟩] [4, 5, 24])
  (.am .ret))))))
theorem xCode_ok : okXF Try.prog xTm 13 2 xRes xCode = true := by kernel_rfl
end Go.Proofs.Ytafphbegpjjolaa.AM
