/- the functions' code in the abstract machine: printed by a program (wip/tools/genparts.py) out of the loaded program -/
import Derived.Test.YthpookdfaikabaaGreatDoorAmD
import Derived.Test.YthpookdfaikabaaGreatDoorProg
import Derived.KernelRfl
namespace Go.Proofs.YthpookdfaikabaaGreatDoor.AM
open Go
set_option maxRecDepth 100000
/-- loop.example/g01215/laws.FnTubeReplays -/
def a3 : AFn := { np := 1, nt := 333, res := [.t 2], body :=
  (.seq (.region [⟨some 2, none, .p (.mv (.k (.c (C.bool false))))⟩] [0])
  (.seq (.seq (.region [⟨some 56, none, .p (.mv (.t 0))⟩,
    ⟨some 57, none, .h (.call (.f 4) [.t 56])⟩] [0, 57])
  (.cond (.t 57)
  (.seq (.region [⟨some 2, none, .p (.mv (.k (.c (C.bool true))))⟩] [2])
  .ret)
  .skip))
  (.seq (.region [⟨some 59, none, .p (.mv (.t 0))⟩,
    ⟨some 60, none, .h (.call (.f 5) [.t 59])⟩,
    ⟨some 58, none, .p (.mv (.t 60))⟩,
    ⟨some 61, none, .p (.ext (.t 58) 0)⟩,
    ⟨some 62, none, .p (.ext (.t 58) 1)⟩,
    ⟨some 3, none, .p (.alloc [.k (C.int .i64 0), .k (C.int .i64 0), .k (C.int .i64 0), .k (C.int .i64 0), .k (C.int .i64 0), .k (C.int .i64 0), .k (C.int .i64 0), .k (C.int .i64 0), .k (C.int .i64 0), .k (C.int .i64 0), .k (C.int .i64 0), .k (C.int .i64 0), .k (C.int .i64 0), .k (C.int .i64 0), .k (C.int .i64 0), .k (C.int .i64 0), .k (C.int .i64 0), .k (C.int .i64 0), .k (C.int .i64 0), .k (C.int .i64 0), .k (C.int .i64 0), .k (C.int .i64 0), .k (C.int .i64 0), .k (C.int .i64 0), .sl 2])⟩,
    ⟨none, none, .h (.store 25 (.t 3) (.t 61))⟩,
    ⟨some 4, none, .p (.mv (.t 62))⟩] [0, 3, 4])
  (.seq (.region [⟨some 64, none, .h (.load 25 true (.t 3))⟩,
    ⟨some 65, none, .p (.mv (.t 4))⟩,
    ⟨some 66, none, .h (.call (.f 6) [.t 64, .t 65])⟩,
    ⟨some 63, none, .p (.mv (.t 66))⟩,
    ⟨some 67, none, .p (.ext (.t 63) 0)⟩,
    ⟨some 68, none, .p (.ext (.t 63) 1)⟩,
    ⟨some 5, none, .p (.alloc (List.replicate 24 (.k (C.int .i64 0))))⟩,
    ⟨none, none, .h (.store 24 (.t 5) (.t 67))⟩,
    ⟨some 6, none, .p (.mv (.t 68))⟩] [0, 3, 4, 5, 6])
  (.seq (.seq (.region [⟨some 70, none, .h (.load 25 true (.t 3))⟩,
    ⟨some 71, none, .p (.mv (.t 4))⟩,
    ⟨some 72, none, .h (.call (.f 7) [.t 70, .t 71])⟩,
    ⟨some 69, none, .p (.mv (.t 72))⟩,
    ⟨some 73, none, .p (.ext (.t 69) 0)⟩,
    ⟨some 74, none, .p (.ext (.t 69) 1)⟩,
    ⟨some 7, none, .p (.alloc (List.replicate 24 (.k (C.int .i64 0))))⟩,
    ⟨none, none, .h (.store 24 (.t 7) (.t 73))⟩,
    ⟨some 8, none, .p (.mv (.t 74))⟩] [0, 3, 5, 6, 7, 8])
  (.seq (.region [⟨some 75, none, .h (.load 24 true (.t 5))⟩,
    ⟨some 76, none, .h (.load 24 true (.t 7))⟩,
    ⟨some 77, none, .p (.eqv true (List.replicate 24 (.int .i64)) (.t 75) (.t 76))⟩,
    ⟨some 78, none, .p (.mv (.t 77))⟩,
    ⟨some 79, some (78, false), .p (.mv (.t 6))⟩,
    ⟨some 80, some (78, false), .p (.mv (.t 8))⟩,
    ⟨some 81, some (78, false), .p (.eqb true (.t 79) (.t 80))⟩,
    ⟨some 82, none, .p (.pick (.t 78) (.k (.c (C.bool true))) (.t 81))⟩] [0, 3, 82])
  (.cond (.t 82)
  (.seq (.region [⟨some 2, none, .p (.mv (.k (.c (C.bool false))))⟩] [2])
  .ret)
  .skip)))
  (.seq (.region [⟨some 84, none, .p (.mv (.t 0))⟩,
    ⟨some 85, none, .h (.call (.f 8) [.t 84])⟩,
    ⟨some 83, none, .p (.mv (.t 85))⟩,
    ⟨some 86, none, .p (.ext (.t 83) 0)⟩,
    ⟨some 87, none, .p (.ext (.t 83) 1)⟩,
    ⟨some 9, none, .p (.alloc [.k (C.int .i64 0), .k (C.int .i64 0), .k (C.int .i64 0), .k (C.int .i64 0), .k (C.int .i64 0), .k (C.int .i64 0), .k (C.int .i64 0), .k (C.int .i64 0), .k (C.int .i64 0), .k (C.int .i64 0), .k (C.int .i64 0), .k (C.int .i64 0), .k (C.int .i64 0), .k (C.int .i64 0), .k (C.int .i64 0), .k (C.int .i64 0), .k (C.int .i64 0), .k (C.int .i64 0), .k (C.int .i64 0), .k (C.int .i64 0), .k (C.int .i64 0), .k (C.int .i64 0), .k (C.int .i64 0), .k (C.int .i64 0), .sl 2])⟩,
    ⟨some 10, none, .p (.alloc [.k (C.int .i64 0), .k (C.int .i64 0)])⟩,
    ⟨none, none, .h (.store 25 (.t 9) (.t 86))⟩,
    ⟨none, none, .h (.store 2 (.t 10) (.t 87))⟩] [0, 3, 9, 10])
  (.seq (.region [⟨some 89, none, .h (.load 25 true (.t 9))⟩,
    ⟨some 90, none, .h (.load 2 true (.t 10))⟩,
    ⟨some 91, none, .h (.call (.f 9) [.t 89, .t 90])⟩,
    ⟨some 88, none, .p (.mv (.t 91))⟩,
    ⟨some 92, none, .p (.ext (.t 88) 0)⟩,
    ⟨some 93, none, .p (.ext (.t 88) 1)⟩,
    ⟨some 11, none, .p (.alloc [.k (C.int .i64 0), .k (C.int .i64 0), .k (C.int .i64 0), .k (C.int .i64 0), .k (C.int .i64 0), .k (C.int .i64 0), .k (C.int .i64 0), .k (C.int .i64 0), .k (C.int .i64 0), .k (C.int .i64 0), .k (C.int .i64 0), .k (C.int .i64 0), .k (C.int .i64 0), .k (C.int .i64 0), .k (C.int .i64 0), .k (C.int .i64 0), .k (C.int .i64 0), .k (C.int .i64 0), .k (C.int .i64 0), .k (C.int .i64 0), .k (C.int .i64 0), .k (C.int .i64 0), .k (C.int .i64 0), .k (C.int .i64 0), .sl 2])⟩,
    ⟨none, none, .h (.store 25 (.t 11) (.t 92))⟩,
    ⟨some 12, none, .p (.mv (.t 93))⟩] [0, 3, 9, 10, 11, 12])
  (.seq (.seq (.region [⟨some 95, none, .h (.load 25 true (.t 9))⟩,
    ⟨some 96, none, .h (.load 2 true (.t 10))⟩,
    ⟨some 97, none, .h (.call (.f 10) [.t 95, .t 96])⟩,
    ⟨some 94, none, .p (.mv (.t 97))⟩,
    ⟨some 98, none, .p (.ext (.t 94) 0)⟩,
    ⟨some 99, none, .p (.ext (.t 94) 1)⟩,
    ⟨some 13, none, .p (.alloc [.k (C.int .i64 0), .k (C.int .i64 0), .k (C.int .i64 0), .k (C.int .i64 0), .k (C.int .i64 0), .k (C.int .i64 0), .k (C.int .i64 0), .k (C.int .i64 0), .k (C.int .i64 0), .k (C.int .i64 0), .k (C.int .i64 0), .k (C.int .i64 0), .k (C.int .i64 0), .k (C.int .i64 0), .k (C.int .i64 0), .k (C.int .i64 0), .k (C.int .i64 0), .k (C.int .i64 0), .k (C.int .i64 0), .k (C.int .i64 0), .k (C.int .i64 0), .k (C.int .i64 0), .k (C.int .i64 0), .k (C.int .i64 0), .sl 2])⟩,
    ⟨none, none, .h (.store 25 (.t 13) (.t 98))⟩,
    ⟨some 14, none, .p (.mv (.t 99))⟩] [0, 3, 9, 11, 12, 13, 14])
  (.seq (.region [⟨some 100, none, .p (.mv (.t 12))⟩,
    ⟨some 101, none, .p (.mv (.t 14))⟩,
    ⟨some 102, none, .p (.eqb true (.t 100) (.t 101))⟩,
    ⟨some 103, none, .p (.mv (.t 102))⟩,
    ⟨some 104, some (103, false), .h (.load 25 true (.t 11))⟩,
    ⟨some 105, some (103, false), .h (.load 25 true (.t 13))⟩,
    ⟨some 106, some (103, false), .h (.call (.f 11) [.t 104, .t 105])⟩,
    ⟨some 107, some (103, false), .p (.un .not (.t 106))⟩,
    ⟨some 108, none, .p (.pick (.t 103) (.k (.c (C.bool true))) (.t 107))⟩] [0, 3, 9, 11, 12, 108])
  (.cond (.t 108)
  (.seq (.region [⟨some 2, none, .p (.mv (.k (.c (C.bool false))))⟩] [2])
  .ret)
  .skip)))
  (.seq (.region [⟨some 110, none, .p (.mv (.t 0))⟩,
    ⟨some 111, none, .h (.call (.f 12) [.t 110])⟩,
    ⟨some 109, none, .p (.mv (.t 111))⟩,
    ⟨some 112, none, .p (.ext (.t 109) 0)⟩,
    ⟨some 113, none, .p (.ext (.t 109) 1)⟩,
    ⟨some 15, none, .p (.alloc [.k (C.int .i64 0), .k (C.int .i64 0), .k (C.int .i64 0), .k (C.int .i64 0), .k (C.int .i64 0), .k (C.int .i64 0), .k (C.int .i64 0), .k (C.int .i64 0), .k (C.int .i64 0), .k (C.int .i64 0), .k (C.int .i64 0), .k (C.int .i64 0), .k (C.int .i64 0), .k (C.int .i64 0), .k (C.int .i64 0), .k (C.int .i64 0), .k (C.int .i64 0), .k (C.int .i64 0), .k (C.int .i64 0), .k (C.int .i64 0), .k (C.int .i64 0), .k (C.int .i64 0), .k (C.int .i64 0), .k (C.int .i64 0), .sl 2])⟩,
    ⟨none, none, .h (.store 25 (.t 15) (.t 112))⟩,
    ⟨some 16, none, .p (.mv (.t 113))⟩] [0, 3, 9, 11, 12, 15, 16])
  (.seq (.region [⟨some 115, none, .h (.load 25 true (.t 15))⟩,
    ⟨some 116, none, .p (.mv (.t 16))⟩,
    ⟨some 117, none, .h (.call (.f 13) [.t 115, .t 116])⟩,
    ⟨some 114, none, .p (.mv (.t 117))⟩,
    ⟨some 118, none, .p (.ext (.t 114) 0)⟩,
    ⟨some 119, none, .p (.ext (.t 114) 1)⟩,
    ⟨some 17, none, .p (.alloc [.k (C.int .i64 0), .k (C.int .i64 0), .k (C.int .i64 0), .k (C.int .i64 0), .k (C.int .i64 0), .k (C.int .i64 0), .k (C.int .i64 0), .k (C.int .i64 0), .k (C.int .i64 0), .k (C.int .i64 0), .k (C.int .i64 0), .k (C.int .i64 0), .k (C.int .i64 0), .k (C.int .i64 0), .k (C.int .i64 0), .k (C.int .i64 0), .k (C.int .i64 0), .k (C.int .i64 0), .k (C.int .i64 0), .k (C.int .i64 0), .k (C.int .i64 0), .k (C.int .i64 0), .k (C.int .i64 0), .k (C.int .i64 0), .sl 2])⟩,
    ⟨none, none, .h (.store 25 (.t 17) (.t 118))⟩,
    ⟨some 18, none, .p (.mv (.t 119))⟩] [0, 3, 9, 11, 12, 15, 16, 17, 18])
  (.seq (.seq (.region [⟨some 121, none, .h (.load 25 true (.t 15))⟩,
    ⟨some 122, none, .p (.mv (.t 16))⟩,
    ⟨some 123, none, .h (.call (.f 14) [.t 121, .t 122])⟩,
    ⟨some 120, none, .p (.mv (.t 123))⟩,
    ⟨some 124, none, .p (.ext (.t 120) 0)⟩,
    ⟨some 125, none, .p (.ext (.t 120) 1)⟩,
    ⟨some 19, none, .p (.alloc [.k (C.int .i64 0), .k (C.int .i64 0), .k (C.int .i64 0), .k (C.int .i64 0), .k (C.int .i64 0), .k (C.int .i64 0), .k (C.int .i64 0), .k (C.int .i64 0), .k (C.int .i64 0), .k (C.int .i64 0), .k (C.int .i64 0), .k (C.int .i64 0), .k (C.int .i64 0), .k (C.int .i64 0), .k (C.int .i64 0), .k (C.int .i64 0), .k (C.int .i64 0), .k (C.int .i64 0), .k (C.int .i64 0), .k (C.int .i64 0), .k (C.int .i64 0), .k (C.int .i64 0), .k (C.int .i64 0), .k (C.int .i64 0), .sl 2])⟩,
    ⟨none, none, .h (.store 25 (.t 19) (.t 124))⟩,
    ⟨some 20, none, .p (.mv (.t 125))⟩] [0, 3, 9, 11, 12, 17, 18, 19, 20])
  (.seq (.region [⟨some 126, none, .p (.mv (.t 18))⟩,
    ⟨some 127, none, .p (.mv (.t 20))⟩,
    ⟨some 128, none, .p (.eqb true (.t 126) (.t 127))⟩,
    ⟨some 129, none, .p (.mv (.t 128))⟩,
    ⟨some 130, some (129, false), .h (.load 25 true (.t 17))⟩,
    ⟨some 131, some (129, false), .h (.load 25 true (.t 19))⟩,
    ⟨some 132, some (129, false), .h (.call (.f 11) [.t 130, .t 131])⟩,
    ⟨some 133, some (129, false), .p (.un .not (.t 132))⟩,
    ⟨some 134, none, .p (.pick (.t 129) (.k (.c (C.bool true))) (.t 133))⟩] [0, 3, 9, 11, 12, 134])
  (.cond (.t 134)
  (.seq (.region [⟨some 2, none, .p (.mv (.k (.c (C.bool false))))⟩] [2])
  .ret)
  .skip)))
  (.seq (.region [⟨some 136, none, .h (.load 25 true (.t 3))⟩,
    ⟨some 137, none, .h (.call (.f 15) [.t 136])⟩,
    ⟨some 135, none, .p (.mv (.t 137))⟩,
    ⟨some 138, none, .p (.ext (.t 135) 0)⟩,
    ⟨some 139, none, .p (.ext (.t 135) 1)⟩,
    ⟨some 21, none, .p (.mv (.t 138))⟩,
    ⟨some 22, none, .p (.mv (.t 139))⟩] [0, 3, 9, 11, 12, 21, 22])
  (.seq (.seq (.region [⟨some 141, none, .h (.load 25 true (.t 3))⟩,
    ⟨some 142, none, .h (.call (.f 16) [.t 141])⟩,
    ⟨some 140, none, .p (.mv (.t 142))⟩,
    ⟨some 143, none, .p (.ext (.t 140) 0)⟩,
    ⟨some 144, none, .p (.ext (.t 140) 1)⟩,
    ⟨some 23, none, .p (.mv (.t 143))⟩,
    ⟨some 24, none, .p (.mv (.t 144))⟩] [0, 3, 9, 11, 12, 21, 22, 23, 24])
  (.seq (.region [⟨some 145, none, .p (.mv (.t 21))⟩,
    ⟨some 146, none, .p (.mv (.t 23))⟩,
    ⟨some 147, none, .p (.bin .neq (.t 145) (.t 146))⟩,
    ⟨some 148, none, .p (.mv (.t 147))⟩,
    ⟨some 149, some (148, false), .p (.mv (.t 22))⟩,
    ⟨some 150, some (148, false), .p (.mv (.t 24))⟩,
    ⟨some 151, some (148, false), .p (.eqb true (.t 149) (.t 150))⟩,
    ⟨some 152, none, .p (.pick (.t 148) (.k (.c (C.bool true))) (.t 151))⟩,
    ⟨some 153, none, .p (.mv (.t 152))⟩,
    ⟨some 154, some (153, false), .p (.mv (.t 22))⟩,
    ⟨some 155, some (153, false), .h (.load 25 true (.t 3))⟩,
    ⟨some 156, some (153, false), .h (.call (.f 17) [.t 155])⟩,
    ⟨some 157, some (153, false), .p (.eqb true (.t 154) (.t 156))⟩,
    ⟨some 158, none, .p (.pick (.t 153) (.k (.c (C.bool true))) (.t 157))⟩] [0, 3, 9, 11, 12, 21, 22, 158])
  (.cond (.t 158)
  (.seq (.region [⟨some 2, none, .p (.mv (.k (.c (C.bool false))))⟩] [2])
  .ret)
  .skip)))
  (.seq (.region [⟨some 159, none, .p (.mv (.t 0))⟩,
    ⟨some 160, none, .h (.call (.f 18) [.t 159])⟩,
    ⟨some 25, none, .p (.mv (.t 160))⟩] [0, 3, 9, 11, 12, 21, 22, 25])
  (.seq (.region [⟨some 162, none, .p (.mv (.t 25))⟩,
    ⟨some 163, none, .h (.call (.f 19) [.t 162])⟩,
    ⟨some 161, none, .p (.mv (.t 163))⟩,
    ⟨some 164, none, .p (.ext (.t 161) 0)⟩,
    ⟨some 165, none, .p (.ext (.t 161) 1)⟩,
    ⟨some 26, none, .p (.alloc [.k (C.int .i64 0), .k (C.int .i64 0), .k (C.int .i64 0), .k (C.int .i64 0), .k (C.int .i64 0), .k (C.int .i64 0), .k (C.int .i64 0), .k (C.int .i64 0), .k (C.int .i64 0), .k (C.int .i64 0), .k (C.int .i64 0), .k (C.int .i64 0), .k (C.int .i64 0), .k (C.int .i64 0), .k (C.int .i64 0), .k (C.int .i64 0), .k (C.int .i64 0), .k (C.int .i64 0), .k (C.int .i64 0), .k (C.int .i64 0), .k (C.int .i64 0), .k (C.int .i64 0), .k (C.int .i64 0), .k (C.int .i64 0), .sl 2])⟩,
    ⟨none, none, .h (.store 25 (.t 26) (.t 164))⟩,
    ⟨some 27, none, .p (.mv (.t 165))⟩] [0, 3, 9, 11, 12, 21, 22, 25, 26, 27])
  (.seq (.seq (.region [⟨some 167, none, .p (.mv (.t 25))⟩,
    ⟨some 168, none, .h (.call (.f 20) [.t 167])⟩,
    ⟨some 166, none, .p (.mv (.t 168))⟩,
    ⟨some 169, none, .p (.ext (.t 166) 0)⟩,
    ⟨some 170, none, .p (.ext (.t 166) 1)⟩,
    ⟨some 28, none, .p (.alloc [.k (C.int .i64 0), .k (C.int .i64 0), .k (C.int .i64 0), .k (C.int .i64 0), .k (C.int .i64 0), .k (C.int .i64 0), .k (C.int .i64 0), .k (C.int .i64 0), .k (C.int .i64 0), .k (C.int .i64 0), .k (C.int .i64 0), .k (C.int .i64 0), .k (C.int .i64 0), .k (C.int .i64 0), .k (C.int .i64 0), .k (C.int .i64 0), .k (C.int .i64 0), .k (C.int .i64 0), .k (C.int .i64 0), .k (C.int .i64 0), .k (C.int .i64 0), .k (C.int .i64 0), .k (C.int .i64 0), .k (C.int .i64 0), .sl 2])⟩,
    ⟨none, none, .h (.store 25 (.t 28) (.t 169))⟩,
    ⟨some 29, none, .p (.mv (.t 170))⟩] [0, 3, 9, 11, 12, 21, 22, 26, 27, 28, 29])
  (.seq (.region [⟨some 171, none, .p (.mv (.t 27))⟩,
    ⟨some 172, none, .p (.mv (.t 29))⟩,
    ⟨some 173, none, .p (.eqb true (.t 171) (.t 172))⟩,
    ⟨some 174, none, .p (.mv (.t 173))⟩,
    ⟨some 175, some (174, false), .h (.load 25 true (.t 26))⟩,
    ⟨some 176, some (174, false), .h (.load 25 true (.t 28))⟩,
    ⟨some 177, some (174, false), .h (.call (.f 11) [.t 175, .t 176])⟩,
    ⟨some 178, some (174, false), .p (.un .not (.t 177))⟩,
    ⟨some 179, none, .p (.pick (.t 174) (.k (.c (C.bool true))) (.t 178))⟩] [0, 3, 9, 11, 12, 21, 22, 179])
  (.cond (.t 179)
  (.seq (.region [⟨some 2, none, .p (.mv (.k (.c (C.bool false))))⟩] [2])
  .ret)
  .skip)))
  (.seq (.region [⟨some 181, none, .h (.load 25 true (.t 3))⟩,
    ⟨some 182, none, .h (.call (.f 21) [.t 181])⟩,
    ⟨some 180, none, .p (.mv (.t 182))⟩,
    ⟨some 183, none, .p (.ext (.t 180) 0)⟩,
    ⟨some 184, none, .p (.ext (.t 180) 1)⟩,
    ⟨some 30, none, .p (.mv (.t 183))⟩,
    ⟨some 31, none, .p (.mv (.t 184))⟩] [0, 3, 9, 11, 12, 21, 22, 30, 31])
  (.seq (.seq (.region [⟨some 186, none, .h (.load 25 true (.t 3))⟩,
    ⟨some 187, none, .h (.call (.f 22) [.t 186])⟩,
    ⟨some 185, none, .p (.mv (.t 187))⟩,
    ⟨some 188, none, .p (.ext (.t 185) 0)⟩,
    ⟨some 189, none, .p (.ext (.t 185) 1)⟩,
    ⟨some 32, none, .p (.mv (.t 188))⟩,
    ⟨some 33, none, .p (.mv (.t 189))⟩] [0, 3, 9, 11, 12, 21, 22, 30, 31, 32, 33])
  (.seq (.region [⟨some 190, none, .p (.mv (.t 30))⟩,
    ⟨some 191, none, .p (.mv (.t 32))⟩,
    ⟨some 192, none, .p (.bin .neq (.t 190) (.t 191))⟩,
    ⟨some 193, none, .p (.mv (.t 192))⟩,
    ⟨some 194, some (193, false), .p (.mv (.t 31))⟩,
    ⟨some 195, some (193, false), .p (.mv (.t 33))⟩,
    ⟨some 196, some (193, false), .p (.eqb true (.t 194) (.t 195))⟩,
    ⟨some 197, none, .p (.pick (.t 193) (.k (.c (C.bool true))) (.t 196))⟩,
    ⟨some 198, none, .p (.mv (.t 197))⟩,
    ⟨some 199, some (198, false), .p (.mv (.t 31))⟩,
    ⟨some 200, some (198, false), .p (.mv (.t 22))⟩,
    ⟨some 201, some (198, false), .p (.eqb true (.t 199) (.t 200))⟩,
    ⟨some 202, none, .p (.pick (.t 198) (.k (.c (C.bool true))) (.t 201))⟩] [0, 3, 9, 11, 12, 21, 22, 30, 202])
  (.cond (.t 202)
  (.seq (.region [⟨some 2, none, .p (.mv (.k (.c (C.bool false))))⟩] [2])
  .ret)
  .skip)))
  (.seq (.region [⟨some 204, none, .p (.mv (.t 0))⟩,
    ⟨some 205, none, .h (.call (.f 23) [.t 204])⟩,
    ⟨some 203, none, .p (.mv (.t 205))⟩,
    ⟨some 206, none, .p (.ext (.t 203) 0)⟩,
    ⟨some 207, none, .p (.ext (.t 203) 1)⟩,
    ⟨some 34, none, .p (.alloc [.k (C.int .i64 0), .k (C.int .i64 0), .k (C.int .i64 0), .k (C.int .i64 0), .k (C.int .i64 0), .k (C.int .i64 0), .k (C.int .i64 0), .k (C.int .i64 0), .k (C.int .i64 0), .k (C.int .i64 0), .k (C.int .i64 0), .k (C.int .i64 0), .k (C.int .i64 0), .k (C.int .i64 0), .k (C.int .i64 0), .k (C.int .i64 0), .k (C.int .i64 0), .k (C.int .i64 0), .k (C.int .i64 0), .k (C.int .i64 0), .k (C.int .i64 0), .k (C.int .i64 0), .k (C.int .i64 0), .k (C.int .i64 0), .sl 2])⟩,
    ⟨none, none, .h (.store 25 (.t 34) (.t 206))⟩,
    ⟨some 35, none, .p (.mv (.t 207))⟩] [3, 9, 11, 12, 21, 22, 30, 34, 35])
  (.seq (.region [⟨some 209, none, .h (.load 25 true (.t 34))⟩,
    ⟨some 210, none, .p (.mv (.t 35))⟩,
    ⟨some 211, none, .h (.call (.f 24) [.t 209, .t 210])⟩,
    ⟨some 208, none, .p (.mv (.t 211))⟩,
    ⟨some 212, none, .p (.ext (.t 208) 0)⟩,
    ⟨some 213, none, .p (.ext (.t 208) 1)⟩,
    ⟨some 36, none, .p (.mv (.t 212))⟩,
    ⟨some 37, none, .p (.mv (.t 213))⟩] [3, 9, 11, 12, 21, 22, 30, 34, 35, 36, 37])
  (.seq (.seq (.region [⟨some 215, none, .h (.load 25 true (.t 34))⟩,
    ⟨some 216, none, .p (.mv (.t 35))⟩,
    ⟨some 217, none, .h (.call (.f 25) [.t 215, .t 216])⟩,
    ⟨some 214, none, .p (.mv (.t 217))⟩,
    ⟨some 218, none, .p (.ext (.t 214) 0)⟩,
    ⟨some 219, none, .p (.ext (.t 214) 1)⟩,
    ⟨some 38, none, .p (.mv (.t 218))⟩,
    ⟨some 39, none, .p (.mv (.t 219))⟩] [3, 9, 11, 12, 21, 22, 30, 36, 37, 38, 39])
  (.seq (.region [⟨some 220, none, .p (.mv (.t 36))⟩,
    ⟨some 221, none, .p (.mv (.t 38))⟩,
    ⟨some 222, none, .p (.eqb true (.t 220) (.t 221))⟩,
    ⟨some 223, none, .p (.mv (.t 222))⟩,
    ⟨some 224, some (223, false), .p (.mv (.t 37))⟩,
    ⟨some 225, some (223, false), .p (.mv (.t 39))⟩,
    ⟨some 226, some (223, false), .p (.eqb true (.t 224) (.t 225))⟩,
    ⟨some 227, none, .p (.pick (.t 223) (.k (.c (C.bool true))) (.t 226))⟩] [3, 9, 11, 12, 21, 22, 30, 227])
  (.cond (.t 227)
  (.seq (.region [⟨some 2, none, .p (.mv (.k (.c (C.bool false))))⟩] [2])
  .ret)
  .skip)))
  (.seq (.seq (.region [⟨some 228, none, .p (.mv (.t 12))⟩] [3, 9, 11, 21, 22, 30, 228])
  (.cond (.t 228)
  (.seq (.region [⟨some 230, none, .h (.load 25 true (.t 11))⟩,
    ⟨some 231, none, .h (.call (.f 13) [.t 230, .k (.c (C.int .i64 1))])⟩,
    ⟨some 229, none, .p (.mv (.t 231))⟩,
    ⟨some 232, none, .p (.ext (.t 229) 0)⟩,
    ⟨some 233, none, .p (.ext (.t 229) 1)⟩,
    ⟨some 40, none, .p (.alloc [.k (C.int .i64 0), .k (C.int .i64 0), .k (C.int .i64 0), .k (C.int .i64 0), .k (C.int .i64 0), .k (C.int .i64 0), .k (C.int .i64 0), .k (C.int .i64 0), .k (C.int .i64 0), .k (C.int .i64 0), .k (C.int .i64 0), .k (C.int .i64 0), .k (C.int .i64 0), .k (C.int .i64 0), .k (C.int .i64 0), .k (C.int .i64 0), .k (C.int .i64 0), .k (C.int .i64 0), .k (C.int .i64 0), .k (C.int .i64 0), .k (C.int .i64 0), .k (C.int .i64 0), .k (C.int .i64 0), .k (C.int .i64 0), .sl 2])⟩,
    ⟨none, none, .h (.store 25 (.t 40) (.t 232))⟩,
    ⟨some 41, none, .p (.mv (.t 233))⟩] [3, 9, 21, 22, 30, 40, 41])
  (.seq (.region [⟨some 234, none, .p (.mv (.t 41))⟩,
    ⟨some 235, none, .p (.un .not (.t 234))⟩,
    ⟨some 236, none, .p (.mv (.t 235))⟩,
    ⟨some 237, some (236, false), .h (.load 25 true (.t 40))⟩,
    ⟨some 238, some (236, false), .h (.load 25 true (.t 9))⟩,
    ⟨some 239, some (236, false), .h (.call (.f 11) [.t 237, .t 238])⟩,
    ⟨some 240, some (236, false), .p (.un .not (.t 239))⟩,
    ⟨some 241, none, .p (.pick (.t 236) (.k (.c (C.bool true))) (.t 240))⟩] [3, 21, 22, 30, 241])
  (.cond (.t 241)
  (.seq (.region [⟨some 2, none, .p (.mv (.k (.c (C.bool false))))⟩] [2])
  .ret)
  .skip)))
  .skip))
  (.seq (.seq (.region [⟨some 242, none, .p (.mv (.t 22))⟩,
    ⟨some 243, none, .p (.un .not (.t 242))⟩] [3, 21, 30, 243])
  (.cond (.t 243)
  (.seq (.region [⟨some 2, none, .p (.mv (.k (.c (C.bool true))))⟩] [2])
  .ret)
  .skip))
  (.seq (.region [⟨some 245, none, .p (.mv (.t 21))⟩,
    ⟨some 246, none, .h (.call (.f 19) [.t 245])⟩,
    ⟨some 244, none, .p (.mv (.t 246))⟩,
    ⟨some 247, none, .p (.ext (.t 244) 0)⟩,
    ⟨some 248, none, .p (.ext (.t 244) 1)⟩,
    ⟨some 42, none, .p (.alloc [.k (C.int .i64 0), .k (C.int .i64 0), .k (C.int .i64 0), .k (C.int .i64 0), .k (C.int .i64 0), .k (C.int .i64 0), .k (C.int .i64 0), .k (C.int .i64 0), .k (C.int .i64 0), .k (C.int .i64 0), .k (C.int .i64 0), .k (C.int .i64 0), .k (C.int .i64 0), .k (C.int .i64 0), .k (C.int .i64 0), .k (C.int .i64 0), .k (C.int .i64 0), .k (C.int .i64 0), .k (C.int .i64 0), .k (C.int .i64 0), .k (C.int .i64 0), .k (C.int .i64 0), .k (C.int .i64 0), .k (C.int .i64 0), .sl 2])⟩,
    ⟨none, none, .h (.store 25 (.t 42) (.t 247))⟩,
    ⟨some 43, none, .p (.mv (.t 248))⟩] [3, 30, 42, 43])
  (.seq (.region [⟨some 250, none, .p (.fld 0 (.t 3))⟩,
    ⟨some 251, none, .h (.load 24 true (.t 250))⟩,
    ⟨some 252, none, .h (.call (.f 26) [.t 251])⟩,
    ⟨some 249, none, .p (.mv (.t 252))⟩,
    ⟨some 253, none, .p (.ext (.t 249) 0)⟩,
    ⟨some 254, none, .p (.ext (.t 249) 1)⟩,
    ⟨some 44, none, .p (.alloc [.k (C.int .i64 0), .k (C.int .i64 0), .k (C.int .i64 0), .k (C.int .i64 0), .k (C.int .i64 0), .k (C.int .i64 0)])⟩,
    ⟨none, none, .h (.store 6 (.t 44) (.t 253))⟩,
    ⟨some 45, none, .p (.mv (.t 254))⟩] [3, 30, 42, 43, 44, 45])
  (.seq (.seq (.region [⟨some 255, none, .p (.mv (.t 43))⟩,
    ⟨some 256, none, .p (.un .not (.t 255))⟩,
    ⟨some 257, none, .p (.mv (.t 256))⟩,
    ⟨some 258, some (257, false), .p (.mv (.t 45))⟩,
    ⟨some 259, some (257, false), .p (.un .not (.t 258))⟩,
    ⟨some 260, none, .p (.pick (.t 257) (.k (.c (C.bool true))) (.t 259))⟩,
    ⟨some 261, none, .p (.mv (.t 260))⟩,
    ⟨some 262, some (261, false), .h (.load 25 true (.t 42))⟩,
    ⟨some 263, some (261, false), .h (.load 25 true (.t 3))⟩,
    ⟨some 264, some (261, false), .h (.call (.f 11) [.t 262, .t 263])⟩,
    ⟨some 265, some (261, false), .p (.un .not (.t 264))⟩,
    ⟨some 266, none, .p (.pick (.t 261) (.k (.c (C.bool true))) (.t 265))⟩] [3, 30, 44, 266])
  (.cond (.t 266)
  (.seq (.region [⟨some 2, none, .p (.mv (.k (.c (C.bool false))))⟩] [2])
  .ret)
  .skip))
  (.seq (.region [⟨some 267, none, .p (.fld 0 (.t 3))⟩,
    ⟨some 268, none, .h (.load 24 true (.t 267))⟩,
    ⟨some 46, none, .p (.alloc (List.replicate 24 (.k (C.int .i64 0))))⟩,
    ⟨none, none, .h (.store 24 (.t 46) (.t 268))⟩,
    ⟨some 47, none, .p (.mv (.k (.c (C.int .i64 0))))⟩] [3, 30, 44, 46, 47])
  (.seq (.seq (.region [⟨some 48, none, .p (.mv (.k (.c (C.int .i64 0))))⟩] [3, 30, 44, 46, 47, 48])
  (.block 0 (.loop (.seq (.seq (.region [⟨some 269, none, .p (.mv (.t 48))⟩,
    ⟨some 270, none, .p (.fld 24 (.t 3))⟩,
    ⟨some 271, none, .h (.load 1 false (.t 270))⟩,
    ⟨some 272, none, .p (.len (.t 271))⟩,
    ⟨some 273, none, .p (.bin .lss (.t 269) (.t 272))⟩] [3, 30, 44, 46, 47, 48, 273])
  (.cond (.t 273)
  .skip
  (.exit 0)))
  (.seq (.block 1 (.seq (.regionD [⟨some 277, none, .h (.load 24 true (.t 46))⟩,
    ⟨some 278, none, .p (.fld 24 (.t 3))⟩,
    ⟨some 279, none, .h (.load 1 false (.t 278))⟩,
    ⟨some 280, none, .p (.mv (.t 48))⟩,
    ⟨some 281, none, .p (.ixS 2 (.t 279) (.t 280))⟩,
    ⟨some 282, none, .p (.ixA 2 1 (.t 281) (.k (.c (C.int .i64 0))))⟩,
    ⟨some 283, none, .h (.load 1 false (.t 282))⟩,
    ⟨some 284, none, .p (.fld 24 (.t 3))⟩,
    ⟨some 285, none, .h (.load 1 false (.t 284))⟩,
    ⟨some 286, none, .p (.mv (.t 48))⟩,
    ⟨some 287, none, .p (.ixS 2 (.t 285) (.t 286))⟩,
    ⟨some 288, none, .p (.ixA 2 1 (.t 287) (.k (.c (C.int .i64 1))))⟩,
    ⟨some 289, none, .h (.load 1 false (.t 288))⟩,
    ⟨some 290, none, .h (.call (.f 27) [.t 277, .t 283, .t 289])⟩,
    ⟨some 276, none, .p (.mv (.t 290))⟩,
    ⟨some 291, none, .p (.ext (.t 276) 0)⟩,
    ⟨some 292, none, .p (.ext (.t 276) 1)⟩,
    ⟨some 293, none, .p (.ext (.t 276) 2)⟩,
    ⟨some 49, none, .p (.alloc (List.replicate 24 (.k (C.int .i64 0))))⟩,
    ⟨none, none, .h (.store 24 (.t 49) (.t 291))⟩,
    ⟨some 50, none, .p (.mv (.t 292))⟩,
    ⟨some 51, none, .p (.mv (.t 293))⟩] [3, 30, 44, 46, 47, 48, 49, 50, 51] [])
  (.seq (.region [⟨some 295, none, .h (.load 25 true (.t 3))⟩,
    ⟨some 296, none, .p (.mv (.t 48))⟩,
    ⟨some 297, none, .p (.bin .add (.t 296) (.k (.c (C.int .i64 1))))⟩,
    ⟨some 298, none, .h (.call (.f 6) [.t 295, .t 297])⟩,
    ⟨some 294, none, .p (.mv (.t 298))⟩,
    ⟨some 299, none, .p (.ext (.t 294) 0)⟩,
    ⟨some 300, none, .p (.ext (.t 294) 1)⟩,
    ⟨some 52, none, .p (.alloc (List.replicate 24 (.k (C.int .i64 0))))⟩,
    ⟨none, none, .h (.store 24 (.t 52) (.t 299))⟩,
    ⟨some 53, none, .p (.mv (.t 300))⟩] [3, 30, 44, 46, 47, 48, 49, 50, 51, 52, 53])
  (.seq (.region [⟨some 302, none, .h (.load 24 true (.t 49))⟩,
    ⟨some 303, none, .h (.call (.f 26) [.t 302])⟩,
    ⟨some 301, none, .p (.mv (.t 303))⟩,
    ⟨some 304, none, .p (.ext (.t 301) 0)⟩,
    ⟨some 305, none, .p (.ext (.t 301) 1)⟩,
    ⟨some 54, none, .p (.alloc [.k (C.int .i64 0), .k (C.int .i64 0), .k (C.int .i64 0), .k (C.int .i64 0), .k (C.int .i64 0), .k (C.int .i64 0)])⟩,
    ⟨none, none, .h (.store 6 (.t 54) (.t 304))⟩,
    ⟨some 55, none, .p (.mv (.t 305))⟩] [3, 30, 44, 46, 47, 48, 49, 50, 51, 52, 53, 54, 55])
  (.seq (.seq (.region [⟨some 306, none, .p (.mv (.t 51))⟩,
    ⟨some 307, none, .p (.un .not (.t 306))⟩,
    ⟨some 308, none, .p (.mv (.t 307))⟩,
    ⟨some 309, some (308, false), .p (.mv (.t 53))⟩,
    ⟨some 310, some (308, false), .p (.un .not (.t 309))⟩,
    ⟨some 311, none, .p (.pick (.t 308) (.k (.c (C.bool true))) (.t 310))⟩,
    ⟨some 312, none, .p (.mv (.t 311))⟩,
    ⟨some 313, some (312, false), .p (.mv (.t 55))⟩,
    ⟨some 314, some (312, false), .p (.un .not (.t 313))⟩,
    ⟨some 315, none, .p (.pick (.t 312) (.k (.c (C.bool true))) (.t 314))⟩,
    ⟨some 316, none, .p (.mv (.t 315))⟩,
    ⟨some 317, some (316, false), .h (.load 24 true (.t 52))⟩,
    ⟨some 318, some (316, false), .h (.load 24 true (.t 49))⟩,
    ⟨some 319, some (316, false), .p (.eqv true (List.replicate 24 (.int .i64)) (.t 317) (.t 318))⟩,
    ⟨some 320, none, .p (.pick (.t 316) (.k (.c (C.bool true))) (.t 319))⟩,
    ⟨some 321, none, .p (.mv (.t 320))⟩,
    ⟨some 322, some (321, false), .h (.load 6 true (.t 54))⟩,
    ⟨some 323, some (321, false), .h (.load 6 true (.t 44))⟩,
    ⟨some 324, some (321, false), .p (.eqv true [.int .i64, .int .i64, .int .i64, .int .i64, .int .i64, .int .i64] (.t 322) (.t 323))⟩,
    ⟨some 325, none, .p (.pick (.t 321) (.k (.c (C.bool true))) (.t 324))⟩] [3, 30, 44, 46, 47, 48, 49, 50, 325])
  (.cond (.t 325)
  (.seq (.region [⟨some 2, none, .p (.mv (.k (.c (C.bool false))))⟩] [2])
  .ret)
  .skip))
  (.seq (.region [⟨some 326, none, .h (.load 24 true (.t 49))⟩,
    ⟨none, none, .h (.store 24 (.t 46) (.t 326))⟩] [3, 30, 44, 46, 47, 48, 50])
  (.region [⟨some 327, none, .p (.mv (.t 47))⟩,
    ⟨some 328, none, .p (.mv (.t 50))⟩,
    ⟨some 329, none, .p (.bin .add (.t 327) (.t 328))⟩,
    ⟨some 47, none, .p (.mv (.t 329))⟩] [3, 30, 44, 46, 47, 48])))))))
  (.region [⟨some 274, none, .p (.mv (.t 48))⟩,
    ⟨some 275, none, .p (.bin .add (.t 274) (.k (.c (C.int .i64 1))))⟩,
    ⟨some 48, none, .p (.mv (.t 275))⟩] [3, 30, 44, 46, 47, 48]))) [3, 30, 44, 46, 47, 48])))
  (.seq (.region [⟨some 330, none, .p (.mv (.t 47))⟩,
    ⟨some 331, none, .p (.mv (.t 30))⟩,
    ⟨some 332, none, .p (.bin .eql (.t 330) (.t 331))⟩,
    ⟨some 2, none, .p (.mv (.t 332))⟩] [2])
  .ret))))))))))))))))))))))))))))) }
theorem a3_ok : okFn Tryz.prog 3 a3 = true := by kernel_rfl
/-- loop.example/g01215/laws.rBig -/
def a4 : AFn := { np := 1, nt := 6, res := [.t 2], body :=
  (.seq (.region [⟨some 2, none, .p (.mv (.k (.c (C.bool false))))⟩] [0])
  (.seq (.region [⟨some 3, none, .p (.mv (.t 0))⟩,
    ⟨some 4, none, .p (.len (.t 3))⟩,
    ⟨some 5, none, .p (.bin .gtr (.t 4) (.k (.c (C.int .i64 65536))))⟩,
    ⟨some 2, none, .p (.mv (.t 5))⟩] [2])
  .ret)) }
theorem a4_ok : okFn Tryz.prog 4 a4 = true := by kernel_rfl
/-- loop.example/g01215/spec.DrawReplayRack -/
def a5 : AFn := { np := 1, nt := 15, res := [.cell 2 25 true, .t 3], body :=
  (.seq (.region [⟨some 2, none, .p (.alloc [.k (C.int .i64 0), .k (C.int .i64 0), .k (C.int .i64 0), .k (C.int .i64 0), .k (C.int .i64 0), .k (C.int .i64 0), .k (C.int .i64 0), .k (C.int .i64 0), .k (C.int .i64 0), .k (C.int .i64 0), .k (C.int .i64 0), .k (C.int .i64 0), .k (C.int .i64 0), .k (C.int .i64 0), .k (C.int .i64 0), .k (C.int .i64 0), .k (C.int .i64 0), .k (C.int .i64 0), .k (C.int .i64 0), .k (C.int .i64 0), .k (C.int .i64 0), .k (C.int .i64 0), .k (C.int .i64 0), .k (C.int .i64 0), .sl 2])⟩,
    ⟨some 3, none, .p (.mv (.k (.c (C.int .i64 0))))⟩] [0, 2])
  (.seq (.region [⟨some 6, none, .p (.mv (.t 0))⟩,
    ⟨some 7, none, .p (.build [.sl 1, .k (C.int .i64 0), .k (C.int .u64 0)] [(0, 1, .t 6)])⟩,
    ⟨some 8, none, .p (.box 3 (.t 7))⟩,
    ⟨some 4, none, .p (.mv (.t 8))⟩] [2, 4])
  (.seq (.region [⟨some 9, none, .p (.mv (.t 4))⟩,
    ⟨some 10, none, .p (.mksl 1 8 [.k (C.int .i64 0)] [(0, 1, .k (.c (C.int .i64 0))), (1, 1, .k (.c (C.int .i64 1))), (2, 1, .k (.c (C.int .i64 2))), (3, 1, .k (.c (C.int .i64 3))), (4, 1, .k (.c (C.int .i64 5))), (5, 1, .k (.c (C.int .i64 (-1)))), (6, 1, .k (.c (C.int .i64 60))), (7, 1, .k (.c (C.int .i64 61)))])⟩,
    ⟨some 11, none, .h (.call (.f 28) [.t 9, .t 10])⟩,
    ⟨some 5, none, .p (.mv (.t 11))⟩] [2, 4, 5])
  (.seq (.region [⟨some 12, none, .p (.mv (.t 4))⟩,
    ⟨some 13, none, .h (.call (.f 29) [.t 12])⟩,
    ⟨some 14, none, .p (.mv (.t 5))⟩,
    ⟨none, none, .h (.store 25 (.t 2) (.t 13))⟩,
    ⟨some 3, none, .p (.mv (.t 14))⟩] [2, 3])
  .ret)))) }
theorem a5_ok : okFn Tryz.prog 5 a5 = true := by kernel_rfl
/-- loop.example/g01215/impl.ReplayRack -/
def a6 : AFn := { np := 2, nt := 28, res := [.cell 4 24 true, .t 5], body :=
  (.seq (.region [⟨some 2, none, .p (.box 25 (.t 0))⟩,
    ⟨some 4, none, .p (.alloc (List.replicate 24 (.k (C.int .i64 0))))⟩,
    ⟨some 5, none, .p (.mv (.k (.c (C.bool false))))⟩] [1, 2, 4])
  (.seq (.region [⟨some 9, none, .h (.load 25 true (.t 2))⟩,
    ⟨some 10, none, .h (.call (.f 30) [.t 9])⟩,
    ⟨some 8, none, .p (.mv (.t 10))⟩,
    ⟨some 11, none, .p (.ext (.t 8) 0)⟩,
    ⟨some 12, none, .p (.ext (.t 8) 1)⟩,
    ⟨some 6, none, .p (.mv (.t 11))⟩,
    ⟨some 7, none, .p (.mv (.t 12))⟩] [1, 2, 4, 6, 7])
  (.seq (.seq (.region [⟨some 13, none, .p (.mv (.t 7))⟩,
    ⟨some 14, none, .p (.un .not (.t 13))⟩,
    ⟨some 15, none, .p (.mv (.t 14))⟩,
    ⟨some 16, some (15, false), .p (.mv (.t 1))⟩,
    ⟨some 17, some (15, false), .p (.fld 24 (.t 2))⟩,
    ⟨some 18, some (15, false), .h (.load 1 false (.t 17))⟩,
    ⟨some 19, some (15, false), .p (.len (.t 18))⟩,
    ⟨some 20, some (15, false), .h (.call (.f 31) [.t 16, .k (.c (C.int .i64 0)), .t 19])⟩,
    ⟨some 21, some (15, false), .p (.un .not (.t 20))⟩,
    ⟨some 22, none, .p (.pick (.t 15) (.k (.c (C.bool true))) (.t 21))⟩] [1, 4, 6, 22])
  (.cond (.t 22)
  (.seq (.region [⟨some 23, none, .p (.build (List.replicate 24 (.k (C.int .i64 0))) [])⟩,
    ⟨none, none, .h (.store 24 (.t 4) (.t 23))⟩,
    ⟨some 5, none, .p (.mv (.k (.c (C.bool false))))⟩] [4, 5])
  .ret)
  .skip))
  (.seq (.region [⟨some 24, none, .p (.mv (.t 6))⟩,
    ⟨some 25, none, .p (.mv (.t 1))⟩,
    ⟨some 26, none, .p (.ixS 24 (.t 24) (.t 25))⟩,
    ⟨some 27, none, .h (.load 24 true (.t 26))⟩,
    ⟨none, none, .h (.store 24 (.t 4) (.t 27))⟩,
    ⟨some 5, none, .p (.mv (.k (.c (C.bool true))))⟩] [4, 5])
  .ret)))) }
theorem a6_ok : okFn Tryz.prog 6 a6 = true := by kernel_rfl
/-- loop.example/g01215/spec.ReplayRack -/
def a7 : AFn := { np := 2, nt := 28, res := [.cell 4 24 true, .t 5], body :=
  (.seq (.region [⟨some 2, none, .p (.box 25 (.t 0))⟩,
    ⟨some 4, none, .p (.alloc (List.replicate 24 (.k (C.int .i64 0))))⟩,
    ⟨some 5, none, .p (.mv (.k (.c (C.bool false))))⟩] [1, 2, 4])
  (.seq (.region [⟨some 9, none, .h (.load 25 true (.t 2))⟩,
    ⟨some 10, none, .h (.call (.f 32) [.t 9])⟩,
    ⟨some 8, none, .p (.mv (.t 10))⟩,
    ⟨some 11, none, .p (.ext (.t 8) 0)⟩,
    ⟨some 12, none, .p (.ext (.t 8) 1)⟩,
    ⟨some 6, none, .p (.mv (.t 11))⟩,
    ⟨some 7, none, .p (.mv (.t 12))⟩] [1, 4, 6, 7])
  (.seq (.seq (.region [⟨some 13, none, .p (.mv (.t 7))⟩,
    ⟨some 14, none, .p (.un .not (.t 13))⟩,
    ⟨some 15, none, .p (.mv (.t 14))⟩,
    ⟨some 16, some (15, false), .p (.mv (.t 1))⟩,
    ⟨some 17, some (15, false), .p (.mv (.t 6))⟩,
    ⟨some 18, some (15, false), .p (.len (.t 17))⟩,
    ⟨some 19, some (15, false), .p (.bin .sub (.t 18) (.k (.c (C.int .i64 1))))⟩,
    ⟨some 20, some (15, false), .h (.call (.f 33) [.t 16, .k (.c (C.int .i64 0)), .t 19])⟩,
    ⟨some 21, some (15, false), .p (.un .not (.t 20))⟩,
    ⟨some 22, none, .p (.pick (.t 15) (.k (.c (C.bool true))) (.t 21))⟩] [1, 4, 6, 22])
  (.cond (.t 22)
  (.seq (.region [⟨some 23, none, .p (.build (List.replicate 24 (.k (C.int .i64 0))) [])⟩,
    ⟨none, none, .h (.store 24 (.t 4) (.t 23))⟩,
    ⟨some 5, none, .p (.mv (.k (.c (C.bool false))))⟩] [4, 5])
  .ret)
  .skip))
  (.seq (.region [⟨some 24, none, .p (.mv (.t 6))⟩,
    ⟨some 25, none, .p (.mv (.t 1))⟩,
    ⟨some 26, none, .p (.ixS 24 (.t 24) (.t 25))⟩,
    ⟨some 27, none, .h (.load 24 true (.t 26))⟩,
    ⟨none, none, .h (.store 24 (.t 4) (.t 27))⟩,
    ⟨some 5, none, .p (.mv (.k (.c (C.bool true))))⟩] [4, 5])
  .ret)))) }
theorem a7_ok : okFn Tryz.prog 7 a7 = true := by kernel_rfl
/-- loop.example/g01215/spec.DrawAddPour -/
def a8 : AFn := { np := 1, nt := 30, res := [.cell 2 25 true, .cell 3 2 true], body :=
  (.seq (.region [⟨some 2, none, .p (.alloc [.k (C.int .i64 0), .k (C.int .i64 0), .k (C.int .i64 0), .k (C.int .i64 0), .k (C.int .i64 0), .k (C.int .i64 0), .k (C.int .i64 0), .k (C.int .i64 0), .k (C.int .i64 0), .k (C.int .i64 0), .k (C.int .i64 0), .k (C.int .i64 0), .k (C.int .i64 0), .k (C.int .i64 0), .k (C.int .i64 0), .k (C.int .i64 0), .k (C.int .i64 0), .k (C.int .i64 0), .k (C.int .i64 0), .k (C.int .i64 0), .k (C.int .i64 0), .k (C.int .i64 0), .k (C.int .i64 0), .k (C.int .i64 0), .sl 2])⟩,
    ⟨some 3, none, .p (.alloc [.k (C.int .i64 0), .k (C.int .i64 0)])⟩] [0, 2, 3])
  (.seq (.region [⟨some 8, none, .p (.mv (.t 0))⟩,
    ⟨some 9, none, .p (.build [.sl 1, .k (C.int .i64 0), .k (C.int .u64 0)] [(0, 1, .t 8)])⟩,
    ⟨some 10, none, .p (.box 3 (.t 9))⟩,
    ⟨some 4, none, .p (.mv (.t 10))⟩] [2, 3, 4])
  (.seq (.region [⟨some 11, none, .p (.mv (.t 4))⟩,
    ⟨some 12, none, .h (.call (.f 29) [.t 11])⟩,
    ⟨some 5, none, .p (.alloc [.k (C.int .i64 0), .k (C.int .i64 0), .k (C.int .i64 0), .k (C.int .i64 0), .k (C.int .i64 0), .k (C.int .i64 0), .k (C.int .i64 0), .k (C.int .i64 0), .k (C.int .i64 0), .k (C.int .i64 0), .k (C.int .i64 0), .k (C.int .i64 0), .k (C.int .i64 0), .k (C.int .i64 0), .k (C.int .i64 0), .k (C.int .i64 0), .k (C.int .i64 0), .k (C.int .i64 0), .k (C.int .i64 0), .k (C.int .i64 0), .k (C.int .i64 0), .k (C.int .i64 0), .k (C.int .i64 0), .k (C.int .i64 0), .sl 2])⟩,
    ⟨none, none, .h (.store 25 (.t 5) (.t 12))⟩] [2, 3, 4, 5])
  (.seq (.seq (.region [⟨some 14, none, .h (.load 25 true (.t 5))⟩,
    ⟨some 15, none, .h (.call (.f 32) [.t 14])⟩,
    ⟨some 13, none, .p (.mv (.t 15))⟩,
    ⟨some 16, none, .p (.ext (.t 13) 0)⟩,
    ⟨some 17, none, .p (.ext (.t 13) 1)⟩,
    ⟨some 6, none, .p (.mv (.t 16))⟩,
    ⟨some 7, none, .p (.mv (.t 17))⟩] [2, 3, 4, 5, 6, 7])
  (.seq (.region [⟨some 18, none, .p (.mv (.t 7))⟩] [2, 3, 4, 5, 6, 18])
  (.cond (.t 18)
  (.seq (.regionE [⟨some 19, none, .h (.load 25 true (.t 5))⟩,
    ⟨some 20, none, .p (.mv (.t 4))⟩,
    ⟨some 21, none, .p (.mv (.t 6))⟩,
    ⟨some 22, none, .p (.mv (.t 6))⟩,
    ⟨some 23, none, .p (.len (.t 22))⟩,
    ⟨some 24, none, .p (.bin .sub (.t 23) (.k (.c (C.int .i64 1))))⟩,
    ⟨some 25, none, .p (.ixS 24 (.t 21) (.t 24))⟩,
    ⟨some 26, none, .h (.load 24 true (.t 25))⟩,
    ⟨some 27, none, .h (.call (.f 34) [.t 20, .t 26])⟩,
    ⟨none, none, .h (.store 25 (.t 2) (.t 19))⟩,
    ⟨none, none, .h (.store 2 (.t 3) (.t 27))⟩] [2, 3] [] [[], [], [], [], [], [], [], [], [8, 1000005]])
  .ret)
  .skip)))
  (.seq (.region [⟨some 28, none, .h (.load 25 true (.t 5))⟩,
    ⟨some 29, none, .p (.build [.k (C.int .i64 0), .k (C.int .i64 0)] [(0, 1, .k (.c (C.int .i64 0))), (1, 1, .k (.c (C.int .i64 1)))])⟩,
    ⟨none, none, .h (.store 25 (.t 2) (.t 28))⟩,
    ⟨none, none, .h (.store 2 (.t 3) (.t 29))⟩] [2, 3])
  .ret))))) }
theorem a8_ok : okFn Tryz.prog 8 a8 = true := by kernel_rfl
/-- loop.example/g01215/impl.AddPour -/
def a9 : AFn := { np := 2, nt := 19, res := [.cell 4 25 true, .t 5], body :=
  (.seq (.region [⟨some 2, none, .p (.box 25 (.t 0))⟩,
    ⟨some 3, none, .p (.box 2 (.t 1))⟩,
    ⟨some 4, none, .p (.alloc [.k (C.int .i64 0), .k (C.int .i64 0), .k (C.int .i64 0), .k (C.int .i64 0), .k (C.int .i64 0), .k (C.int .i64 0), .k (C.int .i64 0), .k (C.int .i64 0), .k (C.int .i64 0), .k (C.int .i64 0), .k (C.int .i64 0), .k (C.int .i64 0), .k (C.int .i64 0), .k (C.int .i64 0), .k (C.int .i64 0), .k (C.int .i64 0), .k (C.int .i64 0), .k (C.int .i64 0), .k (C.int .i64 0), .k (C.int .i64 0), .k (C.int .i64 0), .k (C.int .i64 0), .k (C.int .i64 0), .k (C.int .i64 0), .sl 2])⟩,
    ⟨some 5, none, .p (.mv (.k (.c (C.bool false))))⟩] [2, 3, 4])
  (.seq (.region [⟨some 7, none, .h (.load 25 true (.t 2))⟩,
    ⟨some 8, none, .p (.fld 24 (.t 2))⟩,
    ⟨some 9, none, .h (.load 1 false (.t 8))⟩,
    ⟨some 10, none, .h (.load 2 true (.t 3))⟩,
    ⟨some 11, none, .p (.mksl 2 1 [.k (C.int .i64 0), .k (C.int .i64 0)] [(0, 2, .t 10)])⟩,
    ⟨some 12, none, .p (.mksl 1 2 [.sl 2] [(0, 1, .t 9), (1, 1, .t 11)])⟩,
    ⟨some 13, none, .h (.call (.f 35) [.t 7, .t 12])⟩,
    ⟨some 6, none, .p (.alloc [.k (C.int .i64 0), .k (C.int .i64 0), .k (C.int .i64 0), .k (C.int .i64 0), .k (C.int .i64 0), .k (C.int .i64 0), .k (C.int .i64 0), .k (C.int .i64 0), .k (C.int .i64 0), .k (C.int .i64 0), .k (C.int .i64 0), .k (C.int .i64 0), .k (C.int .i64 0), .k (C.int .i64 0), .k (C.int .i64 0), .k (C.int .i64 0), .k (C.int .i64 0), .k (C.int .i64 0), .k (C.int .i64 0), .k (C.int .i64 0), .k (C.int .i64 0), .k (C.int .i64 0), .k (C.int .i64 0), .k (C.int .i64 0), .sl 2])⟩,
    ⟨none, none, .h (.store 25 (.t 6) (.t 13))⟩] [4, 6])
  (.seq (.seq (.region [⟨some 14, none, .h (.load 25 true (.t 6))⟩,
    ⟨some 15, none, .h (.call (.f 17) [.t 14])⟩,
    ⟨some 16, none, .p (.un .not (.t 15))⟩] [4, 6, 16])
  (.cond (.t 16)
  (.seq (.region [⟨some 17, none, .p (.build [.k (C.int .i64 0), .k (C.int .i64 0), .k (C.int .i64 0), .k (C.int .i64 0), .k (C.int .i64 0), .k (C.int .i64 0), .k (C.int .i64 0), .k (C.int .i64 0), .k (C.int .i64 0), .k (C.int .i64 0), .k (C.int .i64 0), .k (C.int .i64 0), .k (C.int .i64 0), .k (C.int .i64 0), .k (C.int .i64 0), .k (C.int .i64 0), .k (C.int .i64 0), .k (C.int .i64 0), .k (C.int .i64 0), .k (C.int .i64 0), .k (C.int .i64 0), .k (C.int .i64 0), .k (C.int .i64 0), .k (C.int .i64 0), .sl 2] [])⟩,
    ⟨none, none, .h (.store 25 (.t 4) (.t 17))⟩,
    ⟨some 5, none, .p (.mv (.k (.c (C.bool false))))⟩] [4, 5])
  .ret)
  .skip))
  (.seq (.region [⟨some 18, none, .h (.load 25 true (.t 6))⟩,
    ⟨none, none, .h (.store 25 (.t 4) (.t 18))⟩,
    ⟨some 5, none, .p (.mv (.k (.c (C.bool true))))⟩] [4, 5])
  .ret)))) }
theorem a9_ok : okFn Tryz.prog 9 a9 = true := by kernel_rfl
/-- loop.example/g01215/spec.AddPour -/
def a10 : AFn := { np := 2, nt := 46, res := [.cell 4 25 true, .t 5], body :=
  (.seq (.region [⟨some 2, none, .p (.box 25 (.t 0))⟩,
    ⟨some 3, none, .p (.box 2 (.t 1))⟩,
    ⟨some 4, none, .p (.alloc [.k (C.int .i64 0), .k (C.int .i64 0), .k (C.int .i64 0), .k (C.int .i64 0), .k (C.int .i64 0), .k (C.int .i64 0), .k (C.int .i64 0), .k (C.int .i64 0), .k (C.int .i64 0), .k (C.int .i64 0), .k (C.int .i64 0), .k (C.int .i64 0), .k (C.int .i64 0), .k (C.int .i64 0), .k (C.int .i64 0), .k (C.int .i64 0), .k (C.int .i64 0), .k (C.int .i64 0), .k (C.int .i64 0), .k (C.int .i64 0), .k (C.int .i64 0), .k (C.int .i64 0), .k (C.int .i64 0), .k (C.int .i64 0), .sl 2])⟩,
    ⟨some 5, none, .p (.mv (.k (.c (C.bool false))))⟩] [2, 3, 4])
  (.seq (.region [⟨some 10, none, .h (.load 25 true (.t 2))⟩,
    ⟨some 11, none, .h (.call (.f 32) [.t 10])⟩,
    ⟨some 9, none, .p (.mv (.t 11))⟩,
    ⟨some 12, none, .p (.ext (.t 9) 0)⟩,
    ⟨some 13, none, .p (.ext (.t 9) 1)⟩,
    ⟨some 6, none, .p (.mv (.t 12))⟩,
    ⟨some 7, none, .p (.mv (.t 13))⟩] [2, 3, 4, 6, 7])
  (.seq (.seq (.regionD [⟨some 14, none, .p (.mv (.t 7))⟩,
    ⟨some 15, none, .p (.un .not (.t 14))⟩,
    ⟨some 16, none, .p (.mv (.t 15))⟩,
    ⟨some 17, some (16, false), .p (.fld 24 (.t 2))⟩,
    ⟨some 18, some (16, false), .h (.load 1 false (.t 17))⟩,
    ⟨some 19, some (16, false), .p (.len (.t 18))⟩,
    ⟨some 20, some (16, false), .p (.bin .geq (.t 19) (.k (.c (C.int .i64 60))))⟩,
    ⟨some 21, none, .p (.pick (.t 16) (.k (.c (C.bool true))) (.t 20))⟩,
    ⟨some 22, none, .p (.mv (.t 21))⟩,
    ⟨some 23, some (22, false), .p (.mv (.t 6))⟩,
    ⟨some 24, some (22, false), .p (.mv (.t 6))⟩,
    ⟨some 25, some (22, false), .p (.len (.t 24))⟩,
    ⟨some 26, some (22, false), .p (.bin .sub (.t 25) (.k (.c (C.int .i64 1))))⟩,
    ⟨some 27, some (22, false), .p (.ixS 24 (.t 23) (.t 26))⟩,
    ⟨some 28, some (22, false), .h (.load 24 true (.t 27))⟩,
    ⟨some 29, some (22, false), .h (.load 2 true (.t 3))⟩,
    ⟨some 30, some (22, false), .h (.call (.f 36) [.t 28, .t 29])⟩,
    ⟨some 31, some (22, false), .p (.un .not (.t 30))⟩,
    ⟨some 32, none, .p (.pick (.t 22) (.k (.c (C.bool true))) (.t 31))⟩] [2, 3, 4, 32] [])
  (.cond (.t 32)
  (.seq (.region [⟨some 33, none, .p (.build [.k (C.int .i64 0), .k (C.int .i64 0), .k (C.int .i64 0), .k (C.int .i64 0), .k (C.int .i64 0), .k (C.int .i64 0), .k (C.int .i64 0), .k (C.int .i64 0), .k (C.int .i64 0), .k (C.int .i64 0), .k (C.int .i64 0), .k (C.int .i64 0), .k (C.int .i64 0), .k (C.int .i64 0), .k (C.int .i64 0), .k (C.int .i64 0), .k (C.int .i64 0), .k (C.int .i64 0), .k (C.int .i64 0), .k (C.int .i64 0), .k (C.int .i64 0), .k (C.int .i64 0), .k (C.int .i64 0), .k (C.int .i64 0), .sl 2] [])⟩,
    ⟨none, none, .h (.store 25 (.t 4) (.t 33))⟩,
    ⟨some 5, none, .p (.mv (.k (.c (C.bool false))))⟩] [4, 5])
  .ret)
  .skip))
  (.seq (.region [⟨some 34, none, .h (.load 25 true (.t 2))⟩,
    ⟨some 35, none, .p (.fld 24 (.t 2))⟩,
    ⟨some 36, none, .h (.load 1 false (.t 35))⟩,
    ⟨some 37, none, .p (.len (.t 36))⟩,
    ⟨some 38, none, .h (.call (.f 37) [.t 34, .t 37])⟩,
    ⟨some 8, none, .p (.alloc [.k (C.int .i64 0), .k (C.int .i64 0), .k (C.int .i64 0), .k (C.int .i64 0), .k (C.int .i64 0), .k (C.int .i64 0), .k (C.int .i64 0), .k (C.int .i64 0), .k (C.int .i64 0), .k (C.int .i64 0), .k (C.int .i64 0), .k (C.int .i64 0), .k (C.int .i64 0), .k (C.int .i64 0), .k (C.int .i64 0), .k (C.int .i64 0), .k (C.int .i64 0), .k (C.int .i64 0), .k (C.int .i64 0), .k (C.int .i64 0), .k (C.int .i64 0), .k (C.int .i64 0), .k (C.int .i64 0), .k (C.int .i64 0), .sl 2])⟩,
    ⟨none, none, .h (.store 25 (.t 8) (.t 38))⟩] [3, 4, 8])
  (.seq (.region [⟨some 39, none, .p (.fld 24 (.t 8))⟩,
    ⟨some 40, none, .h (.load 1 false (.t 39))⟩,
    ⟨some 41, none, .h (.load 2 true (.t 3))⟩,
    ⟨some 42, none, .p (.mksl 2 1 [.k (C.int .i64 0), .k (C.int .i64 0)] [(0, 2, .t 41)])⟩,
    ⟨some 43, none, .h (.app 2 (.t 40) (.t 42))⟩,
    ⟨some 44, none, .p (.fld 24 (.t 8))⟩,
    ⟨none, none, .h (.store 1 (.t 44) (.t 43))⟩] [4, 8])
  (.seq (.region [⟨some 45, none, .h (.load 25 true (.t 8))⟩,
    ⟨none, none, .h (.store 25 (.t 4) (.t 45))⟩,
    ⟨some 5, none, .p (.mv (.k (.c (C.bool true))))⟩] [4, 5])
  .ret)))))) }
theorem a10_ok : okFn Tryz.prog 10 a10 = true := by kernel_rfl
/-- loop.example/g01215/laws.rReplay -/
def a11 : AFn := { np := 2, nt := 17, res := [.t 4], body :=
  (.seq (.region [⟨some 2, none, .p (.box 25 (.t 0))⟩,
    ⟨some 3, none, .p (.box 25 (.t 1))⟩,
    ⟨some 4, none, .p (.mv (.k (.c (C.bool false))))⟩] [2, 3])
  (.seq (.region [⟨some 5, none, .p (.fld 0 (.t 2))⟩,
    ⟨some 6, none, .h (.load 24 true (.t 5))⟩,
    ⟨some 7, none, .p (.fld 0 (.t 3))⟩,
    ⟨some 8, none, .h (.load 24 true (.t 7))⟩,
    ⟨some 9, none, .p (.eqv false (List.replicate 24 (.int .i64)) (.t 6) (.t 8))⟩,
    ⟨some 10, none, .p (.mv (.t 9))⟩,
    ⟨some 11, some (10, true), .p (.fld 24 (.t 2))⟩,
    ⟨some 12, some (10, true), .h (.load 1 false (.t 11))⟩,
    ⟨some 13, some (10, true), .p (.fld 24 (.t 3))⟩,
    ⟨some 14, some (10, true), .h (.load 1 false (.t 13))⟩,
    ⟨some 15, some (10, true), .h (.call (.f 38) [.t 12, .t 14])⟩,
    ⟨some 16, none, .p (.pick (.t 10) (.t 15) (.k (.c (C.bool false))))⟩,
    ⟨some 4, none, .p (.mv (.t 16))⟩] [4])
  .ret)) }
theorem a11_ok : okFn Tryz.prog 11 a11 = true := by kernel_rfl
/-- loop.example/g01215/spec.DrawUndoPours -/
def a12 : AFn := { np := 1, nt := 8, res := [.cell 2 25 true, .t 3], body :=
  (.seq (.region [⟨some 2, none, .p (.alloc [.k (C.int .i64 0), .k (C.int .i64 0), .k (C.int .i64 0), .k (C.int .i64 0), .k (C.int .i64 0), .k (C.int .i64 0), .k (C.int .i64 0), .k (C.int .i64 0), .k (C.int .i64 0), .k (C.int .i64 0), .k (C.int .i64 0), .k (C.int .i64 0), .k (C.int .i64 0), .k (C.int .i64 0), .k (C.int .i64 0), .k (C.int .i64 0), .k (C.int .i64 0), .k (C.int .i64 0), .k (C.int .i64 0), .k (C.int .i64 0), .k (C.int .i64 0), .k (C.int .i64 0), .k (C.int .i64 0), .k (C.int .i64 0), .sl 2])⟩,
    ⟨some 3, none, .p (.mv (.k (.c (C.int .i64 0))))⟩] [0, 2])
  (.seq (.region [⟨some 4, none, .p (.mv (.t 0))⟩,
    ⟨some 5, none, .h (.call (.f 5) [.t 4])⟩,
    ⟨some 6, none, .p (.ext (.t 5) 0)⟩,
    ⟨some 7, none, .p (.ext (.t 5) 1)⟩,
    ⟨none, none, .h (.store 25 (.t 2) (.t 6))⟩,
    ⟨some 3, none, .p (.mv (.t 7))⟩] [2, 3])
  .ret)) }
theorem a12_ok : okFn Tryz.prog 12 a12 = true := by kernel_rfl
/-- loop.example/g01215/impl.UndoPours -/
def a13 : AFn := { np := 2, nt := 29, res := [.cell 4 25 true, .t 5], body :=
  (.seq (.region [⟨some 2, none, .p (.box 25 (.t 0))⟩,
    ⟨some 4, none, .p (.alloc [.k (C.int .i64 0), .k (C.int .i64 0), .k (C.int .i64 0), .k (C.int .i64 0), .k (C.int .i64 0), .k (C.int .i64 0), .k (C.int .i64 0), .k (C.int .i64 0), .k (C.int .i64 0), .k (C.int .i64 0), .k (C.int .i64 0), .k (C.int .i64 0), .k (C.int .i64 0), .k (C.int .i64 0), .k (C.int .i64 0), .k (C.int .i64 0), .k (C.int .i64 0), .k (C.int .i64 0), .k (C.int .i64 0), .k (C.int .i64 0), .k (C.int .i64 0), .k (C.int .i64 0), .k (C.int .i64 0), .k (C.int .i64 0), .sl 2])⟩,
    ⟨some 5, none, .p (.mv (.k (.c (C.bool false))))⟩] [1, 2, 4])
  (.seq (.seq (.region [⟨some 6, none, .h (.load 25 true (.t 2))⟩,
    ⟨some 7, none, .h (.call (.f 17) [.t 6])⟩,
    ⟨some 8, none, .p (.un .not (.t 7))⟩,
    ⟨some 9, none, .p (.mv (.t 8))⟩,
    ⟨some 10, some (9, false), .p (.mv (.t 1))⟩,
    ⟨some 11, some (9, false), .p (.fld 24 (.t 2))⟩,
    ⟨some 12, some (9, false), .h (.load 1 false (.t 11))⟩,
    ⟨some 13, some (9, false), .p (.len (.t 12))⟩,
    ⟨some 14, some (9, false), .h (.call (.f 31) [.t 10, .k (.c (C.int .i64 0)), .t 13])⟩,
    ⟨some 15, some (9, false), .p (.un .not (.t 14))⟩,
    ⟨some 16, none, .p (.pick (.t 9) (.k (.c (C.bool true))) (.t 15))⟩] [1, 2, 4, 16])
  (.cond (.t 16)
  (.seq (.region [⟨some 17, none, .p (.build [.k (C.int .i64 0), .k (C.int .i64 0), .k (C.int .i64 0), .k (C.int .i64 0), .k (C.int .i64 0), .k (C.int .i64 0), .k (C.int .i64 0), .k (C.int .i64 0), .k (C.int .i64 0), .k (C.int .i64 0), .k (C.int .i64 0), .k (C.int .i64 0), .k (C.int .i64 0), .k (C.int .i64 0), .k (C.int .i64 0), .k (C.int .i64 0), .k (C.int .i64 0), .k (C.int .i64 0), .k (C.int .i64 0), .k (C.int .i64 0), .k (C.int .i64 0), .k (C.int .i64 0), .k (C.int .i64 0), .k (C.int .i64 0), .sl 2] [])⟩,
    ⟨none, none, .h (.store 25 (.t 4) (.t 17))⟩,
    ⟨some 5, none, .p (.mv (.k (.c (C.bool false))))⟩] [4, 5])
  .ret)
  .skip))
  (.seq (.regionE [⟨some 18, none, .h (.load 25 true (.t 2))⟩,
    ⟨some 19, none, .p (.fld 24 (.t 2))⟩,
    ⟨some 20, none, .h (.load 1 false (.t 19))⟩,
    ⟨some 21, none, .p (.fld 24 (.t 2))⟩,
    ⟨some 22, none, .h (.load 1 false (.t 21))⟩,
    ⟨some 23, none, .p (.len (.t 22))⟩,
    ⟨some 24, none, .p (.mv (.t 1))⟩,
    ⟨some 25, none, .p (.bin .sub (.t 23) (.t 24))⟩,
    ⟨some 26, none, .p (.slS 2 (.t 20) none (some (.t 25)))⟩,
    ⟨some 27, none, .p (.mksl 1 1 [.sl 2] [(0, 1, .t 26)])⟩,
    ⟨some 28, none, .h (.call (.f 35) [.t 18, .t 27])⟩,
    ⟨none, none, .h (.store 25 (.t 4) (.t 28))⟩,
    ⟨some 5, none, .p (.mv (.k (.c (C.bool true))))⟩] [4, 5] [] [[], [], [], [], [], [], [], [], [], [], [9]])
  .ret))) }
theorem a13_ok : okFn Tryz.prog 13 a13 = true := by kernel_rfl
/-- loop.example/g01215/spec.UndoPours -/
def a14 : AFn := { np := 2, nt := 25, res := [.cell 4 25 true, .t 5], body :=
  (.seq (.region [⟨some 2, none, .p (.box 25 (.t 0))⟩,
    ⟨some 4, none, .p (.alloc [.k (C.int .i64 0), .k (C.int .i64 0), .k (C.int .i64 0), .k (C.int .i64 0), .k (C.int .i64 0), .k (C.int .i64 0), .k (C.int .i64 0), .k (C.int .i64 0), .k (C.int .i64 0), .k (C.int .i64 0), .k (C.int .i64 0), .k (C.int .i64 0), .k (C.int .i64 0), .k (C.int .i64 0), .k (C.int .i64 0), .k (C.int .i64 0), .k (C.int .i64 0), .k (C.int .i64 0), .k (C.int .i64 0), .k (C.int .i64 0), .k (C.int .i64 0), .k (C.int .i64 0), .k (C.int .i64 0), .k (C.int .i64 0), .sl 2])⟩,
    ⟨some 5, none, .p (.mv (.k (.c (C.bool false))))⟩] [1, 2, 4])
  (.seq (.seq (.region [⟨some 6, none, .h (.load 25 true (.t 2))⟩,
    ⟨some 7, none, .h (.call (.f 39) [.t 6])⟩,
    ⟨some 8, none, .p (.un .not (.t 7))⟩,
    ⟨some 9, none, .p (.mv (.t 8))⟩,
    ⟨some 10, some (9, false), .p (.mv (.t 1))⟩,
    ⟨some 11, some (9, false), .p (.fld 24 (.t 2))⟩,
    ⟨some 12, some (9, false), .h (.load 1 false (.t 11))⟩,
    ⟨some 13, some (9, false), .p (.len (.t 12))⟩,
    ⟨some 14, some (9, false), .h (.call (.f 33) [.t 10, .k (.c (C.int .i64 0)), .t 13])⟩,
    ⟨some 15, some (9, false), .p (.un .not (.t 14))⟩,
    ⟨some 16, none, .p (.pick (.t 9) (.k (.c (C.bool true))) (.t 15))⟩] [1, 2, 4, 16])
  (.cond (.t 16)
  (.seq (.region [⟨some 17, none, .p (.build [.k (C.int .i64 0), .k (C.int .i64 0), .k (C.int .i64 0), .k (C.int .i64 0), .k (C.int .i64 0), .k (C.int .i64 0), .k (C.int .i64 0), .k (C.int .i64 0), .k (C.int .i64 0), .k (C.int .i64 0), .k (C.int .i64 0), .k (C.int .i64 0), .k (C.int .i64 0), .k (C.int .i64 0), .k (C.int .i64 0), .k (C.int .i64 0), .k (C.int .i64 0), .k (C.int .i64 0), .k (C.int .i64 0), .k (C.int .i64 0), .k (C.int .i64 0), .k (C.int .i64 0), .k (C.int .i64 0), .k (C.int .i64 0), .sl 2] [])⟩,
    ⟨none, none, .h (.store 25 (.t 4) (.t 17))⟩,
    ⟨some 5, none, .p (.mv (.k (.c (C.bool false))))⟩] [4, 5])
  .ret)
  .skip))
  (.seq (.region [⟨some 18, none, .h (.load 25 true (.t 2))⟩,
    ⟨some 19, none, .p (.fld 24 (.t 2))⟩,
    ⟨some 20, none, .h (.load 1 false (.t 19))⟩,
    ⟨some 21, none, .p (.len (.t 20))⟩,
    ⟨some 22, none, .p (.mv (.t 1))⟩,
    ⟨some 23, none, .p (.bin .sub (.t 21) (.t 22))⟩,
    ⟨some 24, none, .h (.call (.f 37) [.t 18, .t 23])⟩,
    ⟨none, none, .h (.store 25 (.t 4) (.t 24))⟩,
    ⟨some 5, none, .p (.mv (.k (.c (C.bool true))))⟩] [4, 5])
  .ret))) }
theorem a14_ok : okFn Tryz.prog 14 a14 = true := by kernel_rfl
/-- loop.example/g01215/impl.ReplayText -/
def a15 : AFn := { np := 1, nt := 9, res := [.t 2, .t 3], body :=
  (.seq (.region [⟨some 1, none, .p (.box 25 (.t 0))⟩,
    ⟨some 2, none, .p (.mv (.k (.c (C.str []))))⟩,
    ⟨some 3, none, .p (.mv (.k (.c (C.bool false))))⟩] [1])
  (.seq (.seq (.region [⟨some 4, none, .h (.load 25 true (.t 1))⟩,
    ⟨some 5, none, .h (.call (.f 17) [.t 4])⟩,
    ⟨some 6, none, .p (.un .not (.t 5))⟩] [1, 6])
  (.cond (.t 6)
  (.seq (.region [⟨some 2, none, .p (.mv (.k (.c (C.str []))))⟩,
    ⟨some 3, none, .p (.mv (.k (.c (C.bool false))))⟩] [2, 3])
  .ret)
  .skip))
  (.seq (.region [⟨some 7, none, .h (.load 25 true (.t 1))⟩,
    ⟨some 8, none, .h (.call (.f 40) [.t 7])⟩,
    ⟨some 2, none, .p (.mv (.t 8))⟩,
    ⟨some 3, none, .p (.mv (.k (.c (C.bool true))))⟩] [2, 3])
  .ret))) }
theorem a15_ok : okFn Tryz.prog 15 a15 = true := by kernel_rfl
/-- loop.example/g01215/spec.ReplayText -/
def a16 : AFn := { np := 1, nt := 9, res := [.t 2, .t 3], body :=
  (.seq (.region [⟨some 1, none, .p (.box 25 (.t 0))⟩,
    ⟨some 2, none, .p (.mv (.k (.c (C.str []))))⟩,
    ⟨some 3, none, .p (.mv (.k (.c (C.bool false))))⟩] [1])
  (.seq (.seq (.region [⟨some 4, none, .h (.load 25 true (.t 1))⟩,
    ⟨some 5, none, .h (.call (.f 39) [.t 4])⟩,
    ⟨some 6, none, .p (.un .not (.t 5))⟩] [1, 6])
  (.cond (.t 6)
  (.seq (.region [⟨some 2, none, .p (.mv (.k (.c (C.str []))))⟩,
    ⟨some 3, none, .p (.mv (.k (.c (C.bool false))))⟩] [2, 3])
  .ret)
  .skip))
  (.seq (.region [⟨some 7, none, .h (.load 25 true (.t 1))⟩,
    ⟨some 8, none, .h (.call (.f 41) [.t 7])⟩,
    ⟨some 2, none, .p (.mv (.t 8))⟩,
    ⟨some 3, none, .p (.mv (.k (.c (C.bool true))))⟩] [2, 3])
  .ret))) }
theorem a16_ok : okFn Tryz.prog 16 a16 = true := by kernel_rfl
/-- loop.example/g01215/impl.IsReplay -/
def a17 : AFn := { np := 1, nt := 11, res := [.t 2], body :=
  (.seq (.region [⟨some 1, none, .p (.box 25 (.t 0))⟩,
    ⟨some 2, none, .p (.mv (.k (.c (C.bool false))))⟩] [1])
  (.seq (.region [⟨some 6, none, .h (.load 25 true (.t 1))⟩,
    ⟨some 7, none, .h (.call (.f 30) [.t 6])⟩,
    ⟨some 5, none, .p (.mv (.t 7))⟩,
    ⟨some 8, none, .p (.ext (.t 5) 0)⟩,
    ⟨some 9, none, .p (.ext (.t 5) 1)⟩,
    ⟨some 3, none, .p (.mv (.t 8))⟩,
    ⟨some 4, none, .p (.mv (.t 9))⟩] [4])
  (.seq (.region [⟨some 10, none, .p (.mv (.t 4))⟩,
    ⟨some 2, none, .p (.mv (.t 10))⟩] [2])
  .ret))) }
theorem a17_ok : okFn Tryz.prog 17 a17 = true := by kernel_rfl
/-- loop.example/g01215/spec.DrawParseReplay -/
def a18 : AFn := { np := 1, nt := 21, res := [.t 2], body :=
  (.seq (.region [⟨some 2, none, .p (.mv (.k (.c (C.str []))))⟩] [0])
  (.seq (.region [⟨some 6, none, .p (.mv (.t 0))⟩,
    ⟨some 7, none, .p (.build [.sl 1, .k (C.int .i64 0), .k (C.int .u64 0)] [(0, 1, .t 6)])⟩,
    ⟨some 8, none, .p (.box 3 (.t 7))⟩,
    ⟨some 3, none, .p (.mv (.t 8))⟩] [3])
  (.seq (.region [⟨some 4, none, .p (.mv (.k (.c (C.str [97, 98, 97, 46, 47, 98, 46, 46, 46, 47, 46, 46, 46, 46, 47, 46, 46, 46, 46, 47, 46, 46, 46, 46, 47, 46, 46, 46, 46, 32, 48, 50]))))⟩] [3, 4])
  (.seq (.seq (.region [⟨some 9, none, .p (.mv (.t 3))⟩,
    ⟨some 10, none, .h (.call (.f 29) [.t 9])⟩,
    ⟨some 5, none, .p (.alloc [.k (C.int .i64 0), .k (C.int .i64 0), .k (C.int .i64 0), .k (C.int .i64 0), .k (C.int .i64 0), .k (C.int .i64 0), .k (C.int .i64 0), .k (C.int .i64 0), .k (C.int .i64 0), .k (C.int .i64 0), .k (C.int .i64 0), .k (C.int .i64 0), .k (C.int .i64 0), .k (C.int .i64 0), .k (C.int .i64 0), .k (C.int .i64 0), .k (C.int .i64 0), .k (C.int .i64 0), .k (C.int .i64 0), .k (C.int .i64 0), .k (C.int .i64 0), .k (C.int .i64 0), .k (C.int .i64 0), .k (C.int .i64 0), .sl 2])⟩,
    ⟨none, none, .h (.store 25 (.t 5) (.t 10))⟩] [3, 4, 5])
  (.seq (.region [⟨some 11, none, .h (.load 25 true (.t 5))⟩,
    ⟨some 12, none, .h (.call (.f 39) [.t 11])⟩] [3, 4, 5, 12])
  (.cond (.t 12)
  (.region [⟨some 13, none, .h (.load 25 true (.t 5))⟩,
    ⟨some 14, none, .h (.call (.f 41) [.t 13])⟩,
    ⟨some 4, none, .p (.mv (.t 14))⟩] [3, 4])
  .skip)))
  (.seq (.seq (.region [⟨some 15, none, .p (.mv (.t 3))⟩,
    ⟨some 16, none, .h (.call (.f 42) [.t 15, .k (.c (C.int .i64 3))])⟩] [3, 4, 16])
  (.cond (.t 16)
  (.region [⟨some 17, none, .p (.mv (.t 3))⟩,
    ⟨some 18, none, .p (.mv (.t 4))⟩,
    ⟨some 19, none, .h (.call (.f 43) [.t 17, .t 18, .k (.c (C.str [48, 49, 50, 32, 54, 97, 98, 47, 46]))])⟩,
    ⟨some 4, none, .p (.mv (.t 19))⟩] [4])
  .skip))
  (.seq (.region [⟨some 20, none, .p (.mv (.t 4))⟩,
    ⟨some 2, none, .p (.mv (.t 20))⟩] [2])
  .ret)))))) }
theorem a18_ok : okFn Tryz.prog 18 a18 = true := by kernel_rfl
/-- loop.example/g01215/impl.ParseReplay -/
def a19 : AFn := { np := 1, nt := 60, res := [.cell 2 25 true, .t 3], body :=
  (.seq (.region [⟨some 2, none, .p (.alloc [.k (C.int .i64 0), .k (C.int .i64 0), .k (C.int .i64 0), .k (C.int .i64 0), .k (C.int .i64 0), .k (C.int .i64 0), .k (C.int .i64 0), .k (C.int .i64 0), .k (C.int .i64 0), .k (C.int .i64 0), .k (C.int .i64 0), .k (C.int .i64 0), .k (C.int .i64 0), .k (C.int .i64 0), .k (C.int .i64 0), .k (C.int .i64 0), .k (C.int .i64 0), .k (C.int .i64 0), .k (C.int .i64 0), .k (C.int .i64 0), .k (C.int .i64 0), .k (C.int .i64 0), .k (C.int .i64 0), .k (C.int .i64 0), .sl 2])⟩,
    ⟨some 3, none, .p (.mv (.k (.c (C.bool false))))⟩] [0, 2])
  (.seq (.region [⟨some 10, none, .p (.mv (.t 0))⟩,
    ⟨some 11, none, .h (.call (.f 44) [.t 10, .k (.c (C.str [32]))])⟩,
    ⟨some 4, none, .p (.mv (.t 11))⟩] [2, 4])
  (.seq (.region [⟨some 13, none, .p (.mv (.t 4))⟩,
    ⟨some 14, none, .p (.ixS 1 (.t 13) (.k (.c (C.int .i64 0))))⟩,
    ⟨some 15, none, .h (.load 1 false (.t 14))⟩,
    ⟨some 16, none, .h (.call (.f 45) [.t 15])⟩,
    ⟨some 12, none, .p (.mv (.t 16))⟩,
    ⟨some 17, none, .p (.ext (.t 12) 0)⟩,
    ⟨some 18, none, .p (.ext (.t 12) 1)⟩,
    ⟨some 5, none, .p (.alloc (List.replicate 24 (.k (C.int .i64 0))))⟩,
    ⟨none, none, .h (.store 24 (.t 5) (.t 17))⟩,
    ⟨some 6, none, .p (.mv (.t 18))⟩] [2, 4, 5, 6])
  (.seq (.seq (.region [⟨some 19, none, .p (.mv (.t 6))⟩,
    ⟨some 20, none, .p (.un .not (.t 19))⟩,
    ⟨some 21, none, .p (.mv (.t 20))⟩,
    ⟨some 22, some (21, false), .p (.mv (.t 4))⟩,
    ⟨some 23, some (21, false), .p (.len (.t 22))⟩,
    ⟨some 24, some (21, false), .p (.bin .gtr (.t 23) (.k (.c (C.int .i64 61))))⟩,
    ⟨some 25, none, .p (.pick (.t 21) (.k (.c (C.bool true))) (.t 24))⟩] [2, 4, 5, 25])
  (.cond (.t 25)
  (.seq (.region [⟨some 26, none, .p (.build [.k (C.int .i64 0), .k (C.int .i64 0), .k (C.int .i64 0), .k (C.int .i64 0), .k (C.int .i64 0), .k (C.int .i64 0), .k (C.int .i64 0), .k (C.int .i64 0), .k (C.int .i64 0), .k (C.int .i64 0), .k (C.int .i64 0), .k (C.int .i64 0), .k (C.int .i64 0), .k (C.int .i64 0), .k (C.int .i64 0), .k (C.int .i64 0), .k (C.int .i64 0), .k (C.int .i64 0), .k (C.int .i64 0), .k (C.int .i64 0), .k (C.int .i64 0), .k (C.int .i64 0), .k (C.int .i64 0), .k (C.int .i64 0), .sl 2] [])⟩,
    ⟨none, none, .h (.store 25 (.t 2) (.t 26))⟩,
    ⟨some 3, none, .p (.mv (.k (.c (C.bool false))))⟩] [2, 3])
  .ret)
  .skip))
  (.seq (.region [⟨some 27, none, .h (.load 24 true (.t 5))⟩,
    ⟨some 28, none, .p (.build [.k (C.int .i64 0), .k (C.int .i64 0), .k (C.int .i64 0), .k (C.int .i64 0), .k (C.int .i64 0), .k (C.int .i64 0), .k (C.int .i64 0), .k (C.int .i64 0), .k (C.int .i64 0), .k (C.int .i64 0), .k (C.int .i64 0), .k (C.int .i64 0), .k (C.int .i64 0), .k (C.int .i64 0), .k (C.int .i64 0), .k (C.int .i64 0), .k (C.int .i64 0), .k (C.int .i64 0), .k (C.int .i64 0), .k (C.int .i64 0), .k (C.int .i64 0), .k (C.int .i64 0), .k (C.int .i64 0), .k (C.int .i64 0), .sl 2] [(0, 24, .t 27)])⟩,
    ⟨some 7, none, .p (.alloc [.k (C.int .i64 0), .k (C.int .i64 0), .k (C.int .i64 0), .k (C.int .i64 0), .k (C.int .i64 0), .k (C.int .i64 0), .k (C.int .i64 0), .k (C.int .i64 0), .k (C.int .i64 0), .k (C.int .i64 0), .k (C.int .i64 0), .k (C.int .i64 0), .k (C.int .i64 0), .k (C.int .i64 0), .k (C.int .i64 0), .k (C.int .i64 0), .k (C.int .i64 0), .k (C.int .i64 0), .k (C.int .i64 0), .k (C.int .i64 0), .k (C.int .i64 0), .k (C.int .i64 0), .k (C.int .i64 0), .k (C.int .i64 0), .sl 2])⟩,
    ⟨none, none, .h (.store 25 (.t 7) (.t 28))⟩] [2, 4, 7])
  (.seq (.seq (.region [⟨some 29, none, .p (.mv (.t 4))⟩,
    ⟨some 30, none, .p (.slS 1 (.t 29) (some (.k (.c (C.int .i64 1)))) none)⟩,
    ⟨some 31, none, .p (.len (.t 30))⟩,
    ⟨some 32, none, .p (.mv (.k (.c (C.int .i64 0))))⟩] [2, 7, 30, 31, 32])
  (.block 0 (.loop (.seq (.region [⟨some 33, none, .p (.bin .lss (.t 32) (.t 31))⟩] [2, 7, 30, 31, 32, 33])
  (.seq (.cond (.t 33)
  .skip
  (.exit 0))
  (.seq (.block 1 (.seq (.region [⟨some 34, none, .p (.ixS 1 (.t 30) (.t 32))⟩,
    ⟨some 35, none, .h (.load 1 false (.t 34))⟩,
    ⟨some 9, none, .p (.mv (.t 35))⟩] [2, 7, 9, 30, 31, 32])
  (.seq (.seq (.region [⟨some 36, none, .p (.mv (.t 9))⟩,
    ⟨some 37, none, .p (.lenStr (.t 36))⟩,
    ⟨some 38, none, .p (.bin .neq (.t 37) (.k (.c (C.int .i64 2))))⟩] [2, 7, 9, 30, 31, 32, 38])
  (.cond (.t 38)
  (.seq (.region [⟨some 39, none, .p (.build [.k (C.int .i64 0), .k (C.int .i64 0), .k (C.int .i64 0), .k (C.int .i64 0), .k (C.int .i64 0), .k (C.int .i64 0), .k (C.int .i64 0), .k (C.int .i64 0), .k (C.int .i64 0), .k (C.int .i64 0), .k (C.int .i64 0), .k (C.int .i64 0), .k (C.int .i64 0), .k (C.int .i64 0), .k (C.int .i64 0), .k (C.int .i64 0), .k (C.int .i64 0), .k (C.int .i64 0), .k (C.int .i64 0), .k (C.int .i64 0), .k (C.int .i64 0), .k (C.int .i64 0), .k (C.int .i64 0), .k (C.int .i64 0), .sl 2] [])⟩,
    ⟨none, none, .h (.store 25 (.t 2) (.t 39))⟩,
    ⟨some 3, none, .p (.mv (.k (.c (C.bool false))))⟩] [2, 3])
  .ret)
  .skip))
  (.regionD [⟨some 40, none, .p (.fld 24 (.t 7))⟩,
    ⟨some 41, none, .h (.load 1 false (.t 40))⟩,
    ⟨some 42, none, .p (.mv (.t 9))⟩,
    ⟨some 43, none, .p (.ixStr (.t 42) (.k (.c (C.int .i64 0))))⟩,
    ⟨some 44, none, .p (.conv .i64 (.t 43))⟩,
    ⟨some 45, none, .p (.bin .sub (.t 44) (.k (.c (C.int .i64 48))))⟩,
    ⟨some 46, none, .p (.mv (.t 9))⟩,
    ⟨some 47, none, .p (.ixStr (.t 46) (.k (.c (C.int .i64 1))))⟩,
    ⟨some 48, none, .p (.conv .i64 (.t 47))⟩,
    ⟨some 49, none, .p (.bin .sub (.t 48) (.k (.c (C.int .i64 48))))⟩,
    ⟨some 50, none, .p (.build [.k (C.int .i64 0), .k (C.int .i64 0)] [(0, 1, .t 45), (1, 1, .t 49)])⟩,
    ⟨some 51, none, .p (.mksl 2 1 [.k (C.int .i64 0), .k (C.int .i64 0)] [(0, 2, .t 50)])⟩,
    ⟨some 52, none, .h (.app 2 (.t 41) (.t 51))⟩,
    ⟨some 53, none, .p (.fld 24 (.t 7))⟩,
    ⟨none, none, .h (.store 1 (.t 53) (.t 52))⟩] [2, 7, 30, 31, 32] []))))
  (.region [⟨some 54, none, .p (.bin .add (.t 32) (.k (.c (C.int .i64 1))))⟩,
    ⟨some 32, none, .p (.mv (.t 54))⟩] [2, 7, 30, 31, 32])))) [2, 7, 30, 31, 32])))
  (.seq (.seq (.region [⟨some 55, none, .h (.load 25 true (.t 7))⟩,
    ⟨some 56, none, .h (.call (.f 17) [.t 55])⟩,
    ⟨some 57, none, .p (.un .not (.t 56))⟩] [2, 7, 57])
  (.cond (.t 57)
  (.seq (.region [⟨some 58, none, .p (.build [.k (C.int .i64 0), .k (C.int .i64 0), .k (C.int .i64 0), .k (C.int .i64 0), .k (C.int .i64 0), .k (C.int .i64 0), .k (C.int .i64 0), .k (C.int .i64 0), .k (C.int .i64 0), .k (C.int .i64 0), .k (C.int .i64 0), .k (C.int .i64 0), .k (C.int .i64 0), .k (C.int .i64 0), .k (C.int .i64 0), .k (C.int .i64 0), .k (C.int .i64 0), .k (C.int .i64 0), .k (C.int .i64 0), .k (C.int .i64 0), .k (C.int .i64 0), .k (C.int .i64 0), .k (C.int .i64 0), .k (C.int .i64 0), .sl 2] [])⟩,
    ⟨none, none, .h (.store 25 (.t 2) (.t 58))⟩,
    ⟨some 3, none, .p (.mv (.k (.c (C.bool false))))⟩] [2, 3])
  .ret)
  .skip))
  (.seq (.region [⟨some 59, none, .h (.load 25 true (.t 7))⟩,
    ⟨none, none, .h (.store 25 (.t 2) (.t 59))⟩,
    ⟨some 3, none, .p (.mv (.k (.c (C.bool true))))⟩] [2, 3])
  .ret)))))))) }
theorem a19_ok : okFn Tryz.prog 19 a19 = true := by kernel_rfl
/-- loop.example/g01215/spec.ParseReplay -/
def a20 : AFn := { np := 1, nt := 78, res := [.cell 2 25 true, .t 3], body :=
  (.seq (.region [⟨some 2, none, .p (.alloc [.k (C.int .i64 0), .k (C.int .i64 0), .k (C.int .i64 0), .k (C.int .i64 0), .k (C.int .i64 0), .k (C.int .i64 0), .k (C.int .i64 0), .k (C.int .i64 0), .k (C.int .i64 0), .k (C.int .i64 0), .k (C.int .i64 0), .k (C.int .i64 0), .k (C.int .i64 0), .k (C.int .i64 0), .k (C.int .i64 0), .k (C.int .i64 0), .k (C.int .i64 0), .k (C.int .i64 0), .k (C.int .i64 0), .k (C.int .i64 0), .k (C.int .i64 0), .k (C.int .i64 0), .k (C.int .i64 0), .k (C.int .i64 0), .sl 2])⟩,
    ⟨some 3, none, .p (.mv (.k (.c (C.bool false))))⟩] [0, 2])
  (.seq (.seq (.region [⟨some 10, none, .p (.mv (.t 0))⟩,
    ⟨some 11, none, .p (.lenStr (.t 10))⟩,
    ⟨some 12, none, .p (.bin .gtr (.t 11) (.k (.c (C.int .i64 209))))⟩] [0, 2, 12])
  (.cond (.t 12)
  (.seq (.region [⟨some 13, none, .p (.build [.k (C.int .i64 0), .k (C.int .i64 0), .k (C.int .i64 0), .k (C.int .i64 0), .k (C.int .i64 0), .k (C.int .i64 0), .k (C.int .i64 0), .k (C.int .i64 0), .k (C.int .i64 0), .k (C.int .i64 0), .k (C.int .i64 0), .k (C.int .i64 0), .k (C.int .i64 0), .k (C.int .i64 0), .k (C.int .i64 0), .k (C.int .i64 0), .k (C.int .i64 0), .k (C.int .i64 0), .k (C.int .i64 0), .k (C.int .i64 0), .k (C.int .i64 0), .k (C.int .i64 0), .k (C.int .i64 0), .k (C.int .i64 0), .sl 2] [])⟩,
    ⟨none, none, .h (.store 25 (.t 2) (.t 13))⟩,
    ⟨some 3, none, .p (.mv (.k (.c (C.bool false))))⟩] [2, 3])
  .ret)
  .skip))
  (.seq (.region [⟨some 14, none, .p (.mv (.t 0))⟩,
    ⟨some 15, none, .h (.call (.f 46) [.t 14, .k (.c (C.int .u8 32))])⟩,
    ⟨some 4, none, .p (.mv (.t 15))⟩] [2, 4])
  (.seq (.region [⟨some 17, none, .p (.mv (.t 4))⟩,
    ⟨some 18, none, .p (.ixS 1 (.t 17) (.k (.c (C.int .i64 0))))⟩,
    ⟨some 19, none, .h (.load 1 false (.t 18))⟩,
    ⟨some 20, none, .h (.call (.f 47) [.t 19])⟩,
    ⟨some 16, none, .p (.mv (.t 20))⟩,
    ⟨some 21, none, .p (.ext (.t 16) 0)⟩,
    ⟨some 22, none, .p (.ext (.t 16) 1)⟩,
    ⟨some 5, none, .p (.alloc (List.replicate 24 (.k (C.int .i64 0))))⟩,
    ⟨none, none, .h (.store 24 (.t 5) (.t 21))⟩,
    ⟨some 6, none, .p (.mv (.t 22))⟩] [2, 4, 5, 6])
  (.seq (.region [⟨some 23, none, .h (.load 24 true (.t 5))⟩,
    ⟨some 24, none, .p (.mksl 2 0 [.k (C.int .i64 0), .k (C.int .i64 0)] [])⟩,
    ⟨some 25, none, .p (.build [.k (C.int .i64 0), .k (C.int .i64 0), .k (C.int .i64 0), .k (C.int .i64 0), .k (C.int .i64 0), .k (C.int .i64 0), .k (C.int .i64 0), .k (C.int .i64 0), .k (C.int .i64 0), .k (C.int .i64 0), .k (C.int .i64 0), .k (C.int .i64 0), .k (C.int .i64 0), .k (C.int .i64 0), .k (C.int .i64 0), .k (C.int .i64 0), .k (C.int .i64 0), .k (C.int .i64 0), .k (C.int .i64 0), .k (C.int .i64 0), .k (C.int .i64 0), .k (C.int .i64 0), .k (C.int .i64 0), .k (C.int .i64 0), .sl 2] [(0, 24, .t 23), (24, 1, .t 24)])⟩,
    ⟨some 7, none, .p (.alloc [.k (C.int .i64 0), .k (C.int .i64 0), .k (C.int .i64 0), .k (C.int .i64 0), .k (C.int .i64 0), .k (C.int .i64 0), .k (C.int .i64 0), .k (C.int .i64 0), .k (C.int .i64 0), .k (C.int .i64 0), .k (C.int .i64 0), .k (C.int .i64 0), .k (C.int .i64 0), .k (C.int .i64 0), .k (C.int .i64 0), .k (C.int .i64 0), .k (C.int .i64 0), .k (C.int .i64 0), .k (C.int .i64 0), .k (C.int .i64 0), .k (C.int .i64 0), .k (C.int .i64 0), .k (C.int .i64 0), .k (C.int .i64 0), .sl 2])⟩,
    ⟨none, none, .h (.store 25 (.t 7) (.t 25))⟩] [2, 4, 6, 7])
  (.seq (.seq (.region [⟨some 8, none, .p (.mv (.k (.c (C.int .i64 1))))⟩] [2, 4, 6, 7, 8])
  (.block 0 (.loop (.seq (.seq (.region [⟨some 26, none, .p (.mv (.t 8))⟩,
    ⟨some 27, none, .p (.mv (.t 4))⟩,
    ⟨some 28, none, .p (.len (.t 27))⟩,
    ⟨some 29, none, .p (.bin .lss (.t 26) (.t 28))⟩,
    ⟨some 30, none, .p (.mv (.t 29))⟩,
    ⟨some 31, some (30, true), .p (.mv (.t 6))⟩,
    ⟨some 32, none, .p (.pick (.t 30) (.t 31) (.k (.c (C.bool false))))⟩] [2, 4, 6, 7, 8, 32])
  (.cond (.t 32)
  .skip
  (.exit 0)))
  (.seq (.block 1 (.seq (.region [⟨some 35, none, .p (.mv (.t 4))⟩,
    ⟨some 36, none, .p (.mv (.t 8))⟩,
    ⟨some 37, none, .p (.ixS 1 (.t 35) (.t 36))⟩,
    ⟨some 38, none, .h (.load 1 false (.t 37))⟩,
    ⟨some 9, none, .p (.mv (.t 38))⟩] [2, 4, 7, 8, 9])
  (.seq (.region [⟨some 39, none, .p (.mv (.t 9))⟩,
    ⟨some 40, none, .p (.lenStr (.t 39))⟩,
    ⟨some 41, none, .p (.bin .eql (.t 40) (.k (.c (C.int .i64 2))))⟩,
    ⟨some 42, none, .p (.mv (.t 41))⟩,
    ⟨some 43, some (42, true), .p (.mv (.t 9))⟩,
    ⟨some 44, some (42, true), .p (.ixStr (.t 43) (.k (.c (C.int .i64 0))))⟩,
    ⟨some 45, some (42, true), .p (.conv .i64 (.t 44))⟩,
    ⟨some 46, some (42, true), .h (.call (.f 33) [.t 45, .k (.c (C.int .i64 48)), .k (.c (C.int .i64 53))])⟩,
    ⟨some 47, none, .p (.pick (.t 42) (.t 46) (.k (.c (C.bool false))))⟩,
    ⟨some 48, none, .p (.mv (.t 47))⟩,
    ⟨some 49, some (48, true), .p (.mv (.t 9))⟩,
    ⟨some 50, some (48, true), .p (.ixStr (.t 49) (.k (.c (C.int .i64 1))))⟩,
    ⟨some 51, some (48, true), .p (.conv .i64 (.t 50))⟩,
    ⟨some 52, some (48, true), .h (.call (.f 33) [.t 51, .k (.c (C.int .i64 48)), .k (.c (C.int .i64 53))])⟩,
    ⟨some 53, none, .p (.pick (.t 48) (.t 52) (.k (.c (C.bool false))))⟩,
    ⟨some 6, none, .p (.mv (.t 53))⟩] [2, 4, 6, 7, 8, 9])
  (.seq (.region [⟨some 54, none, .p (.mv (.t 6))⟩] [2, 4, 6, 7, 8, 9, 54])
  (.cond (.t 54)
  (.regionD [⟨some 55, none, .p (.fld 24 (.t 7))⟩,
    ⟨some 56, none, .h (.load 1 false (.t 55))⟩,
    ⟨some 57, none, .p (.mv (.t 9))⟩,
    ⟨some 58, none, .p (.ixStr (.t 57) (.k (.c (C.int .i64 0))))⟩,
    ⟨some 59, none, .p (.bin .sub (.t 58) (.k (.c (C.int .u8 48))))⟩,
    ⟨some 60, none, .p (.conv .i64 (.t 59))⟩,
    ⟨some 61, none, .p (.mv (.t 9))⟩,
    ⟨some 62, none, .p (.ixStr (.t 61) (.k (.c (C.int .i64 1))))⟩,
    ⟨some 63, none, .p (.bin .sub (.t 62) (.k (.c (C.int .u8 48))))⟩,
    ⟨some 64, none, .p (.conv .i64 (.t 63))⟩,
    ⟨some 65, none, .p (.build [.k (C.int .i64 0), .k (C.int .i64 0)] [(0, 1, .t 60), (1, 1, .t 64)])⟩,
    ⟨some 66, none, .p (.mksl 2 1 [.k (C.int .i64 0), .k (C.int .i64 0)] [(0, 2, .t 65)])⟩,
    ⟨some 67, none, .h (.app 2 (.t 56) (.t 66))⟩,
    ⟨some 68, none, .p (.fld 24 (.t 7))⟩,
    ⟨none, none, .h (.store 1 (.t 68) (.t 67))⟩] [2, 4, 6, 7, 8] [])
  .skip)))))
  (.region [⟨some 33, none, .p (.mv (.t 8))⟩,
    ⟨some 34, none, .p (.bin .add (.t 33) (.k (.c (C.int .i64 1))))⟩,
    ⟨some 8, none, .p (.mv (.t 34))⟩] [2, 4, 6, 7, 8]))) [2, 4, 6, 7, 8])))
  (.seq (.seq (.region [⟨some 69, none, .p (.mv (.t 6))⟩,
    ⟨some 70, none, .p (.un .not (.t 69))⟩,
    ⟨some 71, none, .p (.mv (.t 70))⟩,
    ⟨some 72, some (71, false), .h (.load 25 true (.t 7))⟩,
    ⟨some 73, some (71, false), .h (.call (.f 39) [.t 72])⟩,
    ⟨some 74, some (71, false), .p (.un .not (.t 73))⟩,
    ⟨some 75, none, .p (.pick (.t 71) (.k (.c (C.bool true))) (.t 74))⟩] [2, 7, 75])
  (.cond (.t 75)
  (.seq (.region [⟨some 76, none, .p (.build [.k (C.int .i64 0), .k (C.int .i64 0), .k (C.int .i64 0), .k (C.int .i64 0), .k (C.int .i64 0), .k (C.int .i64 0), .k (C.int .i64 0), .k (C.int .i64 0), .k (C.int .i64 0), .k (C.int .i64 0), .k (C.int .i64 0), .k (C.int .i64 0), .k (C.int .i64 0), .k (C.int .i64 0), .k (C.int .i64 0), .k (C.int .i64 0), .k (C.int .i64 0), .k (C.int .i64 0), .k (C.int .i64 0), .k (C.int .i64 0), .k (C.int .i64 0), .k (C.int .i64 0), .k (C.int .i64 0), .k (C.int .i64 0), .sl 2] [])⟩,
    ⟨none, none, .h (.store 25 (.t 2) (.t 76))⟩,
    ⟨some 3, none, .p (.mv (.k (.c (C.bool false))))⟩] [2, 3])
  .ret)
  .skip))
  (.seq (.region [⟨some 77, none, .h (.load 25 true (.t 7))⟩,
    ⟨none, none, .h (.store 25 (.t 2) (.t 77))⟩,
    ⟨some 3, none, .p (.mv (.k (.c (C.bool true))))⟩] [2, 3])
  .ret)))))))) }
theorem a20_ok : okFn Tryz.prog 20 a20 = true := by kernel_rfl
/-- loop.example/g01215/impl.MovedLayers -/
def a21 : AFn := { np := 1, nt := 20, res := [.t 2, .t 3], body :=
  (.seq (.region [⟨some 1, none, .p (.box 25 (.t 0))⟩,
    ⟨some 2, none, .p (.mv (.k (.c (C.int .i64 0))))⟩,
    ⟨some 3, none, .p (.mv (.k (.c (C.bool false))))⟩] [1])
  (.seq (.seq (.region [⟨some 7, none, .h (.load 25 true (.t 1))⟩,
    ⟨some 8, none, .h (.call (.f 17) [.t 7])⟩,
    ⟨some 9, none, .p (.un .not (.t 8))⟩] [1, 9])
  (.cond (.t 9)
  (.seq (.region [⟨some 2, none, .p (.mv (.k (.c (C.int .i64 0))))⟩,
    ⟨some 3, none, .p (.mv (.k (.c (C.bool false))))⟩] [2, 3])
  .ret)
  .skip))
  (.seq (.region [⟨some 11, none, .p (.fld 0 (.t 1))⟩,
    ⟨some 12, none, .h (.load 24 true (.t 11))⟩,
    ⟨some 13, none, .p (.fld 24 (.t 1))⟩,
    ⟨some 14, none, .h (.load 1 false (.t 13))⟩,
    ⟨some 15, none, .h (.call (.f 48) [.t 12, .t 14])⟩,
    ⟨some 10, none, .p (.mv (.t 15))⟩,
    ⟨some 16, none, .p (.ext (.t 10) 0)⟩,
    ⟨some 17, none, .p (.ext (.t 10) 1)⟩,
    ⟨some 18, none, .p (.ext (.t 10) 2)⟩,
    ⟨some 4, none, .p (.alloc (List.replicate 24 (.k (C.int .i64 0))))⟩,
    ⟨none, none, .h (.store 24 (.t 4) (.t 16))⟩,
    ⟨some 5, none, .p (.mv (.t 17))⟩,
    ⟨some 6, none, .p (.mv (.t 18))⟩] [5])
  (.seq (.region [⟨some 19, none, .p (.mv (.t 5))⟩,
    ⟨some 2, none, .p (.mv (.t 19))⟩,
    ⟨some 3, none, .p (.mv (.k (.c (C.bool true))))⟩] [2, 3])
  .ret)))) }
theorem a21_ok : okFn Tryz.prog 21 a21 = true := by kernel_rfl
/-- loop.example/g01215/spec.MovedLayers -/
def a22 : AFn := { np := 1, nt := 50, res := [.t 2, .t 3], body :=
  (.seq (.region [⟨some 1, none, .p (.box 25 (.t 0))⟩,
    ⟨some 2, none, .p (.mv (.k (.c (C.int .i64 0))))⟩,
    ⟨some 3, none, .p (.mv (.k (.c (C.bool false))))⟩] [1])
  (.seq (.region [⟨some 11, none, .h (.load 25 true (.t 1))⟩,
    ⟨some 12, none, .h (.call (.f 32) [.t 11])⟩,
    ⟨some 10, none, .p (.mv (.t 12))⟩,
    ⟨some 13, none, .p (.ext (.t 10) 0)⟩,
    ⟨some 14, none, .p (.ext (.t 10) 1)⟩,
    ⟨some 4, none, .p (.mv (.t 13))⟩,
    ⟨some 5, none, .p (.mv (.t 14))⟩] [1, 4, 5])
  (.seq (.region [⟨some 6, none, .p (.mv (.k (.c (C.int .i64 0))))⟩] [1, 4, 5, 6])
  (.seq (.seq (.region [⟨some 7, none, .p (.mv (.k (.c (C.int .i64 0))))⟩] [1, 4, 5, 6, 7])
  (.block 0 (.loop (.seq (.seq (.region [⟨some 15, none, .p (.mv (.t 7))⟩,
    ⟨some 16, none, .p (.fld 24 (.t 1))⟩,
    ⟨some 17, none, .h (.load 1 false (.t 16))⟩,
    ⟨some 18, none, .p (.len (.t 17))⟩,
    ⟨some 19, none, .p (.bin .lss (.t 15) (.t 18))⟩,
    ⟨some 20, none, .p (.mv (.t 19))⟩,
    ⟨some 21, some (20, true), .p (.mv (.t 5))⟩,
    ⟨some 22, none, .p (.pick (.t 20) (.t 21) (.k (.c (C.bool false))))⟩] [1, 4, 5, 6, 7, 22])
  (.cond (.t 22)
  .skip
  (.exit 0)))
  (.seq (.block 1 (.seq (.regionD [⟨some 26, none, .p (.mv (.t 4))⟩,
    ⟨some 27, none, .p (.mv (.t 7))⟩,
    ⟨some 28, none, .p (.ixS 24 (.t 26) (.t 27))⟩,
    ⟨some 29, none, .h (.load 24 true (.t 28))⟩,
    ⟨some 30, none, .p (.fld 24 (.t 1))⟩,
    ⟨some 31, none, .h (.load 1 false (.t 30))⟩,
    ⟨some 32, none, .p (.mv (.t 7))⟩,
    ⟨some 33, none, .p (.ixS 2 (.t 31) (.t 32))⟩,
    ⟨some 34, none, .p (.ixA 2 1 (.t 33) (.k (.c (C.int .i64 0))))⟩,
    ⟨some 35, none, .h (.load 1 false (.t 34))⟩,
    ⟨some 36, none, .p (.fld 24 (.t 1))⟩,
    ⟨some 37, none, .h (.load 1 false (.t 36))⟩,
    ⟨some 38, none, .p (.mv (.t 7))⟩,
    ⟨some 39, none, .p (.ixS 2 (.t 37) (.t 38))⟩,
    ⟨some 40, none, .p (.ixA 2 1 (.t 39) (.k (.c (C.int .i64 1))))⟩,
    ⟨some 41, none, .h (.load 1 false (.t 40))⟩,
    ⟨some 42, none, .h (.call (.f 49) [.t 29, .t 35, .t 41])⟩,
    ⟨some 25, none, .p (.mv (.t 42))⟩,
    ⟨some 43, none, .p (.ext (.t 25) 0)⟩,
    ⟨some 44, none, .p (.ext (.t 25) 1)⟩,
    ⟨some 8, none, .p (.alloc (List.replicate 24 (.k (C.int .i64 0))))⟩,
    ⟨none, none, .h (.store 24 (.t 8) (.t 43))⟩,
    ⟨some 9, none, .p (.mv (.t 44))⟩] [1, 4, 5, 6, 7, 9] [])
  (.region [⟨some 45, none, .p (.mv (.t 6))⟩,
    ⟨some 46, none, .p (.mv (.t 9))⟩,
    ⟨some 47, none, .p (.bin .add (.t 45) (.t 46))⟩,
    ⟨some 6, none, .p (.mv (.t 47))⟩] [1, 4, 5, 6, 7])))
  (.region [⟨some 23, none, .p (.mv (.t 7))⟩,
    ⟨some 24, none, .p (.bin .add (.t 23) (.k (.c (C.int .i64 1))))⟩,
    ⟨some 7, none, .p (.mv (.t 24))⟩] [1, 4, 5, 6, 7]))) [1, 4, 5, 6, 7])))
  (.seq (.region [⟨some 48, none, .p (.mv (.t 6))⟩,
    ⟨some 49, none, .p (.mv (.t 5))⟩,
    ⟨some 2, none, .p (.mv (.t 48))⟩,
    ⟨some 3, none, .p (.mv (.t 49))⟩] [2, 3])
  .ret))))) }
theorem a22_ok : okFn Tryz.prog 22 a22 = true := by kernel_rfl
/-- loop.example/g01215/spec.DrawCanSwap -/
def a23 : AFn := { np := 1, nt := 8, res := [.cell 2 25 true, .t 3], body :=
  (.seq (.region [⟨some 2, none, .p (.alloc [.k (C.int .i64 0), .k (C.int .i64 0), .k (C.int .i64 0), .k (C.int .i64 0), .k (C.int .i64 0), .k (C.int .i64 0), .k (C.int .i64 0), .k (C.int .i64 0), .k (C.int .i64 0), .k (C.int .i64 0), .k (C.int .i64 0), .k (C.int .i64 0), .k (C.int .i64 0), .k (C.int .i64 0), .k (C.int .i64 0), .k (C.int .i64 0), .k (C.int .i64 0), .k (C.int .i64 0), .k (C.int .i64 0), .k (C.int .i64 0), .k (C.int .i64 0), .k (C.int .i64 0), .k (C.int .i64 0), .k (C.int .i64 0), .sl 2])⟩,
    ⟨some 3, none, .p (.mv (.k (.c (C.int .i64 0))))⟩] [0, 2])
  (.seq (.region [⟨some 4, none, .p (.mv (.t 0))⟩,
    ⟨some 5, none, .h (.call (.f 5) [.t 4])⟩,
    ⟨some 6, none, .p (.ext (.t 5) 0)⟩,
    ⟨some 7, none, .p (.ext (.t 5) 1)⟩,
    ⟨none, none, .h (.store 25 (.t 2) (.t 6))⟩,
    ⟨some 3, none, .p (.mv (.t 7))⟩] [2, 3])
  .ret)) }
theorem a23_ok : okFn Tryz.prog 23 a23 = true := by kernel_rfl
/-- loop.example/g01215/impl.CanSwap -/
def a24 : AFn := { np := 2, nt := 72, res := [.t 4, .t 5], body :=
  (.seq (.region [⟨some 2, none, .p (.box 25 (.t 0))⟩,
    ⟨some 4, none, .p (.mv (.k (.c (C.bool false))))⟩,
    ⟨some 5, none, .p (.mv (.k (.c (C.bool false))))⟩] [1, 2])
  (.seq (.region [⟨some 11, none, .h (.load 25 true (.t 2))⟩,
    ⟨some 12, none, .h (.call (.f 30) [.t 11])⟩,
    ⟨some 10, none, .p (.mv (.t 12))⟩,
    ⟨some 13, none, .p (.ext (.t 10) 0)⟩,
    ⟨some 14, none, .p (.ext (.t 10) 1)⟩,
    ⟨some 6, none, .p (.mv (.t 13))⟩,
    ⟨some 7, none, .p (.mv (.t 14))⟩] [1, 2, 6, 7])
  (.seq (.seq (.region [⟨some 15, none, .p (.mv (.t 7))⟩,
    ⟨some 16, none, .p (.un .not (.t 15))⟩,
    ⟨some 17, none, .p (.mv (.t 16))⟩,
    ⟨some 18, some (17, false), .p (.mv (.t 1))⟩,
    ⟨some 19, some (17, false), .p (.fld 24 (.t 2))⟩,
    ⟨some 20, some (17, false), .h (.load 1 false (.t 19))⟩,
    ⟨some 21, some (17, false), .p (.len (.t 20))⟩,
    ⟨some 22, some (17, false), .p (.bin .sub (.t 21) (.k (.c (C.int .i64 2))))⟩,
    ⟨some 23, some (17, false), .h (.call (.f 31) [.t 18, .k (.c (C.int .i64 0)), .t 22])⟩,
    ⟨some 24, some (17, false), .p (.un .not (.t 23))⟩,
    ⟨some 25, none, .p (.pick (.t 17) (.k (.c (C.bool true))) (.t 24))⟩] [1, 2, 6, 25])
  (.cond (.t 25)
  (.seq (.region [⟨some 4, none, .p (.mv (.k (.c (C.bool false))))⟩,
    ⟨some 5, none, .p (.mv (.k (.c (C.bool false))))⟩] [4, 5])
  .ret)
  .skip))
  (.seq (.region [⟨some 26, none, .h (.load 25 true (.t 2))⟩,
    ⟨some 27, none, .p (.fld 24 (.t 2))⟩,
    ⟨some 28, none, .h (.load 1 false (.t 27))⟩,
    ⟨some 29, none, .p (.mksl 1 1 [.sl 2] [(0, 1, .t 28)])⟩,
    ⟨some 30, none, .h (.call (.f 35) [.t 26, .t 29])⟩,
    ⟨some 8, none, .p (.alloc [.k (C.int .i64 0), .k (C.int .i64 0), .k (C.int .i64 0), .k (C.int .i64 0), .k (C.int .i64 0), .k (C.int .i64 0), .k (C.int .i64 0), .k (C.int .i64 0), .k (C.int .i64 0), .k (C.int .i64 0), .k (C.int .i64 0), .k (C.int .i64 0), .k (C.int .i64 0), .k (C.int .i64 0), .k (C.int .i64 0), .k (C.int .i64 0), .k (C.int .i64 0), .k (C.int .i64 0), .k (C.int .i64 0), .k (C.int .i64 0), .k (C.int .i64 0), .k (C.int .i64 0), .k (C.int .i64 0), .k (C.int .i64 0), .sl 2])⟩,
    ⟨none, none, .h (.store 25 (.t 8) (.t 30))⟩] [1, 6, 8])
  (.seq (.regionD [⟨some 31, none, .p (.fld 24 (.t 8))⟩,
    ⟨some 32, none, .h (.load 1 false (.t 31))⟩,
    ⟨some 33, none, .p (.mv (.t 1))⟩,
    ⟨some 34, none, .p (.fld 24 (.t 8))⟩,
    ⟨some 35, none, .h (.load 1 false (.t 34))⟩,
    ⟨some 36, none, .p (.mv (.t 1))⟩,
    ⟨some 37, none, .p (.bin .add (.t 36) (.k (.c (C.int .i64 1))))⟩,
    ⟨some 38, none, .p (.fld 24 (.t 8))⟩,
    ⟨some 39, none, .h (.load 1 false (.t 38))⟩,
    ⟨some 40, none, .p (.mv (.t 1))⟩,
    ⟨some 41, none, .p (.bin .add (.t 40) (.k (.c (C.int .i64 1))))⟩,
    ⟨some 42, none, .p (.ixS 2 (.t 39) (.t 41))⟩,
    ⟨some 43, none, .h (.load 2 true (.t 42))⟩,
    ⟨some 44, none, .p (.fld 24 (.t 8))⟩,
    ⟨some 45, none, .h (.load 1 false (.t 44))⟩,
    ⟨some 46, none, .p (.mv (.t 1))⟩,
    ⟨some 47, none, .p (.ixS 2 (.t 45) (.t 46))⟩,
    ⟨some 48, none, .h (.load 2 true (.t 47))⟩,
    ⟨some 49, none, .p (.ixS 2 (.t 32) (.t 33))⟩,
    ⟨none, none, .h (.store 2 (.t 49) (.t 43))⟩,
    ⟨some 50, none, .p (.ixS 2 (.t 35) (.t 37))⟩,
    ⟨none, none, .h (.store 2 (.t 50) (.t 48))⟩] [6, 8] [(.t 34, .t 49)])
  (.seq (.region [⟨some 52, none, .h (.load 25 true (.t 8))⟩,
    ⟨some 53, none, .h (.call (.f 30) [.t 52])⟩,
    ⟨some 51, none, .p (.mv (.t 53))⟩,
    ⟨some 54, none, .p (.ext (.t 51) 0)⟩,
    ⟨some 55, none, .p (.ext (.t 51) 1)⟩,
    ⟨some 9, none, .p (.mv (.t 54))⟩,
    ⟨some 7, none, .p (.mv (.t 55))⟩] [6, 7, 9])
  (.seq (.regionD [⟨some 56, none, .p (.mv (.t 7))⟩,
    ⟨some 57, none, .p (.mv (.t 56))⟩,
    ⟨some 58, some (57, true), .p (.mv (.t 9))⟩,
    ⟨some 59, some (57, true), .p (.mv (.t 9))⟩,
    ⟨some 60, some (57, true), .p (.len (.t 59))⟩,
    ⟨some 61, some (57, true), .p (.bin .sub (.t 60) (.k (.c (C.int .i64 1))))⟩,
    ⟨some 62, some (57, true), .p (.ixS 24 (.t 58) (.t 61))⟩,
    ⟨some 63, some (57, true), .h (.load 24 true (.t 62))⟩,
    ⟨some 64, some (57, true), .p (.mv (.t 6))⟩,
    ⟨some 65, some (57, true), .p (.mv (.t 6))⟩,
    ⟨some 66, some (57, true), .p (.len (.t 65))⟩,
    ⟨some 67, some (57, true), .p (.bin .sub (.t 66) (.k (.c (C.int .i64 1))))⟩,
    ⟨some 68, some (57, true), .p (.ixS 24 (.t 64) (.t 67))⟩,
    ⟨some 69, some (57, true), .h (.load 24 true (.t 68))⟩,
    ⟨some 70, some (57, true), .p (.eqv false (List.replicate 24 (.int .i64)) (.t 63) (.t 69))⟩,
    ⟨some 71, none, .p (.pick (.t 57) (.t 70) (.k (.c (C.bool false))))⟩,
    ⟨some 4, none, .p (.mv (.t 71))⟩,
    ⟨some 5, none, .p (.mv (.k (.c (C.bool true))))⟩] [4, 5] [])
  .ret))))))) }
theorem a24_ok : okFn Tryz.prog 24 a24 = true := by kernel_rfl
/-- loop.example/g01215/spec.CanSwap -/
def a25 : AFn := { np := 2, nt := 73, res := [.t 4, .t 5], body :=
  (.seq (.region [⟨some 2, none, .p (.box 25 (.t 0))⟩,
    ⟨some 4, none, .p (.mv (.k (.c (C.bool false))))⟩,
    ⟨some 5, none, .p (.mv (.k (.c (C.bool false))))⟩] [1, 2])
  (.seq (.region [⟨some 12, none, .h (.load 25 true (.t 2))⟩,
    ⟨some 13, none, .h (.call (.f 32) [.t 12])⟩,
    ⟨some 11, none, .p (.mv (.t 13))⟩,
    ⟨some 14, none, .p (.ext (.t 11) 0)⟩,
    ⟨some 15, none, .p (.ext (.t 11) 1)⟩,
    ⟨some 6, none, .p (.mv (.t 14))⟩,
    ⟨some 7, none, .p (.mv (.t 15))⟩] [1, 2, 6, 7])
  (.seq (.seq (.region [⟨some 16, none, .p (.mv (.t 7))⟩,
    ⟨some 17, none, .p (.un .not (.t 16))⟩,
    ⟨some 18, none, .p (.mv (.t 17))⟩,
    ⟨some 19, some (18, false), .p (.mv (.t 1))⟩,
    ⟨some 20, some (18, false), .p (.fld 24 (.t 2))⟩,
    ⟨some 21, some (18, false), .h (.load 1 false (.t 20))⟩,
    ⟨some 22, some (18, false), .p (.len (.t 21))⟩,
    ⟨some 23, some (18, false), .p (.bin .sub (.t 22) (.k (.c (C.int .i64 2))))⟩,
    ⟨some 24, some (18, false), .h (.call (.f 33) [.t 19, .k (.c (C.int .i64 0)), .t 23])⟩,
    ⟨some 25, some (18, false), .p (.un .not (.t 24))⟩,
    ⟨some 26, none, .p (.pick (.t 18) (.k (.c (C.bool true))) (.t 25))⟩] [1, 2, 6, 26])
  (.cond (.t 26)
  (.seq (.region [⟨some 4, none, .p (.mv (.k (.c (C.bool false))))⟩,
    ⟨some 5, none, .p (.mv (.k (.c (C.bool false))))⟩] [4, 5])
  .ret)
  .skip))
  (.seq (.region [⟨some 27, none, .h (.load 25 true (.t 2))⟩,
    ⟨some 28, none, .p (.fld 24 (.t 2))⟩,
    ⟨some 29, none, .h (.load 1 false (.t 28))⟩,
    ⟨some 30, none, .p (.len (.t 29))⟩,
    ⟨some 31, none, .h (.call (.f 37) [.t 27, .t 30])⟩,
    ⟨some 8, none, .p (.alloc [.k (C.int .i64 0), .k (C.int .i64 0), .k (C.int .i64 0), .k (C.int .i64 0), .k (C.int .i64 0), .k (C.int .i64 0), .k (C.int .i64 0), .k (C.int .i64 0), .k (C.int .i64 0), .k (C.int .i64 0), .k (C.int .i64 0), .k (C.int .i64 0), .k (C.int .i64 0), .k (C.int .i64 0), .k (C.int .i64 0), .k (C.int .i64 0), .k (C.int .i64 0), .k (C.int .i64 0), .k (C.int .i64 0), .k (C.int .i64 0), .k (C.int .i64 0), .k (C.int .i64 0), .k (C.int .i64 0), .k (C.int .i64 0), .sl 2])⟩,
    ⟨none, none, .h (.store 25 (.t 8) (.t 31))⟩] [1, 2, 6, 8])
  (.seq (.regionD [⟨some 32, none, .p (.fld 24 (.t 8))⟩,
    ⟨some 33, none, .h (.load 1 false (.t 32))⟩,
    ⟨some 34, none, .p (.mv (.t 1))⟩,
    ⟨some 35, none, .p (.fld 24 (.t 2))⟩,
    ⟨some 36, none, .h (.load 1 false (.t 35))⟩,
    ⟨some 37, none, .p (.mv (.t 1))⟩,
    ⟨some 38, none, .p (.bin .add (.t 37) (.k (.c (C.int .i64 1))))⟩,
    ⟨some 39, none, .p (.ixS 2 (.t 36) (.t 38))⟩,
    ⟨some 40, none, .h (.load 2 true (.t 39))⟩,
    ⟨some 41, none, .p (.ixS 2 (.t 33) (.t 34))⟩,
    ⟨none, none, .h (.store 2 (.t 41) (.t 40))⟩] [1, 2, 6, 8] [])
  (.seq (.regionD [⟨some 42, none, .p (.fld 24 (.t 8))⟩,
    ⟨some 43, none, .h (.load 1 false (.t 42))⟩,
    ⟨some 44, none, .p (.mv (.t 1))⟩,
    ⟨some 45, none, .p (.bin .add (.t 44) (.k (.c (C.int .i64 1))))⟩,
    ⟨some 46, none, .p (.fld 24 (.t 2))⟩,
    ⟨some 47, none, .h (.load 1 false (.t 46))⟩,
    ⟨some 48, none, .p (.mv (.t 1))⟩,
    ⟨some 49, none, .p (.ixS 2 (.t 47) (.t 48))⟩,
    ⟨some 50, none, .h (.load 2 true (.t 49))⟩,
    ⟨some 51, none, .p (.ixS 2 (.t 43) (.t 45))⟩,
    ⟨none, none, .h (.store 2 (.t 51) (.t 50))⟩] [6, 8] [])
  (.seq (.region [⟨some 53, none, .h (.load 25 true (.t 8))⟩,
    ⟨some 54, none, .h (.call (.f 32) [.t 53])⟩,
    ⟨some 52, none, .p (.mv (.t 54))⟩,
    ⟨some 55, none, .p (.ext (.t 52) 0)⟩,
    ⟨some 56, none, .p (.ext (.t 52) 1)⟩,
    ⟨some 9, none, .p (.mv (.t 55))⟩,
    ⟨some 10, none, .p (.mv (.t 56))⟩] [6, 9, 10])
  (.seq (.regionD [⟨some 57, none, .p (.mv (.t 10))⟩,
    ⟨some 58, none, .p (.mv (.t 57))⟩,
    ⟨some 59, some (58, true), .p (.mv (.t 9))⟩,
    ⟨some 60, some (58, true), .p (.mv (.t 9))⟩,
    ⟨some 61, some (58, true), .p (.len (.t 60))⟩,
    ⟨some 62, some (58, true), .p (.bin .sub (.t 61) (.k (.c (C.int .i64 1))))⟩,
    ⟨some 63, some (58, true), .p (.ixS 24 (.t 59) (.t 62))⟩,
    ⟨some 64, some (58, true), .h (.load 24 true (.t 63))⟩,
    ⟨some 65, some (58, true), .p (.mv (.t 6))⟩,
    ⟨some 66, some (58, true), .p (.mv (.t 6))⟩,
    ⟨some 67, some (58, true), .p (.len (.t 66))⟩,
    ⟨some 68, some (58, true), .p (.bin .sub (.t 67) (.k (.c (C.int .i64 1))))⟩,
    ⟨some 69, some (58, true), .p (.ixS 24 (.t 65) (.t 68))⟩,
    ⟨some 70, some (58, true), .h (.load 24 true (.t 69))⟩,
    ⟨some 71, some (58, true), .p (.eqv false (List.replicate 24 (.int .i64)) (.t 64) (.t 70))⟩,
    ⟨some 72, none, .p (.pick (.t 58) (.t 71) (.k (.c (C.bool false))))⟩,
    ⟨some 4, none, .p (.mv (.t 72))⟩,
    ⟨some 5, none, .p (.mv (.k (.c (C.bool true))))⟩] [4, 5] [])
  .ret)))))))) }
theorem a25_ok : okFn Tryz.prog 25 a25 = true := by kernel_rfl
/-- loop.example/g01215/impl.CountColors -/
def a26 : AFn := { np := 1, nt := 10, res := [.cell 2 6 true, .t 3], body :=
  (.seq (.region [⟨some 1, none, .p (.box 24 (.t 0))⟩,
    ⟨some 2, none, .p (.alloc [.k (C.int .i64 0), .k (C.int .i64 0), .k (C.int .i64 0), .k (C.int .i64 0), .k (C.int .i64 0), .k (C.int .i64 0)])⟩,
    ⟨some 3, none, .p (.mv (.k (.c (C.bool false))))⟩] [1, 2])
  (.seq (.seq (.region [⟨some 4, none, .h (.load 24 true (.t 1))⟩,
    ⟨some 5, none, .h (.call (.f 50) [.t 4])⟩,
    ⟨some 6, none, .p (.un .not (.t 5))⟩] [1, 2, 6])
  (.cond (.t 6)
  (.seq (.region [⟨some 7, none, .p (.build [.k (C.int .i64 0), .k (C.int .i64 0), .k (C.int .i64 0), .k (C.int .i64 0), .k (C.int .i64 0), .k (C.int .i64 0)] [])⟩,
    ⟨none, none, .h (.store 6 (.t 2) (.t 7))⟩,
    ⟨some 3, none, .p (.mv (.k (.c (C.bool false))))⟩] [2, 3])
  .ret)
  .skip))
  (.seq (.region [⟨some 8, none, .h (.load 24 true (.t 1))⟩,
    ⟨some 9, none, .h (.call (.f 51) [.t 8])⟩,
    ⟨none, none, .h (.store 6 (.t 2) (.t 9))⟩,
    ⟨some 3, none, .p (.mv (.k (.c (C.bool true))))⟩] [2, 3])
  .ret))) }
theorem a26_ok : okFn Tryz.prog 26 a26 = true := by kernel_rfl
/-- loop.example/g01215/impl.Pour -/
def a27 : AFn := { np := 3, nt := 34, res := [.cell 6 24 true, .t 7, .t 8], body :=
  (.seq (.region [⟨some 3, none, .p (.box 24 (.t 0))⟩,
    ⟨some 6, none, .p (.alloc (List.replicate 24 (.k (C.int .i64 0))))⟩,
    ⟨some 7, none, .p (.mv (.k (.c (C.int .i64 0))))⟩,
    ⟨some 8, none, .p (.mv (.k (.c (C.bool false))))⟩] [1, 2, 3, 6])
  (.seq (.seq (.region [⟨some 11, none, .h (.load 24 true (.t 3))⟩,
    ⟨some 12, none, .p (.mv (.t 1))⟩,
    ⟨some 13, none, .p (.mv (.t 2))⟩,
    ⟨some 14, none, .p (.mksl 1 2 [.k (C.int .i64 0)] [(0, 1, .t 12), (1, 1, .t 13)])⟩,
    ⟨some 15, none, .h (.call (.f 52) [.t 11, .t 14])⟩,
    ⟨some 16, none, .p (.un .not (.t 15))⟩,
    ⟨some 17, none, .p (.mv (.t 16))⟩,
    ⟨some 18, some (17, false), .h (.load 24 true (.t 3))⟩,
    ⟨some 19, some (17, false), .p (.mv (.t 1))⟩,
    ⟨some 20, some (17, false), .p (.mv (.t 2))⟩,
    ⟨some 21, some (17, false), .h (.call (.f 53) [.t 18, .t 19, .t 20])⟩,
    ⟨some 22, some (17, false), .p (.un .not (.t 21))⟩,
    ⟨some 23, none, .p (.pick (.t 17) (.k (.c (C.bool true))) (.t 22))⟩] [1, 2, 3, 6, 23])
  (.cond (.t 23)
  (.seq (.region [⟨some 24, none, .p (.build (List.replicate 24 (.k (C.int .i64 0))) [])⟩,
    ⟨none, none, .h (.store 24 (.t 6) (.t 24))⟩,
    ⟨some 7, none, .p (.mv (.k (.c (C.int .i64 0))))⟩,
    ⟨some 8, none, .p (.mv (.k (.c (C.bool false))))⟩] [6, 7, 8])
  .ret)
  .skip))
  (.seq (.region [⟨some 26, none, .h (.load 24 true (.t 3))⟩,
    ⟨some 27, none, .p (.mv (.t 1))⟩,
    ⟨some 28, none, .p (.mv (.t 2))⟩,
    ⟨some 29, none, .h (.call (.f 54) [.t 26, .t 27, .t 28])⟩,
    ⟨some 25, none, .p (.mv (.t 29))⟩,
    ⟨some 30, none, .p (.ext (.t 25) 0)⟩,
    ⟨some 31, none, .p (.ext (.t 25) 1)⟩,
    ⟨some 9, none, .p (.alloc (List.replicate 24 (.k (C.int .i64 0))))⟩,
    ⟨none, none, .h (.store 24 (.t 9) (.t 30))⟩,
    ⟨some 10, none, .p (.mv (.t 31))⟩] [6, 9, 10])
  (.seq (.region [⟨some 32, none, .h (.load 24 true (.t 9))⟩,
    ⟨some 33, none, .p (.mv (.t 10))⟩,
    ⟨none, none, .h (.store 24 (.t 6) (.t 32))⟩,
    ⟨some 7, none, .p (.mv (.t 33))⟩,
    ⟨some 8, none, .p (.mv (.k (.c (C.bool true))))⟩] [6, 7, 8])
  .ret)))) }
theorem a27_ok : okFn Tryz.prog 27 a27 = true := by kernel_rfl
/-- (*loop.example/g01215/spec.l1Cur).among -/
def a28 : AFn := { np := 2, nt := 12, res := [.t 4], body :=
  (.seq (.region [⟨some 4, none, .p (.mv (.k (.c (C.int .i64 0))))⟩] [0, 1])
  (.seq (.region [⟨some 5, none, .p (.mv (.t 1))⟩,
    ⟨some 6, none, .p (.mv (.t 0))⟩,
    ⟨some 7, none, .p (.mv (.t 1))⟩,
    ⟨some 8, none, .p (.len (.t 7))⟩,
    ⟨some 9, none, .h (.call (.f 55) [.t 6, .t 8])⟩,
    ⟨some 10, none, .p (.ixS 1 (.t 5) (.t 9))⟩,
    ⟨some 11, none, .h (.load 1 false (.t 10))⟩,
    ⟨some 4, none, .p (.mv (.t 11))⟩] [4])
  .ret)) }
theorem a28_ok : okFn Tryz.prog 28 a28 = true := by kernel_rfl
/-- (*loop.example/g01215/spec.l1Cur).replay -/
def a29 : AFn := { np := 1, nt := 127, res := [.cell 2 25 true], body :=
  (.seq (.region [⟨some 2, none, .p (.alloc [.k (C.int .i64 0), .k (C.int .i64 0), .k (C.int .i64 0), .k (C.int .i64 0), .k (C.int .i64 0), .k (C.int .i64 0), .k (C.int .i64 0), .k (C.int .i64 0), .k (C.int .i64 0), .k (C.int .i64 0), .k (C.int .i64 0), .k (C.int .i64 0), .k (C.int .i64 0), .k (C.int .i64 0), .k (C.int .i64 0), .k (C.int .i64 0), .k (C.int .i64 0), .k (C.int .i64 0), .k (C.int .i64 0), .k (C.int .i64 0), .k (C.int .i64 0), .k (C.int .i64 0), .k (C.int .i64 0), .k (C.int .i64 0), .sl 2])⟩] [0, 2])
  (.seq (.region [⟨some 15, none, .p (.mv (.t 0))⟩,
    ⟨some 16, none, .h (.call (.f 42) [.t 15, .k (.c (C.int .i64 2))])⟩,
    ⟨some 17, none, .p (.mv (.t 0))⟩,
    ⟨some 18, none, .h (.call (.f 42) [.t 17, .k (.c (C.int .i64 2))])⟩,
    ⟨some 3, none, .p (.mv (.t 16))⟩,
    ⟨some 4, none, .p (.mv (.t 18))⟩] [0, 2, 3, 4])
  (.seq (.region [⟨some 19, none, .p (.mv (.t 0))⟩,
    ⟨some 20, none, .h (.call (.f 56) [.t 19])⟩,
    ⟨some 21, none, .p (.mksl 2 0 [.k (C.int .i64 0), .k (C.int .i64 0)] [])⟩,
    ⟨some 22, none, .p (.build [.k (C.int .i64 0), .k (C.int .i64 0), .k (C.int .i64 0), .k (C.int .i64 0), .k (C.int .i64 0), .k (C.int .i64 0), .k (C.int .i64 0), .k (C.int .i64 0), .k (C.int .i64 0), .k (C.int .i64 0), .k (C.int .i64 0), .k (C.int .i64 0), .k (C.int .i64 0), .k (C.int .i64 0), .k (C.int .i64 0), .k (C.int .i64 0), .k (C.int .i64 0), .k (C.int .i64 0), .k (C.int .i64 0), .k (C.int .i64 0), .k (C.int .i64 0), .k (C.int .i64 0), .k (C.int .i64 0), .k (C.int .i64 0), .sl 2] [(0, 24, .t 20), (24, 1, .t 21)])⟩,
    ⟨some 5, none, .p (.alloc [.k (C.int .i64 0), .k (C.int .i64 0), .k (C.int .i64 0), .k (C.int .i64 0), .k (C.int .i64 0), .k (C.int .i64 0), .k (C.int .i64 0), .k (C.int .i64 0), .k (C.int .i64 0), .k (C.int .i64 0), .k (C.int .i64 0), .k (C.int .i64 0), .k (C.int .i64 0), .k (C.int .i64 0), .k (C.int .i64 0), .k (C.int .i64 0), .k (C.int .i64 0), .k (C.int .i64 0), .k (C.int .i64 0), .k (C.int .i64 0), .k (C.int .i64 0), .k (C.int .i64 0), .k (C.int .i64 0), .k (C.int .i64 0), .sl 2])⟩,
    ⟨none, none, .h (.store 25 (.t 5) (.t 22))⟩] [0, 2, 3, 4, 5])
  (.seq (.region [⟨some 23, none, .p (.fld 0 (.t 5))⟩,
    ⟨some 24, none, .h (.load 24 true (.t 23))⟩,
    ⟨some 6, none, .p (.alloc (List.replicate 24 (.k (C.int .i64 0))))⟩,
    ⟨none, none, .h (.store 24 (.t 6) (.t 24))⟩] [0, 2, 3, 4, 5, 6])
  (.seq (.seq (.region [⟨some 25, none, .p (.mv (.t 0))⟩,
    ⟨some 26, none, .p (.mksl 1 8 [.k (C.int .i64 0)] [(0, 1, .k (.c (C.int .i64 4))), (1, 1, .k (.c (C.int .i64 6))), (2, 1, .k (.c (C.int .i64 2))), (3, 1, .k (.c (C.int .i64 8))), (4, 1, .k (.c (C.int .i64 1))), (5, 1, .k (.c (C.int .i64 0))), (6, 1, .k (.c (C.int .i64 14))), (7, 1, .k (.c (C.int .i64 60)))])⟩,
    ⟨some 27, none, .h (.call (.f 28) [.t 25, .t 26])⟩,
    ⟨some 7, none, .p (.mv (.t 27))⟩] [0, 2, 3, 4, 5, 6, 7])
  (.block 0 (.loop (.seq (.seq (.region [⟨some 28, none, .p (.mv (.t 7))⟩,
    ⟨some 29, none, .p (.bin .gtr (.t 28) (.k (.c (C.int .i64 0))))⟩,
    ⟨some 30, none, .p (.mv (.t 29))⟩,
    ⟨some 31, some (30, true), .h (.load 24 true (.t 6))⟩,
    ⟨some 32, some (30, true), .h (.call (.f 57) [.t 31])⟩,
    ⟨some 33, none, .p (.pick (.t 30) (.t 32) (.k (.c (C.bool false))))⟩] [0, 2, 3, 4, 5, 6, 7, 33])
  (.cond (.t 33)
  .skip
  (.exit 0)))
  (.seq (.block 1 (.seq (.region [⟨some 36, none, .h (.load 24 true (.t 6))⟩,
    ⟨some 37, none, .h (.call (.f 58) [.t 36])⟩,
    ⟨some 8, none, .p (.mv (.t 37))⟩] [0, 2, 3, 4, 5, 6, 7, 8])
  (.seq (.seq (.region [⟨some 38, none, .p (.mv (.t 8))⟩,
    ⟨some 39, none, .p (.len (.t 38))⟩,
    ⟨some 40, none, .p (.bin .eql (.t 39) (.k (.c (C.int .i64 0))))⟩] [0, 2, 3, 4, 5, 6, 7, 8, 40])
  (.cond (.t 40)
  (.exit 0)
  .skip))
  (.seq (.region [⟨some 41, none, .p (.mv (.t 8))⟩,
    ⟨some 42, none, .p (.mv (.t 0))⟩,
    ⟨some 43, none, .p (.mv (.t 8))⟩,
    ⟨some 44, none, .p (.len (.t 43))⟩,
    ⟨some 45, none, .h (.call (.f 55) [.t 42, .t 44])⟩,
    ⟨some 46, none, .p (.ixS 2 (.t 41) (.t 45))⟩,
    ⟨some 47, none, .h (.load 2 true (.t 46))⟩,
    ⟨some 9, none, .p (.alloc [.k (C.int .i64 0), .k (C.int .i64 0)])⟩,
    ⟨none, none, .h (.store 2 (.t 9) (.t 47))⟩] [0, 2, 3, 4, 5, 6, 7, 9])
  (.seq (.seq (.region [⟨some 48, none, .p (.fld 24 (.t 5))⟩,
    ⟨some 49, none, .h (.load 1 false (.t 48))⟩,
    ⟨some 50, none, .p (.len (.t 49))⟩,
    ⟨some 10, none, .p (.mv (.t 50))⟩] [0, 2, 3, 4, 5, 6, 7, 9, 10])
  (.seq (.region [⟨some 51, none, .p (.mv (.t 10))⟩,
    ⟨some 52, none, .p (.bin .gtr (.t 51) (.k (.c (C.int .i64 0))))⟩,
    ⟨some 53, none, .p (.mv (.t 52))⟩,
    ⟨some 54, some (53, true), .p (.mv (.t 3))⟩,
    ⟨some 55, none, .p (.pick (.t 53) (.t 54) (.k (.c (C.bool false))))⟩,
    ⟨some 56, none, .p (.mv (.t 55))⟩,
    ⟨some 57, some (56, true), .p (.mv (.t 0))⟩,
    ⟨some 58, some (56, true), .h (.call (.f 42) [.t 57, .k (.c (C.int .i64 2))])⟩,
    ⟨some 59, none, .p (.pick (.t 56) (.t 58) (.k (.c (C.bool false))))⟩] [0, 2, 3, 4, 5, 6, 7, 9, 10, 59])
  (.cond (.t 59)
  (.regionD [⟨some 60, none, .p (.fld 24 (.t 5))⟩,
    ⟨some 61, none, .h (.load 1 false (.t 60))⟩,
    ⟨some 62, none, .p (.mv (.t 10))⟩,
    ⟨some 63, none, .p (.bin .sub (.t 62) (.k (.c (C.int .i64 1))))⟩,
    ⟨some 64, none, .p (.ixS 2 (.t 61) (.t 63))⟩,
    ⟨some 65, none, .p (.ixA 2 1 (.t 64) (.k (.c (C.int .i64 1))))⟩,
    ⟨some 66, none, .h (.load 1 false (.t 65))⟩,
    ⟨some 67, none, .p (.fld 24 (.t 5))⟩,
    ⟨some 68, none, .h (.load 1 false (.t 67))⟩,
    ⟨some 69, none, .p (.mv (.t 10))⟩,
    ⟨some 70, none, .p (.bin .sub (.t 69) (.k (.c (C.int .i64 1))))⟩,
    ⟨some 71, none, .p (.ixS 2 (.t 68) (.t 70))⟩,
    ⟨some 72, none, .p (.ixA 2 1 (.t 71) (.k (.c (C.int .i64 0))))⟩,
    ⟨some 73, none, .h (.load 1 false (.t 72))⟩,
    ⟨some 74, none, .p (.build [.k (C.int .i64 0), .k (C.int .i64 0)] [(0, 1, .t 66), (1, 1, .t 73)])⟩,
    ⟨none, none, .h (.store 2 (.t 9) (.t 74))⟩] [0, 2, 3, 4, 5, 6, 7, 9] [])
  .skip)))
  (.seq (.seq (.region [⟨some 75, none, .h (.load 24 true (.t 6))⟩,
    ⟨some 76, none, .h (.call (.f 59) [.t 75])⟩,
    ⟨some 11, none, .p (.mv (.t 76))⟩] [0, 2, 3, 4, 5, 6, 7, 9, 11])
  (.seq (.region [⟨some 77, none, .p (.mv (.t 4))⟩,
    ⟨some 78, none, .p (.mv (.t 77))⟩,
    ⟨some 79, some (78, true), .p (.mv (.t 11))⟩,
    ⟨some 80, some (78, true), .p (.len (.t 79))⟩,
    ⟨some 81, some (78, true), .p (.bin .gtr (.t 80) (.k (.c (C.int .i64 0))))⟩,
    ⟨some 82, none, .p (.pick (.t 78) (.t 81) (.k (.c (C.bool false))))⟩] [0, 2, 3, 4, 5, 6, 7, 9, 11, 82])
  (.cond (.t 82)
  (.region [⟨some 83, none, .p (.mv (.t 11))⟩,
    ⟨some 84, none, .p (.ixS 2 (.t 83) (.k (.c (C.int .i64 0))))⟩,
    ⟨some 85, none, .h (.load 2 true (.t 84))⟩,
    ⟨none, none, .h (.store 2 (.t 9) (.t 85))⟩] [0, 2, 3, 4, 5, 6, 7, 9])
  .skip)))
  (.seq (.seq (.region [⟨some 86, none, .h (.load 24 true (.t 6))⟩,
    ⟨some 87, none, .h (.load 2 true (.t 9))⟩,
    ⟨some 88, none, .h (.call (.f 36) [.t 86, .t 87])⟩,
    ⟨some 89, none, .p (.un .not (.t 88))⟩] [0, 2, 3, 4, 5, 6, 7, 9, 89])
  (.cond (.t 89)
  (.exit 1)
  .skip))
  (.seq (.region [⟨some 91, none, .h (.load 24 true (.t 6))⟩,
    ⟨some 92, none, .p (.ixA 2 1 (.t 9) (.k (.c (C.int .i64 0))))⟩,
    ⟨some 93, none, .h (.load 1 false (.t 92))⟩,
    ⟨some 94, none, .p (.ixA 2 1 (.t 9) (.k (.c (C.int .i64 1))))⟩,
    ⟨some 95, none, .h (.load 1 false (.t 94))⟩,
    ⟨some 96, none, .h (.call (.f 49) [.t 91, .t 93, .t 95])⟩,
    ⟨some 90, none, .p (.mv (.t 96))⟩,
    ⟨some 97, none, .p (.ext (.t 90) 0)⟩,
    ⟨some 98, none, .p (.ext (.t 90) 1)⟩,
    ⟨some 12, none, .p (.alloc (List.replicate 24 (.k (C.int .i64 0))))⟩,
    ⟨none, none, .h (.store 24 (.t 12) (.t 97))⟩,
    ⟨some 13, none, .p (.mv (.t 98))⟩] [0, 2, 3, 4, 5, 6, 7, 9, 12])
  (.seq (.region [⟨some 99, none, .p (.fld 24 (.t 5))⟩,
    ⟨some 100, none, .h (.load 1 false (.t 99))⟩,
    ⟨some 101, none, .h (.load 2 true (.t 9))⟩,
    ⟨some 102, none, .p (.mksl 2 1 [.k (C.int .i64 0), .k (C.int .i64 0)] [(0, 2, .t 101)])⟩,
    ⟨some 103, none, .h (.app 2 (.t 100) (.t 102))⟩,
    ⟨some 104, none, .p (.fld 24 (.t 5))⟩,
    ⟨none, none, .h (.store 1 (.t 104) (.t 103))⟩] [0, 2, 3, 4, 5, 6, 7, 12])
  (.region [⟨some 105, none, .h (.load 24 true (.t 12))⟩,
    ⟨none, none, .h (.store 24 (.t 6) (.t 105))⟩] [0, 2, 3, 4, 5, 6, 7]))))))))))
  (.region [⟨some 34, none, .p (.mv (.t 7))⟩,
    ⟨some 35, none, .p (.bin .sub (.t 34) (.k (.c (C.int .i64 1))))⟩,
    ⟨some 7, none, .p (.mv (.t 35))⟩] [0, 2, 3, 4, 5, 6, 7]))) [0, 2, 3, 4, 5, 6, 7])))
  (.seq (.seq (.region [⟨some 106, none, .p (.fld 24 (.t 5))⟩,
    ⟨some 107, none, .h (.load 1 false (.t 106))⟩,
    ⟨some 108, none, .p (.len (.t 107))⟩,
    ⟨some 14, none, .p (.mv (.t 108))⟩] [0, 2, 5, 14])
  (.seq (.region [⟨some 109, none, .p (.mv (.t 14))⟩,
    ⟨some 110, none, .p (.bin .gtr (.t 109) (.k (.c (C.int .i64 0))))⟩,
    ⟨some 111, none, .p (.mv (.t 110))⟩,
    ⟨some 112, some (111, true), .p (.mv (.t 0))⟩,
    ⟨some 113, some (111, true), .h (.call (.f 42) [.t 112, .k (.c (C.int .i64 16))])⟩,
    ⟨some 114, none, .p (.pick (.t 111) (.t 113) (.k (.c (C.bool false))))⟩] [0, 2, 5, 14, 114])
  (.cond (.t 114)
  (.regionE [⟨some 115, none, .p (.fld 24 (.t 5))⟩,
    ⟨some 116, none, .h (.load 1 false (.t 115))⟩,
    ⟨some 117, none, .p (.mv (.t 0))⟩,
    ⟨some 118, none, .p (.mv (.t 14))⟩,
    ⟨some 119, none, .h (.call (.f 55) [.t 117, .t 118])⟩,
    ⟨some 120, none, .p (.mv (.t 0))⟩,
    ⟨some 121, none, .h (.call (.f 60) [.t 120])⟩,
    ⟨some 122, none, .p (.mv (.t 0))⟩,
    ⟨some 123, none, .h (.call (.f 60) [.t 122])⟩,
    ⟨some 124, none, .p (.build [.k (C.int .i64 0), .k (C.int .i64 0)] [(0, 1, .t 121), (1, 1, .t 123)])⟩,
    ⟨some 125, none, .p (.ixS 2 (.t 116) (.t 119))⟩,
    ⟨none, none, .h (.store 2 (.t 125) (.t 124))⟩] [2, 5] [] [[], [], [], [], [4, 1000115], [], [4, 6, 1000115], [], [4, 6, 8, 1000115]])
  .skip)))
  (.seq (.region [⟨some 126, none, .h (.load 25 true (.t 5))⟩,
    ⟨none, none, .h (.store 25 (.t 2) (.t 126))⟩] [2])
  .ret))))))) }
theorem a29_ok : okFn Tryz.prog 29 a29 = true := by kernel_rfl
/-- (loop.example/g01215/impl.Replay).racks -/
def a30 : AFn := { np := 1, nt := 55, res := [.t 2, .t 3], body :=
  (.seq (.region [⟨some 1, none, .p (.box 25 (.t 0))⟩,
    ⟨some 2, none, .p (.nilsl 24)⟩,
    ⟨some 3, none, .p (.mv (.k (.c (C.bool false))))⟩] [1])
  (.seq (.seq (.region [⟨some 9, none, .p (.fld 0 (.t 1))⟩,
    ⟨some 10, none, .h (.load 24 true (.t 9))⟩,
    ⟨some 11, none, .h (.call (.f 50) [.t 10])⟩,
    ⟨some 12, none, .p (.un .not (.t 11))⟩,
    ⟨some 13, none, .p (.mv (.t 12))⟩,
    ⟨some 14, some (13, false), .p (.fld 24 (.t 1))⟩,
    ⟨some 15, some (13, false), .h (.load 1 false (.t 14))⟩,
    ⟨some 16, some (13, false), .p (.len (.t 15))⟩,
    ⟨some 17, some (13, false), .p (.bin .gtr (.t 16) (.k (.c (C.int .i64 60))))⟩,
    ⟨some 18, none, .p (.pick (.t 13) (.k (.c (C.bool true))) (.t 17))⟩] [1, 18])
  (.cond (.t 18)
  (.seq (.region [⟨some 2, none, .p (.nilsl 24)⟩,
    ⟨some 3, none, .p (.mv (.k (.c (C.bool false))))⟩] [2, 3])
  .ret)
  .skip))
  (.seq (.region [⟨some 19, none, .p (.fld 0 (.t 1))⟩,
    ⟨some 20, none, .h (.load 24 true (.t 19))⟩,
    ⟨some 21, none, .p (.mksl 24 1 (List.replicate 24 (.k (C.int .i64 0))) [(0, 24, .t 20)])⟩,
    ⟨some 4, none, .p (.mv (.t 21))⟩] [1, 4])
  (.seq (.seq (.region [⟨some 22, none, .p (.fld 24 (.t 1))⟩,
    ⟨some 23, none, .h (.load 1 false (.t 22))⟩,
    ⟨some 24, none, .p (.len (.t 23))⟩,
    ⟨some 25, none, .p (.mv (.k (.c (C.int .i64 0))))⟩] [4, 23, 24, 25])
  (.block 0 (.loop (.seq (.region [⟨some 26, none, .p (.bin .lss (.t 25) (.t 24))⟩] [4, 23, 24, 25, 26])
  (.seq (.cond (.t 26)
  .skip
  (.exit 0))
  (.seq (.block 1 (.seq (.region [⟨some 27, none, .p (.mv (.t 25))⟩,
    ⟨some 28, none, .p (.ixS 2 (.t 23) (.t 25))⟩,
    ⟨some 29, none, .h (.load 2 true (.t 28))⟩,
    ⟨some 6, none, .p (.alloc [.k (C.int .i64 0), .k (C.int .i64 0)])⟩,
    ⟨some 5, none, .p (.mv (.t 27))⟩,
    ⟨none, none, .h (.store 2 (.t 6) (.t 29))⟩] [4, 5, 6, 23, 24, 25])
  (.seq (.seq (.regionD [⟨some 30, none, .p (.mv (.t 4))⟩,
    ⟨some 31, none, .p (.mv (.t 5))⟩,
    ⟨some 32, none, .p (.ixS 24 (.t 30) (.t 31))⟩,
    ⟨some 33, none, .h (.load 24 true (.t 32))⟩,
    ⟨some 34, none, .h (.load 2 true (.t 6))⟩,
    ⟨some 35, none, .h (.call (.f 61) [.t 33, .t 34])⟩,
    ⟨some 36, none, .p (.un .not (.t 35))⟩] [4, 5, 6, 23, 24, 25, 36] [])
  (.cond (.t 36)
  (.seq (.region [⟨some 2, none, .p (.nilsl 24)⟩,
    ⟨some 3, none, .p (.mv (.k (.c (C.bool false))))⟩] [2, 3])
  .ret)
  .skip))
  (.seq (.regionD [⟨some 38, none, .p (.mv (.t 4))⟩,
    ⟨some 39, none, .p (.mv (.t 5))⟩,
    ⟨some 40, none, .p (.ixS 24 (.t 38) (.t 39))⟩,
    ⟨some 41, none, .h (.load 24 true (.t 40))⟩,
    ⟨some 42, none, .p (.ixA 2 1 (.t 6) (.k (.c (C.int .i64 0))))⟩,
    ⟨some 43, none, .h (.load 1 false (.t 42))⟩,
    ⟨some 44, none, .p (.ixA 2 1 (.t 6) (.k (.c (C.int .i64 1))))⟩,
    ⟨some 45, none, .h (.load 1 false (.t 44))⟩,
    ⟨some 46, none, .h (.call (.f 54) [.t 41, .t 43, .t 45])⟩,
    ⟨some 37, none, .p (.mv (.t 46))⟩,
    ⟨some 47, none, .p (.ext (.t 37) 0)⟩,
    ⟨some 48, none, .p (.ext (.t 37) 1)⟩,
    ⟨some 7, none, .p (.alloc (List.replicate 24 (.k (C.int .i64 0))))⟩,
    ⟨none, none, .h (.store 24 (.t 7) (.t 47))⟩,
    ⟨some 8, none, .p (.mv (.t 48))⟩] [4, 7, 23, 24, 25] [])
  (.region [⟨some 49, none, .p (.mv (.t 4))⟩,
    ⟨some 50, none, .h (.load 24 true (.t 7))⟩,
    ⟨some 51, none, .p (.mksl 24 1 (List.replicate 24 (.k (C.int .i64 0))) [(0, 24, .t 50)])⟩,
    ⟨some 52, none, .h (.app 24 (.t 49) (.t 51))⟩,
    ⟨some 4, none, .p (.mv (.t 52))⟩] [4, 23, 24, 25])))))
  (.region [⟨some 53, none, .p (.bin .add (.t 25) (.k (.c (C.int .i64 1))))⟩,
    ⟨some 25, none, .p (.mv (.t 53))⟩] [4, 23, 24, 25])))) [4, 23, 24, 25])))
  (.seq (.region [⟨some 54, none, .p (.mv (.t 4))⟩,
    ⟨some 2, none, .p (.mv (.t 54))⟩,
    ⟨some 3, none, .p (.mv (.k (.c (C.bool true))))⟩] [2, 3])
  .ret))))) }
theorem a30_ok : okFn Tryz.prog 30 a30 = true := by kernel_rfl
/-- loop.example/g01215/impl.within -/
def a31 : AFn := { np := 3, nt := 15, res := [.t 6], body :=
  (.seq (.region [⟨some 6, none, .p (.mv (.k (.c (C.bool false))))⟩] [0, 1, 2])
  (.seq (.region [⟨some 7, none, .p (.mv (.t 1))⟩,
    ⟨some 8, none, .p (.mv (.t 0))⟩,
    ⟨some 9, none, .p (.bin .leq (.t 7) (.t 8))⟩,
    ⟨some 10, none, .p (.mv (.t 9))⟩,
    ⟨some 11, some (10, true), .p (.mv (.t 0))⟩,
    ⟨some 12, some (10, true), .p (.mv (.t 2))⟩,
    ⟨some 13, some (10, true), .p (.bin .leq (.t 11) (.t 12))⟩,
    ⟨some 14, none, .p (.pick (.t 10) (.t 13) (.k (.c (C.bool false))))⟩,
    ⟨some 6, none, .p (.mv (.t 14))⟩] [6])
  .ret)) }
theorem a31_ok : okFn Tryz.prog 31 a31 = true := by kernel_rfl
/-- loop.example/g01215/spec.l11Racks -/
def a32 : AFn := { np := 1, nt := 66, res := [.t 2, .t 3], body :=
  (.seq (.region [⟨some 1, none, .p (.box 25 (.t 0))⟩,
    ⟨some 2, none, .p (.nilsl 24)⟩,
    ⟨some 3, none, .p (.mv (.k (.c (C.bool false))))⟩] [1])
  (.seq (.seq (.region [⟨some 8, none, .p (.fld 0 (.t 1))⟩,
    ⟨some 9, none, .h (.load 24 true (.t 8))⟩,
    ⟨some 10, none, .h (.call (.f 57) [.t 9])⟩,
    ⟨some 11, none, .p (.un .not (.t 10))⟩,
    ⟨some 12, none, .p (.mv (.t 11))⟩,
    ⟨some 13, some (12, false), .p (.fld 24 (.t 1))⟩,
    ⟨some 14, some (12, false), .h (.load 1 false (.t 13))⟩,
    ⟨some 15, some (12, false), .p (.len (.t 14))⟩,
    ⟨some 16, some (12, false), .p (.bin .gtr (.t 15) (.k (.c (C.int .i64 60))))⟩,
    ⟨some 17, none, .p (.pick (.t 12) (.k (.c (C.bool true))) (.t 16))⟩] [1, 17])
  (.cond (.t 17)
  (.seq (.region [⟨some 18, none, .p (.mksl 24 0 (List.replicate 24 (.k (C.int .i64 0))) [])⟩,
    ⟨some 2, none, .p (.mv (.t 18))⟩,
    ⟨some 3, none, .p (.mv (.k (.c (C.bool false))))⟩] [2, 3])
  .ret)
  .skip))
  (.seq (.region [⟨some 19, none, .p (.fld 0 (.t 1))⟩,
    ⟨some 20, none, .h (.load 24 true (.t 19))⟩,
    ⟨some 21, none, .p (.mksl 24 1 (List.replicate 24 (.k (C.int .i64 0))) [(0, 24, .t 20)])⟩,
    ⟨some 4, none, .p (.mv (.t 21))⟩] [1, 4])
  (.seq (.seq (.region [⟨some 5, none, .p (.mv (.k (.c (C.int .i64 0))))⟩] [1, 4, 5])
  (.block 0 (.loop (.seq (.seq (.region [⟨some 22, none, .p (.mv (.t 5))⟩,
    ⟨some 23, none, .p (.fld 24 (.t 1))⟩,
    ⟨some 24, none, .h (.load 1 false (.t 23))⟩,
    ⟨some 25, none, .p (.len (.t 24))⟩,
    ⟨some 26, none, .p (.bin .lss (.t 22) (.t 25))⟩] [1, 4, 5, 26])
  (.cond (.t 26)
  .skip
  (.exit 0)))
  (.seq (.block 1 (.seq (.seq (.regionD [⟨some 29, none, .p (.mv (.t 4))⟩,
    ⟨some 30, none, .p (.mv (.t 5))⟩,
    ⟨some 31, none, .p (.ixS 24 (.t 29) (.t 30))⟩,
    ⟨some 32, none, .h (.load 24 true (.t 31))⟩,
    ⟨some 33, none, .p (.fld 24 (.t 1))⟩,
    ⟨some 34, none, .h (.load 1 false (.t 33))⟩,
    ⟨some 35, none, .p (.mv (.t 5))⟩,
    ⟨some 36, none, .p (.ixS 2 (.t 34) (.t 35))⟩,
    ⟨some 37, none, .h (.load 2 true (.t 36))⟩,
    ⟨some 38, none, .h (.call (.f 36) [.t 32, .t 37])⟩,
    ⟨some 39, none, .p (.un .not (.t 38))⟩] [1, 4, 5, 39] [])
  (.cond (.t 39)
  (.seq (.region [⟨some 40, none, .p (.mksl 24 0 (List.replicate 24 (.k (C.int .i64 0))) [])⟩,
    ⟨some 2, none, .p (.mv (.t 40))⟩,
    ⟨some 3, none, .p (.mv (.k (.c (C.bool false))))⟩] [2, 3])
  .ret)
  .skip))
  (.seq (.regionD [⟨some 42, none, .p (.mv (.t 4))⟩,
    ⟨some 43, none, .p (.mv (.t 5))⟩,
    ⟨some 44, none, .p (.ixS 24 (.t 42) (.t 43))⟩,
    ⟨some 45, none, .h (.load 24 true (.t 44))⟩,
    ⟨some 46, none, .p (.fld 24 (.t 1))⟩,
    ⟨some 47, none, .h (.load 1 false (.t 46))⟩,
    ⟨some 48, none, .p (.mv (.t 5))⟩,
    ⟨some 49, none, .p (.ixS 2 (.t 47) (.t 48))⟩,
    ⟨some 50, none, .p (.ixA 2 1 (.t 49) (.k (.c (C.int .i64 0))))⟩,
    ⟨some 51, none, .h (.load 1 false (.t 50))⟩,
    ⟨some 52, none, .p (.fld 24 (.t 1))⟩,
    ⟨some 53, none, .h (.load 1 false (.t 52))⟩,
    ⟨some 54, none, .p (.mv (.t 5))⟩,
    ⟨some 55, none, .p (.ixS 2 (.t 53) (.t 54))⟩,
    ⟨some 56, none, .p (.ixA 2 1 (.t 55) (.k (.c (C.int .i64 1))))⟩,
    ⟨some 57, none, .h (.load 1 false (.t 56))⟩,
    ⟨some 58, none, .h (.call (.f 49) [.t 45, .t 51, .t 57])⟩,
    ⟨some 41, none, .p (.mv (.t 58))⟩,
    ⟨some 59, none, .p (.ext (.t 41) 0)⟩,
    ⟨some 60, none, .p (.ext (.t 41) 1)⟩,
    ⟨some 6, none, .p (.alloc (List.replicate 24 (.k (C.int .i64 0))))⟩,
    ⟨none, none, .h (.store 24 (.t 6) (.t 59))⟩,
    ⟨some 7, none, .p (.mv (.t 60))⟩] [1, 4, 5, 6] [])
  (.region [⟨some 61, none, .p (.mv (.t 4))⟩,
    ⟨some 62, none, .h (.load 24 true (.t 6))⟩,
    ⟨some 63, none, .p (.mksl 24 1 (List.replicate 24 (.k (C.int .i64 0))) [(0, 24, .t 62)])⟩,
    ⟨some 64, none, .h (.app 24 (.t 61) (.t 63))⟩,
    ⟨some 4, none, .p (.mv (.t 64))⟩] [1, 4, 5]))))
  (.region [⟨some 27, none, .p (.mv (.t 5))⟩,
    ⟨some 28, none, .p (.bin .add (.t 27) (.k (.c (C.int .i64 1))))⟩,
    ⟨some 5, none, .p (.mv (.t 28))⟩] [1, 4, 5]))) [1, 4, 5])))
  (.seq (.region [⟨some 65, none, .p (.mv (.t 4))⟩,
    ⟨some 2, none, .p (.mv (.t 65))⟩,
    ⟨some 3, none, .p (.mv (.k (.c (C.bool true))))⟩] [2, 3])
  .ret))))) }
theorem a32_ok : okFn Tryz.prog 32 a32 = true := by kernel_rfl
/-- loop.example/g01215/spec.l1In -/
def a33 : AFn := { np := 3, nt := 15, res := [.t 6], body :=
  (.seq (.region [⟨some 6, none, .p (.mv (.k (.c (C.bool false))))⟩] [0, 1, 2])
  (.seq (.region [⟨some 7, none, .p (.mv (.t 0))⟩,
    ⟨some 8, none, .p (.mv (.t 1))⟩,
    ⟨some 9, none, .p (.bin .geq (.t 7) (.t 8))⟩,
    ⟨some 10, none, .p (.mv (.t 9))⟩,
    ⟨some 11, some (10, true), .p (.mv (.t 0))⟩,
    ⟨some 12, some (10, true), .p (.mv (.t 2))⟩,
    ⟨some 13, some (10, true), .p (.bin .leq (.t 11) (.t 12))⟩,
    ⟨some 14, none, .p (.pick (.t 10) (.t 13) (.k (.c (C.bool false))))⟩,
    ⟨some 6, none, .p (.mv (.t 14))⟩] [6])
  .ret)) }
theorem a33_ok : okFn Tryz.prog 33 a33 = true := by kernel_rfl
/-- (*loop.example/g01215/spec.l1Cur).pour -/
def a34 : AFn := { np := 2, nt := 30, res := [.cell 4 2 true], body :=
  (.seq (.region [⟨some 3, none, .p (.box 24 (.t 1))⟩,
    ⟨some 4, none, .p (.alloc [.k (C.int .i64 0), .k (C.int .i64 0)])⟩] [0, 3, 4])
  (.seq (.seq (.region [⟨some 6, none, .h (.load 24 true (.t 3))⟩,
    ⟨some 7, none, .h (.call (.f 57) [.t 6])⟩,
    ⟨some 8, none, .p (.mv (.t 7))⟩,
    ⟨some 9, some (8, true), .p (.mv (.t 0))⟩,
    ⟨some 10, some (8, true), .h (.call (.f 42) [.t 9, .k (.c (C.int .i64 3))])⟩,
    ⟨some 11, some (8, true), .p (.un .not (.t 10))⟩,
    ⟨some 12, none, .p (.pick (.t 8) (.t 11) (.k (.c (C.bool false))))⟩] [0, 3, 4, 12])
  (.cond (.t 12)
  (.seq (.region [⟨some 13, none, .h (.load 24 true (.t 3))⟩,
    ⟨some 14, none, .h (.call (.f 58) [.t 13])⟩,
    ⟨some 5, none, .p (.mv (.t 14))⟩] [0, 4, 5])
  (.seq (.region [⟨some 15, none, .p (.mv (.t 5))⟩,
    ⟨some 16, none, .p (.len (.t 15))⟩,
    ⟨some 17, none, .p (.bin .gtr (.t 16) (.k (.c (C.int .i64 0))))⟩] [0, 4, 5, 17])
  (.cond (.t 17)
  (.seq (.region [⟨some 18, none, .p (.mv (.t 5))⟩,
    ⟨some 19, none, .p (.mv (.t 0))⟩,
    ⟨some 20, none, .p (.mv (.t 5))⟩,
    ⟨some 21, none, .p (.len (.t 20))⟩,
    ⟨some 22, none, .h (.call (.f 55) [.t 19, .t 21])⟩,
    ⟨some 23, none, .p (.ixS 2 (.t 18) (.t 22))⟩,
    ⟨some 24, none, .h (.load 2 true (.t 23))⟩,
    ⟨none, none, .h (.store 2 (.t 4) (.t 24))⟩] [4])
  .ret)
  .skip)))
  .skip))
  (.seq (.region [⟨some 25, none, .p (.mv (.t 0))⟩,
    ⟨some 26, none, .h (.call (.f 60) [.t 25])⟩,
    ⟨some 27, none, .p (.mv (.t 0))⟩,
    ⟨some 28, none, .h (.call (.f 60) [.t 27])⟩,
    ⟨some 29, none, .p (.build [.k (C.int .i64 0), .k (C.int .i64 0)] [(0, 1, .t 26), (1, 1, .t 28)])⟩,
    ⟨none, none, .h (.store 2 (.t 4) (.t 29))⟩] [4])
  .ret))) }
theorem a34_ok : okFn Tryz.prog 34 a34 = true := by kernel_rfl
/-- (loop.example/g01215/impl.Replay).with -/
def a35 : AFn := { np := 2, nt := 10, res := [.cell 4 25 true], body :=
  (.seq (.region [⟨some 2, none, .p (.box 25 (.t 0))⟩,
    ⟨some 4, none, .p (.alloc [.k (C.int .i64 0), .k (C.int .i64 0), .k (C.int .i64 0), .k (C.int .i64 0), .k (C.int .i64 0), .k (C.int .i64 0), .k (C.int .i64 0), .k (C.int .i64 0), .k (C.int .i64 0), .k (C.int .i64 0), .k (C.int .i64 0), .k (C.int .i64 0), .k (C.int .i64 0), .k (C.int .i64 0), .k (C.int .i64 0), .k (C.int .i64 0), .k (C.int .i64 0), .k (C.int .i64 0), .k (C.int .i64 0), .k (C.int .i64 0), .k (C.int .i64 0), .k (C.int .i64 0), .k (C.int .i64 0), .k (C.int .i64 0), .sl 2])⟩] [1, 2, 4])
  (.seq (.regionD [⟨some 5, none, .p (.fld 0 (.t 2))⟩,
    ⟨some 6, none, .h (.load 24 true (.t 5))⟩,
    ⟨some 7, none, .p (.mv (.t 1))⟩,
    ⟨some 8, none, .h (.call (.f 62) [.t 7])⟩,
    ⟨some 9, none, .p (.build [.k (C.int .i64 0), .k (C.int .i64 0), .k (C.int .i64 0), .k (C.int .i64 0), .k (C.int .i64 0), .k (C.int .i64 0), .k (C.int .i64 0), .k (C.int .i64 0), .k (C.int .i64 0), .k (C.int .i64 0), .k (C.int .i64 0), .k (C.int .i64 0), .k (C.int .i64 0), .k (C.int .i64 0), .k (C.int .i64 0), .k (C.int .i64 0), .k (C.int .i64 0), .k (C.int .i64 0), .k (C.int .i64 0), .k (C.int .i64 0), .k (C.int .i64 0), .k (C.int .i64 0), .k (C.int .i64 0), .k (C.int .i64 0), .sl 2] [(0, 24, .t 6), (24, 1, .t 8)])⟩,
    ⟨none, none, .h (.store 25 (.t 4) (.t 9))⟩] [4] [])
  .ret)) }
theorem a35_ok : okFn Tryz.prog 35 a35 = true := by kernel_rfl
/-- loop.example/g01215/spec.l6Can -/
def a36 : AFn := { np := 2, nt := 21, res := [.t 4], body :=
  (.seq (.region [⟨some 2, none, .p (.box 24 (.t 0))⟩,
    ⟨some 3, none, .p (.box 2 (.t 1))⟩,
    ⟨some 4, none, .p (.mv (.k (.c (C.bool false))))⟩] [2, 3])
  (.seq (.region [⟨some 5, none, .p (.ixA 2 1 (.t 3) (.k (.c (C.int .i64 0))))⟩,
    ⟨some 6, none, .h (.load 1 false (.t 5))⟩,
    ⟨some 7, none, .h (.call (.f 63) [.t 6])⟩,
    ⟨some 8, none, .p (.mv (.t 7))⟩,
    ⟨some 9, some (8, true), .p (.ixA 2 1 (.t 3) (.k (.c (C.int .i64 1))))⟩,
    ⟨some 10, some (8, true), .h (.load 1 false (.t 9))⟩,
    ⟨some 11, some (8, true), .h (.call (.f 63) [.t 10])⟩,
    ⟨some 12, none, .p (.pick (.t 8) (.t 11) (.k (.c (C.bool false))))⟩,
    ⟨some 13, none, .p (.mv (.t 12))⟩,
    ⟨some 14, some (13, true), .h (.load 24 true (.t 2))⟩,
    ⟨some 15, some (13, true), .p (.ixA 2 1 (.t 3) (.k (.c (C.int .i64 0))))⟩,
    ⟨some 16, some (13, true), .h (.load 1 false (.t 15))⟩,
    ⟨some 17, some (13, true), .p (.ixA 2 1 (.t 3) (.k (.c (C.int .i64 1))))⟩,
    ⟨some 18, some (13, true), .h (.load 1 false (.t 17))⟩,
    ⟨some 19, some (13, true), .h (.call (.f 64) [.t 14, .t 16, .t 18])⟩,
    ⟨some 20, none, .p (.pick (.t 13) (.t 19) (.k (.c (C.bool false))))⟩,
    ⟨some 4, none, .p (.mv (.t 20))⟩] [4])
  .ret)) }
theorem a36_ok : okFn Tryz.prog 36 a36 = true := by kernel_rfl
/-- loop.example/g01215/spec.l11Cut -/
def a37 : AFn := { np := 2, nt := 14, res := [.cell 4 25 true], body :=
  (.seq (.region [⟨some 2, none, .p (.box 25 (.t 0))⟩,
    ⟨some 4, none, .p (.alloc [.k (C.int .i64 0), .k (C.int .i64 0), .k (C.int .i64 0), .k (C.int .i64 0), .k (C.int .i64 0), .k (C.int .i64 0), .k (C.int .i64 0), .k (C.int .i64 0), .k (C.int .i64 0), .k (C.int .i64 0), .k (C.int .i64 0), .k (C.int .i64 0), .k (C.int .i64 0), .k (C.int .i64 0), .k (C.int .i64 0), .k (C.int .i64 0), .k (C.int .i64 0), .k (C.int .i64 0), .k (C.int .i64 0), .k (C.int .i64 0), .k (C.int .i64 0), .k (C.int .i64 0), .k (C.int .i64 0), .k (C.int .i64 0), .sl 2])⟩] [1, 2, 4])
  (.seq (.regionE [⟨some 5, none, .p (.fld 0 (.t 2))⟩,
    ⟨some 6, none, .h (.load 24 true (.t 5))⟩,
    ⟨some 7, none, .p (.mksl 2 0 [.k (C.int .i64 0), .k (C.int .i64 0)] [])⟩,
    ⟨some 8, none, .p (.fld 24 (.t 2))⟩,
    ⟨some 9, none, .h (.load 1 false (.t 8))⟩,
    ⟨some 10, none, .p (.mv (.t 1))⟩,
    ⟨some 11, none, .p (.slS 2 (.t 9) none (some (.t 10)))⟩,
    ⟨some 12, none, .h (.app 2 (.t 7) (.t 11))⟩,
    ⟨some 13, none, .p (.build [.k (C.int .i64 0), .k (C.int .i64 0), .k (C.int .i64 0), .k (C.int .i64 0), .k (C.int .i64 0), .k (C.int .i64 0), .k (C.int .i64 0), .k (C.int .i64 0), .k (C.int .i64 0), .k (C.int .i64 0), .k (C.int .i64 0), .k (C.int .i64 0), .k (C.int .i64 0), .k (C.int .i64 0), .k (C.int .i64 0), .k (C.int .i64 0), .k (C.int .i64 0), .k (C.int .i64 0), .k (C.int .i64 0), .k (C.int .i64 0), .k (C.int .i64 0), .k (C.int .i64 0), .k (C.int .i64 0), .k (C.int .i64 0), .sl 2] [(0, 24, .t 6), (24, 1, .t 12)])⟩,
    ⟨none, none, .h (.store 25 (.t 4) (.t 13))⟩] [4] [(.t 5, .t 7)] [[], [], [], [], [], [], [], [2]])
  .ret)) }
theorem a37_ok : okFn Tryz.prog 37 a37 = true := by kernel_rfl
/-- loop.example/g01215/laws.rPairs -/
def a38 : AFn := { np := 2, nt := 26, res := [.t 4], body :=
  (.seq (.region [⟨some 4, none, .p (.mv (.k (.c (C.bool false))))⟩] [0, 1])
  (.seq (.seq (.region [⟨some 6, none, .p (.mv (.t 0))⟩,
    ⟨some 7, none, .p (.len (.t 6))⟩,
    ⟨some 8, none, .p (.mv (.t 1))⟩,
    ⟨some 9, none, .p (.len (.t 8))⟩,
    ⟨some 10, none, .p (.bin .neq (.t 7) (.t 9))⟩] [0, 1, 10])
  (.cond (.t 10)
  (.seq (.region [⟨some 4, none, .p (.mv (.k (.c (C.bool false))))⟩] [4])
  .ret)
  .skip))
  (.seq (.seq (.region [⟨some 5, none, .p (.mv (.k (.c (C.int .i64 0))))⟩] [0, 1, 5])
  (.block 0 (.loop (.seq (.seq (.region [⟨some 11, none, .p (.mv (.t 5))⟩,
    ⟨some 12, none, .p (.mv (.t 0))⟩,
    ⟨some 13, none, .p (.len (.t 12))⟩,
    ⟨some 14, none, .p (.bin .lss (.t 11) (.t 13))⟩] [0, 1, 5, 14])
  (.cond (.t 14)
  .skip
  (.exit 0)))
  (.seq (.block 1 (.seq (.regionD [⟨some 17, none, .p (.mv (.t 0))⟩,
    ⟨some 18, none, .p (.mv (.t 5))⟩,
    ⟨some 19, none, .p (.ixS 2 (.t 17) (.t 18))⟩,
    ⟨some 20, none, .h (.load 2 true (.t 19))⟩,
    ⟨some 21, none, .p (.mv (.t 1))⟩,
    ⟨some 22, none, .p (.mv (.t 5))⟩,
    ⟨some 23, none, .p (.ixS 2 (.t 21) (.t 22))⟩,
    ⟨some 24, none, .h (.load 2 true (.t 23))⟩,
    ⟨some 25, none, .p (.eqv true [.int .i64, .int .i64] (.t 20) (.t 24))⟩] [0, 1, 5, 25] [])
  (.cond (.t 25)
  (.seq (.region [⟨some 4, none, .p (.mv (.k (.c (C.bool false))))⟩] [4])
  .ret)
  .skip)))
  (.region [⟨some 15, none, .p (.mv (.t 5))⟩,
    ⟨some 16, none, .p (.bin .add (.t 15) (.k (.c (C.int .i64 1))))⟩,
    ⟨some 5, none, .p (.mv (.t 16))⟩] [0, 1, 5]))) [0, 1, 5])))
  (.seq (.region [⟨some 4, none, .p (.mv (.k (.c (C.bool true))))⟩] [4])
  .ret)))) }
theorem a38_ok : okFn Tryz.prog 38 a38 = true := by kernel_rfl
/-- loop.example/g01215/spec.IsReplay -/
def a39 : AFn := { np := 1, nt := 11, res := [.t 2], body :=
  (.seq (.region [⟨some 1, none, .p (.box 25 (.t 0))⟩,
    ⟨some 2, none, .p (.mv (.k (.c (C.bool false))))⟩] [1])
  (.seq (.region [⟨some 6, none, .h (.load 25 true (.t 1))⟩,
    ⟨some 7, none, .h (.call (.f 32) [.t 6])⟩,
    ⟨some 5, none, .p (.mv (.t 7))⟩,
    ⟨some 8, none, .p (.ext (.t 5) 0)⟩,
    ⟨some 9, none, .p (.ext (.t 5) 1)⟩,
    ⟨some 3, none, .p (.mv (.t 8))⟩,
    ⟨some 4, none, .p (.mv (.t 9))⟩] [4])
  (.seq (.region [⟨some 10, none, .p (.mv (.t 4))⟩,
    ⟨some 2, none, .p (.mv (.t 10))⟩] [2])
  .ret))) }
theorem a39_ok : okFn Tryz.prog 39 a39 = true := by kernel_rfl
/-- (loop.example/g01215/impl.Replay).text -/
def a40 : AFn := { np := 1, nt := 28, res := [.t 2], body :=
  (.seq (.region [⟨some 1, none, .p (.box 25 (.t 0))⟩,
    ⟨some 2, none, .p (.mv (.k (.c (C.str []))))⟩] [1])
  (.seq (.region [⟨some 6, none, .p (.fld 0 (.t 1))⟩,
    ⟨some 7, none, .h (.load 24 true (.t 6))⟩,
    ⟨some 8, none, .h (.call (.f 65) [.t 7])⟩,
    ⟨some 3, none, .p (.mv (.t 8))⟩] [1, 3])
  (.seq (.seq (.region [⟨some 9, none, .p (.fld 24 (.t 1))⟩,
    ⟨some 10, none, .h (.load 1 false (.t 9))⟩,
    ⟨some 11, none, .p (.len (.t 10))⟩,
    ⟨some 12, none, .p (.mv (.k (.c (C.int .i64 0))))⟩] [3, 10, 11, 12])
  (.block 0 (.loop (.seq (.region [⟨some 13, none, .p (.bin .lss (.t 12) (.t 11))⟩] [3, 10, 11, 12, 13])
  (.seq (.cond (.t 13)
  .skip
  (.exit 0))
  (.seq (.block 1 (.seq (.region [⟨some 14, none, .p (.ixS 2 (.t 10) (.t 12))⟩,
    ⟨some 15, none, .h (.load 2 true (.t 14))⟩,
    ⟨some 5, none, .p (.alloc [.k (C.int .i64 0), .k (C.int .i64 0)])⟩,
    ⟨none, none, .h (.store 2 (.t 5) (.t 15))⟩] [3, 5, 10, 11, 12])
  (.regionD [⟨some 16, none, .p (.mv (.t 3))⟩,
    ⟨some 17, none, .p (.ixA 2 1 (.t 5) (.k (.c (C.int .i64 0))))⟩,
    ⟨some 18, none, .h (.load 1 false (.t 17))⟩,
    ⟨some 19, none, .h (.call (.f 66) [.t 18])⟩,
    ⟨some 20, none, .p (.bin .add (.k (.c (C.str [32]))) (.t 19))⟩,
    ⟨some 21, none, .p (.ixA 2 1 (.t 5) (.k (.c (C.int .i64 1))))⟩,
    ⟨some 22, none, .h (.load 1 false (.t 21))⟩,
    ⟨some 23, none, .h (.call (.f 66) [.t 22])⟩,
    ⟨some 24, none, .p (.bin .add (.t 20) (.t 23))⟩,
    ⟨some 25, none, .p (.bin .add (.t 16) (.t 24))⟩,
    ⟨some 3, none, .p (.mv (.t 25))⟩] [3, 10, 11, 12] [])))
  (.region [⟨some 26, none, .p (.bin .add (.t 12) (.k (.c (C.int .i64 1))))⟩,
    ⟨some 12, none, .p (.mv (.t 26))⟩] [3, 10, 11, 12])))) [3, 10, 11, 12])))
  (.seq (.region [⟨some 27, none, .p (.mv (.t 3))⟩,
    ⟨some 2, none, .p (.mv (.t 27))⟩] [2])
  .ret)))) }
theorem a40_ok : okFn Tryz.prog 40 a40 = true := by kernel_rfl
/-- loop.example/g01215/spec.l11Write -/
def a41 : AFn := { np := 1, nt := 34, res := [.t 2], body :=
  (.seq (.region [⟨some 1, none, .p (.box 25 (.t 0))⟩,
    ⟨some 2, none, .p (.mv (.k (.c (C.str []))))⟩] [1])
  (.seq (.region [⟨some 5, none, .p (.fld 0 (.t 1))⟩,
    ⟨some 6, none, .h (.load 24 true (.t 5))⟩,
    ⟨some 7, none, .h (.call (.f 67) [.t 6])⟩,
    ⟨some 3, none, .p (.mv (.t 7))⟩] [1, 3])
  (.seq (.seq (.region [⟨some 4, none, .p (.mv (.k (.c (C.int .i64 0))))⟩] [1, 3, 4])
  (.block 0 (.loop (.seq (.seq (.region [⟨some 8, none, .p (.mv (.t 4))⟩,
    ⟨some 9, none, .p (.fld 24 (.t 1))⟩,
    ⟨some 10, none, .h (.load 1 false (.t 9))⟩,
    ⟨some 11, none, .p (.len (.t 10))⟩,
    ⟨some 12, none, .p (.bin .lss (.t 8) (.t 11))⟩] [1, 3, 4, 12])
  (.cond (.t 12)
  .skip
  (.exit 0)))
  (.seq (.block 1 (.regionD [⟨some 15, none, .p (.mv (.t 3))⟩,
    ⟨some 16, none, .p (.bin .add (.t 15) (.k (.c (C.str [32]))))⟩,
    ⟨some 17, none, .p (.fld 24 (.t 1))⟩,
    ⟨some 18, none, .h (.load 1 false (.t 17))⟩,
    ⟨some 19, none, .p (.mv (.t 4))⟩,
    ⟨some 20, none, .p (.ixS 2 (.t 18) (.t 19))⟩,
    ⟨some 21, none, .p (.ixA 2 1 (.t 20) (.k (.c (C.int .i64 0))))⟩,
    ⟨some 22, none, .h (.load 1 false (.t 21))⟩,
    ⟨some 23, none, .h (.call (.f 68) [.t 22])⟩,
    ⟨some 24, none, .p (.bin .add (.t 16) (.t 23))⟩,
    ⟨some 25, none, .p (.fld 24 (.t 1))⟩,
    ⟨some 26, none, .h (.load 1 false (.t 25))⟩,
    ⟨some 27, none, .p (.mv (.t 4))⟩,
    ⟨some 28, none, .p (.ixS 2 (.t 26) (.t 27))⟩,
    ⟨some 29, none, .p (.ixA 2 1 (.t 28) (.k (.c (C.int .i64 1))))⟩,
    ⟨some 30, none, .h (.load 1 false (.t 29))⟩,
    ⟨some 31, none, .h (.call (.f 68) [.t 30])⟩,
    ⟨some 32, none, .p (.bin .add (.t 24) (.t 31))⟩,
    ⟨some 3, none, .p (.mv (.t 32))⟩] [1, 3, 4] []))
  (.region [⟨some 13, none, .p (.mv (.t 4))⟩,
    ⟨some 14, none, .p (.bin .add (.t 13) (.k (.c (C.int .i64 1))))⟩,
    ⟨some 4, none, .p (.mv (.t 14))⟩] [1, 3, 4]))) [1, 3, 4])))
  (.seq (.region [⟨some 33, none, .p (.mv (.t 3))⟩,
    ⟨some 2, none, .p (.mv (.t 33))⟩] [2])
  .ret)))) }
theorem a41_ok : okFn Tryz.prog 41 a41 = true := by kernel_rfl
/-- (*loop.example/g01215/spec.l1Cur).one -/
def a42 : AFn := { np := 2, nt := 9, res := [.t 4], body :=
  (.seq (.region [⟨some 4, none, .p (.mv (.k (.c (C.bool false))))⟩] [0, 1])
  (.seq (.region [⟨some 5, none, .p (.mv (.t 0))⟩,
    ⟨some 6, none, .p (.mv (.t 1))⟩,
    ⟨some 7, none, .h (.call (.f 55) [.t 5, .t 6])⟩,
    ⟨some 8, none, .p (.bin .eql (.t 7) (.k (.c (C.int .i64 0))))⟩,
    ⟨some 4, none, .p (.mv (.t 8))⟩] [4])
  .ret)) }
theorem a42_ok : okFn Tryz.prog 42 a42 = true := by kernel_rfl
/-- (*loop.example/g01215/spec.l1Cur).spoilt -/
def a43 : AFn := { np := 3, nt := 57, res := [.t 6], body :=
  (.seq (.region [⟨some 6, none, .p (.mv (.k (.c (C.str []))))⟩] [0, 1, 2])
  (.seq (.seq (.region [⟨some 9, none, .p (.mv (.t 1))⟩,
    ⟨some 10, none, .p (.bin .eql (.t 9) (.k (.c (C.str []))))⟩] [0, 1, 2, 10])
  (.cond (.t 10)
  (.seq (.region [⟨some 11, none, .p (.mv (.t 2))⟩,
    ⟨some 12, none, .p (.slStr (.t 11) none (some (.k (.c (C.int .i64 1)))))⟩,
    ⟨some 6, none, .p (.mv (.t 12))⟩] [6])
  .ret)
  .skip))
  (.seq (.region [⟨some 13, none, .p (.mv (.t 0))⟩,
    ⟨some 14, none, .p (.mv (.t 1))⟩,
    ⟨some 15, none, .p (.lenStr (.t 14))⟩,
    ⟨some 16, none, .h (.call (.f 55) [.t 13, .t 15])⟩,
    ⟨some 7, none, .p (.mv (.t 16))⟩] [0, 1, 2, 7])
  (.seq (.region [⟨some 17, none, .p (.mv (.t 2))⟩,
    ⟨some 18, none, .p (.mv (.t 0))⟩,
    ⟨some 19, none, .p (.mv (.t 2))⟩,
    ⟨some 20, none, .p (.lenStr (.t 19))⟩,
    ⟨some 21, none, .h (.call (.f 55) [.t 18, .t 20])⟩,
    ⟨some 22, none, .p (.slStr (.t 17) (some (.t 21)) none)⟩,
    ⟨some 23, none, .p (.slStr (.t 22) none (some (.k (.c (C.int .i64 1)))))⟩,
    ⟨some 8, none, .p (.mv (.t 23))⟩] [0, 1, 7, 8])
  (.seq (.seq (.region [⟨some 24, none, .p (.mv (.t 0))⟩,
    ⟨some 25, none, .h (.call (.f 55) [.t 24, .k (.c (C.int .i64 3))])⟩] [1, 7, 8, 25])
  (.block 0 (.seq (.region [⟨some 27, none, .p (.bin .eql (.t 25) (.k (.c (C.int .i64 0))))⟩,
    ⟨some 26, none, .p (.mv (.t 27))⟩] [1, 7, 8, 25, 26])
  (.cond (.t 26)
  (.seq (.regionD [⟨some 28, none, .p (.mv (.t 1))⟩,
    ⟨some 29, none, .p (.mv (.t 7))⟩,
    ⟨some 30, none, .p (.slStr (.t 28) none (some (.t 29)))⟩,
    ⟨some 31, none, .p (.mv (.t 8))⟩,
    ⟨some 32, none, .p (.bin .add (.t 30) (.t 31))⟩,
    ⟨some 33, none, .p (.mv (.t 1))⟩,
    ⟨some 34, none, .p (.mv (.t 7))⟩,
    ⟨some 35, none, .p (.slStr (.t 33) (some (.t 34)) none)⟩,
    ⟨some 36, none, .p (.bin .add (.t 32) (.t 35))⟩,
    ⟨some 6, none, .p (.mv (.t 36))⟩] [6] [])
  .ret)
  (.seq (.region [⟨some 38, none, .p (.bin .eql (.t 25) (.k (.c (C.int .i64 1))))⟩,
    ⟨some 37, none, .p (.mv (.t 38))⟩] [1, 7, 8, 37])
  (.cond (.t 37)
  (.seq (.regionD [⟨some 39, none, .p (.mv (.t 1))⟩,
    ⟨some 40, none, .p (.mv (.t 7))⟩,
    ⟨some 41, none, .p (.slStr (.t 39) none (some (.t 40)))⟩,
    ⟨some 42, none, .p (.mv (.t 8))⟩,
    ⟨some 43, none, .p (.bin .add (.t 41) (.t 42))⟩,
    ⟨some 44, none, .p (.mv (.t 1))⟩,
    ⟨some 45, none, .p (.mv (.t 7))⟩,
    ⟨some 46, none, .p (.bin .add (.t 45) (.k (.c (C.int .i64 1))))⟩,
    ⟨some 47, none, .p (.slStr (.t 44) (some (.t 46)) none)⟩,
    ⟨some 48, none, .p (.bin .add (.t 43) (.t 47))⟩,
    ⟨some 6, none, .p (.mv (.t 48))⟩] [6] [])
  .ret)
  .skip))))))
  (.seq (.regionD [⟨some 49, none, .p (.mv (.t 1))⟩,
    ⟨some 50, none, .p (.mv (.t 7))⟩,
    ⟨some 51, none, .p (.slStr (.t 49) none (some (.t 50)))⟩,
    ⟨some 52, none, .p (.mv (.t 1))⟩,
    ⟨some 53, none, .p (.mv (.t 7))⟩,
    ⟨some 54, none, .p (.bin .add (.t 53) (.k (.c (C.int .i64 1))))⟩,
    ⟨some 55, none, .p (.slStr (.t 52) (some (.t 54)) none)⟩,
    ⟨some 56, none, .p (.bin .add (.t 51) (.t 55))⟩,
    ⟨some 6, none, .p (.mv (.t 56))⟩] [6] [])
  .ret)))))) }
theorem a43_ok : okFn Tryz.prog 43 a43 = true := by kernel_rfl
/-- loop.example/g01215/impl.parseRack -/
def a45 : AFn := { np := 1, nt := 62, res := [.cell 2 24 true, .t 3], body :=
  (.seq (.region [⟨some 2, none, .p (.alloc (List.replicate 24 (.k (C.int .i64 0))))⟩,
    ⟨some 3, none, .p (.mv (.k (.c (C.bool false))))⟩] [0, 2])
  (.seq (.region [⟨some 10, none, .p (.mv (.t 0))⟩,
    ⟨some 11, none, .h (.call (.f 44) [.t 10, .k (.c (C.str [47]))])⟩,
    ⟨some 4, none, .p (.mv (.t 11))⟩] [2, 4])
  (.seq (.seq (.region [⟨some 12, none, .p (.mv (.t 4))⟩,
    ⟨some 13, none, .p (.len (.t 12))⟩,
    ⟨some 14, none, .p (.bin .neq (.t 13) (.k (.c (C.int .i64 6))))⟩] [2, 4, 14])
  (.cond (.t 14)
  (.seq (.region [⟨some 15, none, .p (.build (List.replicate 24 (.k (C.int .i64 0))) [])⟩,
    ⟨none, none, .h (.store 24 (.t 2) (.t 15))⟩,
    ⟨some 3, none, .p (.mv (.k (.c (C.bool false))))⟩] [2, 3])
  .ret)
  .skip))
  (.seq (.region [⟨some 5, none, .p (.alloc (List.replicate 24 (.k (C.int .i64 0))))⟩] [2, 4, 5])
  (.seq (.seq (.region [⟨some 16, none, .p (.mv (.t 4))⟩,
    ⟨some 17, none, .p (.len (.t 16))⟩,
    ⟨some 18, none, .p (.mv (.k (.c (C.int .i64 0))))⟩] [2, 5, 16, 17, 18])
  (.block 0 (.loop (.seq (.region [⟨some 19, none, .p (.bin .lss (.t 18) (.t 17))⟩] [2, 5, 16, 17, 18, 19])
  (.seq (.cond (.t 19)
  .skip
  (.exit 0))
  (.seq (.block 1 (.seq (.region [⟨some 20, none, .p (.mv (.t 18))⟩,
    ⟨some 21, none, .p (.ixS 1 (.t 16) (.t 18))⟩,
    ⟨some 22, none, .h (.load 1 false (.t 21))⟩,
    ⟨some 6, none, .p (.mv (.t 20))⟩,
    ⟨some 7, none, .p (.mv (.t 22))⟩] [2, 5, 6, 7, 16, 17, 18])
  (.seq (.seq (.region [⟨some 23, none, .p (.mv (.t 7))⟩,
    ⟨some 24, none, .p (.lenStr (.t 23))⟩,
    ⟨some 25, none, .p (.bin .neq (.t 24) (.k (.c (C.int .i64 4))))⟩] [2, 5, 6, 7, 16, 17, 18, 25])
  (.cond (.t 25)
  (.seq (.region [⟨some 26, none, .p (.build (List.replicate 24 (.k (C.int .i64 0))) [])⟩,
    ⟨none, none, .h (.store 24 (.t 2) (.t 26))⟩,
    ⟨some 3, none, .p (.mv (.k (.c (C.bool false))))⟩] [2, 3])
  .ret)
  .skip))
  (.seq (.region [⟨some 27, none, .p (.mv (.t 7))⟩,
    ⟨some 28, none, .h (.s2b (.t 27))⟩,
    ⟨some 29, none, .p (.len (.t 28))⟩,
    ⟨some 30, none, .p (.mv (.k (.c (C.int .i64 0))))⟩] [2, 5, 6, 16, 17, 18, 28, 29, 30])
  (.block 2 (.loop (.seq (.region [⟨some 31, none, .p (.bin .lss (.t 30) (.t 29))⟩] [2, 5, 6, 16, 17, 18, 28, 29, 30, 31])
  (.seq (.cond (.t 31)
  .skip
  (.exit 2))
  (.seq (.block 3 (.seq (.region [⟨some 32, none, .p (.mv (.t 30))⟩,
    ⟨some 33, none, .p (.ixS 1 (.t 28) (.t 30))⟩,
    ⟨some 34, none, .h (.load 1 false (.t 33))⟩,
    ⟨some 8, none, .p (.mv (.t 32))⟩,
    ⟨some 9, none, .p (.mv (.t 34))⟩] [2, 5, 6, 8, 9, 16, 17, 18, 28, 29, 30])
  (.block 4 (.seq (.region [⟨some 36, none, .p (.mv (.t 9))⟩,
    ⟨some 37, none, .p (.bin .geq (.t 36) (.k (.c (C.int .u8 97))))⟩,
    ⟨some 38, none, .p (.mv (.t 37))⟩,
    ⟨some 39, some (38, true), .p (.mv (.t 9))⟩,
    ⟨some 40, some (38, true), .p (.bin .lss (.t 39) (.k (.c (C.int .u8 102))))⟩,
    ⟨some 41, none, .p (.pick (.t 38) (.t 40) (.k (.c (C.bool false))))⟩,
    ⟨some 35, none, .p (.mv (.t 41))⟩] [2, 5, 6, 8, 9, 16, 17, 18, 28, 29, 30, 35])
  (.cond (.t 35)
  (.region [⟨some 42, none, .p (.mv (.t 6))⟩,
    ⟨some 43, none, .p (.mv (.t 8))⟩,
    ⟨some 44, none, .p (.mv (.t 9))⟩,
    ⟨some 45, none, .p (.bin .sub (.t 44) (.k (.c (C.int .u8 97))))⟩,
    ⟨some 46, none, .p (.conv .i64 (.t 45))⟩,
    ⟨some 47, none, .p (.bin .add (.t 46) (.k (.c (C.int .i64 1))))⟩,
    ⟨some 48, none, .p (.fld 0 (.t 5))⟩,
    ⟨some 49, none, .p (.ixA 6 4 (.t 48) (.t 42))⟩,
    ⟨some 50, none, .p (.ixA 4 1 (.t 49) (.t 43))⟩,
    ⟨none, none, .h (.store 1 (.t 50) (.t 47))⟩] [2, 5, 6, 16, 17, 18, 28, 29, 30])
  (.seq (.region [⟨some 52, none, .p (.mv (.t 9))⟩,
    ⟨some 53, none, .p (.bin .neq (.t 52) (.k (.c (C.int .u8 46))))⟩,
    ⟨some 51, none, .p (.mv (.t 53))⟩] [2, 5, 6, 16, 17, 18, 28, 29, 30, 51])
  (.cond (.t 51)
  (.seq (.region [⟨some 54, none, .p (.build (List.replicate 24 (.k (C.int .i64 0))) [])⟩,
    ⟨none, none, .h (.store 24 (.t 2) (.t 54))⟩,
    ⟨some 3, none, .p (.mv (.k (.c (C.bool false))))⟩] [2, 3])
  .ret)
  .skip)))))))
  (.region [⟨some 55, none, .p (.bin .add (.t 30) (.k (.c (C.int .i64 1))))⟩,
    ⟨some 30, none, .p (.mv (.t 55))⟩] [2, 5, 6, 16, 17, 18, 28, 29, 30])))) [2, 5, 6, 16, 17, 18, 28, 29, 30]))))))
  (.region [⟨some 56, none, .p (.bin .add (.t 18) (.k (.c (C.int .i64 1))))⟩,
    ⟨some 18, none, .p (.mv (.t 56))⟩] [2, 5, 16, 17, 18])))) [2, 5, 16, 17, 18])))
  (.seq (.seq (.region [⟨some 57, none, .h (.load 24 true (.t 5))⟩,
    ⟨some 58, none, .h (.call (.f 50) [.t 57])⟩,
    ⟨some 59, none, .p (.un .not (.t 58))⟩] [2, 5, 59])
  (.cond (.t 59)
  (.seq (.region [⟨some 60, none, .p (.build (List.replicate 24 (.k (C.int .i64 0))) [])⟩,
    ⟨none, none, .h (.store 24 (.t 2) (.t 60))⟩,
    ⟨some 3, none, .p (.mv (.k (.c (C.bool false))))⟩] [2, 3])
  .ret)
  .skip))
  (.seq (.region [⟨some 61, none, .h (.load 24 true (.t 5))⟩,
    ⟨none, none, .h (.store 24 (.t 2) (.t 61))⟩,
    ⟨some 3, none, .p (.mv (.k (.c (C.bool true))))⟩] [2, 3])
  .ret))))))) }
theorem a45_ok : okFn Tryz.prog 45 a45 = true := by kernel_rfl
/-- loop.example/g01215/spec.l1Split -/
def a46 : AFn := { np := 2, nt := 35, res := [.t 4], body :=
  (.seq (.region [⟨some 4, none, .p (.nilsl 1)⟩] [0, 1])
  (.seq (.region [⟨some 8, none, .p (.mksl 1 0 [.k (C.str [])] [])⟩,
    ⟨some 5, none, .p (.mv (.t 8))⟩] [0, 1, 5])
  (.seq (.region [⟨some 6, none, .p (.mv (.k (.c (C.int .i64 0))))⟩] [0, 1, 5, 6])
  (.seq (.seq (.region [⟨some 7, none, .p (.mv (.k (.c (C.int .i64 0))))⟩] [0, 1, 5, 6, 7])
  (.block 0 (.loop (.seq (.seq (.region [⟨some 9, none, .p (.mv (.t 7))⟩,
    ⟨some 10, none, .p (.mv (.t 0))⟩,
    ⟨some 11, none, .p (.lenStr (.t 10))⟩,
    ⟨some 12, none, .p (.bin .lss (.t 9) (.t 11))⟩] [0, 1, 5, 6, 7, 12])
  (.cond (.t 12)
  .skip
  (.exit 0)))
  (.seq (.block 1 (.seq (.region [⟨some 15, none, .p (.mv (.t 0))⟩,
    ⟨some 16, none, .p (.mv (.t 7))⟩,
    ⟨some 17, none, .p (.ixStr (.t 15) (.t 16))⟩,
    ⟨some 18, none, .p (.mv (.t 1))⟩,
    ⟨some 19, none, .p (.bin .eql (.t 17) (.t 18))⟩] [0, 1, 5, 6, 7, 19])
  (.cond (.t 19)
  (.seq (.region [⟨some 20, none, .p (.mv (.t 5))⟩,
    ⟨some 21, none, .p (.mv (.t 0))⟩,
    ⟨some 22, none, .p (.mv (.t 6))⟩,
    ⟨some 23, none, .p (.mv (.t 7))⟩,
    ⟨some 24, none, .p (.slStr (.t 21) (some (.t 22)) (some (.t 23)))⟩,
    ⟨some 25, none, .p (.mksl 1 1 [.k (C.str [])] [(0, 1, .t 24)])⟩,
    ⟨some 26, none, .h (.app 1 (.t 20) (.t 25))⟩,
    ⟨some 5, none, .p (.mv (.t 26))⟩] [0, 1, 5, 7])
  (.region [⟨some 27, none, .p (.mv (.t 7))⟩,
    ⟨some 28, none, .p (.bin .add (.t 27) (.k (.c (C.int .i64 1))))⟩,
    ⟨some 6, none, .p (.mv (.t 28))⟩] [0, 1, 5, 6, 7]))
  .skip)))
  (.region [⟨some 13, none, .p (.mv (.t 7))⟩,
    ⟨some 14, none, .p (.bin .add (.t 13) (.k (.c (C.int .i64 1))))⟩,
    ⟨some 7, none, .p (.mv (.t 14))⟩] [0, 1, 5, 6, 7]))) [0, 1, 5, 6, 7])))
  (.seq (.region [⟨some 29, none, .p (.mv (.t 5))⟩,
    ⟨some 30, none, .p (.mv (.t 0))⟩,
    ⟨some 31, none, .p (.mv (.t 6))⟩,
    ⟨some 32, none, .p (.slStr (.t 30) (some (.t 31)) none)⟩,
    ⟨some 33, none, .p (.mksl 1 1 [.k (C.str [])] [(0, 1, .t 32)])⟩,
    ⟨some 34, none, .h (.app 1 (.t 29) (.t 33))⟩,
    ⟨some 4, none, .p (.mv (.t 34))⟩] [4])
  .ret))))) }
theorem a46_ok : okFn Tryz.prog 46 a46 = true := by kernel_rfl
/-- loop.example/g01215/spec.l2Parse -/
def a47 : AFn := { np := 1, nt := 55, res := [.cell 2 24 true, .t 3], body :=
  (.seq (.region [⟨some 2, none, .p (.alloc (List.replicate 24 (.k (C.int .i64 0))))⟩,
    ⟨some 3, none, .p (.mv (.k (.c (C.bool false))))⟩] [0, 2])
  (.seq (.region [⟨some 7, none, .p (.build (List.replicate 24 (.k (C.int .i64 0))) [])⟩,
    ⟨some 4, none, .p (.alloc (List.replicate 24 (.k (C.int .i64 0))))⟩,
    ⟨none, none, .h (.store 24 (.t 4) (.t 7))⟩] [0, 2, 4])
  (.seq (.seq (.region [⟨some 8, none, .p (.mv (.t 0))⟩,
    ⟨some 9, none, .p (.lenStr (.t 8))⟩,
    ⟨some 10, none, .p (.bin .neq (.t 9) (.k (.c (C.int .i64 29))))⟩] [0, 2, 4, 10])
  (.cond (.t 10)
  (.seq (.region [⟨some 11, none, .p (.build (List.replicate 24 (.k (C.int .i64 0))) [])⟩,
    ⟨none, none, .h (.store 24 (.t 2) (.t 11))⟩,
    ⟨some 3, none, .p (.mv (.k (.c (C.bool false))))⟩] [2, 3])
  .ret)
  .skip))
  (.seq (.seq (.region [⟨some 5, none, .p (.mv (.k (.c (C.int .i64 0))))⟩] [0, 2, 4, 5])
  (.block 0 (.loop (.seq (.seq (.region [⟨some 12, none, .p (.mv (.t 5))⟩,
    ⟨some 13, none, .p (.bin .lss (.t 12) (.k (.c (C.int .i64 29))))⟩] [0, 2, 4, 5, 13])
  (.cond (.t 13)
  .skip
  (.exit 0)))
  (.seq (.block 1 (.seq (.region [⟨some 16, none, .p (.mv (.t 0))⟩,
    ⟨some 17, none, .p (.mv (.t 5))⟩,
    ⟨some 18, none, .p (.ixStr (.t 16) (.t 17))⟩,
    ⟨some 19, none, .h (.call (.f 70) [.t 18])⟩,
    ⟨some 6, none, .p (.mv (.t 19))⟩] [0, 2, 4, 5, 6])
  (.seq (.seq (.region [⟨some 20, none, .p (.mv (.t 5))⟩,
    ⟨some 21, none, .p (.bin .rem (.t 20) (.k (.c (C.int .i64 5))))⟩,
    ⟨some 22, none, .p (.bin .eql (.t 21) (.k (.c (C.int .i64 4))))⟩,
    ⟨some 23, none, .p (.mv (.t 22))⟩,
    ⟨some 24, some (23, true), .p (.mv (.t 0))⟩,
    ⟨some 25, some (23, true), .p (.mv (.t 5))⟩,
    ⟨some 26, some (23, true), .p (.ixStr (.t 24) (.t 25))⟩,
    ⟨some 27, some (23, true), .p (.bin .neq (.t 26) (.k (.c (C.int .u8 47))))⟩,
    ⟨some 28, none, .p (.pick (.t 23) (.t 27) (.k (.c (C.bool false))))⟩,
    ⟨some 29, none, .p (.mv (.t 28))⟩,
    ⟨some 30, some (29, false), .p (.mv (.t 5))⟩,
    ⟨some 31, some (29, false), .p (.bin .rem (.t 30) (.k (.c (C.int .i64 5))))⟩,
    ⟨some 32, some (29, false), .p (.bin .lss (.t 31) (.k (.c (C.int .i64 4))))⟩,
    ⟨some 33, some (29, false), .p (.mv (.t 32))⟩,
    ⟨some 34, some (33, true), .p (.mv (.t 6))⟩,
    ⟨some 35, some (33, true), .p (.bin .lss (.t 34) (.k (.c (C.int .i64 0))))⟩,
    ⟨some 36, some (29, false), .p (.pick (.t 33) (.t 35) (.k (.c (C.bool false))))⟩,
    ⟨some 37, none, .p (.pick (.t 29) (.k (.c (C.bool true))) (.t 36))⟩] [0, 2, 4, 5, 6, 37])
  (.cond (.t 37)
  (.seq (.region [⟨some 38, none, .p (.build (List.replicate 24 (.k (C.int .i64 0))) [])⟩,
    ⟨none, none, .h (.store 24 (.t 2) (.t 38))⟩,
    ⟨some 3, none, .p (.mv (.k (.c (C.bool false))))⟩] [2, 3])
  .ret)
  .skip))
  (.seq (.region [⟨some 39, none, .p (.mv (.t 5))⟩,
    ⟨some 40, none, .p (.bin .rem (.t 39) (.k (.c (C.int .i64 5))))⟩,
    ⟨some 41, none, .p (.bin .lss (.t 40) (.k (.c (C.int .i64 4))))⟩] [0, 2, 4, 5, 6, 41])
  (.cond (.t 41)
  (.region [⟨some 42, none, .p (.mv (.t 5))⟩,
    ⟨some 43, none, .p (.bin .quo (.t 42) (.k (.c (C.int .i64 5))))⟩,
    ⟨some 44, none, .p (.mv (.t 5))⟩,
    ⟨some 45, none, .p (.bin .rem (.t 44) (.k (.c (C.int .i64 5))))⟩,
    ⟨some 46, none, .p (.mv (.t 6))⟩,
    ⟨some 47, none, .p (.fld 0 (.t 4))⟩,
    ⟨some 48, none, .p (.ixA 6 4 (.t 47) (.t 43))⟩,
    ⟨some 49, none, .p (.ixA 4 1 (.t 48) (.t 45))⟩,
    ⟨none, none, .h (.store 1 (.t 49) (.t 46))⟩] [0, 2, 4, 5])
  .skip)))))
  (.region [⟨some 14, none, .p (.mv (.t 5))⟩,
    ⟨some 15, none, .p (.bin .add (.t 14) (.k (.c (C.int .i64 1))))⟩,
    ⟨some 5, none, .p (.mv (.t 15))⟩] [0, 2, 4, 5]))) [0, 2, 4, 5])))
  (.seq (.seq (.region [⟨some 50, none, .h (.load 24 true (.t 4))⟩,
    ⟨some 51, none, .h (.call (.f 57) [.t 50])⟩,
    ⟨some 52, none, .p (.un .not (.t 51))⟩] [2, 4, 52])
  (.cond (.t 52)
  (.seq (.region [⟨some 53, none, .p (.build (List.replicate 24 (.k (C.int .i64 0))) [])⟩,
    ⟨none, none, .h (.store 24 (.t 2) (.t 53))⟩,
    ⟨some 3, none, .p (.mv (.k (.c (C.bool false))))⟩] [2, 3])
  .ret)
  .skip))
  (.seq (.region [⟨some 54, none, .h (.load 24 true (.t 4))⟩,
    ⟨none, none, .h (.store 24 (.t 2) (.t 54))⟩,
    ⟨some 3, none, .p (.mv (.k (.c (C.bool true))))⟩] [2, 3])
  .ret)))))) }
theorem a47_ok : okFn Tryz.prog 47 a47 = true := by kernel_rfl
/-- loop.example/g01215/impl.doPours -/
def a48 : AFn := { np := 2, nt := 54, res := [.cell 4 24 true, .t 5, .t 6], body :=
  (.seq (.region [⟨some 2, none, .p (.box 24 (.t 0))⟩,
    ⟨some 4, none, .p (.alloc (List.replicate 24 (.k (C.int .i64 0))))⟩,
    ⟨some 5, none, .p (.mv (.k (.c (C.int .i64 0))))⟩,
    ⟨some 6, none, .p (.mv (.k (.c (C.bool false))))⟩] [1, 2, 4])
  (.seq (.region [⟨some 7, none, .p (.mv (.k (.c (C.int .i64 0))))⟩] [1, 2, 4, 7])
  (.seq (.seq (.region [⟨some 12, none, .p (.mv (.t 1))⟩,
    ⟨some 13, none, .p (.len (.t 12))⟩,
    ⟨some 14, none, .p (.mv (.k (.c (C.int .i64 0))))⟩] [2, 4, 7, 12, 13, 14])
  (.block 0 (.loop (.seq (.region [⟨some 15, none, .p (.bin .lss (.t 14) (.t 13))⟩] [2, 4, 7, 12, 13, 14, 15])
  (.seq (.cond (.t 15)
  .skip
  (.exit 0))
  (.seq (.block 1 (.seq (.region [⟨some 16, none, .p (.ixS 2 (.t 12) (.t 14))⟩,
    ⟨some 17, none, .h (.load 2 true (.t 16))⟩,
    ⟨some 9, none, .p (.alloc [.k (C.int .i64 0), .k (C.int .i64 0)])⟩,
    ⟨none, none, .h (.store 2 (.t 9) (.t 17))⟩] [2, 4, 7, 9, 12, 13, 14])
  (.seq (.seq (.region [⟨some 18, none, .p (.ixA 2 1 (.t 9) (.k (.c (C.int .i64 0))))⟩,
    ⟨some 19, none, .h (.load 1 false (.t 18))⟩,
    ⟨some 20, none, .h (.call (.f 71) [.t 19])⟩,
    ⟨some 21, none, .p (.un .not (.t 20))⟩,
    ⟨some 22, none, .p (.mv (.t 21))⟩,
    ⟨some 23, some (22, false), .p (.ixA 2 1 (.t 9) (.k (.c (C.int .i64 1))))⟩,
    ⟨some 24, some (22, false), .h (.load 1 false (.t 23))⟩,
    ⟨some 25, some (22, false), .h (.call (.f 71) [.t 24])⟩,
    ⟨some 26, some (22, false), .p (.un .not (.t 25))⟩,
    ⟨some 27, none, .p (.pick (.t 22) (.k (.c (C.bool true))) (.t 26))⟩,
    ⟨some 28, none, .p (.mv (.t 27))⟩,
    ⟨some 29, some (28, false), .h (.load 24 true (.t 2))⟩,
    ⟨some 30, some (28, false), .p (.ixA 2 1 (.t 9) (.k (.c (C.int .i64 0))))⟩,
    ⟨some 31, some (28, false), .h (.load 1 false (.t 30))⟩,
    ⟨some 32, some (28, false), .p (.ixA 2 1 (.t 9) (.k (.c (C.int .i64 1))))⟩,
    ⟨some 33, some (28, false), .h (.load 1 false (.t 32))⟩,
    ⟨some 34, some (28, false), .h (.call (.f 53) [.t 29, .t 31, .t 33])⟩,
    ⟨some 35, some (28, false), .p (.un .not (.t 34))⟩,
    ⟨some 36, none, .p (.pick (.t 28) (.k (.c (C.bool true))) (.t 35))⟩] [2, 4, 7, 9, 12, 13, 14, 36])
  (.cond (.t 36)
  (.seq (.region [⟨some 37, none, .p (.build (List.replicate 24 (.k (C.int .i64 0))) [])⟩,
    ⟨none, none, .h (.store 24 (.t 4) (.t 37))⟩,
    ⟨some 5, none, .p (.mv (.k (.c (C.int .i64 0))))⟩,
    ⟨some 6, none, .p (.mv (.k (.c (C.bool false))))⟩] [4, 5, 6])
  .ret)
  .skip))
  (.seq (.region [⟨some 39, none, .h (.load 24 true (.t 2))⟩,
    ⟨some 40, none, .p (.ixA 2 1 (.t 9) (.k (.c (C.int .i64 0))))⟩,
    ⟨some 41, none, .h (.load 1 false (.t 40))⟩,
    ⟨some 42, none, .p (.ixA 2 1 (.t 9) (.k (.c (C.int .i64 1))))⟩,
    ⟨some 43, none, .h (.load 1 false (.t 42))⟩,
    ⟨some 44, none, .h (.call (.f 54) [.t 39, .t 41, .t 43])⟩,
    ⟨some 38, none, .p (.mv (.t 44))⟩,
    ⟨some 45, none, .p (.ext (.t 38) 0)⟩,
    ⟨some 46, none, .p (.ext (.t 38) 1)⟩,
    ⟨some 10, none, .p (.alloc (List.replicate 24 (.k (C.int .i64 0))))⟩,
    ⟨none, none, .h (.store 24 (.t 10) (.t 45))⟩,
    ⟨some 11, none, .p (.mv (.t 46))⟩] [2, 4, 7, 10, 11, 12, 13, 14])
  (.seq (.region [⟨some 47, none, .h (.load 24 true (.t 10))⟩,
    ⟨none, none, .h (.store 24 (.t 2) (.t 47))⟩] [2, 4, 7, 11, 12, 13, 14])
  (.region [⟨some 48, none, .p (.mv (.t 7))⟩,
    ⟨some 49, none, .p (.mv (.t 11))⟩,
    ⟨some 50, none, .p (.bin .add (.t 48) (.t 49))⟩,
    ⟨some 7, none, .p (.mv (.t 50))⟩] [2, 4, 7, 12, 13, 14]))))))
  (.region [⟨some 51, none, .p (.bin .add (.t 14) (.k (.c (C.int .i64 1))))⟩,
    ⟨some 14, none, .p (.mv (.t 51))⟩] [2, 4, 7, 12, 13, 14])))) [2, 4, 7, 12, 13, 14])))
  (.seq (.region [⟨some 52, none, .h (.load 24 true (.t 2))⟩,
    ⟨some 53, none, .p (.mv (.t 7))⟩,
    ⟨none, none, .h (.store 24 (.t 4) (.t 52))⟩,
    ⟨some 5, none, .p (.mv (.t 53))⟩,
    ⟨some 6, none, .p (.mv (.k (.c (C.bool true))))⟩] [4, 5, 6])
  .ret)))) }
theorem a48_ok : okFn Tryz.prog 48 a48 = true := by kernel_rfl
/-- loop.example/g01215/spec.l2Pour -/
def a49 : AFn := { np := 3, nt := 59, res := [.cell 6 24 true, .t 7], body :=
  (.seq (.region [⟨some 3, none, .p (.box 24 (.t 0))⟩,
    ⟨some 6, none, .p (.alloc (List.replicate 24 (.k (C.int .i64 0))))⟩,
    ⟨some 7, none, .p (.mv (.k (.c (C.int .i64 0))))⟩] [1, 2, 3, 6])
  (.seq (.region [⟨some 15, none, .p (.mv (.t 1))⟩,
    ⟨some 16, none, .p (.fld 0 (.t 3))⟩,
    ⟨some 17, none, .p (.ixA 6 4 (.t 16) (.t 15))⟩,
    ⟨some 18, none, .h (.load 4 true (.t 17))⟩,
    ⟨some 19, none, .h (.call (.f 72) [.t 18])⟩,
    ⟨some 14, none, .p (.mv (.t 19))⟩,
    ⟨some 20, none, .p (.ext (.t 14) 0)⟩,
    ⟨some 21, none, .p (.ext (.t 14) 1)⟩,
    ⟨some 8, none, .p (.mv (.t 20))⟩,
    ⟨some 9, none, .p (.mv (.t 21))⟩] [1, 2, 3, 6, 8, 9])
  (.seq (.regionD [⟨some 22, none, .p (.mv (.t 1))⟩,
    ⟨some 23, none, .p (.fld 0 (.t 3))⟩,
    ⟨some 24, none, .p (.ixA 6 4 (.t 23) (.t 22))⟩,
    ⟨some 25, none, .h (.load 4 true (.t 24))⟩,
    ⟨some 26, none, .h (.call (.f 73) [.t 25])⟩,
    ⟨some 27, none, .p (.mv (.t 2))⟩,
    ⟨some 28, none, .p (.fld 0 (.t 3))⟩,
    ⟨some 29, none, .p (.ixA 6 4 (.t 28) (.t 27))⟩,
    ⟨some 30, none, .h (.load 4 true (.t 29))⟩,
    ⟨some 31, none, .h (.call (.f 73) [.t 30])⟩,
    ⟨some 10, none, .p (.mv (.t 26))⟩,
    ⟨some 11, none, .p (.mv (.t 31))⟩] [1, 2, 3, 6, 8, 9, 10, 11] [])
  (.seq (.region [⟨some 32, none, .p (.mv (.t 9))⟩,
    ⟨some 33, none, .p (.mv (.t 11))⟩,
    ⟨some 34, none, .p (.bin .sub (.k (.c (C.int .i64 4))) (.t 33))⟩,
    ⟨some 35, none, .h (.call (.f 74) [.t 32, .t 34])⟩,
    ⟨some 12, none, .p (.mv (.t 35))⟩] [1, 2, 3, 6, 8, 10, 11, 12])
  (.seq (.seq (.region [⟨some 13, none, .p (.mv (.k (.c (C.int .i64 0))))⟩] [1, 2, 3, 6, 8, 10, 11, 12, 13])
  (.block 0 (.loop (.seq (.seq (.region [⟨some 36, none, .p (.mv (.t 13))⟩,
    ⟨some 37, none, .p (.mv (.t 12))⟩,
    ⟨some 38, none, .p (.bin .lss (.t 36) (.t 37))⟩] [1, 2, 3, 6, 8, 10, 11, 12, 13, 38])
  (.cond (.t 38)
  .skip
  (.exit 0)))
  (.seq (.block 1 (.seq (.region [⟨some 41, none, .p (.mv (.t 1))⟩,
    ⟨some 42, none, .p (.mv (.t 10))⟩,
    ⟨some 43, none, .p (.bin .sub (.t 42) (.k (.c (C.int .i64 1))))⟩,
    ⟨some 44, none, .p (.mv (.t 13))⟩,
    ⟨some 45, none, .p (.bin .sub (.t 43) (.t 44))⟩,
    ⟨some 46, none, .p (.fld 0 (.t 3))⟩,
    ⟨some 47, none, .p (.ixA 6 4 (.t 46) (.t 41))⟩,
    ⟨some 48, none, .p (.ixA 4 1 (.t 47) (.t 45))⟩,
    ⟨none, none, .h (.store 1 (.t 48) (.k (.c (C.int .i64 0))))⟩] [1, 2, 3, 6, 8, 10, 11, 12, 13])
  (.region [⟨some 49, none, .p (.mv (.t 2))⟩,
    ⟨some 50, none, .p (.mv (.t 11))⟩,
    ⟨some 51, none, .p (.mv (.t 13))⟩,
    ⟨some 52, none, .p (.bin .add (.t 50) (.t 51))⟩,
    ⟨some 53, none, .p (.mv (.t 8))⟩,
    ⟨some 54, none, .p (.fld 0 (.t 3))⟩,
    ⟨some 55, none, .p (.ixA 6 4 (.t 54) (.t 49))⟩,
    ⟨some 56, none, .p (.ixA 4 1 (.t 55) (.t 52))⟩,
    ⟨none, none, .h (.store 1 (.t 56) (.t 53))⟩] [1, 2, 3, 6, 8, 10, 11, 12, 13])))
  (.region [⟨some 39, none, .p (.mv (.t 13))⟩,
    ⟨some 40, none, .p (.bin .add (.t 39) (.k (.c (C.int .i64 1))))⟩,
    ⟨some 13, none, .p (.mv (.t 40))⟩] [1, 2, 3, 6, 8, 10, 11, 12, 13]))) [1, 2, 3, 6, 8, 10, 11, 12, 13])))
  (.seq (.region [⟨some 57, none, .h (.load 24 true (.t 3))⟩,
    ⟨some 58, none, .p (.mv (.t 12))⟩,
    ⟨none, none, .h (.store 24 (.t 6) (.t 57))⟩,
    ⟨some 7, none, .p (.mv (.t 58))⟩] [6, 7])
  .ret)))))) }
theorem a49_ok : okFn Tryz.prog 49 a49 = true := by kernel_rfl
/-- loop.example/g01215/impl.IsRack -/
def a50 : AFn := { np := 1, nt := 6, res := [.t 2], body :=
  (.seq (.region [⟨some 1, none, .p (.box 24 (.t 0))⟩,
    ⟨some 2, none, .p (.mv (.k (.c (C.bool false))))⟩] [1])
  (.seq (.region [⟨some 3, none, .p (.fld 0 (.t 1))⟩,
    ⟨some 4, none, .h (.slA 6 4 (.t 3) none none)⟩,
    ⟨some 5, none, .h (.call (.f 75) [.t 4, .f 76])⟩,
    ⟨some 2, none, .p (.mv (.t 5))⟩] [2])
  .ret)) }
theorem a50_ok : okFn Tryz.prog 50 a50 = true := by kernel_rfl
/-- loop.example/g01215/impl.countColors -/
def a51 : AFn := { np := 1, nt := 25, res := [.cell 2 6 true], body :=
  (.seq (.region [⟨some 1, none, .p (.box 24 (.t 0))⟩,
    ⟨some 2, none, .p (.alloc [.k (C.int .i64 0), .k (C.int .i64 0), .k (C.int .i64 0), .k (C.int .i64 0), .k (C.int .i64 0), .k (C.int .i64 0)])⟩] [1, 2])
  (.seq (.region [⟨some 3, none, .p (.alloc [.k (C.int .i64 0), .k (C.int .i64 0), .k (C.int .i64 0), .k (C.int .i64 0), .k (C.int .i64 0), .k (C.int .i64 0)])⟩] [1, 2, 3])
  (.seq (.seq (.region [⟨some 8, none, .p (.fld 0 (.t 1))⟩,
    ⟨some 9, none, .h (.load 24 true (.t 8))⟩,
    ⟨some 10, none, .p (.mv (.k (.c (C.int .i64 0))))⟩] [2, 3, 9, 10])
  (.block 0 (.loop (.seq (.region [⟨some 11, none, .p (.bin .lss (.t 10) (.k (.c (C.int .i64 6))))⟩] [2, 3, 9, 10, 11])
  (.seq (.cond (.t 11)
  .skip
  (.exit 0))
  (.seq (.block 1 (.seq (.region [⟨some 12, none, .p (.ixV 6 4 true (.t 9) (.t 10))⟩,
    ⟨some 5, none, .p (.alloc [.k (C.int .i64 0), .k (C.int .i64 0), .k (C.int .i64 0), .k (C.int .i64 0)])⟩,
    ⟨none, none, .h (.store 4 (.t 5) (.t 12))⟩] [2, 3, 5, 9, 10])
  (.seq (.region [⟨some 13, none, .h (.load 4 true (.t 5))⟩,
    ⟨some 14, none, .p (.mv (.k (.c (C.int .i64 0))))⟩] [2, 3, 9, 10, 13, 14])
  (.block 2 (.loop (.seq (.region [⟨some 15, none, .p (.bin .lss (.t 14) (.k (.c (C.int .i64 4))))⟩] [2, 3, 9, 10, 13, 14, 15])
  (.seq (.cond (.t 15)
  .skip
  (.exit 2))
  (.seq (.block 3 (.seq (.region [⟨some 16, none, .p (.ixV 4 1 false (.t 13) (.t 14))⟩,
    ⟨some 7, none, .p (.mv (.t 16))⟩] [2, 3, 7, 9, 10, 13, 14])
  (.region [⟨some 17, none, .p (.mv (.t 7))⟩,
    ⟨some 18, none, .p (.ixA 6 1 (.t 3) (.t 17))⟩,
    ⟨some 19, none, .h (.load 1 false (.t 18))⟩,
    ⟨some 20, none, .p (.bin .add (.t 19) (.k (.c (C.int .i64 1))))⟩,
    ⟨some 21, none, .p (.ixA 6 1 (.t 3) (.t 17))⟩,
    ⟨none, none, .h (.store 1 (.t 21) (.t 20))⟩] [2, 3, 9, 10, 13, 14])))
  (.region [⟨some 22, none, .p (.bin .add (.t 14) (.k (.c (C.int .i64 1))))⟩,
    ⟨some 14, none, .p (.mv (.t 22))⟩] [2, 3, 9, 10, 13, 14])))) [2, 3, 9, 10, 13, 14])))))
  (.region [⟨some 23, none, .p (.bin .add (.t 10) (.k (.c (C.int .i64 1))))⟩,
    ⟨some 10, none, .p (.mv (.t 23))⟩] [2, 3, 9, 10])))) [2, 3, 9, 10])))
  (.seq (.region [⟨some 24, none, .h (.load 6 true (.t 3))⟩,
    ⟨none, none, .h (.store 6 (.t 2) (.t 24))⟩] [2])
  .ret)))) }
theorem a51_ok : okFn Tryz.prog 51 a51 = true := by kernel_rfl
/-- loop.example/g01215/impl.isAt -/
def a52 : AFn := { np := 2, nt := 11, res := [.t 4], body :=
  (.seq (.region [⟨some 2, none, .p (.box 24 (.t 0))⟩,
    ⟨some 4, none, .p (.mv (.k (.c (C.bool false))))⟩] [1, 2])
  (.seq (.region [⟨some 5, none, .h (.load 24 true (.t 2))⟩,
    ⟨some 6, none, .h (.call (.f 50) [.t 5])⟩,
    ⟨some 7, none, .p (.mv (.t 6))⟩,
    ⟨some 8, some (7, true), .p (.mv (.t 1))⟩,
    ⟨some 9, some (7, true), .h (.call (.f 77) [.t 8, .f 71])⟩,
    ⟨some 10, none, .p (.pick (.t 7) (.t 9) (.k (.c (C.bool false))))⟩,
    ⟨some 4, none, .p (.mv (.t 10))⟩] [4])
  .ret)) }
theorem a52_ok : okFn Tryz.prog 52 a52 = true := by kernel_rfl
/-- loop.example/g01215/impl.canPour -/
def a53 : AFn := { np := 3, nt := 51, res := [.t 6], body :=
  (.seq (.region [⟨some 3, none, .p (.box 24 (.t 0))⟩,
    ⟨some 6, none, .p (.mv (.k (.c (C.bool false))))⟩] [1, 2, 3])
  (.seq (.region [⟨some 12, none, .p (.mv (.t 1))⟩,
    ⟨some 13, none, .p (.fld 0 (.t 3))⟩,
    ⟨some 14, none, .p (.ixA 6 4 (.t 13) (.t 12))⟩,
    ⟨some 15, none, .h (.load 4 true (.t 14))⟩,
    ⟨some 16, none, .h (.call (.f 78) [.t 15])⟩,
    ⟨some 11, none, .p (.mv (.t 16))⟩,
    ⟨some 17, none, .p (.ext (.t 11) 0)⟩,
    ⟨some 18, none, .p (.ext (.t 11) 1)⟩,
    ⟨some 7, none, .p (.mv (.t 17))⟩,
    ⟨some 8, none, .p (.mv (.t 18))⟩] [1, 2, 3, 7])
  (.seq (.region [⟨some 20, none, .p (.mv (.t 2))⟩,
    ⟨some 21, none, .p (.fld 0 (.t 3))⟩,
    ⟨some 22, none, .p (.ixA 6 4 (.t 21) (.t 20))⟩,
    ⟨some 23, none, .h (.load 4 true (.t 22))⟩,
    ⟨some 24, none, .h (.call (.f 78) [.t 23])⟩,
    ⟨some 19, none, .p (.mv (.t 24))⟩,
    ⟨some 25, none, .p (.ext (.t 19) 0)⟩,
    ⟨some 26, none, .p (.ext (.t 19) 1)⟩,
    ⟨some 9, none, .p (.mv (.t 25))⟩,
    ⟨some 10, none, .p (.mv (.t 26))⟩] [1, 2, 3, 7, 9])
  (.seq (.region [⟨some 27, none, .p (.mv (.t 1))⟩,
    ⟨some 28, none, .p (.mv (.t 2))⟩,
    ⟨some 29, none, .p (.bin .neq (.t 27) (.t 28))⟩,
    ⟨some 30, none, .p (.mv (.t 29))⟩,
    ⟨some 31, some (30, true), .p (.mv (.t 7))⟩,
    ⟨some 32, some (30, true), .p (.bin .gtr (.t 31) (.k (.c (C.int .i64 0))))⟩,
    ⟨some 33, none, .p (.pick (.t 30) (.t 32) (.k (.c (C.bool false))))⟩,
    ⟨some 34, none, .p (.mv (.t 33))⟩,
    ⟨some 35, some (34, true), .p (.mv (.t 2))⟩,
    ⟨some 36, some (34, true), .p (.fld 0 (.t 3))⟩,
    ⟨some 37, some (34, true), .p (.ixA 6 4 (.t 36) (.t 35))⟩,
    ⟨some 38, some (34, true), .h (.load 4 true (.t 37))⟩,
    ⟨some 39, some (34, true), .h (.call (.f 79) [.t 38])⟩,
    ⟨some 40, some (34, true), .p (.bin .lss (.t 39) (.k (.c (C.int .i64 4))))⟩,
    ⟨some 41, none, .p (.pick (.t 34) (.t 40) (.k (.c (C.bool false))))⟩,
    ⟨some 42, none, .p (.mv (.t 41))⟩,
    ⟨some 43, some (42, true), .p (.mv (.t 9))⟩,
    ⟨some 44, some (42, true), .p (.bin .eql (.t 43) (.k (.c (C.int .i64 0))))⟩,
    ⟨some 45, some (42, true), .p (.mv (.t 44))⟩,
    ⟨some 46, some (45, false), .p (.mv (.t 9))⟩,
    ⟨some 47, some (45, false), .p (.mv (.t 7))⟩,
    ⟨some 48, some (45, false), .p (.bin .eql (.t 46) (.t 47))⟩,
    ⟨some 49, some (42, true), .p (.pick (.t 45) (.k (.c (C.bool true))) (.t 48))⟩,
    ⟨some 50, none, .p (.pick (.t 42) (.t 49) (.k (.c (C.bool false))))⟩,
    ⟨some 6, none, .p (.mv (.t 50))⟩] [6])
  .ret)))) }
theorem a53_ok : okFn Tryz.prog 53 a53 = true := by kernel_rfl
/-- loop.example/g01215/impl.pour -/
def a54 : AFn := { np := 3, nt := 58, res := [.cell 6 24 true, .t 7], body :=
  (.seq (.region [⟨some 3, none, .p (.box 24 (.t 0))⟩,
    ⟨some 6, none, .p (.alloc (List.replicate 24 (.k (C.int .i64 0))))⟩,
    ⟨some 7, none, .p (.mv (.k (.c (C.int .i64 0))))⟩] [1, 2, 3, 6])
  (.seq (.region [⟨some 14, none, .p (.mv (.t 1))⟩,
    ⟨some 15, none, .p (.fld 0 (.t 3))⟩,
    ⟨some 16, none, .p (.ixA 6 4 (.t 15) (.t 14))⟩,
    ⟨some 17, none, .h (.load 4 true (.t 16))⟩,
    ⟨some 18, none, .h (.call (.f 78) [.t 17])⟩,
    ⟨some 13, none, .p (.mv (.t 18))⟩,
    ⟨some 19, none, .p (.ext (.t 13) 0)⟩,
    ⟨some 20, none, .p (.ext (.t 13) 1)⟩,
    ⟨some 8, none, .p (.mv (.t 19))⟩,
    ⟨some 9, none, .p (.mv (.t 20))⟩] [1, 2, 3, 6, 8, 9])
  (.seq (.regionD [⟨some 21, none, .p (.mv (.t 1))⟩,
    ⟨some 22, none, .p (.fld 0 (.t 3))⟩,
    ⟨some 23, none, .p (.ixA 6 4 (.t 22) (.t 21))⟩,
    ⟨some 24, none, .h (.load 4 true (.t 23))⟩,
    ⟨some 25, none, .h (.call (.f 79) [.t 24])⟩,
    ⟨some 26, none, .p (.mv (.t 2))⟩,
    ⟨some 27, none, .p (.fld 0 (.t 3))⟩,
    ⟨some 28, none, .p (.ixA 6 4 (.t 27) (.t 26))⟩,
    ⟨some 29, none, .h (.load 4 true (.t 28))⟩,
    ⟨some 30, none, .h (.call (.f 79) [.t 29])⟩,
    ⟨some 10, none, .p (.mv (.t 25))⟩,
    ⟨some 11, none, .p (.mv (.t 30))⟩] [1, 2, 3, 6, 8, 9, 10, 11] [])
  (.seq (.region [⟨some 31, none, .p (.mv (.t 9))⟩,
    ⟨some 32, none, .p (.mv (.t 11))⟩,
    ⟨some 33, none, .p (.bin .sub (.k (.c (C.int .i64 4))) (.t 32))⟩,
    ⟨some 34, none, .p (.mnmx false [.t 31, .t 33])⟩,
    ⟨some 9, none, .p (.mv (.t 34))⟩] [1, 2, 3, 6, 8, 9, 10, 11])
  (.seq (.seq (.region [⟨some 35, none, .p (.mv (.t 9))⟩,
    ⟨some 36, none, .p (.mv (.k (.c (C.int .i64 0))))⟩] [1, 2, 3, 6, 8, 9, 10, 11, 35, 36])
  (.block 0 (.loop (.seq (.region [⟨some 37, none, .p (.bin .lss (.t 36) (.t 35))⟩] [1, 2, 3, 6, 8, 9, 10, 11, 35, 36, 37])
  (.seq (.cond (.t 37)
  .skip
  (.exit 0))
  (.seq (.block 1 (.seq (.region [⟨some 38, none, .p (.mv (.t 36))⟩,
    ⟨some 12, none, .p (.mv (.t 38))⟩] [1, 2, 3, 6, 8, 9, 10, 11, 12, 35, 36])
  (.seq (.region [⟨some 39, none, .p (.mv (.t 1))⟩,
    ⟨some 40, none, .p (.mv (.t 10))⟩,
    ⟨some 41, none, .p (.bin .sub (.t 40) (.k (.c (C.int .i64 1))))⟩,
    ⟨some 42, none, .p (.mv (.t 12))⟩,
    ⟨some 43, none, .p (.bin .sub (.t 41) (.t 42))⟩,
    ⟨some 44, none, .p (.fld 0 (.t 3))⟩,
    ⟨some 45, none, .p (.ixA 6 4 (.t 44) (.t 39))⟩,
    ⟨some 46, none, .p (.ixA 4 1 (.t 45) (.t 43))⟩,
    ⟨none, none, .h (.store 1 (.t 46) (.k (.c (C.int .i64 0))))⟩] [1, 2, 3, 6, 8, 9, 10, 11, 12, 35, 36])
  (.region [⟨some 47, none, .p (.mv (.t 2))⟩,
    ⟨some 48, none, .p (.mv (.t 11))⟩,
    ⟨some 49, none, .p (.mv (.t 12))⟩,
    ⟨some 50, none, .p (.bin .add (.t 48) (.t 49))⟩,
    ⟨some 51, none, .p (.mv (.t 8))⟩,
    ⟨some 52, none, .p (.fld 0 (.t 3))⟩,
    ⟨some 53, none, .p (.ixA 6 4 (.t 52) (.t 47))⟩,
    ⟨some 54, none, .p (.ixA 4 1 (.t 53) (.t 50))⟩,
    ⟨none, none, .h (.store 1 (.t 54) (.t 51))⟩] [1, 2, 3, 6, 8, 9, 10, 11, 35, 36]))))
  (.region [⟨some 55, none, .p (.bin .add (.t 36) (.k (.c (C.int .i64 1))))⟩,
    ⟨some 36, none, .p (.mv (.t 55))⟩] [1, 2, 3, 6, 8, 9, 10, 11, 35, 36])))) [1, 2, 3, 6, 8, 9, 10, 11, 35, 36])))
  (.seq (.region [⟨some 56, none, .h (.load 24 true (.t 3))⟩,
    ⟨some 57, none, .p (.mv (.t 9))⟩,
    ⟨none, none, .h (.store 24 (.t 6) (.t 56))⟩,
    ⟨some 7, none, .p (.mv (.t 57))⟩] [6, 7])
  .ret)))))) }
theorem a54_ok : okFn Tryz.prog 54 a54 = true := by kernel_rfl
/-- (*loop.example/g01215/spec.l1Cur).pick -/
def a55 : AFn := { np := 2, nt := 20, res := [.t 4], body :=
  (.seq (.region [⟨some 4, none, .p (.mv (.k (.c (C.int .i64 0))))⟩] [0, 1])
  (.seq (.seq (.region [⟨some 6, none, .p (.mv (.t 1))⟩,
    ⟨some 7, none, .p (.bin .leq (.t 6) (.k (.c (C.int .i64 1))))⟩] [0, 1, 7])
  (.cond (.t 7)
  (.seq (.region [⟨some 4, none, .p (.mv (.k (.c (C.int .i64 0))))⟩] [4])
  .ret)
  .skip))
  (.seq (.region [⟨some 8, none, .p (.mv (.t 0))⟩,
    ⟨some 9, none, .h (.call (.f 80) [.t 8])⟩,
    ⟨some 5, none, .p (.mv (.t 9))⟩] [0, 1, 5])
  (.seq (.seq (.region [⟨some 10, none, .p (.mv (.t 1))⟩,
    ⟨some 11, none, .p (.bin .gtr (.t 10) (.k (.c (C.int .i64 200))))⟩] [0, 1, 5, 11])
  (.cond (.t 11)
  (.region [⟨some 12, none, .p (.mv (.t 5))⟩,
    ⟨some 13, none, .p (.bin .mul (.t 12) (.k (.c (C.int .i64 256))))⟩,
    ⟨some 14, none, .p (.mv (.t 0))⟩,
    ⟨some 15, none, .h (.call (.f 80) [.t 14])⟩,
    ⟨some 16, none, .p (.bin .add (.t 13) (.t 15))⟩,
    ⟨some 5, none, .p (.mv (.t 16))⟩] [1, 5])
  .skip))
  (.seq (.region [⟨some 17, none, .p (.mv (.t 5))⟩,
    ⟨some 18, none, .p (.mv (.t 1))⟩,
    ⟨some 19, none, .p (.bin .rem (.t 17) (.t 18))⟩,
    ⟨some 4, none, .p (.mv (.t 19))⟩] [4])
  .ret))))) }
theorem a55_ok : okFn Tryz.prog 55 a55 = true := by kernel_rfl
/-- (*loop.example/g01215/spec.l1Cur).near -/
def a56 : AFn := { np := 1, nt := 52, res := [.cell 2 24 true], body :=
  (.seq (.region [⟨some 2, none, .p (.alloc (List.replicate 24 (.k (C.int .i64 0))))⟩] [0, 2])
  (.seq (.seq (.region [⟨some 8, none, .p (.mv (.t 0))⟩,
    ⟨some 9, none, .h (.call (.f 42) [.t 8, .k (.c (C.int .i64 3))])⟩] [0, 2, 9])
  (.cond (.t 9)
  (.seq (.region [⟨some 10, none, .p (.mv (.t 0))⟩,
    ⟨some 11, none, .h (.call (.f 81) [.t 10])⟩,
    ⟨none, none, .h (.store 24 (.t 2) (.t 11))⟩] [2])
  .ret)
  .skip))
  (.seq (.region [⟨some 12, none, .p (.build (List.replicate 24 (.k (C.int .i64 0))) [])⟩,
    ⟨some 3, none, .p (.alloc (List.replicate 24 (.k (C.int .i64 0))))⟩,
    ⟨none, none, .h (.store 24 (.t 3) (.t 12))⟩] [0, 2, 3])
  (.seq (.seq (.region [⟨some 4, none, .p (.mv (.k (.c (C.int .i64 0))))⟩] [0, 2, 3, 4])
  (.block 0 (.loop (.seq (.seq (.region [⟨some 13, none, .p (.mv (.t 4))⟩,
    ⟨some 14, none, .p (.mv (.t 0))⟩,
    ⟨some 15, none, .p (.mksl 1 4 [.k (C.int .i64 0)] [(0, 1, .k (.c (C.int .i64 3))), (1, 1, .k (.c (C.int .i64 4))), (2, 1, .k (.c (C.int .i64 5))), (3, 1, .k (.c (C.int .i64 6)))])⟩,
    ⟨some 16, none, .h (.call (.f 28) [.t 14, .t 15])⟩,
    ⟨some 17, none, .p (.bin .lss (.t 13) (.t 16))⟩] [0, 2, 3, 4, 17])
  (.cond (.t 17)
  .skip
  (.exit 0)))
  (.seq (.block 1 (.seq (.region [⟨some 20, none, .p (.mv (.t 0))⟩,
    ⟨some 21, none, .h (.call (.f 55) [.t 20, .k (.c (C.int .i64 3))])⟩,
    ⟨some 22, none, .p (.bin .add (.k (.c (C.int .i64 1))) (.t 21))⟩,
    ⟨some 23, none, .p (.mv (.t 0))⟩,
    ⟨some 24, none, .p (.mksl 1 5 [.k (C.int .i64 0)] [(0, 1, .k (.c (C.int .i64 3))), (1, 1, .k (.c (C.int .i64 2))), (2, 1, .k (.c (C.int .i64 3))), (3, 1, .k (.c (C.int .i64 4))), (4, 1, .k (.c (C.int .i64 1)))])⟩,
    ⟨some 25, none, .h (.call (.f 28) [.t 23, .t 24])⟩,
    ⟨some 5, none, .p (.mv (.t 22))⟩,
    ⟨some 6, none, .p (.mv (.t 25))⟩] [0, 2, 3, 4, 5, 6])
  (.seq (.region [⟨some 7, none, .p (.mv (.k (.c (C.int .i64 0))))⟩] [0, 2, 3, 4, 5, 6, 7])
  (.block 2 (.loop (.seq (.seq (.region [⟨some 26, none, .p (.mv (.t 7))⟩,
    ⟨some 27, none, .p (.mv (.t 6))⟩,
    ⟨some 28, none, .p (.bin .lss (.t 26) (.t 27))⟩] [0, 2, 3, 4, 5, 6, 7, 28])
  (.cond (.t 28)
  .skip
  (.exit 2)))
  (.seq (.block 3 (.seq (.region [⟨some 31, none, .p (.mv (.t 4))⟩,
    ⟨some 32, none, .p (.mv (.t 7))⟩,
    ⟨some 33, none, .p (.mv (.t 5))⟩,
    ⟨some 34, none, .p (.fld 0 (.t 3))⟩,
    ⟨some 35, none, .p (.ixA 6 4 (.t 34) (.t 31))⟩,
    ⟨some 36, none, .p (.ixA 4 1 (.t 35) (.t 32))⟩,
    ⟨none, none, .h (.store 1 (.t 36) (.t 33))⟩] [0, 2, 3, 4, 5, 6, 7])
  (.seq (.region [⟨some 37, none, .p (.mv (.t 7))⟩,
    ⟨some 38, none, .p (.bin .eql (.t 37) (.k (.c (C.int .i64 0))))⟩,
    ⟨some 39, none, .p (.mv (.t 38))⟩,
    ⟨some 40, some (39, true), .p (.mv (.t 0))⟩,
    ⟨some 41, some (39, true), .h (.call (.f 42) [.t 40, .k (.c (C.int .i64 3))])⟩,
    ⟨some 42, none, .p (.pick (.t 39) (.t 41) (.k (.c (C.bool false))))⟩] [0, 2, 3, 4, 5, 6, 7, 42])
  (.cond (.t 42)
  (.regionE [⟨some 43, none, .p (.mv (.t 4))⟩,
    ⟨some 44, none, .p (.mv (.t 7))⟩,
    ⟨some 45, none, .p (.mv (.t 0))⟩,
    ⟨some 46, none, .h (.call (.f 55) [.t 45, .k (.c (C.int .i64 4))])⟩,
    ⟨some 47, none, .p (.bin .add (.k (.c (C.int .i64 1))) (.t 46))⟩,
    ⟨some 48, none, .p (.fld 0 (.t 3))⟩,
    ⟨some 49, none, .p (.ixA 6 4 (.t 48) (.t 43))⟩,
    ⟨some 50, none, .p (.ixA 4 1 (.t 49) (.t 44))⟩,
    ⟨none, none, .h (.store 1 (.t 50) (.t 47))⟩] [0, 2, 3, 4, 5, 6, 7] [] [[], [], [], [3]])
  .skip))))
  (.region [⟨some 29, none, .p (.mv (.t 7))⟩,
    ⟨some 30, none, .p (.bin .add (.t 29) (.k (.c (C.int .i64 1))))⟩,
    ⟨some 7, none, .p (.mv (.t 30))⟩] [0, 2, 3, 4, 5, 6, 7]))) [0, 2, 3, 4, 5, 6, 7])))))
  (.region [⟨some 18, none, .p (.mv (.t 4))⟩,
    ⟨some 19, none, .p (.bin .add (.t 18) (.k (.c (C.int .i64 1))))⟩,
    ⟨some 4, none, .p (.mv (.t 19))⟩] [0, 2, 3, 4]))) [0, 2, 3, 4])))
  (.seq (.region [⟨some 51, none, .h (.load 24 true (.t 3))⟩,
    ⟨none, none, .h (.store 24 (.t 2) (.t 51))⟩] [2])
  .ret))))) }
theorem a56_ok : okFn Tryz.prog 56 a56 = true := by kernel_rfl
/-- loop.example/g01215/spec.l2Rack -/
def a57 : AFn := { np := 1, nt := 44, res := [.t 2], body :=
  (.seq (.region [⟨some 1, none, .p (.box 24 (.t 0))⟩,
    ⟨some 2, none, .p (.mv (.k (.c (C.bool false))))⟩] [1])
  (.seq (.seq (.region [⟨some 3, none, .p (.mv (.k (.c (C.int .i64 0))))⟩] [1, 3])
  (.block 0 (.loop (.seq (.seq (.region [⟨some 5, none, .p (.mv (.t 3))⟩,
    ⟨some 6, none, .p (.bin .lss (.t 5) (.k (.c (C.int .i64 6))))⟩] [1, 3, 6])
  (.cond (.t 6)
  .skip
  (.exit 0)))
  (.seq (.block 1 (.seq (.region [⟨some 4, none, .p (.mv (.k (.c (C.int .i64 0))))⟩] [1, 3, 4])
  (.block 2 (.loop (.seq (.seq (.region [⟨some 9, none, .p (.mv (.t 4))⟩,
    ⟨some 10, none, .p (.bin .lss (.t 9) (.k (.c (C.int .i64 4))))⟩] [1, 3, 4, 10])
  (.cond (.t 10)
  .skip
  (.exit 2)))
  (.seq (.block 3 (.seq (.region [⟨some 13, none, .p (.mv (.t 3))⟩,
    ⟨some 14, none, .p (.mv (.t 4))⟩,
    ⟨some 15, none, .p (.fld 0 (.t 1))⟩,
    ⟨some 16, none, .p (.ixA 6 4 (.t 15) (.t 13))⟩,
    ⟨some 17, none, .p (.ixA 4 1 (.t 16) (.t 14))⟩,
    ⟨some 18, none, .h (.load 1 false (.t 17))⟩,
    ⟨some 19, none, .h (.call (.f 33) [.t 18, .k (.c (C.int .i64 0)), .k (.c (C.int .i64 5))])⟩,
    ⟨some 20, none, .p (.un .not (.t 19))⟩,
    ⟨some 21, none, .p (.mv (.t 20))⟩,
    ⟨some 22, some (21, false), .p (.mv (.t 4))⟩,
    ⟨some 23, some (21, false), .p (.bin .gtr (.t 22) (.k (.c (C.int .i64 0))))⟩,
    ⟨some 24, some (21, false), .p (.mv (.t 23))⟩,
    ⟨some 25, some (24, true), .p (.mv (.t 3))⟩,
    ⟨some 26, some (24, true), .p (.mv (.t 4))⟩,
    ⟨some 27, some (24, true), .p (.fld 0 (.t 1))⟩,
    ⟨some 28, some (24, true), .p (.ixA 6 4 (.t 27) (.t 25))⟩,
    ⟨some 29, some (24, true), .p (.ixA 4 1 (.t 28) (.t 26))⟩,
    ⟨some 30, some (24, true), .h (.load 1 false (.t 29))⟩,
    ⟨some 31, some (24, true), .p (.bin .gtr (.t 30) (.k (.c (C.int .i64 0))))⟩,
    ⟨some 32, some (21, false), .p (.pick (.t 24) (.t 31) (.k (.c (C.bool false))))⟩,
    ⟨some 33, some (21, false), .p (.mv (.t 32))⟩,
    ⟨some 34, some (33, true), .p (.mv (.t 3))⟩,
    ⟨some 35, some (33, true), .p (.mv (.t 4))⟩,
    ⟨some 36, some (33, true), .p (.bin .sub (.t 35) (.k (.c (C.int .i64 1))))⟩,
    ⟨some 37, some (33, true), .p (.fld 0 (.t 1))⟩,
    ⟨some 38, some (33, true), .p (.ixA 6 4 (.t 37) (.t 34))⟩,
    ⟨some 39, some (33, true), .p (.ixA 4 1 (.t 38) (.t 36))⟩,
    ⟨some 40, some (33, true), .h (.load 1 false (.t 39))⟩,
    ⟨some 41, some (33, true), .p (.bin .eql (.t 40) (.k (.c (C.int .i64 0))))⟩,
    ⟨some 42, some (21, false), .p (.pick (.t 33) (.t 41) (.k (.c (C.bool false))))⟩,
    ⟨some 43, none, .p (.pick (.t 21) (.k (.c (C.bool true))) (.t 42))⟩] [1, 3, 4, 43])
  (.cond (.t 43)
  (.seq (.region [⟨some 2, none, .p (.mv (.k (.c (C.bool false))))⟩] [2])
  .ret)
  .skip)))
  (.region [⟨some 11, none, .p (.mv (.t 4))⟩,
    ⟨some 12, none, .p (.bin .add (.t 11) (.k (.c (C.int .i64 1))))⟩,
    ⟨some 4, none, .p (.mv (.t 12))⟩] [1, 3, 4]))) [1, 3, 4]))))
  (.region [⟨some 7, none, .p (.mv (.t 3))⟩,
    ⟨some 8, none, .p (.bin .add (.t 7) (.k (.c (C.int .i64 1))))⟩,
    ⟨some 3, none, .p (.mv (.t 8))⟩] [1, 3]))) [1, 3])))
  (.seq (.region [⟨some 2, none, .p (.mv (.k (.c (C.bool true))))⟩] [2])
  .ret))) }
theorem a57_ok : okFn Tryz.prog 57 a57 = true := by kernel_rfl
/-- loop.example/g01215/spec.l2Pours -/
def a58 : AFn := { np := 1, nt := 26, res := [.t 2], body :=
  (.seq (.region [⟨some 1, none, .p (.box 24 (.t 0))⟩,
    ⟨some 2, none, .p (.nilsl 2)⟩] [1])
  (.seq (.region [⟨some 6, none, .p (.mksl 2 0 [.k (C.int .i64 0), .k (C.int .i64 0)] [])⟩,
    ⟨some 3, none, .p (.mv (.t 6))⟩] [1, 3])
  (.seq (.seq (.region [⟨some 4, none, .p (.mv (.k (.c (C.int .i64 0))))⟩] [1, 3, 4])
  (.block 0 (.loop (.seq (.seq (.region [⟨some 7, none, .p (.mv (.t 4))⟩,
    ⟨some 8, none, .p (.bin .lss (.t 7) (.k (.c (C.int .i64 6))))⟩] [1, 3, 4, 8])
  (.cond (.t 8)
  .skip
  (.exit 0)))
  (.seq (.block 1 (.seq (.region [⟨some 5, none, .p (.mv (.k (.c (C.int .i64 0))))⟩] [1, 3, 4, 5])
  (.block 2 (.loop (.seq (.seq (.region [⟨some 11, none, .p (.mv (.t 5))⟩,
    ⟨some 12, none, .p (.bin .lss (.t 11) (.k (.c (C.int .i64 6))))⟩] [1, 3, 4, 5, 12])
  (.cond (.t 12)
  .skip
  (.exit 2)))
  (.seq (.block 3 (.seq (.region [⟨some 15, none, .h (.load 24 true (.t 1))⟩,
    ⟨some 16, none, .p (.mv (.t 4))⟩,
    ⟨some 17, none, .p (.mv (.t 5))⟩,
    ⟨some 18, none, .h (.call (.f 64) [.t 15, .t 16, .t 17])⟩] [1, 3, 4, 5, 18])
  (.cond (.t 18)
  (.region [⟨some 19, none, .p (.mv (.t 3))⟩,
    ⟨some 20, none, .p (.mv (.t 4))⟩,
    ⟨some 21, none, .p (.mv (.t 5))⟩,
    ⟨some 22, none, .p (.build [.k (C.int .i64 0), .k (C.int .i64 0)] [(0, 1, .t 20), (1, 1, .t 21)])⟩,
    ⟨some 23, none, .p (.mksl 2 1 [.k (C.int .i64 0), .k (C.int .i64 0)] [(0, 2, .t 22)])⟩,
    ⟨some 24, none, .h (.app 2 (.t 19) (.t 23))⟩,
    ⟨some 3, none, .p (.mv (.t 24))⟩] [1, 3, 4, 5])
  .skip)))
  (.region [⟨some 13, none, .p (.mv (.t 5))⟩,
    ⟨some 14, none, .p (.bin .add (.t 13) (.k (.c (C.int .i64 1))))⟩,
    ⟨some 5, none, .p (.mv (.t 14))⟩] [1, 3, 4, 5]))) [1, 3, 4, 5]))))
  (.region [⟨some 9, none, .p (.mv (.t 4))⟩,
    ⟨some 10, none, .p (.bin .add (.t 9) (.k (.c (C.int .i64 1))))⟩,
    ⟨some 4, none, .p (.mv (.t 10))⟩] [1, 3, 4]))) [1, 3, 4])))
  (.seq (.region [⟨some 25, none, .p (.mv (.t 3))⟩,
    ⟨some 2, none, .p (.mv (.t 25))⟩] [2])
  .ret)))) }
theorem a58_ok : okFn Tryz.prog 58 a58 = true := by kernel_rfl
/-- loop.example/g01215/spec.l6Good -/
def a59 : AFn := { np := 1, nt := 45, res := [.t 2], body :=
  (.seq (.region [⟨some 1, none, .p (.box 24 (.t 0))⟩,
    ⟨some 2, none, .p (.nilsl 2)⟩] [1])
  (.seq (.region [⟨some 8, none, .p (.mksl 2 0 [.k (C.int .i64 0), .k (C.int .i64 0)] [])⟩,
    ⟨some 9, none, .h (.load 24 true (.t 1))⟩,
    ⟨some 10, none, .h (.call (.f 58) [.t 9])⟩,
    ⟨some 3, none, .p (.mv (.t 8))⟩,
    ⟨some 4, none, .p (.mv (.t 10))⟩] [1, 3, 4])
  (.seq (.seq (.region [⟨some 5, none, .p (.mv (.k (.c (C.int .i64 0))))⟩] [1, 3, 4, 5])
  (.block 0 (.loop (.seq (.seq (.region [⟨some 11, none, .p (.mv (.t 5))⟩,
    ⟨some 12, none, .p (.mv (.t 4))⟩,
    ⟨some 13, none, .p (.len (.t 12))⟩,
    ⟨some 14, none, .p (.bin .lss (.t 11) (.t 13))⟩] [1, 3, 4, 5, 14])
  (.cond (.t 14)
  .skip
  (.exit 0)))
  (.seq (.block 1 (.seq (.regionD [⟨some 18, none, .h (.load 24 true (.t 1))⟩,
    ⟨some 19, none, .p (.mv (.t 4))⟩,
    ⟨some 20, none, .p (.mv (.t 5))⟩,
    ⟨some 21, none, .p (.ixS 2 (.t 19) (.t 20))⟩,
    ⟨some 22, none, .p (.ixA 2 1 (.t 21) (.k (.c (C.int .i64 0))))⟩,
    ⟨some 23, none, .h (.load 1 false (.t 22))⟩,
    ⟨some 24, none, .p (.mv (.t 4))⟩,
    ⟨some 25, none, .p (.mv (.t 5))⟩,
    ⟨some 26, none, .p (.ixS 2 (.t 24) (.t 25))⟩,
    ⟨some 27, none, .p (.ixA 2 1 (.t 26) (.k (.c (C.int .i64 1))))⟩,
    ⟨some 28, none, .h (.load 1 false (.t 27))⟩,
    ⟨some 29, none, .h (.call (.f 49) [.t 18, .t 23, .t 28])⟩,
    ⟨some 17, none, .p (.mv (.t 29))⟩,
    ⟨some 30, none, .p (.ext (.t 17) 0)⟩,
    ⟨some 31, none, .p (.ext (.t 17) 1)⟩,
    ⟨some 6, none, .p (.alloc (List.replicate 24 (.k (C.int .i64 0))))⟩,
    ⟨none, none, .h (.store 24 (.t 6) (.t 30))⟩,
    ⟨some 7, none, .p (.mv (.t 31))⟩] [1, 3, 4, 5, 6] [])
  (.seq (.regionD [⟨some 32, none, .h (.load 24 true (.t 6))⟩,
    ⟨some 33, none, .h (.call (.f 82) [.t 32])⟩,
    ⟨some 34, none, .h (.load 24 true (.t 1))⟩,
    ⟨some 35, none, .h (.call (.f 82) [.t 34])⟩,
    ⟨some 36, none, .p (.bin .lss (.t 33) (.t 35))⟩] [1, 3, 4, 5, 36] [])
  (.cond (.t 36)
  (.region [⟨some 37, none, .p (.mv (.t 3))⟩,
    ⟨some 38, none, .p (.mv (.t 4))⟩,
    ⟨some 39, none, .p (.mv (.t 5))⟩,
    ⟨some 40, none, .p (.ixS 2 (.t 38) (.t 39))⟩,
    ⟨some 41, none, .h (.load 2 true (.t 40))⟩,
    ⟨some 42, none, .p (.mksl 2 1 [.k (C.int .i64 0), .k (C.int .i64 0)] [(0, 2, .t 41)])⟩,
    ⟨some 43, none, .h (.app 2 (.t 37) (.t 42))⟩,
    ⟨some 3, none, .p (.mv (.t 43))⟩] [1, 3, 4, 5])
  .skip))))
  (.region [⟨some 15, none, .p (.mv (.t 5))⟩,
    ⟨some 16, none, .p (.bin .add (.t 15) (.k (.c (C.int .i64 1))))⟩,
    ⟨some 5, none, .p (.mv (.t 16))⟩] [1, 3, 4, 5]))) [1, 3, 4, 5])))
  (.seq (.region [⟨some 44, none, .p (.mv (.t 3))⟩,
    ⟨some 2, none, .p (.mv (.t 44))⟩] [2])
  .ret)))) }
theorem a59_ok : okFn Tryz.prog 59 a59 = true := by kernel_rfl
/-- (*loop.example/g01215/spec.l1Cur).place -/
def a60 : AFn := { np := 1, nt := 10, res := [.t 2], body :=
  (.seq (.region [⟨some 2, none, .p (.mv (.k (.c (C.int .i64 0))))⟩] [0])
  (.seq (.seq (.region [⟨some 3, none, .p (.mv (.t 0))⟩,
    ⟨some 4, none, .h (.call (.f 42) [.t 3, .k (.c (C.int .i64 40))])⟩] [0, 4])
  (.cond (.t 4)
  (.seq (.region [⟨some 5, none, .p (.mv (.t 0))⟩,
    ⟨some 6, none, .p (.mksl 1 3 [.k (C.int .i64 0)] [(0, 1, .k (.c (C.int .i64 (-1)))), (1, 1, .k (.c (C.int .i64 6))), (2, 1, .k (.c (C.int .i64 4611686018427387904)))])⟩,
    ⟨some 7, none, .h (.call (.f 28) [.t 5, .t 6])⟩,
    ⟨some 2, none, .p (.mv (.t 7))⟩] [2])
  .ret)
  .skip))
  (.seq (.region [⟨some 8, none, .p (.mv (.t 0))⟩,
    ⟨some 9, none, .h (.call (.f 55) [.t 8, .k (.c (C.int .i64 6))])⟩,
    ⟨some 2, none, .p (.mv (.t 9))⟩] [2])
  .ret))) }
theorem a60_ok : okFn Tryz.prog 60 a60 = true := by kernel_rfl
/-- loop.example/g01215/impl.canPourPath -/
def a61 : AFn := { np := 2, nt := 21, res := [.t 4], body :=
  (.seq (.region [⟨some 2, none, .p (.box 24 (.t 0))⟩,
    ⟨some 3, none, .p (.box 2 (.t 1))⟩,
    ⟨some 4, none, .p (.mv (.k (.c (C.bool false))))⟩] [2, 3])
  (.seq (.region [⟨some 5, none, .p (.ixA 2 1 (.t 3) (.k (.c (C.int .i64 0))))⟩,
    ⟨some 6, none, .h (.load 1 false (.t 5))⟩,
    ⟨some 7, none, .h (.call (.f 71) [.t 6])⟩,
    ⟨some 8, none, .p (.mv (.t 7))⟩,
    ⟨some 9, some (8, true), .p (.ixA 2 1 (.t 3) (.k (.c (C.int .i64 1))))⟩,
    ⟨some 10, some (8, true), .h (.load 1 false (.t 9))⟩,
    ⟨some 11, some (8, true), .h (.call (.f 71) [.t 10])⟩,
    ⟨some 12, none, .p (.pick (.t 8) (.t 11) (.k (.c (C.bool false))))⟩,
    ⟨some 13, none, .p (.mv (.t 12))⟩,
    ⟨some 14, some (13, true), .h (.load 24 true (.t 2))⟩,
    ⟨some 15, some (13, true), .p (.ixA 2 1 (.t 3) (.k (.c (C.int .i64 0))))⟩,
    ⟨some 16, some (13, true), .h (.load 1 false (.t 15))⟩,
    ⟨some 17, some (13, true), .p (.ixA 2 1 (.t 3) (.k (.c (C.int .i64 1))))⟩,
    ⟨some 18, some (13, true), .h (.load 1 false (.t 17))⟩,
    ⟨some 19, some (13, true), .h (.call (.f 53) [.t 14, .t 16, .t 18])⟩,
    ⟨some 20, none, .p (.pick (.t 13) (.t 19) (.k (.c (C.bool false))))⟩,
    ⟨some 4, none, .p (.mv (.t 20))⟩] [4])
  .ret)) }
theorem a61_ok : okFn Tryz.prog 61 a61 = true := by kernel_rfl
/-- slices.Concat[[][2]int,[2]int] -/
def a62 : AFn := { np := 1, nt := 36, res := [.t 2], body :=
  (.seq (.region [⟨some 2, none, .p (.nilsl 2)⟩] [0])
  (.seq (.region [⟨some 3, none, .p (.mv (.k (.c (C.int .i64 0))))⟩] [0, 3])
  (.seq (.seq (.region [⟨some 9, none, .p (.mv (.t 0))⟩,
    ⟨some 10, none, .p (.len (.t 9))⟩,
    ⟨some 11, none, .p (.mv (.k (.c (C.int .i64 0))))⟩] [0, 3, 9, 10, 11])
  (.block 0 (.loop (.seq (.region [⟨some 12, none, .p (.bin .lss (.t 11) (.t 10))⟩] [0, 3, 9, 10, 11, 12])
  (.seq (.cond (.t 12)
  .skip
  (.exit 0))
  (.seq (.block 1 (.seq (.region [⟨some 13, none, .p (.ixS 1 (.t 9) (.t 11))⟩,
    ⟨some 14, none, .h (.load 1 false (.t 13))⟩,
    ⟨some 5, none, .p (.mv (.t 14))⟩] [0, 3, 5, 9, 10, 11])
  (.seq (.region [⟨some 15, none, .p (.mv (.t 3))⟩,
    ⟨some 16, none, .p (.mv (.t 5))⟩,
    ⟨some 17, none, .p (.len (.t 16))⟩,
    ⟨some 18, none, .p (.bin .add (.t 15) (.t 17))⟩,
    ⟨some 3, none, .p (.mv (.t 18))⟩] [0, 3, 9, 10, 11])
  (.seq (.region [⟨some 19, none, .p (.mv (.t 3))⟩,
    ⟨some 20, none, .p (.bin .lss (.t 19) (.k (.c (C.int .i64 0))))⟩] [0, 3, 9, 10, 11, 20])
  (.cond (.t 20)
  (.region [⟨some 21, none, .p (.bad)⟩,
    ⟨none, none, .p (.bad)⟩] [0, 3, 9, 10, 11])
  .skip)))))
  (.region [⟨some 22, none, .p (.bin .add (.t 11) (.k (.c (C.int .i64 1))))⟩,
    ⟨some 11, none, .p (.mv (.t 22))⟩] [0, 3, 9, 10, 11])))) [0, 3, 9, 10, 11])))
  (.seq (.region [⟨some 23, none, .p (.mv (.t 3))⟩,
    ⟨some 24, none, .h (.call (.f 83) [.k (.c (C.nsl)), .t 23])⟩,
    ⟨some 6, none, .p (.mv (.t 24))⟩] [0, 6])
  (.seq (.seq (.region [⟨some 25, none, .p (.mv (.t 0))⟩,
    ⟨some 26, none, .p (.len (.t 25))⟩,
    ⟨some 27, none, .p (.mv (.k (.c (C.int .i64 0))))⟩] [6, 25, 26, 27])
  (.block 2 (.loop (.seq (.region [⟨some 28, none, .p (.bin .lss (.t 27) (.t 26))⟩] [6, 25, 26, 27, 28])
  (.seq (.cond (.t 28)
  .skip
  (.exit 2))
  (.seq (.block 3 (.seq (.region [⟨some 29, none, .p (.ixS 1 (.t 25) (.t 27))⟩,
    ⟨some 30, none, .h (.load 1 false (.t 29))⟩,
    ⟨some 8, none, .p (.mv (.t 30))⟩] [6, 8, 25, 26, 27])
  (.region [⟨some 31, none, .p (.mv (.t 6))⟩,
    ⟨some 32, none, .p (.mv (.t 8))⟩,
    ⟨some 33, none, .h (.app 2 (.t 31) (.t 32))⟩,
    ⟨some 6, none, .p (.mv (.t 33))⟩] [6, 25, 26, 27])))
  (.region [⟨some 34, none, .p (.bin .add (.t 27) (.k (.c (C.int .i64 1))))⟩,
    ⟨some 27, none, .p (.mv (.t 34))⟩] [6, 25, 26, 27])))) [6, 25, 26, 27])))
  (.seq (.region [⟨some 35, none, .p (.mv (.t 6))⟩,
    ⟨some 2, none, .p (.mv (.t 35))⟩] [2])
  .ret)))))) }
theorem a62_ok : okFn Tryz.prog 62 a62 = true := by kernel_rfl
/-- loop.example/g01215/spec.l2Place -/
def a63 : AFn := { np := 1, nt := 5, res := [.t 2], body :=
  (.seq (.region [⟨some 2, none, .p (.mv (.k (.c (C.bool false))))⟩] [0])
  (.seq (.region [⟨some 3, none, .p (.mv (.t 0))⟩,
    ⟨some 4, none, .h (.call (.f 33) [.t 3, .k (.c (C.int .i64 0)), .k (.c (C.int .i64 5))])⟩,
    ⟨some 2, none, .p (.mv (.t 4))⟩] [2])
  .ret)) }
theorem a63_ok : okFn Tryz.prog 63 a63 = true := by kernel_rfl
/-- loop.example/g01215/spec.l2Can -/
def a64 : AFn := { np := 3, nt := 51, res := [.t 6], body :=
  (.seq (.region [⟨some 3, none, .p (.box 24 (.t 0))⟩,
    ⟨some 6, none, .p (.mv (.k (.c (C.bool false))))⟩] [1, 2, 3])
  (.seq (.region [⟨some 12, none, .p (.mv (.t 1))⟩,
    ⟨some 13, none, .p (.fld 0 (.t 3))⟩,
    ⟨some 14, none, .p (.ixA 6 4 (.t 13) (.t 12))⟩,
    ⟨some 15, none, .h (.load 4 true (.t 14))⟩,
    ⟨some 16, none, .h (.call (.f 72) [.t 15])⟩,
    ⟨some 11, none, .p (.mv (.t 16))⟩,
    ⟨some 17, none, .p (.ext (.t 11) 0)⟩,
    ⟨some 18, none, .p (.ext (.t 11) 1)⟩,
    ⟨some 7, none, .p (.mv (.t 17))⟩,
    ⟨some 8, none, .p (.mv (.t 18))⟩] [1, 2, 3, 7, 8])
  (.seq (.region [⟨some 20, none, .p (.mv (.t 2))⟩,
    ⟨some 21, none, .p (.fld 0 (.t 3))⟩,
    ⟨some 22, none, .p (.ixA 6 4 (.t 21) (.t 20))⟩,
    ⟨some 23, none, .h (.load 4 true (.t 22))⟩,
    ⟨some 24, none, .h (.call (.f 72) [.t 23])⟩,
    ⟨some 19, none, .p (.mv (.t 24))⟩,
    ⟨some 25, none, .p (.ext (.t 19) 0)⟩,
    ⟨some 26, none, .p (.ext (.t 19) 1)⟩,
    ⟨some 9, none, .p (.mv (.t 25))⟩,
    ⟨some 10, none, .p (.mv (.t 26))⟩] [1, 2, 3, 7, 8, 9])
  (.seq (.region [⟨some 27, none, .p (.mv (.t 1))⟩,
    ⟨some 28, none, .p (.mv (.t 2))⟩,
    ⟨some 29, none, .p (.bin .neq (.t 27) (.t 28))⟩,
    ⟨some 30, none, .p (.mv (.t 29))⟩,
    ⟨some 31, some (30, true), .p (.mv (.t 8))⟩,
    ⟨some 32, some (30, true), .p (.bin .gtr (.t 31) (.k (.c (C.int .i64 0))))⟩,
    ⟨some 33, none, .p (.pick (.t 30) (.t 32) (.k (.c (C.bool false))))⟩,
    ⟨some 34, none, .p (.mv (.t 33))⟩,
    ⟨some 35, some (34, true), .p (.mv (.t 2))⟩,
    ⟨some 36, some (34, true), .p (.fld 0 (.t 3))⟩,
    ⟨some 37, some (34, true), .p (.ixA 6 4 (.t 36) (.t 35))⟩,
    ⟨some 38, some (34, true), .h (.load 4 true (.t 37))⟩,
    ⟨some 39, some (34, true), .h (.call (.f 73) [.t 38])⟩,
    ⟨some 40, some (34, true), .p (.bin .lss (.t 39) (.k (.c (C.int .i64 4))))⟩,
    ⟨some 41, none, .p (.pick (.t 34) (.t 40) (.k (.c (C.bool false))))⟩,
    ⟨some 42, none, .p (.mv (.t 41))⟩,
    ⟨some 43, some (42, true), .p (.mv (.t 9))⟩,
    ⟨some 44, some (42, true), .p (.bin .eql (.t 43) (.k (.c (C.int .i64 0))))⟩,
    ⟨some 45, some (42, true), .p (.mv (.t 44))⟩,
    ⟨some 46, some (45, false), .p (.mv (.t 9))⟩,
    ⟨some 47, some (45, false), .p (.mv (.t 7))⟩,
    ⟨some 48, some (45, false), .p (.bin .eql (.t 46) (.t 47))⟩,
    ⟨some 49, some (42, true), .p (.pick (.t 45) (.k (.c (C.bool true))) (.t 48))⟩,
    ⟨some 50, none, .p (.pick (.t 42) (.t 49) (.k (.c (C.bool false))))⟩,
    ⟨some 6, none, .p (.mv (.t 50))⟩] [6])
  .ret)))) }
theorem a64_ok : okFn Tryz.prog 64 a64 = true := by kernel_rfl
/-- loop.example/g01215/impl.rackText -/
def a65 : AFn := { np := 1, nt := 30, res := [.t 2], body :=
  (.seq (.region [⟨some 1, none, .p (.box 24 (.t 0))⟩,
    ⟨some 2, none, .p (.mv (.k (.c (C.str []))))⟩] [1])
  (.seq (.region [⟨some 3, none, .p (.nilsl 1)⟩] [1, 3])
  (.seq (.seq (.region [⟨some 9, none, .p (.fld 0 (.t 1))⟩,
    ⟨some 10, none, .h (.load 24 true (.t 9))⟩,
    ⟨some 11, none, .p (.mv (.k (.c (C.int .i64 0))))⟩] [3, 10, 11])
  (.block 0 (.loop (.seq (.region [⟨some 12, none, .p (.bin .lss (.t 11) (.k (.c (C.int .i64 6))))⟩] [3, 10, 11, 12])
  (.seq (.cond (.t 12)
  .skip
  (.exit 0))
  (.seq (.block 1 (.seq (.region [⟨some 13, none, .p (.ixV 6 4 true (.t 10) (.t 11))⟩,
    ⟨some 5, none, .p (.alloc [.k (C.int .i64 0), .k (C.int .i64 0), .k (C.int .i64 0), .k (C.int .i64 0)])⟩,
    ⟨none, none, .h (.store 4 (.t 5) (.t 13))⟩] [3, 5, 10, 11])
  (.seq (.region [⟨some 6, none, .p (.mv (.k (.c (C.str []))))⟩] [3, 5, 6, 10, 11])
  (.seq (.seq (.region [⟨some 14, none, .h (.load 4 true (.t 5))⟩,
    ⟨some 15, none, .p (.mv (.k (.c (C.int .i64 0))))⟩] [3, 6, 10, 11, 14, 15])
  (.block 2 (.loop (.seq (.region [⟨some 16, none, .p (.bin .lss (.t 15) (.k (.c (C.int .i64 4))))⟩] [3, 6, 10, 11, 14, 15, 16])
  (.seq (.cond (.t 16)
  .skip
  (.exit 2))
  (.seq (.block 3 (.seq (.region [⟨some 17, none, .p (.ixV 4 1 false (.t 14) (.t 15))⟩,
    ⟨some 8, none, .p (.mv (.t 17))⟩] [3, 6, 8, 10, 11, 14, 15])
  (.region [⟨some 18, none, .p (.mv (.t 6))⟩,
    ⟨some 19, none, .p (.mv (.t 8))⟩,
    ⟨some 20, none, .h (.call (.f 84) [.t 19])⟩,
    ⟨some 21, none, .p (.bin .add (.t 18) (.t 20))⟩,
    ⟨some 6, none, .p (.mv (.t 21))⟩] [3, 6, 10, 11, 14, 15])))
  (.region [⟨some 22, none, .p (.bin .add (.t 15) (.k (.c (C.int .i64 1))))⟩,
    ⟨some 15, none, .p (.mv (.t 22))⟩] [3, 6, 10, 11, 14, 15])))) [3, 6, 10, 11, 14, 15])))
  (.region [⟨some 23, none, .p (.mv (.t 3))⟩,
    ⟨some 24, none, .p (.mv (.t 6))⟩,
    ⟨some 25, none, .p (.mksl 1 1 [.k (C.str [])] [(0, 1, .t 24)])⟩,
    ⟨some 26, none, .h (.app 1 (.t 23) (.t 25))⟩,
    ⟨some 3, none, .p (.mv (.t 26))⟩] [3, 10, 11])))))
  (.region [⟨some 27, none, .p (.bin .add (.t 11) (.k (.c (C.int .i64 1))))⟩,
    ⟨some 11, none, .p (.mv (.t 27))⟩] [3, 10, 11])))) [3, 10, 11])))
  (.seq (.region [⟨some 28, none, .p (.mv (.t 3))⟩,
    ⟨some 29, none, .h (.call (.f 85) [.t 28, .k (.c (C.str [47]))])⟩,
    ⟨some 2, none, .p (.mv (.t 29))⟩] [2])
  .ret)))) }
theorem a65_ok : okFn Tryz.prog 65 a65 = true := by kernel_rfl
/-- loop.example/g01215/spec.l2Text -/
def a67 : AFn := { np := 1, nt := 32, res := [.t 2], body :=
  (.seq (.region [⟨some 1, none, .p (.box 24 (.t 0))⟩,
    ⟨some 2, none, .p (.mv (.k (.c (C.str []))))⟩] [1])
  (.seq (.region [⟨some 3, none, .p (.mv (.k (.c (C.str []))))⟩] [1, 3])
  (.seq (.seq (.region [⟨some 4, none, .p (.mv (.k (.c (C.int .i64 0))))⟩] [1, 3, 4])
  (.block 0 (.loop (.seq (.seq (.region [⟨some 7, none, .p (.mv (.t 4))⟩,
    ⟨some 8, none, .p (.bin .lss (.t 7) (.k (.c (C.int .i64 6))))⟩] [1, 3, 4, 8])
  (.cond (.t 8)
  .skip
  (.exit 0)))
  (.seq (.block 1 (.seq (.seq (.region [⟨some 11, none, .p (.mv (.t 4))⟩,
    ⟨some 12, none, .p (.bin .gtr (.t 11) (.k (.c (C.int .i64 0))))⟩] [1, 3, 4, 12])
  (.cond (.t 12)
  (.region [⟨some 13, none, .p (.mv (.t 3))⟩,
    ⟨some 14, none, .p (.bin .add (.t 13) (.k (.c (C.str [47]))))⟩,
    ⟨some 3, none, .p (.mv (.t 14))⟩] [1, 3, 4])
  .skip))
  (.seq (.region [⟨some 5, none, .p (.mv (.k (.c (C.int .i64 0))))⟩] [1, 3, 4, 5])
  (.block 2 (.loop (.seq (.seq (.region [⟨some 15, none, .p (.mv (.t 5))⟩,
    ⟨some 16, none, .p (.bin .lss (.t 15) (.k (.c (C.int .i64 4))))⟩] [1, 3, 4, 5, 16])
  (.cond (.t 16)
  .skip
  (.exit 2)))
  (.seq (.block 3 (.seq (.region [⟨some 19, none, .p (.mv (.t 4))⟩,
    ⟨some 20, none, .p (.mv (.t 5))⟩,
    ⟨some 21, none, .p (.fld 0 (.t 1))⟩,
    ⟨some 22, none, .p (.ixA 6 4 (.t 21) (.t 19))⟩,
    ⟨some 23, none, .p (.ixA 4 1 (.t 22) (.t 20))⟩,
    ⟨some 24, none, .h (.load 1 false (.t 23))⟩,
    ⟨some 6, none, .p (.mv (.t 24))⟩] [1, 3, 4, 5, 6])
  (.region [⟨some 25, none, .p (.mv (.t 3))⟩,
    ⟨some 26, none, .p (.mv (.t 6))⟩,
    ⟨some 27, none, .p (.mv (.t 6))⟩,
    ⟨some 28, none, .p (.bin .add (.t 27) (.k (.c (C.int .i64 1))))⟩,
    ⟨some 29, none, .p (.slStr (.k (.c (C.str [46, 97, 98, 99, 100, 101]))) (some (.t 26)) (some (.t 28)))⟩,
    ⟨some 30, none, .p (.bin .add (.t 25) (.t 29))⟩,
    ⟨some 3, none, .p (.mv (.t 30))⟩] [1, 3, 4, 5])))
  (.region [⟨some 17, none, .p (.mv (.t 5))⟩,
    ⟨some 18, none, .p (.bin .add (.t 17) (.k (.c (C.int .i64 1))))⟩,
    ⟨some 5, none, .p (.mv (.t 18))⟩] [1, 3, 4, 5]))) [1, 3, 4, 5])))))
  (.region [⟨some 9, none, .p (.mv (.t 4))⟩,
    ⟨some 10, none, .p (.bin .add (.t 9) (.k (.c (C.int .i64 1))))⟩,
    ⟨some 4, none, .p (.mv (.t 10))⟩] [1, 3, 4]))) [1, 3, 4])))
  (.seq (.region [⟨some 31, none, .p (.mv (.t 3))⟩,
    ⟨some 2, none, .p (.mv (.t 31))⟩] [2])
  .ret)))) }
theorem a67_ok : okFn Tryz.prog 67 a67 = true := by kernel_rfl
/-- loop.example/g01215/spec.l1Num -/
def a68 : AFn := { np := 1, nt := 35, res := [.t 2], body :=
  (.seq (.region [⟨some 2, none, .p (.mv (.k (.c (C.str []))))⟩] [0])
  (.seq (.seq (.region [⟨some 3, none, .p (.mv (.t 0))⟩,
    ⟨some 4, none, .p (.bin .lss (.t 3) (.k (.c (C.int .i64 0))))⟩] [0, 4])
  (.cond (.t 4)
  (.seq (.seq (.region [⟨some 5, none, .p (.mv (.t 0))⟩,
    ⟨some 6, none, .p (.bin .gtr (.t 5) (.k (.c (C.int .i64 (-10)))))⟩] [0, 6])
  (.cond (.t 6)
  (.seq (.region [⟨some 7, none, .p (.mv (.t 0))⟩,
    ⟨some 8, none, .p (.un .neg (.t 7))⟩,
    ⟨some 9, none, .h (.call (.f 68) [.t 8])⟩,
    ⟨some 10, none, .p (.bin .add (.k (.c (C.str [45]))) (.t 9))⟩,
    ⟨some 2, none, .p (.mv (.t 10))⟩] [2])
  .ret)
  .skip))
  (.seq (.region [⟨some 11, none, .p (.mv (.t 0))⟩,
    ⟨some 12, none, .p (.bin .quo (.t 11) (.k (.c (C.int .i64 10))))⟩,
    ⟨some 13, none, .h (.call (.f 68) [.t 12])⟩,
    ⟨some 14, none, .p (.mv (.t 0))⟩,
    ⟨some 15, none, .p (.bin .rem (.t 14) (.k (.c (C.int .i64 10))))⟩,
    ⟨some 16, none, .p (.un .neg (.t 15))⟩,
    ⟨some 17, none, .h (.call (.f 68) [.t 16])⟩,
    ⟨some 18, none, .p (.bin .add (.t 13) (.t 17))⟩,
    ⟨some 2, none, .p (.mv (.t 18))⟩] [2])
  .ret))
  .skip))
  (.seq (.seq (.region [⟨some 19, none, .p (.mv (.t 0))⟩,
    ⟨some 20, none, .p (.bin .lss (.t 19) (.k (.c (C.int .i64 10))))⟩] [0, 20])
  (.cond (.t 20)
  (.seq (.region [⟨some 21, none, .p (.mv (.t 0))⟩,
    ⟨some 22, none, .p (.mv (.t 0))⟩,
    ⟨some 23, none, .p (.bin .add (.t 22) (.k (.c (C.int .i64 1))))⟩,
    ⟨some 24, none, .p (.slStr (.k (.c (C.str [48, 49, 50, 51, 52, 53, 54, 55, 56, 57]))) (some (.t 21)) (some (.t 23)))⟩,
    ⟨some 2, none, .p (.mv (.t 24))⟩] [2])
  .ret)
  .skip))
  (.seq (.regionD [⟨some 25, none, .p (.mv (.t 0))⟩,
    ⟨some 26, none, .p (.bin .quo (.t 25) (.k (.c (C.int .i64 10))))⟩,
    ⟨some 27, none, .h (.call (.f 68) [.t 26])⟩,
    ⟨some 28, none, .p (.mv (.t 0))⟩,
    ⟨some 29, none, .p (.bin .rem (.t 28) (.k (.c (C.int .i64 10))))⟩,
    ⟨some 30, none, .p (.mv (.t 0))⟩,
    ⟨some 31, none, .p (.bin .rem (.t 30) (.k (.c (C.int .i64 10))))⟩,
    ⟨some 32, none, .p (.bin .add (.t 31) (.k (.c (C.int .i64 1))))⟩,
    ⟨some 33, none, .p (.slStr (.k (.c (C.str [48, 49, 50, 51, 52, 53, 54, 55, 56, 57]))) (some (.t 29)) (some (.t 32)))⟩,
    ⟨some 34, none, .p (.bin .add (.t 27) (.t 33))⟩,
    ⟨some 2, none, .p (.mv (.t 34))⟩] [2] [])
  .ret)))) }
theorem a68_ok : okFn Tryz.prog 68 a68 = true := by kernel_rfl
/-- loop.example/g01215/spec.l2Sign -/
def a70 : AFn := { np := 1, nt := 13, res := [.t 2], body :=
  (.seq (.region [⟨some 2, none, .p (.mv (.k (.c (C.int .i64 0))))⟩] [0])
  (.seq (.seq (.region [⟨some 3, none, .p (.mv (.k (.c (C.int .i64 0))))⟩] [0, 3])
  (.block 0 (.loop (.seq (.seq (.region [⟨some 4, none, .p (.mv (.t 3))⟩,
    ⟨some 5, none, .p (.bin .leq (.t 4) (.k (.c (C.int .i64 5))))⟩] [0, 3, 5])
  (.cond (.t 5)
  .skip
  (.exit 0)))
  (.seq (.block 1 (.seq (.region [⟨some 8, none, .p (.mv (.t 3))⟩,
    ⟨some 9, none, .p (.ixStr (.k (.c (C.str [46, 97, 98, 99, 100, 101]))) (.t 8))⟩,
    ⟨some 10, none, .p (.mv (.t 0))⟩,
    ⟨some 11, none, .p (.bin .eql (.t 9) (.t 10))⟩] [0, 3, 11])
  (.cond (.t 11)
  (.seq (.region [⟨some 12, none, .p (.mv (.t 3))⟩,
    ⟨some 2, none, .p (.mv (.t 12))⟩] [2])
  .ret)
  .skip)))
  (.region [⟨some 6, none, .p (.mv (.t 3))⟩,
    ⟨some 7, none, .p (.bin .add (.t 6) (.k (.c (C.int .i64 1))))⟩,
    ⟨some 3, none, .p (.mv (.t 7))⟩] [0, 3]))) [0, 3])))
  (.seq (.region [⟨some 2, none, .p (.mv (.k (.c (C.int .i64 (-1)))))⟩] [2])
  .ret))) }
theorem a70_ok : okFn Tryz.prog 70 a70 = true := by kernel_rfl
/-- loop.example/g01215/impl.isPlace -/
def a71 : AFn := { np := 1, nt := 5, res := [.t 2], body :=
  (.seq (.region [⟨some 2, none, .p (.mv (.k (.c (C.bool false))))⟩] [0])
  (.seq (.region [⟨some 3, none, .p (.mv (.t 0))⟩,
    ⟨some 4, none, .h (.call (.f 31) [.t 3, .k (.c (C.int .i64 0)), .k (.c (C.int .i64 5))])⟩,
    ⟨some 2, none, .p (.mv (.t 4))⟩] [2])
  .ret)) }
theorem a71_ok : okFn Tryz.prog 71 a71 = true := by kernel_rfl
/-- loop.example/g01215/spec.l2Top -/
def a72 : AFn := { np := 1, nt := 33, res := [.t 2, .t 3], body :=
  (.seq (.region [⟨some 1, none, .p (.box 4 (.t 0))⟩,
    ⟨some 2, none, .p (.mv (.k (.c (C.int .i64 0))))⟩,
    ⟨some 3, none, .p (.mv (.k (.c (C.int .i64 0))))⟩] [1])
  (.seq (.region [⟨some 6, none, .h (.load 4 true (.t 1))⟩,
    ⟨some 7, none, .h (.call (.f 73) [.t 6])⟩,
    ⟨some 4, none, .p (.mv (.t 7))⟩] [1, 4])
  (.seq (.seq (.region [⟨some 8, none, .p (.mv (.t 4))⟩,
    ⟨some 9, none, .p (.bin .eql (.t 8) (.k (.c (C.int .i64 0))))⟩] [1, 4, 9])
  (.cond (.t 9)
  (.seq (.region [⟨some 2, none, .p (.mv (.k (.c (C.int .i64 0))))⟩,
    ⟨some 3, none, .p (.mv (.k (.c (C.int .i64 0))))⟩] [2, 3])
  .ret)
  .skip))
  (.seq (.region [⟨some 5, none, .p (.mv (.k (.c (C.int .i64 0))))⟩] [1, 4, 5])
  (.seq (.block 0 (.loop (.seq (.seq (.regionD [⟨some 10, none, .p (.mv (.t 5))⟩,
    ⟨some 11, none, .p (.mv (.t 4))⟩,
    ⟨some 12, none, .p (.bin .lss (.t 10) (.t 11))⟩,
    ⟨some 13, none, .p (.mv (.t 12))⟩,
    ⟨some 14, some (13, true), .p (.mv (.t 4))⟩,
    ⟨some 15, some (13, true), .p (.bin .sub (.t 14) (.k (.c (C.int .i64 1))))⟩,
    ⟨some 16, some (13, true), .p (.mv (.t 5))⟩,
    ⟨some 17, some (13, true), .p (.bin .sub (.t 15) (.t 16))⟩,
    ⟨some 18, some (13, true), .p (.ixA 4 1 (.t 1) (.t 17))⟩,
    ⟨some 19, some (13, true), .h (.load 1 false (.t 18))⟩,
    ⟨some 20, some (13, true), .p (.mv (.t 4))⟩,
    ⟨some 21, some (13, true), .p (.bin .sub (.t 20) (.k (.c (C.int .i64 1))))⟩,
    ⟨some 22, some (13, true), .p (.ixA 4 1 (.t 1) (.t 21))⟩,
    ⟨some 23, some (13, true), .h (.load 1 false (.t 22))⟩,
    ⟨some 24, some (13, true), .p (.bin .eql (.t 19) (.t 23))⟩,
    ⟨some 25, none, .p (.pick (.t 13) (.t 24) (.k (.c (C.bool false))))⟩] [1, 4, 5, 25] [])
  (.cond (.t 25)
  .skip
  (.exit 0)))
  (.block 1 (.region [⟨some 26, none, .p (.mv (.t 5))⟩,
    ⟨some 27, none, .p (.bin .add (.t 26) (.k (.c (C.int .i64 1))))⟩,
    ⟨some 5, none, .p (.mv (.t 27))⟩] [1, 4, 5]))) [1, 4, 5]))
  (.seq (.region [⟨some 28, none, .p (.mv (.t 4))⟩,
    ⟨some 29, none, .p (.bin .sub (.t 28) (.k (.c (C.int .i64 1))))⟩,
    ⟨some 30, none, .p (.ixA 4 1 (.t 1) (.t 29))⟩,
    ⟨some 31, none, .h (.load 1 false (.t 30))⟩,
    ⟨some 32, none, .p (.mv (.t 5))⟩,
    ⟨some 2, none, .p (.mv (.t 31))⟩,
    ⟨some 3, none, .p (.mv (.t 32))⟩] [2, 3])
  .ret)))))) }
theorem a72_ok : okFn Tryz.prog 72 a72 = true := by kernel_rfl
/-- loop.example/g01215/spec.l2Many -/
def a73 : AFn := { np := 1, nt := 16, res := [.t 2], body :=
  (.seq (.region [⟨some 1, none, .p (.box 4 (.t 0))⟩,
    ⟨some 2, none, .p (.mv (.k (.c (C.int .i64 0))))⟩] [1])
  (.seq (.region [⟨some 3, none, .p (.mv (.k (.c (C.int .i64 0))))⟩] [1, 3])
  (.seq (.seq (.region [⟨some 4, none, .p (.mv (.k (.c (C.int .i64 0))))⟩] [1, 3, 4])
  (.block 0 (.loop (.seq (.seq (.region [⟨some 5, none, .p (.mv (.t 4))⟩,
    ⟨some 6, none, .p (.bin .lss (.t 5) (.k (.c (C.int .i64 4))))⟩] [1, 3, 4, 6])
  (.cond (.t 6)
  .skip
  (.exit 0)))
  (.seq (.block 1 (.seq (.region [⟨some 9, none, .p (.mv (.t 4))⟩,
    ⟨some 10, none, .p (.ixA 4 1 (.t 1) (.t 9))⟩,
    ⟨some 11, none, .h (.load 1 false (.t 10))⟩,
    ⟨some 12, none, .p (.bin .gtr (.t 11) (.k (.c (C.int .i64 0))))⟩] [1, 3, 4, 12])
  (.cond (.t 12)
  (.region [⟨some 13, none, .p (.mv (.t 3))⟩,
    ⟨some 14, none, .p (.bin .add (.t 13) (.k (.c (C.int .i64 1))))⟩,
    ⟨some 3, none, .p (.mv (.t 14))⟩] [1, 3, 4])
  .skip)))
  (.region [⟨some 7, none, .p (.mv (.t 4))⟩,
    ⟨some 8, none, .p (.bin .add (.t 7) (.k (.c (C.int .i64 1))))⟩,
    ⟨some 4, none, .p (.mv (.t 8))⟩] [1, 3, 4]))) [1, 3, 4])))
  (.seq (.region [⟨some 15, none, .p (.mv (.t 3))⟩,
    ⟨some 2, none, .p (.mv (.t 15))⟩] [2])
  .ret)))) }
theorem a73_ok : okFn Tryz.prog 73 a73 = true := by kernel_rfl
/-- loop.example/g01215/spec.l1Least -/
def a74 : AFn := { np := 2, nt := 10, res := [.t 4], body :=
  (.seq (.region [⟨some 4, none, .p (.mv (.k (.c (C.int .i64 0))))⟩] [0, 1])
  (.seq (.seq (.region [⟨some 5, none, .p (.mv (.t 0))⟩,
    ⟨some 6, none, .p (.mv (.t 1))⟩,
    ⟨some 7, none, .p (.bin .lss (.t 5) (.t 6))⟩] [0, 1, 7])
  (.cond (.t 7)
  (.seq (.region [⟨some 8, none, .p (.mv (.t 0))⟩,
    ⟨some 4, none, .p (.mv (.t 8))⟩] [4])
  .ret)
  .skip))
  (.seq (.region [⟨some 9, none, .p (.mv (.t 1))⟩,
    ⟨some 4, none, .p (.mv (.t 9))⟩] [4])
  .ret))) }
theorem a74_ok : okFn Tryz.prog 74 a74 = true := by kernel_rfl
/-- loop.example/g01215/impl.areAll[[4]int] -/
def a75 : AFn := { np := 2, nt := 9, res := [.t 4], body :=
  (.seq (.region [⟨some 3, none, .p (.box 1 (.t 1))⟩,
    ⟨some 4, none, .p (.mv (.k (.c (C.bool false))))⟩] [0, 3])
  (.seq (.region [⟨some 5, none, .p (.mv (.t 0))⟩,
    ⟨some 6, none, .p (.mkfn 91 [.t 3])⟩,
    ⟨some 7, none, .h (.call (.f 90) [.t 5, .t 6])⟩,
    ⟨some 8, none, .p (.un .not (.t 7))⟩,
    ⟨some 4, none, .p (.mv (.t 8))⟩] [4])
  .ret)) }
theorem a75_ok : okFn Tryz.prog 75 a75 = true := by kernel_rfl
/-- loop.example/g01215/impl.isTube -/
def a76 : AFn := { np := 1, nt := 14, res := [.t 2], body :=
  (.seq (.region [⟨some 1, none, .p (.box 4 (.t 0))⟩,
    ⟨some 2, none, .p (.mv (.k (.c (C.bool false))))⟩] [1])
  (.seq (.region [⟨some 4, none, .h (.load 4 true (.t 1))⟩,
    ⟨some 5, none, .h (.call (.f 79) [.t 4])⟩,
    ⟨some 3, none, .p (.mv (.t 5))⟩] [1, 3])
  (.seq (.region [⟨some 6, none, .p (.mv (.t 3))⟩,
    ⟨some 7, none, .h (.slA 4 1 (.t 1) none (some (.t 6)))⟩,
    ⟨some 8, none, .h (.call (.f 77) [.t 7, .f 92])⟩,
    ⟨some 9, none, .p (.mv (.t 8))⟩,
    ⟨some 10, some (9, true), .p (.mv (.t 3))⟩,
    ⟨some 11, some (9, true), .h (.slA 4 1 (.t 1) (some (.t 10)) none)⟩,
    ⟨some 12, some (9, true), .h (.call (.f 77) [.t 11, .f 93])⟩,
    ⟨some 13, none, .p (.pick (.t 9) (.t 12) (.k (.c (C.bool false))))⟩,
    ⟨some 2, none, .p (.mv (.t 13))⟩] [2])
  .ret))) }
theorem a76_ok : okFn Tryz.prog 76 a76 = true := by kernel_rfl
/-- loop.example/g01215/impl.areAll[int] -/
def a77 : AFn := { np := 2, nt := 9, res := [.t 4], body :=
  (.seq (.region [⟨some 3, none, .p (.box 1 (.t 1))⟩,
    ⟨some 4, none, .p (.mv (.k (.c (C.bool false))))⟩] [0, 3])
  (.seq (.region [⟨some 5, none, .p (.mv (.t 0))⟩,
    ⟨some 6, none, .p (.mkfn 95 [.t 3])⟩,
    ⟨some 7, none, .h (.call (.f 94) [.t 5, .t 6])⟩,
    ⟨some 8, none, .p (.un .not (.t 7))⟩,
    ⟨some 4, none, .p (.mv (.t 8))⟩] [4])
  .ret)) }
theorem a77_ok : okFn Tryz.prog 77 a77 = true := by kernel_rfl
/-- loop.example/g01215/impl.top -/
def a78 : AFn := { np := 1, nt := 21, res := [.t 2, .t 3], body :=
  (.seq (.region [⟨some 1, none, .p (.box 4 (.t 0))⟩,
    ⟨some 2, none, .p (.mv (.k (.c (C.int .i64 0))))⟩,
    ⟨some 3, none, .p (.mv (.k (.c (C.int .i64 0))))⟩] [1])
  (.seq (.region [⟨some 6, none, .h (.load 4 true (.t 1))⟩,
    ⟨some 7, none, .h (.call (.f 96) [.t 6])⟩,
    ⟨some 4, none, .p (.mv (.t 7))⟩] [4])
  (.seq (.seq (.region [⟨some 8, none, .p (.mv (.t 4))⟩,
    ⟨some 9, none, .p (.len (.t 8))⟩,
    ⟨some 10, none, .p (.bin .eql (.t 9) (.k (.c (C.int .i64 0))))⟩] [4, 10])
  (.cond (.t 10)
  (.seq (.region [⟨some 2, none, .p (.mv (.k (.c (C.int .i64 0))))⟩,
    ⟨some 3, none, .p (.mv (.k (.c (C.int .i64 0))))⟩] [2, 3])
  .ret)
  .skip))
  (.seq (.region [⟨some 11, none, .p (.mv (.t 4))⟩,
    ⟨some 12, none, .p (.mv (.t 4))⟩,
    ⟨some 13, none, .p (.len (.t 12))⟩,
    ⟨some 14, none, .p (.bin .sub (.t 13) (.k (.c (C.int .i64 1))))⟩,
    ⟨some 15, none, .p (.ixS 2 (.t 11) (.t 14))⟩,
    ⟨some 16, none, .h (.load 2 true (.t 15))⟩,
    ⟨some 5, none, .p (.alloc [.k (C.int .i64 0), .k (C.int .i64 0)])⟩,
    ⟨none, none, .h (.store 2 (.t 5) (.t 16))⟩] [5])
  (.seq (.regionD [⟨some 17, none, .p (.ixA 2 1 (.t 5) (.k (.c (C.int .i64 0))))⟩,
    ⟨some 18, none, .h (.load 1 false (.t 17))⟩,
    ⟨some 19, none, .p (.ixA 2 1 (.t 5) (.k (.c (C.int .i64 1))))⟩,
    ⟨some 20, none, .h (.load 1 false (.t 19))⟩,
    ⟨some 2, none, .p (.mv (.t 18))⟩,
    ⟨some 3, none, .p (.mv (.t 20))⟩] [2, 3] [])
  .ret))))) }
theorem a78_ok : okFn Tryz.prog 78 a78 = true := by kernel_rfl
/-- loop.example/g01215/impl.layers -/
def a79 : AFn := { np := 1, nt := 9, res := [.t 2], body :=
  (.seq (.region [⟨some 1, none, .p (.box 4 (.t 0))⟩,
    ⟨some 2, none, .p (.mv (.k (.c (C.int .i64 0))))⟩] [1])
  (.seq (.region [⟨some 4, none, .h (.slA 4 1 (.t 1) none none)⟩,
    ⟨some 5, none, .h (.call (.f 97) [.t 4, .k (.c (C.int .i64 0))])⟩,
    ⟨some 3, none, .p (.mv (.t 5))⟩] [3])
  (.seq (.seq (.region [⟨some 6, none, .p (.mv (.t 3))⟩,
    ⟨some 7, none, .p (.bin .lss (.t 6) (.k (.c (C.int .i64 0))))⟩] [3, 7])
  (.cond (.t 7)
  (.seq (.region [⟨some 2, none, .p (.mv (.k (.c (C.int .i64 4))))⟩] [2])
  .ret)
  .skip))
  (.seq (.region [⟨some 8, none, .p (.mv (.t 3))⟩,
    ⟨some 2, none, .p (.mv (.t 8))⟩] [2])
  .ret)))) }
theorem a79_ok : okFn Tryz.prog 79 a79 = true := by kernel_rfl
/-- (*loop.example/g01215/spec.l1Cur).next -/
def a80 : AFn := { np := 1, nt := 62, res := [.t 2], body :=
  (.seq (.region [⟨some 2, none, .p (.mv (.k (.c (C.int .i64 0))))⟩] [0])
  (.seq (.region [⟨some 3, none, .p (.mv (.k (.c (C.int .i64 0))))⟩] [0, 3])
  (.seq (.seq (.regionD [⟨some 4, none, .p (.mv (.t 0))⟩,
    ⟨some 5, none, .p (.nn (.t 4))⟩,
    ⟨some 6, none, .p (.fld 1 (.t 5))⟩,
    ⟨some 7, none, .h (.load 1 false (.t 6))⟩,
    ⟨some 8, none, .p (.mv (.t 0))⟩,
    ⟨some 9, none, .p (.nn (.t 8))⟩,
    ⟨some 10, none, .p (.fld 0 (.t 9))⟩,
    ⟨some 11, none, .h (.load 1 false (.t 10))⟩,
    ⟨some 12, none, .p (.len (.t 11))⟩,
    ⟨some 13, none, .p (.bin .lss (.t 7) (.t 12))⟩] [0, 3, 13] [])
  (.cond (.t 13)
  (.regionD [⟨some 14, none, .p (.mv (.t 0))⟩,
    ⟨some 15, none, .p (.nn (.t 14))⟩,
    ⟨some 16, none, .p (.fld 0 (.t 15))⟩,
    ⟨some 17, none, .h (.load 1 false (.t 16))⟩,
    ⟨some 18, none, .p (.mv (.t 0))⟩,
    ⟨some 19, none, .p (.nn (.t 18))⟩,
    ⟨some 20, none, .p (.fld 1 (.t 19))⟩,
    ⟨some 21, none, .h (.load 1 false (.t 20))⟩,
    ⟨some 22, none, .p (.ixS 1 (.t 17) (.t 21))⟩,
    ⟨some 23, none, .h (.load 1 false (.t 22))⟩,
    ⟨some 24, none, .p (.conv .i64 (.t 23))⟩,
    ⟨some 3, none, .p (.mv (.t 24))⟩] [0, 3] [])
  .skip))
  (.seq (.region [⟨some 25, none, .p (.mv (.t 0))⟩,
    ⟨some 26, none, .p (.nn (.t 25))⟩,
    ⟨some 27, none, .p (.fld 1 (.t 26))⟩,
    ⟨some 28, none, .h (.load 1 false (.t 27))⟩,
    ⟨some 29, none, .p (.bin .add (.t 28) (.k (.c (C.int .i64 1))))⟩,
    ⟨some 30, none, .p (.nn (.t 25))⟩,
    ⟨some 31, none, .p (.fld 1 (.t 30))⟩,
    ⟨none, none, .h (.store 1 (.t 31) (.t 29))⟩] [0, 3])
  (.seq (.region [⟨some 32, none, .p (.mv (.t 0))⟩,
    ⟨some 33, none, .p (.mv (.t 0))⟩,
    ⟨some 34, none, .p (.nn (.t 33))⟩,
    ⟨some 35, none, .p (.fld 2 (.t 34))⟩,
    ⟨some 36, none, .h (.load 1 false (.t 35))⟩,
    ⟨some 37, none, .p (.bin .mul (.t 36) (.k (.c (C.int .u64 6364136223846793005))))⟩,
    ⟨some 38, none, .p (.mv (.t 3))⟩,
    ⟨some 39, none, .p (.conv .u64 (.t 38))⟩,
    ⟨some 40, none, .p (.bin .add (.t 37) (.t 39))⟩,
    ⟨some 41, none, .p (.bin .add (.t 40) (.k (.c (C.int .u64 462197))))⟩,
    ⟨some 42, none, .p (.nn (.t 32))⟩,
    ⟨some 43, none, .p (.fld 2 (.t 42))⟩,
    ⟨none, none, .h (.store 1 (.t 43) (.t 41))⟩] [0, 3])
  (.seq (.seq (.regionD [⟨some 44, none, .p (.mv (.t 0))⟩,
    ⟨some 45, none, .p (.nn (.t 44))⟩,
    ⟨some 46, none, .p (.fld 1 (.t 45))⟩,
    ⟨some 47, none, .h (.load 1 false (.t 46))⟩,
    ⟨some 48, none, .p (.mv (.t 0))⟩,
    ⟨some 49, none, .p (.nn (.t 48))⟩,
    ⟨some 50, none, .p (.fld 0 (.t 49))⟩,
    ⟨some 51, none, .h (.load 1 false (.t 50))⟩,
    ⟨some 52, none, .p (.len (.t 51))⟩,
    ⟨some 53, none, .p (.bin .leq (.t 47) (.t 52))⟩] [0, 3, 53] [])
  (.cond (.t 53)
  (.seq (.region [⟨some 54, none, .p (.mv (.t 3))⟩,
    ⟨some 2, none, .p (.mv (.t 54))⟩] [2])
  .ret)
  .skip))
  (.seq (.region [⟨some 55, none, .p (.mv (.t 0))⟩,
    ⟨some 56, none, .p (.nn (.t 55))⟩,
    ⟨some 57, none, .p (.fld 2 (.t 56))⟩,
    ⟨some 58, none, .h (.load 1 false (.t 57))⟩,
    ⟨some 59, none, .p (.bin .shr (.t 58) (.k (.c (C.int .u64 40))))⟩,
    ⟨some 60, none, .p (.bin .and (.t 59) (.k (.c (C.int .u64 255))))⟩,
    ⟨some 61, none, .p (.conv .i64 (.t 60))⟩,
    ⟨some 2, none, .p (.mv (.t 61))⟩] [2])
  .ret))))))) }
theorem a80_ok : okFn Tryz.prog 80 a80 = true := by kernel_rfl
/-- (*loop.example/g01215/spec.l1Cur).rack -/
def a81 : AFn := { np := 1, nt := 128, res := [.cell 2 24 true], body :=
  (.seq (.region [⟨some 2, none, .p (.alloc (List.replicate 24 (.k (C.int .i64 0))))⟩] [0, 2])
  (.seq (.region [⟨some 14, none, .p (.build (List.replicate 24 (.k (C.int .i64 0))) [])⟩,
    ⟨some 15, none, .p (.mv (.t 0))⟩,
    ⟨some 16, none, .p (.mksl 1 6 [.k (C.int .i64 0)] [(0, 1, .k (.c (C.int .i64 2))), (1, 1, .k (.c (C.int .i64 3))), (2, 1, .k (.c (C.int .i64 2))), (3, 1, .k (.c (C.int .i64 4))), (4, 1, .k (.c (C.int .i64 5))), (5, 1, .k (.c (C.int .i64 1)))])⟩,
    ⟨some 17, none, .h (.call (.f 28) [.t 15, .t 16])⟩,
    ⟨some 18, none, .p (.mv (.t 0))⟩,
    ⟨some 19, none, .p (.mksl 1 5 [.k (C.int .i64 0)] [(0, 1, .k (.c (C.int .i64 3))), (1, 1, .k (.c (C.int .i64 4))), (2, 1, .k (.c (C.int .i64 2))), (3, 1, .k (.c (C.int .i64 5))), (4, 1, .k (.c (C.int .i64 6)))])⟩,
    ⟨some 20, none, .h (.call (.f 28) [.t 18, .t 19])⟩,
    ⟨some 3, none, .p (.alloc (List.replicate 24 (.k (C.int .i64 0))))⟩,
    ⟨none, none, .h (.store 24 (.t 3) (.t 14))⟩,
    ⟨some 4, none, .p (.mv (.t 17))⟩,
    ⟨some 5, none, .p (.mv (.t 20))⟩] [0, 2, 3, 4, 5])
  (.seq (.seq (.region [⟨some 6, none, .p (.mv (.k (.c (C.int .i64 0))))⟩] [0, 2, 3, 4, 5, 6])
  (.block 0 (.loop (.seq (.seq (.region [⟨some 21, none, .p (.mv (.t 6))⟩,
    ⟨some 22, none, .p (.mv (.t 5))⟩,
    ⟨some 23, none, .p (.bin .lss (.t 21) (.t 22))⟩] [0, 2, 3, 4, 5, 6, 23])
  (.cond (.t 23)
  .skip
  (.exit 0)))
  (.seq (.block 1 (.seq (.region [⟨some 7, none, .p (.mv (.k (.c (C.int .i64 0))))⟩] [0, 2, 3, 4, 5, 6, 7])
  (.block 2 (.loop (.seq (.seq (.region [⟨some 26, none, .p (.mv (.t 7))⟩,
    ⟨some 27, none, .p (.mv (.t 0))⟩,
    ⟨some 28, none, .p (.mksl 1 6 [.k (C.int .i64 0)] [(0, 1, .k (.c (C.int .i64 4))), (1, 1, .k (.c (C.int .i64 3))), (2, 1, .k (.c (C.int .i64 4))), (3, 1, .k (.c (C.int .i64 2))), (4, 1, .k (.c (C.int .i64 1))), (5, 1, .k (.c (C.int .i64 0)))])⟩,
    ⟨some 29, none, .h (.call (.f 28) [.t 27, .t 28])⟩,
    ⟨some 30, none, .p (.bin .lss (.t 26) (.t 29))⟩] [0, 2, 3, 4, 5, 6, 7, 30])
  (.cond (.t 30)
  .skip
  (.exit 2)))
  (.seq (.block 3 (.seq (.regionE [⟨some 33, none, .p (.mv (.t 6))⟩,
    ⟨some 34, none, .p (.mv (.t 7))⟩,
    ⟨some 35, none, .p (.mv (.t 0))⟩,
    ⟨some 36, none, .p (.mv (.t 4))⟩,
    ⟨some 37, none, .h (.call (.f 55) [.t 35, .t 36])⟩,
    ⟨some 38, none, .p (.bin .add (.k (.c (C.int .i64 1))) (.t 37))⟩,
    ⟨some 39, none, .p (.fld 0 (.t 3))⟩,
    ⟨some 40, none, .p (.ixA 6 4 (.t 39) (.t 33))⟩,
    ⟨some 41, none, .p (.ixA 4 1 (.t 40) (.t 34))⟩,
    ⟨none, none, .h (.store 1 (.t 41) (.t 38))⟩] [0, 2, 3, 4, 5, 6, 7] [] [[], [], [], [], [4]])
  (.seq (.region [⟨some 42, none, .p (.mv (.t 7))⟩,
    ⟨some 43, none, .p (.bin .gtr (.t 42) (.k (.c (C.int .i64 0))))⟩,
    ⟨some 44, none, .p (.mv (.t 43))⟩,
    ⟨some 45, some (44, true), .p (.mv (.t 0))⟩,
    ⟨some 46, some (44, true), .h (.call (.f 42) [.t 45, .k (.c (C.int .i64 3))])⟩,
    ⟨some 47, none, .p (.pick (.t 44) (.t 46) (.k (.c (C.bool false))))⟩] [0, 2, 3, 4, 5, 6, 7, 47])
  (.cond (.t 47)
  (.regionD [⟨some 48, none, .p (.mv (.t 6))⟩,
    ⟨some 49, none, .p (.mv (.t 7))⟩,
    ⟨some 50, none, .p (.mv (.t 6))⟩,
    ⟨some 51, none, .p (.mv (.t 7))⟩,
    ⟨some 52, none, .p (.bin .sub (.t 51) (.k (.c (C.int .i64 1))))⟩,
    ⟨some 53, none, .p (.fld 0 (.t 3))⟩,
    ⟨some 54, none, .p (.ixA 6 4 (.t 53) (.t 50))⟩,
    ⟨some 55, none, .p (.ixA 4 1 (.t 54) (.t 52))⟩,
    ⟨some 56, none, .h (.load 1 false (.t 55))⟩,
    ⟨some 57, none, .p (.fld 0 (.t 3))⟩,
    ⟨some 58, none, .p (.ixA 6 4 (.t 57) (.t 48))⟩,
    ⟨some 59, none, .p (.ixA 4 1 (.t 58) (.t 49))⟩,
    ⟨none, none, .h (.store 1 (.t 59) (.t 56))⟩] [0, 2, 3, 4, 5, 6, 7] [])
  .skip))))
  (.region [⟨some 31, none, .p (.mv (.t 7))⟩,
    ⟨some 32, none, .p (.bin .add (.t 31) (.k (.c (C.int .i64 1))))⟩,
    ⟨some 7, none, .p (.mv (.t 32))⟩] [0, 2, 3, 4, 5, 6, 7]))) [0, 2, 3, 4, 5, 6, 7]))))
  (.region [⟨some 24, none, .p (.mv (.t 6))⟩,
    ⟨some 25, none, .p (.bin .add (.t 24) (.k (.c (C.int .i64 1))))⟩,
    ⟨some 6, none, .p (.mv (.t 25))⟩] [0, 2, 3, 4, 5, 6]))) [0, 2, 3, 4, 5, 6])))
  (.seq (.seq (.region [⟨some 8, none, .p (.mv (.k (.c (C.int .i64 0))))⟩] [0, 2, 3, 8])
  (.block 4 (.loop (.seq (.seq (.region [⟨some 60, none, .p (.mv (.t 8))⟩,
    ⟨some 61, none, .p (.bin .lss (.t 60) (.k (.c (C.int .i64 6))))⟩] [0, 2, 3, 8, 61])
  (.cond (.t 61)
  .skip
  (.exit 4)))
  (.seq (.block 5 (.seq (.region [⟨some 9, none, .p (.mv (.k (.c (C.int .i64 1))))⟩] [0, 2, 3, 8, 9])
  (.block 6 (.loop (.seq (.seq (.region [⟨some 64, none, .p (.mv (.t 9))⟩,
    ⟨some 65, none, .p (.bin .lss (.t 64) (.k (.c (C.int .i64 4))))⟩] [0, 2, 3, 8, 9, 65])
  (.cond (.t 65)
  .skip
  (.exit 6)))
  (.seq (.block 7 (.seq (.region [⟨some 68, none, .p (.mv (.t 8))⟩,
    ⟨some 69, none, .p (.mv (.t 9))⟩,
    ⟨some 70, none, .p (.bin .sub (.t 69) (.k (.c (C.int .i64 1))))⟩,
    ⟨some 71, none, .p (.fld 0 (.t 3))⟩,
    ⟨some 72, none, .p (.ixA 6 4 (.t 71) (.t 68))⟩,
    ⟨some 73, none, .p (.ixA 4 1 (.t 72) (.t 70))⟩,
    ⟨some 74, none, .h (.load 1 false (.t 73))⟩,
    ⟨some 75, none, .p (.bin .eql (.t 74) (.k (.c (C.int .i64 0))))⟩] [0, 2, 3, 8, 9, 75])
  (.cond (.t 75)
  (.region [⟨some 76, none, .p (.mv (.t 8))⟩,
    ⟨some 77, none, .p (.mv (.t 9))⟩,
    ⟨some 78, none, .p (.fld 0 (.t 3))⟩,
    ⟨some 79, none, .p (.ixA 6 4 (.t 78) (.t 76))⟩,
    ⟨some 80, none, .p (.ixA 4 1 (.t 79) (.t 77))⟩,
    ⟨none, none, .h (.store 1 (.t 80) (.k (.c (C.int .i64 0))))⟩] [0, 2, 3, 8, 9])
  .skip)))
  (.region [⟨some 66, none, .p (.mv (.t 9))⟩,
    ⟨some 67, none, .p (.bin .add (.t 66) (.k (.c (C.int .i64 1))))⟩,
    ⟨some 9, none, .p (.mv (.t 67))⟩] [0, 2, 3, 8, 9]))) [0, 2, 3, 8, 9]))))
  (.region [⟨some 62, none, .p (.mv (.t 8))⟩,
    ⟨some 63, none, .p (.bin .add (.t 62) (.k (.c (C.int .i64 1))))⟩,
    ⟨some 8, none, .p (.mv (.t 63))⟩] [0, 2, 3, 8]))) [0, 2, 3, 8])))
  (.seq (.seq (.region [⟨some 81, none, .p (.mv (.t 0))⟩,
    ⟨some 82, none, .h (.call (.f 42) [.t 81, .k (.c (C.int .i64 3))])⟩] [0, 2, 3, 82])
  (.cond (.t 82)
  (.seq (.region [⟨some 83, none, .p (.mv (.t 0))⟩,
    ⟨some 84, none, .h (.call (.f 55) [.t 83, .k (.c (C.int .i64 6))])⟩,
    ⟨some 85, none, .p (.mv (.t 0))⟩,
    ⟨some 86, none, .h (.call (.f 55) [.t 85, .k (.c (C.int .i64 6))])⟩,
    ⟨some 10, none, .p (.mv (.t 84))⟩,
    ⟨some 11, none, .p (.mv (.t 86))⟩] [0, 2, 3, 10, 11])
  (.seq (.regionD [⟨some 87, none, .p (.mv (.t 10))⟩,
    ⟨some 88, none, .p (.fld 0 (.t 3))⟩,
    ⟨some 89, none, .p (.ixA 6 4 (.t 88) (.t 87))⟩,
    ⟨some 90, none, .h (.load 4 true (.t 89))⟩,
    ⟨some 91, none, .p (.mv (.t 11))⟩,
    ⟨some 92, none, .p (.fld 0 (.t 3))⟩,
    ⟨some 93, none, .p (.ixA 6 4 (.t 92) (.t 91))⟩,
    ⟨some 94, none, .h (.load 4 true (.t 93))⟩,
    ⟨some 12, none, .p (.alloc [.k (C.int .i64 0), .k (C.int .i64 0), .k (C.int .i64 0), .k (C.int .i64 0)])⟩,
    ⟨some 13, none, .p (.alloc [.k (C.int .i64 0), .k (C.int .i64 0), .k (C.int .i64 0), .k (C.int .i64 0)])⟩,
    ⟨none, none, .h (.store 4 (.t 12) (.t 90))⟩,
    ⟨none, none, .h (.store 4 (.t 13) (.t 94))⟩] [0, 2, 3, 10, 11, 12, 13] [(.t 93, .t 12)])
  (.seq (.region [⟨some 95, none, .p (.mv (.t 10))⟩,
    ⟨some 96, none, .h (.load 4 true (.t 13))⟩,
    ⟨some 97, none, .p (.fld 0 (.t 3))⟩,
    ⟨some 98, none, .p (.ixA 6 4 (.t 97) (.t 95))⟩,
    ⟨none, none, .h (.store 4 (.t 98) (.t 96))⟩] [0, 2, 3, 11, 12])
  (.region [⟨some 99, none, .p (.mv (.t 11))⟩,
    ⟨some 100, none, .h (.load 4 true (.t 12))⟩,
    ⟨some 101, none, .p (.fld 0 (.t 3))⟩,
    ⟨some 102, none, .p (.ixA 6 4 (.t 101) (.t 99))⟩,
    ⟨none, none, .h (.store 4 (.t 102) (.t 100))⟩] [0, 2, 3]))))
  .skip))
  (.seq (.seq (.region [⟨some 103, none, .p (.mv (.t 0))⟩,
    ⟨some 104, none, .h (.call (.f 55) [.t 103, .k (.c (C.int .i64 40))])⟩] [0, 2, 3, 104])
  (.block 8 (.seq (.region [⟨some 106, none, .p (.bin .eql (.t 104) (.k (.c (C.int .i64 0))))⟩,
    ⟨some 105, none, .p (.mv (.t 106))⟩] [0, 2, 3, 104, 105])
  (.cond (.t 105)
  (.regionE [⟨some 107, none, .p (.mv (.t 0))⟩,
    ⟨some 108, none, .h (.call (.f 55) [.t 107, .k (.c (C.int .i64 6))])⟩,
    ⟨some 109, none, .p (.mv (.t 0))⟩,
    ⟨some 110, none, .h (.call (.f 55) [.t 109, .k (.c (C.int .i64 4))])⟩,
    ⟨some 111, none, .p (.mv (.t 0))⟩,
    ⟨some 112, none, .p (.mksl 1 3 [.k (C.int .i64 0)] [(0, 1, .k (.c (C.int .i64 (-1)))), (1, 1, .k (.c (C.int .i64 6))), (2, 1, .k (.c (C.int .i64 4611686018427387904)))])⟩,
    ⟨some 113, none, .h (.call (.f 28) [.t 111, .t 112])⟩,
    ⟨some 114, none, .p (.fld 0 (.t 3))⟩,
    ⟨some 115, none, .p (.ixA 6 4 (.t 114) (.t 108))⟩,
    ⟨some 116, none, .p (.ixA 4 1 (.t 115) (.t 110))⟩,
    ⟨none, none, .h (.store 1 (.t 116) (.t 113))⟩] [2, 3] [] [[], [1], [], [1, 3], [], [], [1, 3, 5, 6]])
  (.seq (.region [⟨some 118, none, .p (.bin .eql (.t 104) (.k (.c (C.int .i64 1))))⟩,
    ⟨some 117, none, .p (.mv (.t 118))⟩] [0, 2, 3, 104, 117])
  (.cond (.t 117)
  (.region [⟨some 119, none, .p (.mv (.t 0))⟩,
    ⟨some 120, none, .h (.call (.f 55) [.t 119, .k (.c (C.int .i64 6))])⟩,
    ⟨some 121, none, .p (.build [.k (C.int .i64 0), .k (C.int .i64 0), .k (C.int .i64 0), .k (C.int .i64 0)] [(0, 1, .k (.c (C.int .i64 0))), (1, 1, .k (.c (C.int .i64 1))), (2, 1, .k (.c (C.int .i64 0))), (3, 1, .k (.c (C.int .i64 0)))])⟩,
    ⟨some 122, none, .p (.fld 0 (.t 3))⟩,
    ⟨some 123, none, .p (.ixA 6 4 (.t 122) (.t 120))⟩,
    ⟨none, none, .h (.store 4 (.t 123) (.t 121))⟩] [2, 3])
  (.seq (.region [⟨some 125, none, .p (.bin .eql (.t 104) (.k (.c (C.int .i64 2))))⟩,
    ⟨some 124, none, .p (.mv (.t 125))⟩] [2, 3, 124])
  (.cond (.t 124)
  (.seq (.region [⟨some 126, none, .p (.build (List.replicate 24 (.k (C.int .i64 0))) [])⟩,
    ⟨none, none, .h (.store 24 (.t 2) (.t 126))⟩] [2])
  .ret)
  .skip))))))))
  (.seq (.region [⟨some 127, none, .h (.load 24 true (.t 3))⟩,
    ⟨none, none, .h (.store 24 (.t 2) (.t 127))⟩] [2])
  .ret))))))) }
theorem a81_ok : okFn Tryz.prog 81 a81 = true := by kernel_rfl
/-- loop.example/g01215/spec.l6Bound -/
def a82 : AFn := { np := 1, nt := 22, res := [.t 2], body :=
  (.seq (.region [⟨some 1, none, .p (.box 24 (.t 0))⟩,
    ⟨some 2, none, .p (.mv (.k (.c (C.int .i64 0))))⟩] [1])
  (.seq (.regionD [⟨some 6, none, .h (.load 24 true (.t 1))⟩,
    ⟨some 7, none, .h (.call (.f 98) [.t 6])⟩,
    ⟨some 8, none, .h (.load 24 true (.t 1))⟩,
    ⟨some 9, none, .h (.call (.f 99) [.t 8])⟩,
    ⟨some 4, none, .p (.alloc [.k (C.int .i64 0), .k (C.int .i64 0), .k (C.int .i64 0), .k (C.int .i64 0), .k (C.int .i64 0), .k (C.int .i64 0)])⟩,
    ⟨some 3, none, .p (.mv (.t 7))⟩,
    ⟨none, none, .h (.store 6 (.t 4) (.t 9))⟩] [3, 4] [])
  (.seq (.seq (.region [⟨some 5, none, .p (.mv (.k (.c (C.int .i64 1))))⟩] [3, 4, 5])
  (.block 0 (.loop (.seq (.seq (.region [⟨some 10, none, .p (.mv (.t 5))⟩,
    ⟨some 11, none, .p (.bin .leq (.t 10) (.k (.c (C.int .i64 5))))⟩] [3, 4, 5, 11])
  (.cond (.t 11)
  .skip
  (.exit 0)))
  (.seq (.block 1 (.region [⟨some 14, none, .p (.mv (.t 3))⟩,
    ⟨some 15, none, .p (.mv (.t 5))⟩,
    ⟨some 16, none, .p (.ixA 6 1 (.t 4) (.t 15))⟩,
    ⟨some 17, none, .h (.load 1 false (.t 16))⟩,
    ⟨some 18, none, .p (.bin .sub (.t 17) (.k (.c (C.int .i64 1))))⟩,
    ⟨some 19, none, .h (.call (.f 100) [.k (.c (C.int .i64 0)), .t 18])⟩,
    ⟨some 20, none, .p (.bin .add (.t 14) (.t 19))⟩,
    ⟨some 3, none, .p (.mv (.t 20))⟩] [3, 4, 5]))
  (.region [⟨some 12, none, .p (.mv (.t 5))⟩,
    ⟨some 13, none, .p (.bin .add (.t 12) (.k (.c (C.int .i64 1))))⟩,
    ⟨some 5, none, .p (.mv (.t 13))⟩] [3, 4, 5]))) [3, 4, 5])))
  (.seq (.region [⟨some 21, none, .p (.mv (.t 3))⟩,
    ⟨some 2, none, .p (.mv (.t 21))⟩] [2])
  .ret)))) }
theorem a82_ok : okFn Tryz.prog 82 a82 = true := by kernel_rfl
/-- slices.Grow[[][2]int,[2]int] -/
def a83 : AFn := { np := 2, nt := 27, res := [.t 4], body :=
  (.seq (.region [⟨some 4, none, .p (.nilsl 2)⟩] [0, 1])
  (.seq (.seq (.region [⟨some 5, none, .p (.mv (.t 1))⟩,
    ⟨some 6, none, .p (.bin .lss (.t 5) (.k (.c (C.int .i64 0))))⟩] [0, 1, 6])
  (.cond (.t 6)
  (.region [⟨some 7, none, .p (.bad)⟩,
    ⟨none, none, .p (.bad)⟩] [0, 1])
  .skip))
  (.seq (.seq (.region [⟨some 8, none, .p (.mv (.t 1))⟩,
    ⟨some 9, none, .p (.mv (.t 0))⟩,
    ⟨some 10, none, .p (.cap0 (.t 9))⟩,
    ⟨some 11, none, .p (.mv (.t 0))⟩,
    ⟨some 12, none, .p (.len (.t 11))⟩,
    ⟨some 13, none, .p (.bin .sub (.t 10) (.t 12))⟩,
    ⟨some 14, none, .p (.bin .sub (.t 8) (.t 13))⟩,
    ⟨some 1, none, .p (.mv (.t 14))⟩] [0, 1])
  (.seq (.region [⟨some 15, none, .p (.mv (.t 1))⟩,
    ⟨some 16, none, .p (.bin .gtr (.t 15) (.k (.c (C.int .i64 0))))⟩] [0, 1, 16])
  (.cond (.t 16)
  (.region [⟨some 17, none, .p (.mv (.t 0))⟩,
    ⟨some 18, none, .p (.mv (.t 0))⟩,
    ⟨some 19, none, .p (.cap0 (.t 18))⟩,
    ⟨some 20, none, .p (.slS 2 (.t 17) none (some (.t 19)))⟩,
    ⟨some 21, none, .p (.mv (.t 1))⟩,
    ⟨some 22, none, .p (.grow0 2 [.k (C.int .i64 0), .k (C.int .i64 0)] (.t 20) (.t 21))⟩,
    ⟨some 23, none, .p (.mv (.t 0))⟩,
    ⟨some 24, none, .p (.len (.t 23))⟩,
    ⟨some 25, none, .p (.slS 2 (.t 22) none (some (.t 24)))⟩,
    ⟨some 0, none, .p (.mv (.t 25))⟩] [0])
  .skip)))
  (.seq (.region [⟨some 26, none, .p (.mv (.t 0))⟩,
    ⟨some 4, none, .p (.mv (.t 26))⟩] [4])
  .ret)))) }
theorem a83_ok : okFn Tryz.prog 83 a83 = true := by kernel_rfl
/-- loop.example/g01215/impl.colorText -/
def a84 : AFn := { np := 1, nt := 11, res := [.t 2], body :=
  (.seq (.region [⟨some 2, none, .p (.mv (.k (.c (C.str []))))⟩] [0])
  (.seq (.seq (.region [⟨some 3, none, .p (.mv (.t 0))⟩,
    ⟨some 4, none, .p (.bin .eql (.t 3) (.k (.c (C.int .i64 0))))⟩] [0, 4])
  (.cond (.t 4)
  (.seq (.region [⟨some 2, none, .p (.mv (.k (.c (C.str [46]))))⟩] [2])
  .ret)
  .skip))
  (.seq (.region [⟨some 5, none, .p (.mv (.t 0))⟩,
    ⟨some 6, none, .p (.conv .u8 (.t 5))⟩,
    ⟨some 7, none, .p (.bin .add (.k (.c (C.int .u8 97))) (.t 6))⟩,
    ⟨some 8, none, .p (.bin .sub (.t 7) (.k (.c (C.int .u8 1))))⟩,
    ⟨some 9, none, .p (.mksl 1 1 [.k (C.int .u8 0)] [(0, 1, .t 8)])⟩,
    ⟨some 10, none, .h (.b2s (.t 9))⟩,
    ⟨some 2, none, .p (.mv (.t 10))⟩] [2])
  .ret))) }
theorem a84_ok : okFn Tryz.prog 84 a84 = true := by kernel_rfl
/-- slices.ContainsFunc[[][4]int,[4]int] -/
def a90 : AFn := { np := 2, nt := 9, res := [.t 4], body :=
  (.seq (.region [⟨some 4, none, .p (.mv (.k (.c (C.bool false))))⟩] [0, 1])
  (.seq (.region [⟨some 5, none, .p (.mv (.t 0))⟩,
    ⟨some 6, none, .p (.mv (.t 1))⟩,
    ⟨some 7, none, .h (.call (.f 109) [.t 5, .t 6])⟩,
    ⟨some 8, none, .p (.bin .geq (.t 7) (.k (.c (C.int .i64 0))))⟩,
    ⟨some 4, none, .p (.mv (.t 8))⟩] [4])
  .ret)) }
theorem a90_ok : okFn Tryz.prog 90 a90 = true := by kernel_rfl
/-- loop.example/g01215/impl.areAll[[4]int]$1 -/
def a91 : AFn := { np := 2, nt := 8, res := [.t 3], body :=
  (.seq (.region [⟨some 2, none, .p (.box 4 (.t 0))⟩,
    ⟨some 3, none, .p (.mv (.k (.c (C.bool false))))⟩] [1, 2])
  (.seq (.region [⟨some 4, none, .h (.load 1 false (.t 1))⟩,
    ⟨some 5, none, .h (.load 4 true (.t 2))⟩,
    ⟨some 6, none, .h (.call (.t 4) [.t 5])⟩,
    ⟨some 7, none, .p (.un .not (.t 6))⟩,
    ⟨some 3, none, .p (.mv (.t 7))⟩] [3])
  .ret)) }
theorem a91_ok : okFn Tryz.prog 91 a91 = true := by kernel_rfl
/-- loop.example/g01215/impl.isColor -/
def a92 : AFn := { np := 1, nt := 5, res := [.t 2], body :=
  (.seq (.region [⟨some 2, none, .p (.mv (.k (.c (C.bool false))))⟩] [0])
  (.seq (.region [⟨some 3, none, .p (.mv (.t 0))⟩,
    ⟨some 4, none, .h (.call (.f 31) [.t 3, .k (.c (C.int .i64 1)), .k (.c (C.int .i64 5))])⟩,
    ⟨some 2, none, .p (.mv (.t 4))⟩] [2])
  .ret)) }
theorem a92_ok : okFn Tryz.prog 92 a92 = true := by kernel_rfl
/-- loop.example/g01215/impl.isTube$1 -/
def a93 : AFn := { np := 1, nt := 5, res := [.t 2], body :=
  (.seq (.region [⟨some 2, none, .p (.mv (.k (.c (C.bool false))))⟩] [0])
  (.seq (.region [⟨some 3, none, .p (.mv (.t 0))⟩,
    ⟨some 4, none, .p (.bin .eql (.t 3) (.k (.c (C.int .i64 0))))⟩,
    ⟨some 2, none, .p (.mv (.t 4))⟩] [2])
  .ret)) }
theorem a93_ok : okFn Tryz.prog 93 a93 = true := by kernel_rfl
/-- slices.ContainsFunc[[]int,int] -/
def a94 : AFn := { np := 2, nt := 9, res := [.t 4], body :=
  (.seq (.region [⟨some 4, none, .p (.mv (.k (.c (C.bool false))))⟩] [0, 1])
  (.seq (.region [⟨some 5, none, .p (.mv (.t 0))⟩,
    ⟨some 6, none, .p (.mv (.t 1))⟩,
    ⟨some 7, none, .h (.call (.f 110) [.t 5, .t 6])⟩,
    ⟨some 8, none, .p (.bin .geq (.t 7) (.k (.c (C.int .i64 0))))⟩,
    ⟨some 4, none, .p (.mv (.t 8))⟩] [4])
  .ret)) }
theorem a94_ok : okFn Tryz.prog 94 a94 = true := by kernel_rfl
/-- loop.example/g01215/impl.areAll[int]$1 -/
def a95 : AFn := { np := 2, nt := 8, res := [.t 3], body :=
  (.seq (.region [⟨some 3, none, .p (.mv (.k (.c (C.bool false))))⟩] [0, 1])
  (.seq (.region [⟨some 4, none, .h (.load 1 false (.t 1))⟩,
    ⟨some 5, none, .p (.mv (.t 0))⟩,
    ⟨some 6, none, .h (.call (.t 4) [.t 5])⟩,
    ⟨some 7, none, .p (.un .not (.t 6))⟩,
    ⟨some 3, none, .p (.mv (.t 7))⟩] [3])
  .ret)) }
theorem a95_ok : okFn Tryz.prog 95 a95 = true := by kernel_rfl
/-- loop.example/g01215/impl.runs -/
def a96 : AFn := { np := 1, nt := 45, res := [.t 2], body :=
  (.seq (.region [⟨some 1, none, .p (.box 4 (.t 0))⟩,
    ⟨some 2, none, .p (.nilsl 2)⟩] [1])
  (.seq (.region [⟨some 3, none, .p (.nilsl 2)⟩] [1, 3])
  (.seq (.seq (.region [⟨some 7, none, .h (.load 4 true (.t 1))⟩,
    ⟨some 8, none, .h (.call (.f 79) [.t 7])⟩,
    ⟨some 9, none, .h (.slA 4 1 (.t 1) none (some (.t 8)))⟩,
    ⟨some 10, none, .p (.len (.t 9))⟩,
    ⟨some 11, none, .p (.mv (.k (.c (C.int .i64 0))))⟩] [3, 9, 10, 11])
  (.block 0 (.loop (.seq (.region [⟨some 12, none, .p (.bin .lss (.t 11) (.t 10))⟩] [3, 9, 10, 11, 12])
  (.seq (.cond (.t 12)
  .skip
  (.exit 0))
  (.seq (.block 1 (.seq (.region [⟨some 13, none, .p (.ixS 1 (.t 9) (.t 11))⟩,
    ⟨some 14, none, .h (.load 1 false (.t 13))⟩,
    ⟨some 5, none, .p (.mv (.t 14))⟩] [3, 5, 9, 10, 11])
  (.seq (.region [⟨some 15, none, .p (.mv (.t 3))⟩,
    ⟨some 16, none, .p (.len (.t 15))⟩,
    ⟨some 6, none, .p (.mv (.t 16))⟩] [3, 5, 6, 9, 10, 11])
  (.seq (.region [⟨some 17, none, .p (.mv (.t 6))⟩,
    ⟨some 18, none, .p (.bin .gtr (.t 17) (.k (.c (C.int .i64 0))))⟩,
    ⟨some 19, none, .p (.mv (.t 18))⟩,
    ⟨some 20, some (19, true), .p (.mv (.t 3))⟩,
    ⟨some 21, some (19, true), .p (.mv (.t 6))⟩,
    ⟨some 22, some (19, true), .p (.bin .sub (.t 21) (.k (.c (C.int .i64 1))))⟩,
    ⟨some 23, some (19, true), .p (.ixS 2 (.t 20) (.t 22))⟩,
    ⟨some 24, some (19, true), .p (.ixA 2 1 (.t 23) (.k (.c (C.int .i64 0))))⟩,
    ⟨some 25, some (19, true), .h (.load 1 false (.t 24))⟩,
    ⟨some 26, some (19, true), .p (.mv (.t 5))⟩,
    ⟨some 27, some (19, true), .p (.bin .eql (.t 25) (.t 26))⟩,
    ⟨some 28, none, .p (.pick (.t 19) (.t 27) (.k (.c (C.bool false))))⟩] [3, 5, 6, 9, 10, 11, 28])
  (.cond (.t 28)
  (.regionD [⟨some 29, none, .p (.mv (.t 3))⟩,
    ⟨some 30, none, .p (.mv (.t 6))⟩,
    ⟨some 31, none, .p (.bin .sub (.t 30) (.k (.c (C.int .i64 1))))⟩,
    ⟨some 32, none, .p (.ixS 2 (.t 29) (.t 31))⟩,
    ⟨some 33, none, .p (.ixA 2 1 (.t 32) (.k (.c (C.int .i64 1))))⟩,
    ⟨some 34, none, .h (.load 1 false (.t 33))⟩,
    ⟨some 35, none, .p (.bin .add (.t 34) (.k (.c (C.int .i64 1))))⟩,
    ⟨some 36, none, .p (.ixS 2 (.t 29) (.t 31))⟩,
    ⟨some 37, none, .p (.ixA 2 1 (.t 36) (.k (.c (C.int .i64 1))))⟩,
    ⟨none, none, .h (.store 1 (.t 37) (.t 35))⟩] [3, 9, 10, 11] [])
  (.region [⟨some 38, none, .p (.mv (.t 3))⟩,
    ⟨some 39, none, .p (.mv (.t 5))⟩,
    ⟨some 40, none, .p (.build [.k (C.int .i64 0), .k (C.int .i64 0)] [(0, 1, .t 39), (1, 1, .k (.c (C.int .i64 1)))])⟩,
    ⟨some 41, none, .p (.mksl 2 1 [.k (C.int .i64 0), .k (C.int .i64 0)] [(0, 2, .t 40)])⟩,
    ⟨some 42, none, .h (.app 2 (.t 38) (.t 41))⟩,
    ⟨some 3, none, .p (.mv (.t 42))⟩] [3, 9, 10, 11]))))))
  (.region [⟨some 43, none, .p (.bin .add (.t 11) (.k (.c (C.int .i64 1))))⟩,
    ⟨some 11, none, .p (.mv (.t 43))⟩] [3, 9, 10, 11])))) [3, 9, 10, 11])))
  (.seq (.region [⟨some 44, none, .p (.mv (.t 3))⟩,
    ⟨some 2, none, .p (.mv (.t 44))⟩] [2])
  .ret)))) }
theorem a96_ok : okFn Tryz.prog 96 a96 = true := by kernel_rfl
/-- slices.Index[[]int,int] -/
def a97 : AFn := { np := 2, nt := 19, res := [.t 4], body :=
  (.seq (.region [⟨some 4, none, .p (.mv (.k (.c (C.int .i64 0))))⟩] [0, 1])
  (.seq (.seq (.region [⟨some 6, none, .p (.mv (.t 0))⟩,
    ⟨some 7, none, .p (.len (.t 6))⟩,
    ⟨some 8, none, .p (.mv (.k (.c (C.int .i64 0))))⟩] [0, 1, 7, 8])
  (.block 0 (.loop (.seq (.region [⟨some 9, none, .p (.bin .lss (.t 8) (.t 7))⟩] [0, 1, 7, 8, 9])
  (.seq (.cond (.t 9)
  .skip
  (.exit 0))
  (.seq (.block 1 (.seq (.region [⟨some 10, none, .p (.mv (.t 8))⟩,
    ⟨some 5, none, .p (.mv (.t 10))⟩] [0, 1, 5, 7, 8])
  (.seq (.region [⟨some 11, none, .p (.mv (.t 1))⟩,
    ⟨some 12, none, .p (.mv (.t 0))⟩,
    ⟨some 13, none, .p (.mv (.t 5))⟩,
    ⟨some 14, none, .p (.ixS 1 (.t 12) (.t 13))⟩,
    ⟨some 15, none, .h (.load 1 false (.t 14))⟩,
    ⟨some 16, none, .p (.bin .eql (.t 11) (.t 15))⟩] [0, 1, 5, 7, 8, 16])
  (.cond (.t 16)
  (.seq (.region [⟨some 17, none, .p (.mv (.t 5))⟩,
    ⟨some 4, none, .p (.mv (.t 17))⟩] [4])
  .ret)
  .skip))))
  (.region [⟨some 18, none, .p (.bin .add (.t 8) (.k (.c (C.int .i64 1))))⟩,
    ⟨some 8, none, .p (.mv (.t 18))⟩] [0, 1, 7, 8])))) [0, 1, 7, 8])))
  (.seq (.region [⟨some 4, none, .p (.mv (.k (.c (C.int .i64 (-1)))))⟩] [4])
  .ret))) }
theorem a97_ok : okFn Tryz.prog 97 a97 = true := by kernel_rfl
/-- loop.example/g01215/spec.l6Boundaries -/
def a98 : AFn := { np := 1, nt := 10, res := [.t 2], body :=
  (.seq (.region [⟨some 1, none, .p (.box 24 (.t 0))⟩,
    ⟨some 2, none, .p (.mv (.k (.c (C.int .i64 0))))⟩] [1])
  (.seq (.regionD [⟨some 3, none, .h (.load 24 true (.t 1))⟩,
    ⟨some 4, none, .h (.call (.f 111) [.t 3])⟩,
    ⟨some 5, none, .p (.bin .sub (.t 4) (.k (.c (C.int .i64 6))))⟩,
    ⟨some 6, none, .h (.load 24 true (.t 1))⟩,
    ⟨some 7, none, .h (.call (.f 99) [.t 6])⟩,
    ⟨some 8, none, .p (.ixV 6 1 false (.t 7) (.k (.c (C.int .i64 0))))⟩,
    ⟨some 9, none, .p (.bin .add (.t 5) (.t 8))⟩,
    ⟨some 2, none, .p (.mv (.t 9))⟩] [2] [])
  .ret)) }
theorem a98_ok : okFn Tryz.prog 98 a98 = true := by kernel_rfl
/-- loop.example/g01215/spec.l6Bottoms -/
def a99 : AFn := { np := 1, nt := 20, res := [.cell 2 6 true], body :=
  (.seq (.region [⟨some 1, none, .p (.box 24 (.t 0))⟩,
    ⟨some 2, none, .p (.alloc [.k (C.int .i64 0), .k (C.int .i64 0), .k (C.int .i64 0), .k (C.int .i64 0), .k (C.int .i64 0), .k (C.int .i64 0)])⟩] [1, 2])
  (.seq (.region [⟨some 5, none, .p (.build [.k (C.int .i64 0), .k (C.int .i64 0), .k (C.int .i64 0), .k (C.int .i64 0), .k (C.int .i64 0), .k (C.int .i64 0)] [])⟩,
    ⟨some 3, none, .p (.alloc [.k (C.int .i64 0), .k (C.int .i64 0), .k (C.int .i64 0), .k (C.int .i64 0), .k (C.int .i64 0), .k (C.int .i64 0)])⟩,
    ⟨none, none, .h (.store 6 (.t 3) (.t 5))⟩] [1, 2, 3])
  (.seq (.seq (.region [⟨some 4, none, .p (.mv (.k (.c (C.int .i64 0))))⟩] [1, 2, 3, 4])
  (.block 0 (.loop (.seq (.seq (.region [⟨some 6, none, .p (.mv (.t 4))⟩,
    ⟨some 7, none, .p (.bin .lss (.t 6) (.k (.c (C.int .i64 6))))⟩] [1, 2, 3, 4, 7])
  (.cond (.t 7)
  .skip
  (.exit 0)))
  (.seq (.block 1 (.region [⟨some 10, none, .p (.mv (.t 4))⟩,
    ⟨some 11, none, .p (.fld 0 (.t 1))⟩,
    ⟨some 12, none, .p (.ixA 6 4 (.t 11) (.t 10))⟩,
    ⟨some 13, none, .p (.ixA 4 1 (.t 12) (.k (.c (C.int .i64 0))))⟩,
    ⟨some 14, none, .h (.load 1 false (.t 13))⟩,
    ⟨some 15, none, .p (.ixA 6 1 (.t 3) (.t 14))⟩,
    ⟨some 16, none, .h (.load 1 false (.t 15))⟩,
    ⟨some 17, none, .p (.bin .add (.t 16) (.k (.c (C.int .i64 1))))⟩,
    ⟨some 18, none, .p (.ixA 6 1 (.t 3) (.t 14))⟩,
    ⟨none, none, .h (.store 1 (.t 18) (.t 17))⟩] [1, 2, 3, 4]))
  (.region [⟨some 8, none, .p (.mv (.t 4))⟩,
    ⟨some 9, none, .p (.bin .add (.t 8) (.k (.c (C.int .i64 1))))⟩,
    ⟨some 4, none, .p (.mv (.t 9))⟩] [1, 2, 3, 4]))) [1, 2, 3, 4])))
  (.seq (.region [⟨some 19, none, .h (.load 6 true (.t 3))⟩,
    ⟨none, none, .h (.store 6 (.t 2) (.t 19))⟩] [2])
  .ret)))) }
theorem a99_ok : okFn Tryz.prog 99 a99 = true := by kernel_rfl
/-- loop.example/g01215/spec.l1Most -/
def a100 : AFn := { np := 2, nt := 10, res := [.t 4], body :=
  (.seq (.region [⟨some 4, none, .p (.mv (.k (.c (C.int .i64 0))))⟩] [0, 1])
  (.seq (.seq (.region [⟨some 5, none, .p (.mv (.t 0))⟩,
    ⟨some 6, none, .p (.mv (.t 1))⟩,
    ⟨some 7, none, .p (.bin .gtr (.t 5) (.t 6))⟩] [0, 1, 7])
  (.cond (.t 7)
  (.seq (.region [⟨some 8, none, .p (.mv (.t 0))⟩,
    ⟨some 4, none, .p (.mv (.t 8))⟩] [4])
  .ret)
  .skip))
  (.seq (.region [⟨some 9, none, .p (.mv (.t 1))⟩,
    ⟨some 4, none, .p (.mv (.t 9))⟩] [4])
  .ret))) }
theorem a100_ok : okFn Tryz.prog 100 a100 = true := by kernel_rfl
/-- slices.IndexFunc[[][4]int,[4]int] -/
def a109 : AFn := { np := 2, nt := 19, res := [.t 4], body :=
  (.seq (.region [⟨some 4, none, .p (.mv (.k (.c (C.int .i64 0))))⟩] [0, 1])
  (.seq (.seq (.region [⟨some 6, none, .p (.mv (.t 0))⟩,
    ⟨some 7, none, .p (.len (.t 6))⟩,
    ⟨some 8, none, .p (.mv (.k (.c (C.int .i64 0))))⟩] [0, 1, 7, 8])
  (.block 0 (.loop (.seq (.region [⟨some 9, none, .p (.bin .lss (.t 8) (.t 7))⟩] [0, 1, 7, 8, 9])
  (.seq (.cond (.t 9)
  .skip
  (.exit 0))
  (.seq (.block 1 (.seq (.region [⟨some 10, none, .p (.mv (.t 8))⟩,
    ⟨some 5, none, .p (.mv (.t 10))⟩] [0, 1, 5, 7, 8])
  (.seq (.region [⟨some 11, none, .p (.mv (.t 1))⟩,
    ⟨some 12, none, .p (.mv (.t 0))⟩,
    ⟨some 13, none, .p (.mv (.t 5))⟩,
    ⟨some 14, none, .p (.ixS 4 (.t 12) (.t 13))⟩,
    ⟨some 15, none, .h (.load 4 true (.t 14))⟩,
    ⟨some 16, none, .h (.call (.t 11) [.t 15])⟩] [0, 1, 5, 7, 8, 16])
  (.cond (.t 16)
  (.seq (.region [⟨some 17, none, .p (.mv (.t 5))⟩,
    ⟨some 4, none, .p (.mv (.t 17))⟩] [4])
  .ret)
  .skip))))
  (.region [⟨some 18, none, .p (.bin .add (.t 8) (.k (.c (C.int .i64 1))))⟩,
    ⟨some 8, none, .p (.mv (.t 18))⟩] [0, 1, 7, 8])))) [0, 1, 7, 8])))
  (.seq (.region [⟨some 4, none, .p (.mv (.k (.c (C.int .i64 (-1)))))⟩] [4])
  .ret))) }
theorem a109_ok : okFn Tryz.prog 109 a109 = true := by kernel_rfl
def prA : Prog
  | 3 => some a3
  | 4 => some a4
  | 5 => some a5
  | 6 => some a6
  | 7 => some a7
  | 8 => some a8
  | 9 => some a9
  | 10 => some a10
  | 11 => some a11
  | 12 => some a12
  | 13 => some a13
  | 14 => some a14
  | 15 => some a15
  | 16 => some a16
  | 17 => some a17
  | 18 => some a18
  | 19 => some a19
  | 20 => some a20
  | 21 => some a21
  | 22 => some a22
  | 23 => some a23
  | 24 => some a24
  | 25 => some a25
  | 26 => some a26
  | 27 => some a27
  | 28 => some a28
  | 29 => some a29
  | 30 => some a30
  | 31 => some a31
  | 32 => some a32
  | 33 => some a33
  | 34 => some a34
  | 35 => some a35
  | 36 => some a36
  | 37 => some a37
  | 38 => some a38
  | 39 => some a39
  | 40 => some a40
  | 41 => some a41
  | 42 => some a42
  | 43 => some a43
  | 45 => some a45
  | 46 => some a46
  | 47 => some a47
  | 48 => some a48
  | 49 => some a49
  | 50 => some a50
  | 51 => some a51
  | 52 => some a52
  | 53 => some a53
  | 54 => some a54
  | 55 => some a55
  | 56 => some a56
  | 57 => some a57
  | 58 => some a58
  | 59 => some a59
  | 60 => some a60
  | 61 => some a61
  | 62 => some a62
  | 63 => some a63
  | 64 => some a64
  | 65 => some a65
  | 67 => some a67
  | 68 => some a68
  | 70 => some a70
  | 71 => some a71
  | 72 => some a72
  | 73 => some a73
  | 74 => some a74
  | 75 => some a75
  | 76 => some a76
  | 77 => some a77
  | 78 => some a78
  | 79 => some a79
  | 80 => some a80
  | 81 => some a81
  | 82 => some a82
  | 83 => some a83
  | 84 => some a84
  | 90 => some a90
  | 91 => some a91
  | 92 => some a92
  | 93 => some a93
  | 94 => some a94
  | 95 => some a95
  | 96 => some a96
  | 97 => some a97
  | 98 => some a98
  | 99 => some a99
  | 100 => some a100
  | 109 => some a109
  | _ => none
theorem prA_ok : ProgOK Tryz.prog prA := by
  intro f fn h
  unfold prA at h
  split at h
  · injection h with h; subst h; exact a3_ok
  · injection h with h; subst h; exact a4_ok
  · injection h with h; subst h; exact a5_ok
  · injection h with h; subst h; exact a6_ok
  · injection h with h; subst h; exact a7_ok
  · injection h with h; subst h; exact a8_ok
  · injection h with h; subst h; exact a9_ok
  · injection h with h; subst h; exact a10_ok
  · injection h with h; subst h; exact a11_ok
  · injection h with h; subst h; exact a12_ok
  · injection h with h; subst h; exact a13_ok
  · injection h with h; subst h; exact a14_ok
  · injection h with h; subst h; exact a15_ok
  · injection h with h; subst h; exact a16_ok
  · injection h with h; subst h; exact a17_ok
  · injection h with h; subst h; exact a18_ok
  · injection h with h; subst h; exact a19_ok
  · injection h with h; subst h; exact a20_ok
  · injection h with h; subst h; exact a21_ok
  · injection h with h; subst h; exact a22_ok
  · injection h with h; subst h; exact a23_ok
  · injection h with h; subst h; exact a24_ok
  · injection h with h; subst h; exact a25_ok
  · injection h with h; subst h; exact a26_ok
  · injection h with h; subst h; exact a27_ok
  · injection h with h; subst h; exact a28_ok
  · injection h with h; subst h; exact a29_ok
  · injection h with h; subst h; exact a30_ok
  · injection h with h; subst h; exact a31_ok
  · injection h with h; subst h; exact a32_ok
  · injection h with h; subst h; exact a33_ok
  · injection h with h; subst h; exact a34_ok
  · injection h with h; subst h; exact a35_ok
  · injection h with h; subst h; exact a36_ok
  · injection h with h; subst h; exact a37_ok
  · injection h with h; subst h; exact a38_ok
  · injection h with h; subst h; exact a39_ok
  · injection h with h; subst h; exact a40_ok
  · injection h with h; subst h; exact a41_ok
  · injection h with h; subst h; exact a42_ok
  · injection h with h; subst h; exact a43_ok
  · injection h with h; subst h; exact a45_ok
  · injection h with h; subst h; exact a46_ok
  · injection h with h; subst h; exact a47_ok
  · injection h with h; subst h; exact a48_ok
  · injection h with h; subst h; exact a49_ok
  · injection h with h; subst h; exact a50_ok
  · injection h with h; subst h; exact a51_ok
  · injection h with h; subst h; exact a52_ok
  · injection h with h; subst h; exact a53_ok
  · injection h with h; subst h; exact a54_ok
  · injection h with h; subst h; exact a55_ok
  · injection h with h; subst h; exact a56_ok
  · injection h with h; subst h; exact a57_ok
  · injection h with h; subst h; exact a58_ok
  · injection h with h; subst h; exact a59_ok
  · injection h with h; subst h; exact a60_ok
  · injection h with h; subst h; exact a61_ok
  · injection h with h; subst h; exact a62_ok
  · injection h with h; subst h; exact a63_ok
  · injection h with h; subst h; exact a64_ok
  · injection h with h; subst h; exact a65_ok
  · injection h with h; subst h; exact a67_ok
  · injection h with h; subst h; exact a68_ok
  · injection h with h; subst h; exact a70_ok
  · injection h with h; subst h; exact a71_ok
  · injection h with h; subst h; exact a72_ok
  · injection h with h; subst h; exact a73_ok
  · injection h with h; subst h; exact a74_ok
  · injection h with h; subst h; exact a75_ok
  · injection h with h; subst h; exact a76_ok
  · injection h with h; subst h; exact a77_ok
  · injection h with h; subst h; exact a78_ok
  · injection h with h; subst h; exact a79_ok
  · injection h with h; subst h; exact a80_ok
  · injection h with h; subst h; exact a81_ok
  · injection h with h; subst h; exact a82_ok
  · injection h with h; subst h; exact a83_ok
  · injection h with h; subst h; exact a84_ok
  · injection h with h; subst h; exact a90_ok
  · injection h with h; subst h; exact a91_ok
  · injection h with h; subst h; exact a92_ok
  · injection h with h; subst h; exact a93_ok
  · injection h with h; subst h; exact a94_ok
  · injection h with h; subst h; exact a95_ok
  · injection h with h; subst h; exact a96_ok
  · injection h with h; subst h; exact a97_ok
  · injection h with h; subst h; exact a98_ok
  · injection h with h; subst h; exact a99_ok
  · injection h with h; subst h; exact a100_ok
  · injection h with h; subst h; exact a109_ok
  · cases h
end Go.Proofs.YthpookdfaikabaaGreatDoor.AM
