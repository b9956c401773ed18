/- the functions' code in the abstract machine: printed by a program (wip/tools/genparts.py) out of the loaded program -/
import Derived.Test.YtoaidbmkfdpagaaAmD
import Derived.Test.YtoaidbmkfdpagaaProg
import Derived.KernelRfl
namespace Go.Proofs.Ytoaidbmkfdpagaa.AM
open Go
set_option maxRecDepth 100000
/-- loop.example/g01215/laws.FnDeals -/
def a4 : AFn := { np := 1, nt := 290, res := [.t 2], body :=
  (.seq (.region [⟨some 2, none, .p (.mv (.k (.c (C.bool false))))⟩] [0])
  (.seq (.seq (.region [⟨some 42, none, .p (.mv (.t 0))⟩,
    ⟨some 43, none, .h (.call (.f 12) [.t 42])⟩] [0, 43])
  (.cond (.t 43)
  (.seq (.region [⟨some 2, none, .p (.mv (.k (.c (C.bool true))))⟩] [2])
  .ret)
  .skip))
  (.seq (.region [⟨some 45, none, .p (.mv (.t 0))⟩,
    ⟨some 46, none, .h (.call (.f 13) [.t 45])⟩,
    ⟨some 44, none, .p (.mv (.t 46))⟩,
    ⟨some 47, none, .p (.ext (.t 44) 0)⟩,
    ⟨some 48, none, .p (.ext (.t 44) 1)⟩,
    ⟨some 3, none, .p (.alloc [.k (C.int .i64 0), .k (C.int .i64 0), .k (C.int .i64 0), .k (C.int .i64 0), .k (C.int .i64 0), .k (C.int .i64 0)])⟩,
    ⟨some 4, none, .p (.alloc [.k (C.int .i64 0), .k (C.int .i64 0), .k (C.int .i64 0), .k (C.int .i64 0), .k (C.int .i64 0), .k (C.int .i64 0)])⟩,
    ⟨none, none, .h (.store 6 (.t 3) (.t 47))⟩,
    ⟨none, none, .h (.store 6 (.t 4) (.t 48))⟩] [0, 3, 4])
  (.seq (.region [⟨some 50, none, .h (.load 6 true (.t 3))⟩,
    ⟨some 51, none, .h (.load 6 true (.t 4))⟩,
    ⟨some 52, none, .h (.call (.f 14) [.t 50, .t 51])⟩,
    ⟨some 49, none, .p (.mv (.t 52))⟩,
    ⟨some 53, none, .p (.ext (.t 49) 0)⟩,
    ⟨some 54, none, .p (.ext (.t 49) 1)⟩,
    ⟨some 5, none, .p (.alloc [.k (C.int .i64 0), .k (C.int .i64 0)])⟩,
    ⟨none, none, .h (.store 2 (.t 5) (.t 53))⟩,
    ⟨some 6, none, .p (.mv (.t 54))⟩] [0, 3, 4, 5, 6])
  (.seq (.region [⟨some 56, none, .h (.load 6 true (.t 3))⟩,
    ⟨some 57, none, .h (.load 6 true (.t 4))⟩,
    ⟨some 58, none, .h (.call (.f 15) [.t 56, .t 57])⟩,
    ⟨some 55, none, .p (.mv (.t 58))⟩,
    ⟨some 59, none, .p (.ext (.t 55) 0)⟩,
    ⟨some 60, none, .p (.ext (.t 55) 1)⟩,
    ⟨some 7, none, .p (.alloc [.k (C.int .i64 0), .k (C.int .i64 0)])⟩,
    ⟨none, none, .h (.store 2 (.t 7) (.t 59))⟩,
    ⟨some 8, none, .p (.mv (.t 60))⟩] [0, 3, 4, 5, 6, 7, 8])
  (.seq (.region [⟨some 62, none, .h (.load 6 true (.t 3))⟩,
    ⟨some 63, none, .h (.load 6 true (.t 4))⟩,
    ⟨some 64, none, .h (.call (.f 16) [.t 62, .t 63])⟩,
    ⟨some 61, none, .p (.mv (.t 64))⟩,
    ⟨some 65, none, .p (.ext (.t 61) 0)⟩,
    ⟨some 66, none, .p (.ext (.t 61) 1)⟩,
    ⟨some 9, none, .p (.alloc [.k (C.int .i64 0), .k (C.int .i64 0)])⟩,
    ⟨none, none, .h (.store 2 (.t 9) (.t 65))⟩,
    ⟨some 10, none, .p (.mv (.t 66))⟩] [0, 3, 4, 5, 6, 7, 8, 9, 10])
  (.seq (.region [⟨some 68, none, .h (.load 6 true (.t 3))⟩,
    ⟨some 69, none, .h (.load 6 true (.t 4))⟩,
    ⟨some 70, none, .h (.call (.f 17) [.t 68, .t 69])⟩,
    ⟨some 67, none, .p (.mv (.t 70))⟩,
    ⟨some 71, none, .p (.ext (.t 67) 0)⟩,
    ⟨some 72, none, .p (.ext (.t 67) 1)⟩,
    ⟨some 11, none, .p (.alloc [.k (C.int .i64 0), .k (C.int .i64 0)])⟩,
    ⟨none, none, .h (.store 2 (.t 11) (.t 71))⟩,
    ⟨some 12, none, .p (.mv (.t 72))⟩] [0, 3, 4, 5, 6, 7, 8, 9, 10, 11, 12])
  (.seq (.region [⟨some 74, none, .h (.load 6 true (.t 3))⟩,
    ⟨some 75, none, .h (.load 6 true (.t 4))⟩,
    ⟨some 76, none, .h (.call (.f 18) [.t 74, .t 75])⟩,
    ⟨some 73, none, .p (.mv (.t 76))⟩,
    ⟨some 77, none, .p (.ext (.t 73) 0)⟩,
    ⟨some 78, none, .p (.ext (.t 73) 1)⟩,
    ⟨some 13, none, .p (.mv (.t 77))⟩,
    ⟨some 14, none, .p (.mv (.t 78))⟩] [0, 3, 4, 5, 6, 7, 8, 9, 10, 11, 12, 13, 14])
  (.seq (.region [⟨some 80, none, .h (.load 6 true (.t 3))⟩,
    ⟨some 81, none, .h (.load 6 true (.t 4))⟩,
    ⟨some 82, none, .h (.call (.f 19) [.t 80, .t 81])⟩,
    ⟨some 79, none, .p (.mv (.t 82))⟩,
    ⟨some 83, none, .p (.ext (.t 79) 0)⟩,
    ⟨some 84, none, .p (.ext (.t 79) 1)⟩,
    ⟨some 15, none, .p (.mv (.t 83))⟩,
    ⟨some 16, none, .p (.mv (.t 84))⟩] [0, 3, 5, 6, 7, 8, 9, 10, 11, 12, 13, 14, 15, 16])
  (.seq (.region [⟨some 86, none, .p (.mv (.t 0))⟩,
    ⟨some 87, none, .h (.call (.f 21) [.t 86, .k (.c (C.int .i64 1))])⟩,
    ⟨some 88, none, .h (.call (.f 20) [.t 87])⟩,
    ⟨some 85, none, .p (.mv (.t 88))⟩,
    ⟨some 89, none, .p (.ext (.t 85) 0)⟩,
    ⟨some 90, none, .p (.ext (.t 85) 1)⟩,
    ⟨some 91, none, .p (.ext (.t 85) 2)⟩,
    ⟨some 92, none, .p (.ext (.t 85) 3)⟩,
    ⟨some 17, none, .p (.alloc [.k (C.int .i64 0), .k (C.int .i64 0), .k (C.int .i64 0), .k (C.int .i64 0), .k (C.int .i64 0), .k (C.int .i64 0)])⟩,
    ⟨some 18, none, .p (.alloc [.k (C.int .i64 0), .k (C.int .i64 0), .k (C.int .i64 0), .k (C.int .i64 0), .k (C.int .i64 0), .k (C.int .i64 0)])⟩,
    ⟨none, none, .h (.store 6 (.t 17) (.t 89))⟩,
    ⟨none, none, .h (.store 6 (.t 18) (.t 90))⟩,
    ⟨some 19, none, .p (.mv (.t 91))⟩,
    ⟨some 20, none, .p (.mv (.t 92))⟩] [0, 3, 5, 6, 7, 8, 9, 10, 11, 12, 13, 14, 15, 16, 17, 18, 19, 20])
  (.seq (.region [⟨some 94, none, .h (.load 6 true (.t 17))⟩,
    ⟨some 95, none, .h (.load 6 true (.t 18))⟩,
    ⟨some 96, none, .p (.mv (.t 19))⟩,
    ⟨some 97, none, .p (.mv (.t 20))⟩,
    ⟨some 98, none, .h (.call (.f 22) [.t 94, .t 95, .t 96, .t 97])⟩,
    ⟨some 93, none, .p (.mv (.t 98))⟩,
    ⟨some 99, none, .p (.ext (.t 93) 0)⟩,
    ⟨some 100, none, .p (.ext (.t 93) 1)⟩,
    ⟨some 21, none, .p (.alloc [.k (C.int .i64 0), .k (C.int .i64 0)])⟩,
    ⟨none, none, .h (.store 2 (.t 21) (.t 99))⟩,
    ⟨some 22, none, .p (.mv (.t 100))⟩] [0, 3, 5, 6, 7, 8, 9, 10, 11, 12, 13, 14, 15, 16, 17, 18, 19, 20, 21, 22])
  (.seq (.region [⟨some 102, none, .h (.load 6 true (.t 17))⟩,
    ⟨some 103, none, .h (.load 6 true (.t 18))⟩,
    ⟨some 104, none, .p (.mv (.t 19))⟩,
    ⟨some 105, none, .p (.mv (.t 20))⟩,
    ⟨some 106, none, .h (.call (.f 23) [.t 102, .t 103, .t 104, .t 105])⟩,
    ⟨some 101, none, .p (.mv (.t 106))⟩,
    ⟨some 107, none, .p (.ext (.t 101) 0)⟩,
    ⟨some 108, none, .p (.ext (.t 101) 1)⟩,
    ⟨some 23, none, .p (.alloc [.k (C.int .i64 0), .k (C.int .i64 0)])⟩,
    ⟨none, none, .h (.store 2 (.t 23) (.t 107))⟩,
    ⟨some 24, none, .p (.mv (.t 108))⟩] [0, 3, 5, 6, 7, 8, 9, 10, 11, 12, 13, 14, 15, 16, 17, 18, 19, 21, 22, 23, 24])
  (.seq (.region [⟨some 110, none, .p (.mv (.t 0))⟩,
    ⟨some 111, none, .h (.call (.f 21) [.t 110, .k (.c (C.int .i64 2))])⟩,
    ⟨some 112, none, .h (.call (.f 24) [.t 111])⟩,
    ⟨some 109, none, .p (.mv (.t 112))⟩,
    ⟨some 113, none, .p (.ext (.t 109) 0)⟩,
    ⟨some 114, none, .p (.ext (.t 109) 1)⟩,
    ⟨some 115, none, .p (.ext (.t 109) 2)⟩,
    ⟨some 116, none, .p (.ext (.t 109) 3)⟩,
    ⟨some 25, none, .p (.alloc [.k (C.int .i64 0), .k (C.int .i64 0), .k (C.int .i64 0), .k (C.int .i64 0), .k (C.int .i64 0), .k (C.int .i64 0)])⟩,
    ⟨some 26, none, .p (.alloc [.k (C.int .i64 0), .k (C.int .i64 0), .k (C.int .i64 0), .k (C.int .i64 0), .k (C.int .i64 0), .k (C.int .i64 0)])⟩,
    ⟨none, none, .h (.store 6 (.t 25) (.t 113))⟩,
    ⟨none, none, .h (.store 6 (.t 26) (.t 114))⟩,
    ⟨some 27, none, .p (.mv (.t 115))⟩,
    ⟨some 28, none, .p (.mv (.t 116))⟩] [3, 5, 6, 7, 8, 9, 10, 11, 12, 13, 14, 15, 16, 17, 18, 19, 21, 22, 23, 24, 25, 26, 27, 28])
  (.seq (.region [⟨some 118, none, .h (.load 6 true (.t 25))⟩,
    ⟨some 119, none, .h (.load 6 true (.t 26))⟩,
    ⟨some 120, none, .p (.mv (.t 27))⟩,
    ⟨some 121, none, .p (.mv (.t 28))⟩,
    ⟨some 122, none, .h (.call (.f 25) [.t 118, .t 119, .t 120, .t 121])⟩,
    ⟨some 117, none, .p (.mv (.t 122))⟩,
    ⟨some 123, none, .p (.ext (.t 117) 0)⟩,
    ⟨some 124, none, .p (.ext (.t 117) 1)⟩,
    ⟨some 29, none, .p (.alloc [.k (C.int .i64 0), .k (C.int .i64 0)])⟩,
    ⟨none, none, .h (.store 2 (.t 29) (.t 123))⟩,
    ⟨some 30, none, .p (.mv (.t 124))⟩] [3, 5, 6, 7, 8, 9, 10, 11, 12, 13, 14, 15, 16, 17, 18, 19, 21, 22, 23, 24, 25, 26, 27, 28, 29, 30])
  (.seq (.region [⟨some 126, none, .h (.load 6 true (.t 25))⟩,
    ⟨some 127, none, .h (.load 6 true (.t 26))⟩,
    ⟨some 128, none, .p (.mv (.t 27))⟩,
    ⟨some 129, none, .p (.mv (.t 28))⟩,
    ⟨some 130, none, .h (.call (.f 26) [.t 126, .t 127, .t 128, .t 129])⟩,
    ⟨some 125, none, .p (.mv (.t 130))⟩,
    ⟨some 131, none, .p (.ext (.t 125) 0)⟩,
    ⟨some 132, none, .p (.ext (.t 125) 1)⟩,
    ⟨some 31, none, .p (.alloc [.k (C.int .i64 0), .k (C.int .i64 0)])⟩,
    ⟨none, none, .h (.store 2 (.t 31) (.t 131))⟩,
    ⟨some 32, none, .p (.mv (.t 132))⟩] [3, 5, 6, 7, 8, 9, 10, 11, 12, 13, 14, 15, 16, 17, 18, 19, 21, 22, 23, 24, 25, 26, 27, 28, 29, 30, 31, 32])
  (.seq (.seq (.region [⟨some 133, none, .h (.load 2 true (.t 5))⟩,
    ⟨some 134, none, .h (.load 2 true (.t 7))⟩,
    ⟨some 135, none, .p (.eqv true [.int .i64, .int .i64] (.t 133) (.t 134))⟩,
    ⟨some 136, none, .p (.mv (.t 135))⟩,
    ⟨some 137, some (136, false), .p (.mv (.t 6))⟩,
    ⟨some 138, some (136, false), .p (.mv (.t 8))⟩,
    ⟨some 139, some (136, false), .p (.eqb true (.t 137) (.t 138))⟩,
    ⟨some 140, none, .p (.pick (.t 136) (.k (.c (C.bool true))) (.t 139))⟩,
    ⟨some 141, none, .p (.mv (.t 140))⟩,
    ⟨some 142, some (141, false), .h (.load 2 true (.t 9))⟩,
    ⟨some 143, some (141, false), .h (.load 2 true (.t 11))⟩,
    ⟨some 144, some (141, false), .p (.eqv true [.int .i64, .int .i64] (.t 142) (.t 143))⟩,
    ⟨some 145, none, .p (.pick (.t 141) (.k (.c (C.bool true))) (.t 144))⟩,
    ⟨some 146, none, .p (.mv (.t 145))⟩,
    ⟨some 147, some (146, false), .p (.mv (.t 10))⟩,
    ⟨some 148, some (146, false), .p (.mv (.t 12))⟩,
    ⟨some 149, some (146, false), .p (.eqb true (.t 147) (.t 148))⟩,
    ⟨some 150, none, .p (.pick (.t 146) (.k (.c (C.bool true))) (.t 149))⟩,
    ⟨some 151, none, .p (.mv (.t 150))⟩,
    ⟨some 152, some (151, false), .p (.mv (.t 13))⟩,
    ⟨some 153, some (151, false), .p (.mv (.t 15))⟩,
    ⟨some 154, some (151, false), .p (.bin .neq (.t 152) (.t 153))⟩,
    ⟨some 155, none, .p (.pick (.t 151) (.k (.c (C.bool true))) (.t 154))⟩,
    ⟨some 156, none, .p (.mv (.t 155))⟩,
    ⟨some 157, some (156, false), .p (.mv (.t 14))⟩,
    ⟨some 158, some (156, false), .p (.mv (.t 16))⟩,
    ⟨some 159, some (156, false), .p (.eqb true (.t 157) (.t 158))⟩,
    ⟨some 160, none, .p (.pick (.t 156) (.k (.c (C.bool true))) (.t 159))⟩,
    ⟨some 161, none, .p (.mv (.t 160))⟩,
    ⟨some 162, some (161, false), .h (.load 2 true (.t 21))⟩,
    ⟨some 163, some (161, false), .h (.load 2 true (.t 23))⟩,
    ⟨some 164, some (161, false), .p (.eqv true [.int .i64, .int .i64] (.t 162) (.t 163))⟩,
    ⟨some 165, none, .p (.pick (.t 161) (.k (.c (C.bool true))) (.t 164))⟩,
    ⟨some 166, none, .p (.mv (.t 165))⟩,
    ⟨some 167, some (166, false), .p (.mv (.t 22))⟩,
    ⟨some 168, some (166, false), .p (.mv (.t 24))⟩,
    ⟨some 169, some (166, false), .p (.eqb true (.t 167) (.t 168))⟩,
    ⟨some 170, none, .p (.pick (.t 166) (.k (.c (C.bool true))) (.t 169))⟩,
    ⟨some 171, none, .p (.mv (.t 170))⟩,
    ⟨some 172, some (171, false), .h (.load 2 true (.t 29))⟩,
    ⟨some 173, some (171, false), .h (.load 2 true (.t 31))⟩,
    ⟨some 174, some (171, false), .p (.eqv true [.int .i64, .int .i64] (.t 172) (.t 173))⟩,
    ⟨some 175, none, .p (.pick (.t 171) (.k (.c (C.bool true))) (.t 174))⟩,
    ⟨some 176, none, .p (.mv (.t 175))⟩,
    ⟨some 177, some (176, false), .p (.mv (.t 30))⟩,
    ⟨some 178, some (176, false), .p (.mv (.t 32))⟩,
    ⟨some 179, some (176, false), .p (.eqb true (.t 177) (.t 178))⟩,
    ⟨some 180, none, .p (.pick (.t 176) (.k (.c (C.bool true))) (.t 179))⟩,
    ⟨some 181, none, .p (.mv (.t 180))⟩,
    ⟨some 182, some (181, false), .p (.mv (.t 6))⟩,
    ⟨some 183, some (181, false), .p (.mv (.t 10))⟩,
    ⟨some 184, some (181, false), .p (.eqb true (.t 182) (.t 183))⟩,
    ⟨some 185, none, .p (.pick (.t 181) (.k (.c (C.bool true))) (.t 184))⟩,
    ⟨some 186, none, .p (.mv (.t 185))⟩,
    ⟨some 187, some (186, false), .p (.mv (.t 6))⟩,
    ⟨some 188, some (186, false), .p (.mv (.t 14))⟩,
    ⟨some 189, some (186, false), .p (.eqb true (.t 187) (.t 188))⟩,
    ⟨some 190, none, .p (.pick (.t 186) (.k (.c (C.bool true))) (.t 189))⟩] [3, 5, 6, 9, 13, 17, 18, 19, 22, 25, 26, 27, 28, 29, 30, 190])
  (.cond (.t 190)
  (.seq (.region [⟨some 2, none, .p (.mv (.k (.c (C.bool false))))⟩] [2])
  .ret)
  .skip))
  (.seq (.seq (.region [⟨some 191, none, .p (.mv (.t 22))⟩,
    ⟨some 192, none, .p (.mv (.t 191))⟩,
    ⟨some 193, some (192, true), .p (.mv (.t 19))⟩,
    ⟨some 194, some (192, true), .p (.ixA 6 1 (.t 17) (.t 193))⟩,
    ⟨some 195, some (192, true), .h (.load 1 false (.t 194))⟩,
    ⟨some 196, some (192, true), .p (.bin .gtr (.t 195) (.k (.c (C.int .i64 0))))⟩,
    ⟨some 197, none, .p (.pick (.t 192) (.t 196) (.k (.c (C.bool false))))⟩] [3, 5, 6, 9, 13, 17, 18, 19, 25, 26, 27, 28, 29, 30, 197])
  (.cond (.t 197)
  (.seq (.region [⟨some 198, none, .p (.build [.k (C.int .i64 0), .k (C.int .i64 0)] [(0, 1, .k (.c (C.int .i64 0))), (1, 1, .k (.c (C.int .i64 1)))])⟩,
    ⟨some 33, none, .p (.alloc [.k (C.int .i64 0), .k (C.int .i64 0)])⟩,
    ⟨none, none, .h (.store 2 (.t 33) (.t 198))⟩] [3, 5, 6, 9, 13, 17, 18, 19, 25, 26, 27, 28, 29, 30, 33])
  (.seq (.seq (.region [⟨some 34, none, .p (.mv (.k (.c (C.int .i64 1))))⟩] [3, 5, 6, 9, 13, 17, 18, 19, 25, 26, 27, 28, 29, 30, 33, 34])
  (.block 0 (.loop (.seq (.seq (.region [⟨some 199, none, .p (.mv (.t 34))⟩,
    ⟨some 200, none, .p (.bin .leq (.t 199) (.k (.c (C.int .i64 5))))⟩] [3, 5, 6, 9, 13, 17, 18, 19, 25, 26, 27, 28, 29, 30, 33, 34, 200])
  (.cond (.t 200)
  .skip
  (.exit 0)))
  (.seq (.block 1 (.seq (.region [⟨some 204, none, .h (.load 6 true (.t 17))⟩,
    ⟨some 205, none, .h (.load 6 true (.t 18))⟩,
    ⟨some 206, none, .p (.mv (.t 19))⟩,
    ⟨some 207, none, .p (.mv (.t 34))⟩,
    ⟨some 208, none, .h (.call (.f 22) [.t 204, .t 205, .t 206, .t 207])⟩,
    ⟨some 203, none, .p (.mv (.t 208))⟩,
    ⟨some 209, none, .p (.ext (.t 203) 0)⟩,
    ⟨some 210, none, .p (.ext (.t 203) 1)⟩,
    ⟨some 35, none, .p (.alloc [.k (C.int .i64 0), .k (C.int .i64 0)])⟩,
    ⟨none, none, .h (.store 2 (.t 35) (.t 209))⟩,
    ⟨some 36, none, .p (.mv (.t 210))⟩] [3, 5, 6, 9, 13, 17, 18, 19, 25, 26, 27, 28, 29, 30, 33, 34, 35, 36])
  (.seq (.seq (.region [⟨some 211, none, .p (.mv (.t 36))⟩,
    ⟨some 212, none, .p (.un .not (.t 211))⟩] [3, 5, 6, 9, 13, 17, 18, 19, 25, 26, 27, 28, 29, 30, 33, 34, 35, 212])
  (.cond (.t 212)
  (.seq (.region [⟨some 2, none, .p (.mv (.k (.c (C.bool false))))⟩] [2])
  .ret)
  .skip))
  (.region [⟨some 213, none, .h (.load 2 true (.t 33))⟩,
    ⟨some 214, none, .h (.load 2 true (.t 35))⟩,
    ⟨some 215, none, .h (.call (.f 27) [.t 213, .t 214])⟩,
    ⟨none, none, .h (.store 2 (.t 33) (.t 215))⟩] [3, 5, 6, 9, 13, 17, 18, 19, 25, 26, 27, 28, 29, 30, 33, 34]))))
  (.region [⟨some 201, none, .p (.mv (.t 34))⟩,
    ⟨some 202, none, .p (.bin .add (.t 201) (.k (.c (C.int .i64 1))))⟩,
    ⟨some 34, none, .p (.mv (.t 202))⟩] [3, 5, 6, 9, 13, 17, 18, 19, 25, 26, 27, 28, 29, 30, 33, 34]))) [3, 5, 6, 9, 13, 17, 18, 19, 25, 26, 27, 28, 29, 30, 33, 34])))
  (.seq (.region [⟨some 216, none, .h (.load 2 true (.t 33))⟩,
    ⟨some 217, none, .p (.build [.k (C.int .i64 0), .k (C.int .i64 0)] [(0, 1, .k (.c (C.int .i64 1))), (1, 1, .k (.c (C.int .i64 1)))])⟩,
    ⟨some 218, none, .p (.eqv true [.int .i64, .int .i64] (.t 216) (.t 217))⟩] [3, 5, 6, 9, 13, 25, 26, 27, 28, 29, 30, 218])
  (.cond (.t 218)
  (.seq (.region [⟨some 2, none, .p (.mv (.k (.c (C.bool false))))⟩] [2])
  .ret)
  .skip))))
  .skip))
  (.seq (.seq (.region [⟨some 219, none, .p (.mv (.t 30))⟩] [3, 5, 6, 9, 13, 25, 26, 27, 28, 29, 219])
  (.cond (.t 219)
  (.seq (.region [⟨some 221, none, .h (.load 6 true (.t 25))⟩,
    ⟨some 222, none, .h (.load 6 true (.t 26))⟩,
    ⟨some 223, none, .p (.mv (.t 28))⟩,
    ⟨some 224, none, .p (.mv (.t 27))⟩,
    ⟨some 225, none, .h (.call (.f 25) [.t 221, .t 222, .t 223, .t 224])⟩,
    ⟨some 220, none, .p (.mv (.t 225))⟩,
    ⟨some 226, none, .p (.ext (.t 220) 0)⟩,
    ⟨some 227, none, .p (.ext (.t 220) 1)⟩,
    ⟨some 37, none, .p (.alloc [.k (C.int .i64 0), .k (C.int .i64 0)])⟩,
    ⟨none, none, .h (.store 2 (.t 37) (.t 226))⟩,
    ⟨some 38, none, .p (.mv (.t 227))⟩] [3, 5, 6, 9, 13, 29, 37, 38])
  (.seq (.region [⟨some 228, none, .p (.mv (.t 38))⟩,
    ⟨some 229, none, .p (.un .not (.t 228))⟩,
    ⟨some 230, none, .p (.mv (.t 229))⟩,
    ⟨some 231, some (230, false), .h (.load 2 true (.t 37))⟩,
    ⟨some 232, some (230, false), .h (.load 2 true (.t 29))⟩,
    ⟨some 233, some (230, false), .p (.eqv true [.int .i64, .int .i64] (.t 231) (.t 232))⟩,
    ⟨some 234, none, .p (.pick (.t 230) (.k (.c (C.bool true))) (.t 233))⟩,
    ⟨some 235, none, .p (.mv (.t 234))⟩,
    ⟨some 236, some (235, false), .p (.build [.k (C.int .i64 0), .k (C.int .i64 0)] [(0, 1, .k (.c (C.int .i64 1))), (1, 1, .k (.c (C.int .i64 1)))])⟩,
    ⟨some 237, some (235, false), .h (.load 2 true (.t 29))⟩,
    ⟨some 238, some (235, false), .h (.call (.f 28) [.t 236, .t 237])⟩,
    ⟨some 239, none, .p (.pick (.t 235) (.k (.c (C.bool true))) (.t 238))⟩] [3, 5, 6, 9, 13, 239])
  (.cond (.t 239)
  (.seq (.region [⟨some 2, none, .p (.mv (.k (.c (C.bool false))))⟩] [2])
  .ret)
  .skip)))
  .skip))
  (.seq (.seq (.region [⟨some 240, none, .p (.mv (.t 6))⟩,
    ⟨some 241, none, .p (.un .not (.t 240))⟩] [3, 5, 9, 13, 241])
  (.cond (.t 241)
  (.seq (.region [⟨some 2, none, .p (.mv (.k (.c (C.bool true))))⟩] [2])
  .ret)
  .skip))
  (.seq (.region [⟨some 39, none, .p (.mv (.k (.c (C.int .i64 0))))⟩,
    ⟨some 40, none, .p (.mv (.k (.c (C.int .i64 0))))⟩] [3, 5, 9, 13, 39, 40])
  (.seq (.seq (.region [⟨some 41, none, .p (.mv (.k (.c (C.int .i64 0))))⟩] [3, 5, 9, 13, 39, 40, 41])
  (.block 2 (.loop (.seq (.seq (.region [⟨some 242, none, .p (.mv (.t 41))⟩,
    ⟨some 243, none, .p (.bin .lss (.t 242) (.k (.c (C.int .i64 6))))⟩] [3, 5, 9, 13, 39, 40, 41, 243])
  (.cond (.t 243)
  .skip
  (.exit 2)))
  (.seq (.block 3 (.seq (.seq (.region [⟨some 246, none, .p (.mv (.t 41))⟩,
    ⟨some 247, none, .p (.ixA 6 1 (.t 3) (.t 246))⟩,
    ⟨some 248, none, .h (.load 1 false (.t 247))⟩,
    ⟨some 249, none, .p (.bin .gtr (.t 248) (.k (.c (C.int .i64 0))))⟩] [3, 5, 9, 13, 39, 40, 41, 249])
  (.cond (.t 249)
  (.region [⟨some 250, none, .p (.mv (.t 39))⟩,
    ⟨some 251, none, .p (.bin .add (.t 250) (.k (.c (C.int .i64 1))))⟩,
    ⟨some 39, none, .p (.mv (.t 251))⟩] [3, 5, 9, 13, 39, 40, 41])
  .skip))
  (.region [⟨some 252, none, .p (.mv (.t 40))⟩,
    ⟨some 253, none, .p (.mv (.t 41))⟩,
    ⟨some 254, none, .p (.ixA 6 1 (.t 3) (.t 253))⟩,
    ⟨some 255, none, .h (.load 1 false (.t 254))⟩,
    ⟨some 256, none, .p (.bin .add (.t 252) (.t 255))⟩,
    ⟨some 40, none, .p (.mv (.t 256))⟩] [3, 5, 9, 13, 39, 40, 41])))
  (.region [⟨some 244, none, .p (.mv (.t 41))⟩,
    ⟨some 245, none, .p (.bin .add (.t 244) (.k (.c (C.int .i64 1))))⟩,
    ⟨some 41, none, .p (.mv (.t 245))⟩] [3, 5, 9, 13, 39, 40, 41]))) [3, 5, 9, 13, 39, 40, 41])))
  (.seq (.region [⟨some 257, none, .p (.mv (.t 13))⟩,
    ⟨some 258, none, .p (.bin .geq (.t 257) (.k (.c (C.int .i64 1))))⟩,
    ⟨some 259, none, .p (.mv (.t 258))⟩,
    ⟨some 260, some (259, true), .h (.load 2 true (.t 5))⟩,
    ⟨some 261, some (259, true), .p (.mv (.t 39))⟩,
    ⟨some 262, some (259, true), .p (.build [.k (C.int .i64 0), .k (C.int .i64 0)] [(0, 1, .t 261), (1, 1, .k (.c (C.int .i64 1)))])⟩,
    ⟨some 263, some (259, true), .h (.call (.f 28) [.t 260, .t 262])⟩,
    ⟨some 264, some (259, true), .p (.un .not (.t 263))⟩,
    ⟨some 265, none, .p (.pick (.t 259) (.t 264) (.k (.c (C.bool false))))⟩,
    ⟨some 266, none, .p (.mv (.t 265))⟩,
    ⟨some 267, some (266, true), .p (.mv (.t 40))⟩,
    ⟨some 268, some (266, true), .p (.build [.k (C.int .i64 0), .k (C.int .i64 0)] [(0, 1, .t 267), (1, 1, .k (.c (C.int .i64 1)))])⟩,
    ⟨some 269, some (266, true), .h (.load 2 true (.t 5))⟩,
    ⟨some 270, some (266, true), .h (.call (.f 28) [.t 268, .t 269])⟩,
    ⟨some 271, some (266, true), .p (.un .not (.t 270))⟩,
    ⟨some 272, none, .p (.pick (.t 266) (.t 271) (.k (.c (C.bool false))))⟩,
    ⟨some 273, none, .p (.mv (.t 272))⟩,
    ⟨some 274, some (273, true), .p (.build [.k (C.int .i64 0), .k (C.int .i64 0)] [(0, 1, .k (.c (C.int .i64 1))), (1, 1, .k (.c (C.int .i64 1)))])⟩,
    ⟨some 275, some (273, true), .h (.load 2 true (.t 9))⟩,
    ⟨some 276, some (273, true), .h (.call (.f 28) [.t 274, .t 275])⟩,
    ⟨some 277, some (273, true), .p (.un .not (.t 276))⟩,
    ⟨some 278, none, .p (.pick (.t 273) (.t 277) (.k (.c (C.bool false))))⟩,
    ⟨some 279, none, .p (.mv (.t 278))⟩,
    ⟨some 280, some (279, true), .h (.load 2 true (.t 9))⟩,
    ⟨some 281, some (279, true), .p (.build [.k (C.int .i64 0), .k (C.int .i64 0)] [(0, 1, .k (.c (C.int .i64 1))), (1, 1, .k (.c (C.int .i64 1)))])⟩,
    ⟨some 282, some (279, true), .p (.eqv true [.int .i64, .int .i64] (.t 280) (.t 281))⟩,
    ⟨some 283, some (279, true), .p (.mv (.t 282))⟩,
    ⟨some 284, some (283, false), .h (.load 2 true (.t 5))⟩,
    ⟨some 285, some (283, false), .p (.mv (.t 39))⟩,
    ⟨some 286, some (283, false), .p (.build [.k (C.int .i64 0), .k (C.int .i64 0)] [(0, 1, .t 285), (1, 1, .k (.c (C.int .i64 1)))])⟩,
    ⟨some 287, some (283, false), .p (.eqv false [.int .i64, .int .i64] (.t 284) (.t 286))⟩,
    ⟨some 288, some (279, true), .p (.pick (.t 283) (.k (.c (C.bool true))) (.t 287))⟩,
    ⟨some 289, none, .p (.pick (.t 279) (.t 288) (.k (.c (C.bool false))))⟩,
    ⟨some 2, none, .p (.mv (.t 289))⟩] [2])
  .ret)))))))))))))))))))))) }
theorem a4_ok : okFn Try.prog 4 a4 = true := by kernel_rfl
/-- loop.example/g01215/laws.FnReplayCuts -/
def a5 : AFn := { np := 1, nt := 310, res := [.t 2], body :=
  (.seq (.region [⟨some 2, none, .p (.mv (.k (.c (C.bool false))))⟩] [0])
  (.seq (.seq (.region [⟨some 37, none, .p (.mv (.t 0))⟩,
    ⟨some 38, none, .h (.call (.f 29) [.t 37])⟩] [0, 38])
  (.cond (.t 38)
  (.seq (.region [⟨some 2, none, .p (.mv (.k (.c (C.bool true))))⟩] [2])
  .ret)
  .skip))
  (.seq (.region [⟨some 39, none, .p (.mv (.t 0))⟩,
    ⟨some 40, none, .h (.call (.f 30) [.t 39])⟩,
    ⟨some 3, none, .p (.alloc [.k (C.int .i64 0), .k (C.int .i64 0), .k (C.int .i64 0), .k (C.int .i64 0), .k (C.int .i64 0), .k (C.int .i64 0), .k (C.int .i64 0), .k (C.int .i64 0), .k (C.int .i64 0), .k (C.int .i64 0), .k (C.int .i64 0), .k (C.int .i64 0), .k (C.int .i64 0), .k (C.int .i64 0), .k (C.int .i64 0), .k (C.int .i64 0), .k (C.int .i64 0), .k (C.int .i64 0), .k (C.int .i64 0), .k (C.int .i64 0), .k (C.int .i64 0), .k (C.int .i64 0), .k (C.int .i64 0), .k (C.int .i64 0), .sl 2])⟩,
    ⟨none, none, .h (.store 25 (.t 3) (.t 40))⟩] [3])
  (.seq (.region [⟨some 42, none, .h (.load 25 true (.t 3))⟩,
    ⟨some 43, none, .h (.call (.f 31) [.t 42])⟩,
    ⟨some 41, none, .p (.mv (.t 43))⟩,
    ⟨some 44, none, .p (.ext (.t 41) 0)⟩,
    ⟨some 45, none, .p (.ext (.t 41) 1)⟩,
    ⟨some 4, none, .p (.alloc [.k (C.int .i64 0), .k (C.int .i64 0), .k (C.int .i64 0), .k (C.int .i64 0), .k (C.int .i64 0), .k (C.int .i64 0), .k (C.int .i64 0), .k (C.int .i64 0), .k (C.int .i64 0), .k (C.int .i64 0), .k (C.int .i64 0), .k (C.int .i64 0), .k (C.int .i64 0), .k (C.int .i64 0), .k (C.int .i64 0), .k (C.int .i64 0), .k (C.int .i64 0), .k (C.int .i64 0), .k (C.int .i64 0), .k (C.int .i64 0), .k (C.int .i64 0), .k (C.int .i64 0), .k (C.int .i64 0), .k (C.int .i64 0), .sl 2])⟩,
    ⟨none, none, .h (.store 25 (.t 4) (.t 44))⟩,
    ⟨some 5, none, .p (.mv (.t 45))⟩] [3, 4, 5])
  (.seq (.seq (.region [⟨some 47, none, .h (.load 25 true (.t 3))⟩,
    ⟨some 48, none, .h (.call (.f 32) [.t 47])⟩,
    ⟨some 46, none, .p (.mv (.t 48))⟩,
    ⟨some 49, none, .p (.ext (.t 46) 0)⟩,
    ⟨some 50, none, .p (.ext (.t 46) 1)⟩,
    ⟨some 6, none, .p (.alloc [.k (C.int .i64 0), .k (C.int .i64 0), .k (C.int .i64 0), .k (C.int .i64 0), .k (C.int .i64 0), .k (C.int .i64 0), .k (C.int .i64 0), .k (C.int .i64 0), .k (C.int .i64 0), .k (C.int .i64 0), .k (C.int .i64 0), .k (C.int .i64 0), .k (C.int .i64 0), .k (C.int .i64 0), .k (C.int .i64 0), .k (C.int .i64 0), .k (C.int .i64 0), .k (C.int .i64 0), .k (C.int .i64 0), .k (C.int .i64 0), .k (C.int .i64 0), .k (C.int .i64 0), .k (C.int .i64 0), .k (C.int .i64 0), .sl 2])⟩,
    ⟨none, none, .h (.store 25 (.t 6) (.t 49))⟩,
    ⟨some 7, none, .p (.mv (.t 50))⟩] [3, 4, 5, 6, 7])
  (.seq (.region [⟨some 51, none, .p (.mv (.t 5))⟩,
    ⟨some 52, none, .p (.mv (.t 7))⟩,
    ⟨some 53, none, .p (.eqb true (.t 51) (.t 52))⟩,
    ⟨some 54, none, .p (.mv (.t 53))⟩,
    ⟨some 55, some (54, false), .p (.mv (.t 5))⟩,
    ⟨some 56, some (54, false), .h (.load 25 true (.t 3))⟩,
    ⟨some 57, some (54, false), .h (.call (.f 33) [.t 56])⟩,
    ⟨some 58, some (54, false), .p (.eqb true (.t 55) (.t 57))⟩,
    ⟨some 59, none, .p (.pick (.t 54) (.k (.c (C.bool true))) (.t 58))⟩,
    ⟨some 60, none, .p (.mv (.t 59))⟩,
    ⟨some 61, some (60, false), .h (.load 25 true (.t 4))⟩,
    ⟨some 62, some (60, false), .h (.load 25 true (.t 6))⟩,
    ⟨some 63, some (60, false), .h (.call (.f 34) [.t 61, .t 62])⟩,
    ⟨some 64, some (60, false), .p (.un .not (.t 63))⟩,
    ⟨some 65, none, .p (.pick (.t 60) (.k (.c (C.bool true))) (.t 64))⟩] [3, 4, 5, 65])
  (.cond (.t 65)
  (.seq (.region [⟨some 2, none, .p (.mv (.k (.c (C.bool false))))⟩] [2])
  .ret)
  .skip)))
  (.seq (.region [⟨some 67, none, .h (.load 25 true (.t 3))⟩,
    ⟨some 68, none, .h (.call (.f 35) [.t 67])⟩,
    ⟨some 66, none, .p (.mv (.t 68))⟩,
    ⟨some 69, none, .p (.ext (.t 66) 0)⟩,
    ⟨some 70, none, .p (.ext (.t 66) 1)⟩,
    ⟨some 8, none, .p (.mv (.t 69))⟩,
    ⟨some 9, none, .p (.mv (.t 70))⟩] [3, 4, 5, 8, 9])
  (.seq (.seq (.region [⟨some 72, none, .h (.load 25 true (.t 3))⟩,
    ⟨some 73, none, .h (.call (.f 36) [.t 72])⟩,
    ⟨some 71, none, .p (.mv (.t 73))⟩,
    ⟨some 74, none, .p (.ext (.t 71) 0)⟩,
    ⟨some 75, none, .p (.ext (.t 71) 1)⟩,
    ⟨some 10, none, .p (.mv (.t 74))⟩,
    ⟨some 11, none, .p (.mv (.t 75))⟩] [3, 4, 5, 8, 9, 10, 11])
  (.seq (.region [⟨some 76, none, .p (.mv (.t 9))⟩,
    ⟨some 77, none, .p (.mv (.t 11))⟩,
    ⟨some 78, none, .p (.eqb true (.t 76) (.t 77))⟩,
    ⟨some 79, none, .p (.mv (.t 78))⟩,
    ⟨some 80, some (79, false), .p (.mv (.t 9))⟩,
    ⟨some 81, some (79, false), .p (.mv (.t 5))⟩,
    ⟨some 82, some (79, false), .p (.eqb true (.t 80) (.t 81))⟩,
    ⟨some 83, none, .p (.pick (.t 79) (.k (.c (C.bool true))) (.t 82))⟩,
    ⟨some 84, none, .p (.mv (.t 83))⟩,
    ⟨some 85, some (84, false), .p (.mv (.t 8))⟩,
    ⟨some 86, some (84, false), .p (.mv (.t 10))⟩,
    ⟨some 87, some (84, false), .h (.call (.f 37) [.t 85, .t 86])⟩,
    ⟨some 88, some (84, false), .p (.un .not (.t 87))⟩,
    ⟨some 89, none, .p (.pick (.t 84) (.k (.c (C.bool true))) (.t 88))⟩] [3, 4, 5, 8, 89])
  (.cond (.t 89)
  (.seq (.region [⟨some 2, none, .p (.mv (.k (.c (C.bool false))))⟩] [2])
  .ret)
  .skip)))
  (.seq (.region [⟨some 91, none, .h (.load 25 true (.t 3))⟩,
    ⟨some 92, none, .h (.call (.f 38) [.t 91])⟩,
    ⟨some 90, none, .p (.mv (.t 92))⟩,
    ⟨some 93, none, .p (.ext (.t 90) 0)⟩,
    ⟨some 94, none, .p (.ext (.t 90) 1)⟩,
    ⟨some 12, none, .p (.alloc [.k (C.int .i64 0), .k (C.int .i64 0), .k (C.int .i64 0), .k (C.int .i64 0), .k (C.int .i64 0), .k (C.int .i64 0), .k (C.int .i64 0), .k (C.int .i64 0), .k (C.int .i64 0), .k (C.int .i64 0), .k (C.int .i64 0), .k (C.int .i64 0), .k (C.int .i64 0), .k (C.int .i64 0), .k (C.int .i64 0), .k (C.int .i64 0), .k (C.int .i64 0), .k (C.int .i64 0), .k (C.int .i64 0), .k (C.int .i64 0), .k (C.int .i64 0), .k (C.int .i64 0), .k (C.int .i64 0), .k (C.int .i64 0), .sl 2])⟩,
    ⟨none, none, .h (.store 25 (.t 12) (.t 93))⟩,
    ⟨some 13, none, .p (.mv (.t 94))⟩] [3, 4, 5, 8, 12, 13])
  (.seq (.seq (.region [⟨some 96, none, .h (.load 25 true (.t 3))⟩,
    ⟨some 97, none, .h (.call (.f 39) [.t 96])⟩,
    ⟨some 95, none, .p (.mv (.t 97))⟩,
    ⟨some 98, none, .p (.ext (.t 95) 0)⟩,
    ⟨some 99, none, .p (.ext (.t 95) 1)⟩,
    ⟨some 14, none, .p (.alloc [.k (C.int .i64 0), .k (C.int .i64 0), .k (C.int .i64 0), .k (C.int .i64 0), .k (C.int .i64 0), .k (C.int .i64 0), .k (C.int .i64 0), .k (C.int .i64 0), .k (C.int .i64 0), .k (C.int .i64 0), .k (C.int .i64 0), .k (C.int .i64 0), .k (C.int .i64 0), .k (C.int .i64 0), .k (C.int .i64 0), .k (C.int .i64 0), .k (C.int .i64 0), .k (C.int .i64 0), .k (C.int .i64 0), .k (C.int .i64 0), .k (C.int .i64 0), .k (C.int .i64 0), .k (C.int .i64 0), .k (C.int .i64 0), .sl 2])⟩,
    ⟨none, none, .h (.store 25 (.t 14) (.t 98))⟩,
    ⟨some 15, none, .p (.mv (.t 99))⟩] [3, 4, 5, 8, 12, 13, 14, 15])
  (.seq (.region [⟨some 100, none, .p (.mv (.t 13))⟩,
    ⟨some 101, none, .p (.mv (.t 15))⟩,
    ⟨some 102, none, .p (.eqb true (.t 100) (.t 101))⟩,
    ⟨some 103, none, .p (.mv (.t 102))⟩,
    ⟨some 104, some (103, false), .p (.mv (.t 13))⟩,
    ⟨some 105, some (103, false), .p (.mv (.t 5))⟩,
    ⟨some 106, some (103, false), .p (.eqb true (.t 104) (.t 105))⟩,
    ⟨some 107, none, .p (.pick (.t 103) (.k (.c (C.bool true))) (.t 106))⟩,
    ⟨some 108, none, .p (.mv (.t 107))⟩,
    ⟨some 109, some (108, false), .h (.load 25 true (.t 12))⟩,
    ⟨some 110, some (108, false), .h (.load 25 true (.t 14))⟩,
    ⟨some 111, some (108, false), .h (.call (.f 34) [.t 109, .t 110])⟩,
    ⟨some 112, some (108, false), .p (.un .not (.t 111))⟩,
    ⟨some 113, none, .p (.pick (.t 108) (.k (.c (C.bool true))) (.t 112))⟩] [3, 4, 5, 8, 12, 113])
  (.cond (.t 113)
  (.seq (.region [⟨some 2, none, .p (.mv (.k (.c (C.bool false))))⟩] [2])
  .ret)
  .skip)))
  (.seq (.region [⟨some 115, none, .h (.load 25 true (.t 3))⟩,
    ⟨some 116, none, .h (.call (.f 40) [.t 115])⟩,
    ⟨some 114, none, .p (.mv (.t 116))⟩,
    ⟨some 117, none, .p (.ext (.t 114) 0)⟩,
    ⟨some 118, none, .p (.ext (.t 114) 1)⟩,
    ⟨some 16, none, .p (.mv (.t 117))⟩,
    ⟨some 17, none, .p (.mv (.t 118))⟩] [3, 4, 5, 8, 12, 16, 17])
  (.seq (.seq (.region [⟨some 120, none, .h (.load 25 true (.t 3))⟩,
    ⟨some 121, none, .h (.call (.f 41) [.t 120])⟩,
    ⟨some 119, none, .p (.mv (.t 121))⟩,
    ⟨some 122, none, .p (.ext (.t 119) 0)⟩,
    ⟨some 123, none, .p (.ext (.t 119) 1)⟩,
    ⟨some 18, none, .p (.mv (.t 122))⟩,
    ⟨some 19, none, .p (.mv (.t 123))⟩] [3, 4, 5, 8, 12, 16, 17, 18, 19])
  (.seq (.region [⟨some 124, none, .p (.mv (.t 16))⟩,
    ⟨some 125, none, .p (.mv (.t 18))⟩,
    ⟨some 126, none, .p (.eqb true (.t 124) (.t 125))⟩,
    ⟨some 127, none, .p (.mv (.t 126))⟩,
    ⟨some 128, some (127, false), .p (.mv (.t 17))⟩,
    ⟨some 129, some (127, false), .p (.mv (.t 19))⟩,
    ⟨some 130, some (127, false), .p (.eqb true (.t 128) (.t 129))⟩,
    ⟨some 131, none, .p (.pick (.t 127) (.k (.c (C.bool true))) (.t 130))⟩,
    ⟨some 132, none, .p (.mv (.t 131))⟩,
    ⟨some 133, some (132, false), .p (.mv (.t 17))⟩,
    ⟨some 134, some (132, false), .p (.mv (.t 5))⟩,
    ⟨some 135, some (132, false), .p (.eqb true (.t 133) (.t 134))⟩,
    ⟨some 136, none, .p (.pick (.t 132) (.k (.c (C.bool true))) (.t 135))⟩] [3, 4, 5, 8, 12, 16, 136])
  (.cond (.t 136)
  (.seq (.region [⟨some 2, none, .p (.mv (.k (.c (C.bool false))))⟩] [2])
  .ret)
  .skip)))
  (.seq (.region [⟨some 138, none, .h (.load 25 true (.t 3))⟩,
    ⟨some 139, none, .h (.call (.f 42) [.t 138])⟩,
    ⟨some 137, none, .p (.mv (.t 139))⟩,
    ⟨some 140, none, .p (.ext (.t 137) 0)⟩,
    ⟨some 141, none, .p (.ext (.t 137) 1)⟩,
    ⟨some 20, none, .p (.mv (.t 140))⟩,
    ⟨some 21, none, .p (.mv (.t 141))⟩] [3, 4, 5, 8, 12, 16, 20, 21])
  (.seq (.seq (.region [⟨some 143, none, .h (.load 25 true (.t 3))⟩,
    ⟨some 144, none, .h (.call (.f 43) [.t 143])⟩,
    ⟨some 142, none, .p (.mv (.t 144))⟩,
    ⟨some 145, none, .p (.ext (.t 142) 0)⟩,
    ⟨some 146, none, .p (.ext (.t 142) 1)⟩,
    ⟨some 22, none, .p (.mv (.t 145))⟩,
    ⟨some 23, none, .p (.mv (.t 146))⟩] [3, 4, 5, 8, 12, 16, 20, 21, 22, 23])
  (.seq (.region [⟨some 147, none, .p (.mv (.t 20))⟩,
    ⟨some 148, none, .p (.mv (.t 22))⟩,
    ⟨some 149, none, .p (.bin .neq (.t 147) (.t 148))⟩,
    ⟨some 150, none, .p (.mv (.t 149))⟩,
    ⟨some 151, some (150, false), .p (.mv (.t 21))⟩,
    ⟨some 152, some (150, false), .p (.mv (.t 23))⟩,
    ⟨some 153, some (150, false), .p (.eqb true (.t 151) (.t 152))⟩,
    ⟨some 154, none, .p (.pick (.t 150) (.k (.c (C.bool true))) (.t 153))⟩,
    ⟨some 155, none, .p (.mv (.t 154))⟩,
    ⟨some 156, some (155, false), .p (.mv (.t 21))⟩,
    ⟨some 157, some (155, false), .p (.mv (.t 5))⟩,
    ⟨some 158, some (155, false), .p (.mv (.t 157))⟩,
    ⟨some 159, some (158, true), .p (.mv (.t 16))⟩,
    ⟨some 160, some (155, false), .p (.pick (.t 158) (.t 159) (.k (.c (C.bool false))))⟩,
    ⟨some 161, some (155, false), .p (.eqb true (.t 156) (.t 160))⟩,
    ⟨some 162, none, .p (.pick (.t 155) (.k (.c (C.bool true))) (.t 161))⟩,
    ⟨some 163, none, .p (.mv (.t 162))⟩,
    ⟨some 164, some (163, false), .p (.mv (.t 21))⟩,
    ⟨some 165, some (163, false), .p (.mv (.t 164))⟩,
    ⟨some 166, some (165, true), .p (.mv (.t 20))⟩,
    ⟨some 167, some (165, true), .p (.bin .lss (.t 166) (.k (.c (C.int .i64 0))))⟩,
    ⟨some 168, some (163, false), .p (.pick (.t 165) (.t 167) (.k (.c (C.bool false))))⟩,
    ⟨some 169, none, .p (.pick (.t 163) (.k (.c (C.bool true))) (.t 168))⟩] [3, 4, 5, 8, 12, 16, 169])
  (.cond (.t 169)
  (.seq (.region [⟨some 2, none, .p (.mv (.k (.c (C.bool false))))⟩] [2])
  .ret)
  .skip)))
  (.seq (.seq (.region [⟨some 170, none, .p (.mv (.t 5))⟩,
    ⟨some 171, none, .p (.un .not (.t 170))⟩] [3, 4, 8, 12, 16, 171])
  (.cond (.t 171)
  (.seq (.region [⟨some 2, none, .p (.mv (.k (.c (C.bool true))))⟩] [2])
  .ret)
  .skip))
  (.seq (.region [⟨some 173, none, .h (.load 25 true (.t 4))⟩,
    ⟨some 174, none, .h (.call (.f 35) [.t 173])⟩,
    ⟨some 172, none, .p (.mv (.t 174))⟩,
    ⟨some 175, none, .p (.ext (.t 172) 0)⟩,
    ⟨some 176, none, .p (.ext (.t 172) 1)⟩,
    ⟨some 24, none, .p (.mv (.t 175))⟩,
    ⟨some 25, none, .p (.mv (.t 176))⟩] [3, 4, 8, 12, 16, 24, 25])
  (.seq (.region [⟨some 178, none, .h (.load 25 true (.t 3))⟩,
    ⟨some 179, none, .p (.fld 24 (.t 3))⟩,
    ⟨some 180, none, .h (.load 1 false (.t 179))⟩,
    ⟨some 181, none, .p (.len (.t 180))⟩,
    ⟨some 182, none, .h (.call (.f 44) [.t 178, .t 181])⟩,
    ⟨some 177, none, .p (.mv (.t 182))⟩,
    ⟨some 183, none, .p (.ext (.t 177) 0)⟩,
    ⟨some 184, none, .p (.ext (.t 177) 1)⟩,
    ⟨some 26, none, .p (.alloc (List.replicate 24 (.k (C.int .i64 0))))⟩,
    ⟨none, none, .h (.store 24 (.t 26) (.t 183))⟩,
    ⟨some 27, none, .p (.mv (.t 184))⟩] [3, 4, 8, 12, 16, 24, 25, 26, 27])
  (.seq (.region [⟨some 186, none, .h (.load 25 true (.t 4))⟩,
    ⟨some 187, none, .p (.fld 24 (.t 4))⟩,
    ⟨some 188, none, .h (.load 1 false (.t 187))⟩,
    ⟨some 189, none, .p (.len (.t 188))⟩,
    ⟨some 190, none, .h (.call (.f 44) [.t 186, .t 189])⟩,
    ⟨some 185, none, .p (.mv (.t 190))⟩,
    ⟨some 191, none, .p (.ext (.t 185) 0)⟩,
    ⟨some 192, none, .p (.ext (.t 185) 1)⟩,
    ⟨some 28, none, .p (.alloc (List.replicate 24 (.k (C.int .i64 0))))⟩,
    ⟨none, none, .h (.store 24 (.t 28) (.t 191))⟩,
    ⟨some 29, none, .p (.mv (.t 192))⟩] [3, 4, 8, 12, 16, 24, 25, 26, 27, 28, 29])
  (.seq (.region [⟨some 194, none, .h (.load 25 true (.t 4))⟩,
    ⟨some 195, none, .h (.call (.f 40) [.t 194])⟩,
    ⟨some 193, none, .p (.mv (.t 195))⟩,
    ⟨some 196, none, .p (.ext (.t 193) 0)⟩,
    ⟨some 197, none, .p (.ext (.t 193) 1)⟩,
    ⟨some 30, none, .p (.mv (.t 196))⟩,
    ⟨some 31, none, .p (.mv (.t 197))⟩] [3, 4, 8, 12, 16, 24, 25, 26, 27, 28, 29, 30, 31])
  (.seq (.seq (.region [⟨some 198, none, .p (.mv (.t 25))⟩,
    ⟨some 199, none, .p (.un .not (.t 198))⟩,
    ⟨some 200, none, .p (.mv (.t 199))⟩,
    ⟨some 201, some (200, false), .p (.mv (.t 27))⟩,
    ⟨some 202, some (200, false), .p (.un .not (.t 201))⟩,
    ⟨some 203, none, .p (.pick (.t 200) (.k (.c (C.bool true))) (.t 202))⟩,
    ⟨some 204, none, .p (.mv (.t 203))⟩,
    ⟨some 205, some (204, false), .p (.mv (.t 29))⟩,
    ⟨some 206, some (204, false), .p (.un .not (.t 205))⟩,
    ⟨some 207, none, .p (.pick (.t 204) (.k (.c (C.bool true))) (.t 206))⟩,
    ⟨some 208, none, .p (.mv (.t 207))⟩,
    ⟨some 209, some (208, false), .p (.mv (.t 31))⟩,
    ⟨some 210, some (208, false), .p (.un .not (.t 209))⟩,
    ⟨some 211, none, .p (.pick (.t 208) (.k (.c (C.bool true))) (.t 210))⟩,
    ⟨some 212, none, .p (.mv (.t 211))⟩,
    ⟨some 213, some (212, false), .p (.mv (.t 24))⟩,
    ⟨some 214, some (212, false), .p (.len (.t 213))⟩,
    ⟨some 215, some (212, false), .p (.bin .neq (.t 214) (.k (.c (C.int .i64 0))))⟩,
    ⟨some 216, none, .p (.pick (.t 212) (.k (.c (C.bool true))) (.t 215))⟩,
    ⟨some 217, none, .p (.mv (.t 216))⟩,
    ⟨some 218, some (217, false), .h (.load 24 true (.t 26))⟩,
    ⟨some 219, some (217, false), .h (.load 24 true (.t 28))⟩,
    ⟨some 220, some (217, false), .p (.eqv true (List.replicate 24 (.int .i64)) (.t 218) (.t 219))⟩,
    ⟨some 221, none, .p (.pick (.t 217) (.k (.c (C.bool true))) (.t 220))⟩,
    ⟨some 222, none, .p (.mv (.t 221))⟩,
    ⟨some 223, some (222, false), .p (.mv (.t 30))⟩,
    ⟨some 224, some (222, false), .p (.mv (.t 16))⟩,
    ⟨some 225, some (222, false), .p (.eqb true (.t 223) (.t 224))⟩,
    ⟨some 226, none, .p (.pick (.t 222) (.k (.c (C.bool true))) (.t 225))⟩,
    ⟨some 227, none, .p (.mv (.t 226))⟩,
    ⟨some 228, some (227, false), .p (.fld 24 (.t 4))⟩,
    ⟨some 229, some (227, false), .h (.load 1 false (.t 228))⟩,
    ⟨some 230, some (227, false), .p (.len (.t 229))⟩,
    ⟨some 231, some (227, false), .p (.fld 24 (.t 3))⟩,
    ⟨some 232, some (227, false), .h (.load 1 false (.t 231))⟩,
    ⟨some 233, some (227, false), .p (.len (.t 232))⟩,
    ⟨some 234, some (227, false), .p (.bin .gtr (.t 230) (.t 233))⟩,
    ⟨some 235, none, .p (.pick (.t 227) (.k (.c (C.bool true))) (.t 234))⟩,
    ⟨some 236, none, .p (.mv (.t 235))⟩,
    ⟨some 237, some (236, false), .p (.mv (.t 8))⟩,
    ⟨some 238, some (236, false), .p (.len (.t 237))⟩,
    ⟨some 239, some (236, false), .p (.bin .eql (.t 238) (.k (.c (C.int .i64 0))))⟩,
    ⟨some 240, some (236, false), .p (.fld 24 (.t 4))⟩,
    ⟨some 241, some (236, false), .h (.load 1 false (.t 240))⟩,
    ⟨some 242, some (236, false), .p (.len (.t 241))⟩,
    ⟨some 243, some (236, false), .p (.fld 24 (.t 3))⟩,
    ⟨some 244, some (236, false), .h (.load 1 false (.t 243))⟩,
    ⟨some 245, some (236, false), .p (.len (.t 244))⟩,
    ⟨some 246, some (236, false), .p (.bin .eql (.t 242) (.t 245))⟩,
    ⟨some 247, some (236, false), .p (.eqb true (.t 239) (.t 246))⟩,
    ⟨some 248, none, .p (.pick (.t 236) (.k (.c (C.bool true))) (.t 247))⟩] [3, 8, 12, 248])
  (.cond (.t 248)
  (.seq (.region [⟨some 2, none, .p (.mv (.k (.c (C.bool false))))⟩] [2])
  .ret)
  .skip))
  (.seq (.seq (.region [⟨some 32, none, .p (.mv (.k (.c (C.int .i64 0))))⟩] [3, 8, 12, 32])
  (.block 0 (.loop (.seq (.seq (.region [⟨some 249, none, .p (.mv (.t 32))⟩,
    ⟨some 250, none, .p (.mv (.t 8))⟩,
    ⟨some 251, none, .p (.len (.t 250))⟩,
    ⟨some 252, none, .p (.bin .lss (.t 249) (.t 251))⟩] [3, 8, 12, 32, 252])
  (.cond (.t 252)
  .skip
  (.exit 0)))
  (.seq (.block 1 (.seq (.regionD [⟨some 256, none, .h (.load 25 true (.t 3))⟩,
    ⟨some 257, none, .p (.mv (.t 8))⟩,
    ⟨some 258, none, .p (.mv (.t 32))⟩,
    ⟨some 259, none, .p (.ixS 2 (.t 257) (.t 258))⟩,
    ⟨some 260, none, .p (.ixA 2 1 (.t 259) (.k (.c (C.int .i64 0))))⟩,
    ⟨some 261, none, .h (.load 1 false (.t 260))⟩,
    ⟨some 262, none, .h (.call (.f 44) [.t 256, .t 261])⟩,
    ⟨some 255, none, .p (.mv (.t 262))⟩,
    ⟨some 263, none, .p (.ext (.t 255) 0)⟩,
    ⟨some 264, none, .p (.ext (.t 255) 1)⟩,
    ⟨some 33, none, .p (.alloc (List.replicate 24 (.k (C.int .i64 0))))⟩,
    ⟨none, none, .h (.store 24 (.t 33) (.t 263))⟩,
    ⟨some 34, none, .p (.mv (.t 264))⟩] [3, 8, 12, 32, 33, 34] [])
  (.seq (.regionD [⟨some 266, none, .h (.load 25 true (.t 3))⟩,
    ⟨some 267, none, .p (.mv (.t 8))⟩,
    ⟨some 268, none, .p (.mv (.t 32))⟩,
    ⟨some 269, none, .p (.ixS 2 (.t 267) (.t 268))⟩,
    ⟨some 270, none, .p (.ixA 2 1 (.t 269) (.k (.c (C.int .i64 1))))⟩,
    ⟨some 271, none, .h (.load 1 false (.t 270))⟩,
    ⟨some 272, none, .h (.call (.f 44) [.t 266, .t 271])⟩,
    ⟨some 265, none, .p (.mv (.t 272))⟩,
    ⟨some 273, none, .p (.ext (.t 265) 0)⟩,
    ⟨some 274, none, .p (.ext (.t 265) 1)⟩,
    ⟨some 35, none, .p (.alloc (List.replicate 24 (.k (C.int .i64 0))))⟩,
    ⟨none, none, .h (.store 24 (.t 35) (.t 273))⟩,
    ⟨some 36, none, .p (.mv (.t 274))⟩] [3, 8, 12, 32, 33, 34, 35, 36] [])
  (.seq (.regionD [⟨some 275, none, .p (.mv (.t 34))⟩,
    ⟨some 276, none, .p (.un .not (.t 275))⟩,
    ⟨some 277, none, .p (.mv (.t 276))⟩,
    ⟨some 278, some (277, false), .p (.mv (.t 36))⟩,
    ⟨some 279, some (277, false), .p (.un .not (.t 278))⟩,
    ⟨some 280, none, .p (.pick (.t 277) (.k (.c (C.bool true))) (.t 279))⟩,
    ⟨some 281, none, .p (.mv (.t 280))⟩,
    ⟨some 282, some (281, false), .h (.load 24 true (.t 33))⟩,
    ⟨some 283, some (281, false), .h (.load 24 true (.t 35))⟩,
    ⟨some 284, some (281, false), .p (.eqv true (List.replicate 24 (.int .i64)) (.t 282) (.t 283))⟩,
    ⟨some 285, none, .p (.pick (.t 281) (.k (.c (C.bool true))) (.t 284))⟩,
    ⟨some 286, none, .p (.mv (.t 285))⟩,
    ⟨some 287, some (286, false), .p (.mv (.t 8))⟩,
    ⟨some 288, some (286, false), .p (.mv (.t 32))⟩,
    ⟨some 289, some (286, false), .p (.ixS 2 (.t 287) (.t 288))⟩,
    ⟨some 290, some (286, false), .p (.ixA 2 1 (.t 289) (.k (.c (C.int .i64 0))))⟩,
    ⟨some 291, some (286, false), .h (.load 1 false (.t 290))⟩,
    ⟨some 292, some (286, false), .p (.mv (.t 8))⟩,
    ⟨some 293, some (286, false), .p (.mv (.t 32))⟩,
    ⟨some 294, some (286, false), .p (.ixS 2 (.t 292) (.t 293))⟩,
    ⟨some 295, some (286, false), .p (.ixA 2 1 (.t 294) (.k (.c (C.int .i64 1))))⟩,
    ⟨some 296, some (286, false), .h (.load 1 false (.t 295))⟩,
    ⟨some 297, some (286, false), .p (.bin .geq (.t 291) (.t 296))⟩,
    ⟨some 298, none, .p (.pick (.t 286) (.k (.c (C.bool true))) (.t 297))⟩] [3, 8, 12, 32, 298] [])
  (.cond (.t 298)
  (.seq (.region [⟨some 2, none, .p (.mv (.k (.c (C.bool false))))⟩] [2])
  .ret)
  .skip)))))
  (.region [⟨some 253, none, .p (.mv (.t 32))⟩,
    ⟨some 254, none, .p (.bin .add (.t 253) (.k (.c (C.int .i64 1))))⟩,
    ⟨some 32, none, .p (.mv (.t 254))⟩] [3, 8, 12, 32]))) [3, 8, 12, 32])))
  (.seq (.region [⟨some 299, none, .h (.load 25 true (.t 12))⟩,
    ⟨some 300, none, .h (.call (.f 33) [.t 299])⟩,
    ⟨some 301, none, .p (.mv (.t 300))⟩,
    ⟨some 302, some (301, true), .p (.fld 24 (.t 12))⟩,
    ⟨some 303, some (301, true), .h (.load 1 false (.t 302))⟩,
    ⟨some 304, some (301, true), .p (.len (.t 303))⟩,
    ⟨some 305, some (301, true), .p (.fld 24 (.t 3))⟩,
    ⟨some 306, some (301, true), .h (.load 1 false (.t 305))⟩,
    ⟨some 307, some (301, true), .p (.len (.t 306))⟩,
    ⟨some 308, some (301, true), .p (.bin .leq (.t 304) (.t 307))⟩,
    ⟨some 309, none, .p (.pick (.t 301) (.t 308) (.k (.c (C.bool false))))⟩,
    ⟨some 2, none, .p (.mv (.t 309))⟩] [2])
  .ret))))))))))))))))))))) }
theorem a5_ok : okFn Try.prog 5 a5 = true := by kernel_rfl
/-- loop.example/g01215/laws.FnTubeGames -/
def a6 : AFn := { np := 1, nt := 430, res := [.t 2], body :=
  (.seq (.region [⟨some 2, none, .p (.mv (.k (.c (C.bool false))))⟩] [0])
  (.seq (.seq (.region [⟨some 62, none, .p (.mv (.t 0))⟩,
    ⟨some 63, none, .h (.call (.f 29) [.t 62])⟩] [0, 63])
  (.cond (.t 63)
  (.seq (.region [⟨some 2, none, .p (.mv (.k (.c (C.bool true))))⟩] [2])
  .ret)
  .skip))
  (.seq (.region [⟨some 65, none, .p (.mv (.t 0))⟩,
    ⟨some 66, none, .h (.call (.f 45) [.t 65])⟩,
    ⟨some 64, none, .p (.mv (.t 66))⟩,
    ⟨some 67, none, .p (.ext (.t 64) 0)⟩,
    ⟨some 68, none, .p (.ext (.t 64) 1)⟩,
    ⟨some 3, none, .p (.alloc (List.replicate 24 (.k (C.int .i64 0))))⟩,
    ⟨none, none, .h (.store 24 (.t 3) (.t 67))⟩,
    ⟨some 4, none, .p (.mv (.t 68))⟩] [0, 3, 4])
  (.seq (.region [⟨some 70, none, .h (.load 24 true (.t 3))⟩,
    ⟨some 71, none, .p (.mv (.t 4))⟩,
    ⟨some 72, none, .h (.call (.f 46) [.t 70, .t 71])⟩,
    ⟨some 69, none, .p (.mv (.t 72))⟩,
    ⟨some 73, none, .p (.ext (.t 69) 0)⟩,
    ⟨some 74, none, .p (.ext (.t 69) 1)⟩,
    ⟨some 5, none, .p (.mv (.t 73))⟩,
    ⟨some 6, none, .p (.mv (.t 74))⟩] [0, 3, 4, 5, 6])
  (.seq (.seq (.region [⟨some 76, none, .h (.load 24 true (.t 3))⟩,
    ⟨some 77, none, .p (.mv (.t 4))⟩,
    ⟨some 78, none, .h (.call (.f 47) [.t 76, .t 77])⟩,
    ⟨some 75, none, .p (.mv (.t 78))⟩,
    ⟨some 79, none, .p (.ext (.t 75) 0)⟩,
    ⟨some 80, none, .p (.ext (.t 75) 1)⟩,
    ⟨some 7, none, .p (.mv (.t 79))⟩,
    ⟨some 8, none, .p (.mv (.t 80))⟩] [0, 3, 4, 5, 6, 7, 8])
  (.seq (.region [⟨some 81, none, .p (.mv (.t 5))⟩,
    ⟨some 82, none, .p (.mv (.t 7))⟩,
    ⟨some 83, none, .p (.bin .neq (.t 81) (.t 82))⟩,
    ⟨some 84, none, .p (.mv (.t 83))⟩,
    ⟨some 85, some (84, false), .p (.mv (.t 6))⟩,
    ⟨some 86, some (84, false), .p (.mv (.t 8))⟩,
    ⟨some 87, some (84, false), .p (.eqb true (.t 85) (.t 86))⟩,
    ⟨some 88, none, .p (.pick (.t 84) (.k (.c (C.bool true))) (.t 87))⟩,
    ⟨some 89, none, .p (.mv (.t 88))⟩,
    ⟨some 90, some (89, false), .p (.mv (.t 6))⟩,
    ⟨some 91, some (89, false), .p (.mv (.t 90))⟩,
    ⟨some 92, some (91, true), .p (.mv (.t 5))⟩,
    ⟨some 93, some (91, true), .p (.mv (.t 4))⟩,
    ⟨some 94, some (91, true), .p (.bin .gtr (.t 92) (.t 93))⟩,
    ⟨some 95, some (89, false), .p (.pick (.t 91) (.t 94) (.k (.c (C.bool false))))⟩,
    ⟨some 96, none, .p (.pick (.t 89) (.k (.c (C.bool true))) (.t 95))⟩] [0, 3, 4, 5, 6, 96])
  (.cond (.t 96)
  (.seq (.region [⟨some 2, none, .p (.mv (.k (.c (C.bool false))))⟩] [2])
  .ret)
  .skip)))
  (.seq (.region [⟨some 98, none, .h (.load 24 true (.t 3))⟩,
    ⟨some 99, none, .p (.mv (.t 4))⟩,
    ⟨some 100, none, .h (.call (.f 48) [.t 98, .t 99])⟩,
    ⟨some 97, none, .p (.mv (.t 100))⟩,
    ⟨some 101, none, .p (.ext (.t 97) 0)⟩,
    ⟨some 102, none, .p (.ext (.t 97) 1)⟩,
    ⟨some 9, none, .p (.mv (.t 101))⟩,
    ⟨some 10, none, .p (.mv (.t 102))⟩] [0, 3, 4, 5, 6, 9, 10])
  (.seq (.seq (.region [⟨some 104, none, .h (.load 24 true (.t 3))⟩,
    ⟨some 105, none, .p (.mv (.t 4))⟩,
    ⟨some 106, none, .h (.call (.f 49) [.t 104, .t 105])⟩,
    ⟨some 103, none, .p (.mv (.t 106))⟩,
    ⟨some 107, none, .p (.ext (.t 103) 0)⟩,
    ⟨some 108, none, .p (.ext (.t 103) 1)⟩,
    ⟨some 11, none, .p (.mv (.t 107))⟩,
    ⟨some 12, none, .p (.mv (.t 108))⟩] [0, 3, 4, 5, 6, 9, 10, 11, 12])
  (.seq (.region [⟨some 109, none, .p (.mv (.t 10))⟩,
    ⟨some 110, none, .p (.mv (.t 12))⟩,
    ⟨some 111, none, .p (.eqb true (.t 109) (.t 110))⟩,
    ⟨some 112, none, .p (.mv (.t 111))⟩,
    ⟨some 113, some (112, false), .p (.mv (.t 10))⟩,
    ⟨some 114, some (112, false), .p (.mv (.t 6))⟩,
    ⟨some 115, some (112, false), .p (.eqb true (.t 113) (.t 114))⟩,
    ⟨some 116, none, .p (.pick (.t 112) (.k (.c (C.bool true))) (.t 115))⟩,
    ⟨some 117, none, .p (.mv (.t 116))⟩,
    ⟨some 118, some (117, false), .p (.mv (.t 9))⟩,
    ⟨some 119, some (117, false), .p (.mv (.t 11))⟩,
    ⟨some 120, some (117, false), .h (.call (.f 37) [.t 118, .t 119])⟩,
    ⟨some 121, some (117, false), .p (.un .not (.t 120))⟩,
    ⟨some 122, none, .p (.pick (.t 117) (.k (.c (C.bool true))) (.t 121))⟩,
    ⟨some 123, none, .p (.mv (.t 122))⟩,
    ⟨some 124, some (123, false), .p (.mv (.t 9))⟩,
    ⟨some 125, some (123, false), .p (.len (.t 124))⟩,
    ⟨some 126, some (123, false), .p (.bin .gtr (.t 125) (.k (.c (C.int .i64 3))))⟩,
    ⟨some 127, none, .p (.pick (.t 123) (.k (.c (C.bool true))) (.t 126))⟩] [0, 3, 4, 5, 6, 9, 127])
  (.cond (.t 127)
  (.seq (.region [⟨some 2, none, .p (.mv (.k (.c (C.bool false))))⟩] [2])
  .ret)
  .skip)))
  (.seq (.region [⟨some 129, none, .h (.load 24 true (.t 3))⟩,
    ⟨some 130, none, .p (.mv (.t 4))⟩,
    ⟨some 131, none, .h (.call (.f 50) [.t 129, .t 130])⟩,
    ⟨some 128, none, .p (.mv (.t 131))⟩,
    ⟨some 132, none, .p (.ext (.t 128) 0)⟩,
    ⟨some 133, none, .p (.ext (.t 128) 1)⟩,
    ⟨some 13, none, .p (.mv (.t 132))⟩,
    ⟨some 14, none, .p (.mv (.t 133))⟩] [0, 3, 4, 5, 6, 9, 13, 14])
  (.seq (.seq (.region [⟨some 135, none, .h (.load 24 true (.t 3))⟩,
    ⟨some 136, none, .p (.mv (.t 4))⟩,
    ⟨some 137, none, .h (.call (.f 51) [.t 135, .t 136])⟩,
    ⟨some 134, none, .p (.mv (.t 137))⟩,
    ⟨some 138, none, .p (.ext (.t 134) 0)⟩,
    ⟨some 139, none, .p (.ext (.t 134) 1)⟩,
    ⟨some 15, none, .p (.mv (.t 138))⟩,
    ⟨some 16, none, .p (.mv (.t 139))⟩] [0, 3, 4, 5, 6, 9, 13, 14, 15, 16])
  (.seq (.region [⟨some 140, none, .p (.mv (.t 14))⟩,
    ⟨some 141, none, .p (.mv (.t 16))⟩,
    ⟨some 142, none, .p (.eqb true (.t 140) (.t 141))⟩,
    ⟨some 143, none, .p (.mv (.t 142))⟩,
    ⟨some 144, some (143, false), .p (.mv (.t 13))⟩,
    ⟨some 145, some (143, false), .p (.mv (.t 15))⟩,
    ⟨some 146, some (143, false), .h (.call (.f 37) [.t 144, .t 145])⟩,
    ⟨some 147, some (143, false), .p (.un .not (.t 146))⟩,
    ⟨some 148, none, .p (.pick (.t 143) (.k (.c (C.bool true))) (.t 147))⟩] [0, 3, 4, 5, 6, 9, 13, 14, 148])
  (.cond (.t 148)
  (.seq (.region [⟨some 2, none, .p (.mv (.k (.c (C.bool false))))⟩] [2])
  .ret)
  .skip)))
  (.seq (.region [⟨some 150, none, .h (.load 24 true (.t 3))⟩,
    ⟨some 151, none, .p (.mv (.t 4))⟩,
    ⟨some 152, none, .h (.call (.f 52) [.t 150, .t 151])⟩,
    ⟨some 149, none, .p (.mv (.t 152))⟩,
    ⟨some 153, none, .p (.ext (.t 149) 0)⟩,
    ⟨some 154, none, .p (.ext (.t 149) 1)⟩,
    ⟨some 17, none, .p (.alloc [.k (C.int .i64 0), .k (C.int .i64 0)])⟩,
    ⟨none, none, .h (.store 2 (.t 17) (.t 153))⟩,
    ⟨some 18, none, .p (.mv (.t 154))⟩] [0, 3, 4, 5, 6, 9, 13, 14, 17, 18])
  (.seq (.seq (.region [⟨some 156, none, .h (.load 24 true (.t 3))⟩,
    ⟨some 157, none, .p (.mv (.t 4))⟩,
    ⟨some 158, none, .h (.call (.f 53) [.t 156, .t 157])⟩,
    ⟨some 155, none, .p (.mv (.t 158))⟩,
    ⟨some 159, none, .p (.ext (.t 155) 0)⟩,
    ⟨some 160, none, .p (.ext (.t 155) 1)⟩,
    ⟨some 19, none, .p (.alloc [.k (C.int .i64 0), .k (C.int .i64 0)])⟩,
    ⟨none, none, .h (.store 2 (.t 19) (.t 159))⟩,
    ⟨some 20, none, .p (.mv (.t 160))⟩] [0, 3, 5, 6, 9, 13, 14, 17, 18, 19, 20])
  (.seq (.region [⟨some 161, none, .h (.load 2 true (.t 17))⟩,
    ⟨some 162, none, .h (.load 2 true (.t 19))⟩,
    ⟨some 163, none, .p (.eqv true [.int .i64, .int .i64] (.t 161) (.t 162))⟩,
    ⟨some 164, none, .p (.mv (.t 163))⟩,
    ⟨some 165, some (164, false), .p (.mv (.t 18))⟩,
    ⟨some 166, some (164, false), .p (.mv (.t 20))⟩,
    ⟨some 167, some (164, false), .p (.eqb true (.t 165) (.t 166))⟩,
    ⟨some 168, none, .p (.pick (.t 164) (.k (.c (C.bool true))) (.t 167))⟩,
    ⟨some 169, none, .p (.mv (.t 168))⟩,
    ⟨some 170, some (169, false), .p (.mv (.t 18))⟩,
    ⟨some 171, some (169, false), .p (.mv (.t 14))⟩,
    ⟨some 172, some (169, false), .p (.mv (.t 171))⟩,
    ⟨some 173, some (172, true), .p (.mv (.t 13))⟩,
    ⟨some 174, some (172, true), .p (.len (.t 173))⟩,
    ⟨some 175, some (172, true), .p (.bin .gtr (.t 174) (.k (.c (C.int .i64 0))))⟩,
    ⟨some 176, some (169, false), .p (.pick (.t 172) (.t 175) (.k (.c (C.bool false))))⟩,
    ⟨some 177, some (169, false), .p (.eqb true (.t 170) (.t 176))⟩,
    ⟨some 178, none, .p (.pick (.t 169) (.k (.c (C.bool true))) (.t 177))⟩] [0, 3, 5, 6, 9, 13, 17, 18, 178])
  (.cond (.t 178)
  (.seq (.region [⟨some 2, none, .p (.mv (.k (.c (C.bool false))))⟩] [2])
  .ret)
  .skip)))
  (.seq (.region [⟨some 180, none, .p (.mv (.t 0))⟩,
    ⟨some 181, none, .h (.call (.f 54) [.t 180])⟩,
    ⟨some 179, none, .p (.mv (.t 181))⟩,
    ⟨some 182, none, .p (.ext (.t 179) 0)⟩,
    ⟨some 183, none, .p (.ext (.t 179) 1)⟩,
    ⟨some 21, none, .p (.alloc (List.replicate 24 (.k (C.int .i64 0))))⟩,
    ⟨none, none, .h (.store 24 (.t 21) (.t 182))⟩,
    ⟨some 22, none, .p (.mv (.t 183))⟩] [3, 5, 6, 9, 13, 17, 18, 21, 22])
  (.seq (.region [⟨some 185, none, .h (.load 24 true (.t 21))⟩,
    ⟨some 186, none, .p (.mv (.t 22))⟩,
    ⟨some 187, none, .h (.call (.f 55) [.t 185, .t 186])⟩,
    ⟨some 184, none, .p (.mv (.t 187))⟩,
    ⟨some 188, none, .p (.ext (.t 184) 0)⟩,
    ⟨some 189, none, .p (.ext (.t 184) 1)⟩,
    ⟨some 190, none, .p (.ext (.t 184) 2)⟩,
    ⟨some 191, none, .p (.ext (.t 184) 3)⟩,
    ⟨some 23, none, .p (.alloc (List.replicate 24 (.k (C.int .i64 0))))⟩,
    ⟨some 24, none, .p (.alloc [.k (C.int .i64 0), .k (C.int .i64 0)])⟩,
    ⟨none, none, .h (.store 24 (.t 23) (.t 188))⟩,
    ⟨none, none, .h (.store 2 (.t 24) (.t 189))⟩,
    ⟨some 25, none, .p (.mv (.t 190))⟩,
    ⟨some 26, none, .p (.mv (.t 191))⟩] [3, 5, 6, 9, 13, 17, 18, 21, 22, 23, 24, 25, 26])
  (.seq (.seq (.region [⟨some 193, none, .h (.load 24 true (.t 21))⟩,
    ⟨some 194, none, .p (.mv (.t 22))⟩,
    ⟨some 195, none, .h (.call (.f 56) [.t 193, .t 194])⟩,
    ⟨some 192, none, .p (.mv (.t 195))⟩,
    ⟨some 196, none, .p (.ext (.t 192) 0)⟩,
    ⟨some 197, none, .p (.ext (.t 192) 1)⟩,
    ⟨some 198, none, .p (.ext (.t 192) 2)⟩,
    ⟨some 199, none, .p (.ext (.t 192) 3)⟩,
    ⟨some 27, none, .p (.alloc (List.replicate 24 (.k (C.int .i64 0))))⟩,
    ⟨some 28, none, .p (.alloc [.k (C.int .i64 0), .k (C.int .i64 0)])⟩,
    ⟨none, none, .h (.store 24 (.t 27) (.t 196))⟩,
    ⟨none, none, .h (.store 2 (.t 28) (.t 197))⟩,
    ⟨some 29, none, .p (.mv (.t 198))⟩,
    ⟨some 30, none, .p (.mv (.t 199))⟩] [3, 5, 6, 9, 13, 17, 18, 21, 23, 24, 25, 26, 27, 28, 29, 30])
  (.seq (.region [⟨some 200, none, .h (.load 24 true (.t 23))⟩,
    ⟨some 201, none, .h (.load 24 true (.t 27))⟩,
    ⟨some 202, none, .p (.eqv true (List.replicate 24 (.int .i64)) (.t 200) (.t 201))⟩,
    ⟨some 203, none, .p (.mv (.t 202))⟩,
    ⟨some 204, some (203, false), .h (.load 2 true (.t 24))⟩,
    ⟨some 205, some (203, false), .h (.load 2 true (.t 28))⟩,
    ⟨some 206, some (203, false), .p (.eqv true [.int .i64, .int .i64] (.t 204) (.t 205))⟩,
    ⟨some 207, none, .p (.pick (.t 203) (.k (.c (C.bool true))) (.t 206))⟩,
    ⟨some 208, none, .p (.mv (.t 207))⟩,
    ⟨some 209, some (208, false), .p (.mv (.t 25))⟩,
    ⟨some 210, some (208, false), .p (.mv (.t 29))⟩,
    ⟨some 211, some (208, false), .p (.bin .neq (.t 209) (.t 210))⟩,
    ⟨some 212, none, .p (.pick (.t 208) (.k (.c (C.bool true))) (.t 211))⟩,
    ⟨some 213, none, .p (.mv (.t 212))⟩,
    ⟨some 214, some (213, false), .p (.mv (.t 26))⟩,
    ⟨some 215, some (213, false), .p (.mv (.t 30))⟩,
    ⟨some 216, some (213, false), .p (.eqb true (.t 214) (.t 215))⟩,
    ⟨some 217, none, .p (.pick (.t 213) (.k (.c (C.bool true))) (.t 216))⟩] [3, 5, 6, 9, 13, 17, 18, 21, 23, 24, 26, 217])
  (.cond (.t 217)
  (.seq (.region [⟨some 2, none, .p (.mv (.k (.c (C.bool false))))⟩] [2])
  .ret)
  .skip)))
  (.seq (.region [⟨some 219, none, .h (.load 24 true (.t 3))⟩,
    ⟨some 220, none, .h (.call (.f 57) [.t 219])⟩,
    ⟨some 218, none, .p (.mv (.t 220))⟩,
    ⟨some 221, none, .p (.ext (.t 218) 0)⟩,
    ⟨some 222, none, .p (.ext (.t 218) 1)⟩,
    ⟨some 31, none, .p (.mv (.t 221))⟩,
    ⟨some 32, none, .p (.mv (.t 222))⟩] [3, 5, 6, 9, 13, 17, 18, 21, 23, 24, 26, 31, 32])
  (.seq (.seq (.region [⟨some 224, none, .h (.load 24 true (.t 3))⟩,
    ⟨some 225, none, .h (.call (.f 58) [.t 224])⟩,
    ⟨some 223, none, .p (.mv (.t 225))⟩,
    ⟨some 226, none, .p (.ext (.t 223) 0)⟩,
    ⟨some 227, none, .p (.ext (.t 223) 1)⟩,
    ⟨some 33, none, .p (.mv (.t 226))⟩,
    ⟨some 34, none, .p (.mv (.t 227))⟩] [3, 5, 6, 9, 13, 17, 18, 21, 23, 24, 26, 31, 32, 33, 34])
  (.seq (.region [⟨some 228, none, .p (.mv (.t 32))⟩,
    ⟨some 229, none, .p (.mv (.t 34))⟩,
    ⟨some 230, none, .p (.eqb true (.t 228) (.t 229))⟩,
    ⟨some 231, none, .p (.mv (.t 230))⟩,
    ⟨some 232, some (231, false), .p (.mv (.t 32))⟩,
    ⟨some 233, some (231, false), .h (.load 24 true (.t 3))⟩,
    ⟨some 234, some (231, false), .h (.call (.f 59) [.t 233])⟩,
    ⟨some 235, some (231, false), .p (.eqb true (.t 232) (.t 234))⟩,
    ⟨some 236, none, .p (.pick (.t 231) (.k (.c (C.bool true))) (.t 235))⟩,
    ⟨some 237, none, .p (.mv (.t 236))⟩,
    ⟨some 238, some (237, false), .p (.mv (.t 31))⟩,
    ⟨some 239, some (237, false), .p (.mv (.t 33))⟩,
    ⟨some 240, some (237, false), .h (.call (.f 60) [.t 238, .t 239])⟩,
    ⟨some 241, some (237, false), .p (.un .not (.t 240))⟩,
    ⟨some 242, none, .p (.pick (.t 237) (.k (.c (C.bool true))) (.t 241))⟩] [3, 5, 6, 9, 13, 17, 18, 21, 23, 24, 26, 32, 242])
  (.cond (.t 242)
  (.seq (.region [⟨some 2, none, .p (.mv (.k (.c (C.bool false))))⟩] [2])
  .ret)
  .skip)))
  (.seq (.region [⟨some 244, none, .h (.load 24 true (.t 3))⟩,
    ⟨some 245, none, .h (.call (.f 61) [.t 244])⟩,
    ⟨some 243, none, .p (.mv (.t 245))⟩,
    ⟨some 246, none, .p (.ext (.t 243) 0)⟩,
    ⟨some 247, none, .p (.ext (.t 243) 1)⟩,
    ⟨some 35, none, .p (.mv (.t 246))⟩,
    ⟨some 36, none, .p (.mv (.t 247))⟩] [3, 5, 6, 9, 13, 17, 18, 21, 23, 24, 26, 32, 35, 36])
  (.seq (.seq (.region [⟨some 249, none, .h (.load 24 true (.t 3))⟩,
    ⟨some 250, none, .h (.call (.f 62) [.t 249])⟩,
    ⟨some 248, none, .p (.mv (.t 250))⟩,
    ⟨some 251, none, .p (.ext (.t 248) 0)⟩,
    ⟨some 252, none, .p (.ext (.t 248) 1)⟩,
    ⟨some 37, none, .p (.mv (.t 251))⟩,
    ⟨some 38, none, .p (.mv (.t 252))⟩] [3, 5, 6, 9, 13, 17, 18, 21, 23, 24, 26, 32, 35, 36, 37, 38])
  (.seq (.region [⟨some 253, none, .p (.mv (.t 36))⟩,
    ⟨some 254, none, .p (.mv (.t 38))⟩,
    ⟨some 255, none, .p (.eqb true (.t 253) (.t 254))⟩,
    ⟨some 256, none, .p (.mv (.t 255))⟩,
    ⟨some 257, some (256, false), .p (.mv (.t 36))⟩,
    ⟨some 258, some (256, false), .p (.mv (.t 32))⟩,
    ⟨some 259, some (256, false), .p (.eqb true (.t 257) (.t 258))⟩,
    ⟨some 260, none, .p (.pick (.t 256) (.k (.c (C.bool true))) (.t 259))⟩,
    ⟨some 261, none, .p (.mv (.t 260))⟩,
    ⟨some 262, some (261, false), .p (.mv (.t 35))⟩,
    ⟨some 263, some (261, false), .p (.mv (.t 37))⟩,
    ⟨some 264, some (261, false), .h (.call (.f 37) [.t 262, .t 263])⟩,
    ⟨some 265, some (261, false), .p (.un .not (.t 264))⟩,
    ⟨some 266, none, .p (.pick (.t 261) (.k (.c (C.bool true))) (.t 265))⟩] [3, 5, 6, 9, 13, 17, 18, 21, 23, 24, 26, 35, 266])
  (.cond (.t 266)
  (.seq (.region [⟨some 2, none, .p (.mv (.k (.c (C.bool false))))⟩] [2])
  .ret)
  .skip)))
  (.seq (.seq (.region [⟨some 267, none, .p (.mv (.t 26))⟩] [3, 5, 6, 9, 13, 17, 18, 21, 23, 24, 35, 267])
  (.cond (.t 267)
  (.seq (.region [⟨some 269, none, .h (.load 24 true (.t 21))⟩,
    ⟨some 270, none, .h (.call (.f 57) [.t 269])⟩,
    ⟨some 268, none, .p (.mv (.t 270))⟩,
    ⟨some 271, none, .p (.ext (.t 268) 0)⟩,
    ⟨some 272, none, .p (.ext (.t 268) 1)⟩,
    ⟨some 39, none, .p (.mv (.t 271))⟩,
    ⟨some 40, none, .p (.mv (.t 272))⟩] [3, 5, 6, 9, 13, 17, 18, 23, 24, 35, 39, 40])
  (.seq (.region [⟨some 274, none, .h (.load 24 true (.t 23))⟩,
    ⟨some 275, none, .h (.call (.f 57) [.t 274])⟩,
    ⟨some 273, none, .p (.mv (.t 275))⟩,
    ⟨some 276, none, .p (.ext (.t 273) 0)⟩,
    ⟨some 277, none, .p (.ext (.t 273) 1)⟩,
    ⟨some 41, none, .p (.mv (.t 276))⟩,
    ⟨some 42, none, .p (.mv (.t 277))⟩] [3, 5, 6, 9, 13, 17, 18, 24, 35, 39, 40, 41, 42])
  (.seq (.region [⟨some 278, none, .p (.mv (.t 40))⟩,
    ⟨some 279, none, .p (.un .not (.t 278))⟩,
    ⟨some 280, none, .p (.mv (.t 279))⟩,
    ⟨some 281, some (280, false), .p (.mv (.t 42))⟩,
    ⟨some 282, some (280, false), .p (.un .not (.t 281))⟩,
    ⟨some 283, none, .p (.pick (.t 280) (.k (.c (C.bool true))) (.t 282))⟩,
    ⟨some 284, none, .p (.mv (.t 283))⟩,
    ⟨some 285, some (284, false), .p (.mv (.t 41))⟩,
    ⟨some 286, some (284, false), .p (.len (.t 285))⟩,
    ⟨some 287, some (284, false), .p (.mv (.t 39))⟩,
    ⟨some 288, some (284, false), .p (.len (.t 287))⟩,
    ⟨some 289, some (284, false), .p (.bin .sub (.t 286) (.t 288))⟩,
    ⟨some 290, some (284, false), .p (.ixA 2 1 (.t 24) (.k (.c (C.int .i64 0))))⟩,
    ⟨some 291, some (284, false), .h (.load 1 false (.t 290))⟩,
    ⟨some 292, some (284, false), .p (.ixA 2 1 (.t 24) (.k (.c (C.int .i64 1))))⟩,
    ⟨some 293, some (284, false), .h (.load 1 false (.t 292))⟩,
    ⟨some 294, some (284, false), .p (.bin .add (.t 291) (.t 293))⟩,
    ⟨some 295, some (284, false), .p (.bin .neq (.t 289) (.t 294))⟩,
    ⟨some 296, none, .p (.pick (.t 284) (.k (.c (C.bool true))) (.t 295))⟩] [3, 5, 6, 9, 13, 17, 18, 35, 296])
  (.cond (.t 296)
  (.seq (.region [⟨some 2, none, .p (.mv (.k (.c (C.bool false))))⟩] [2])
  .ret)
  .skip))))
  .skip))
  (.seq (.seq (.regionD [⟨some 297, none, .p (.mv (.t 18))⟩,
    ⟨some 298, none, .p (.mv (.t 297))⟩,
    ⟨some 299, some (298, true), .h (.load 2 true (.t 17))⟩,
    ⟨some 300, some (298, true), .p (.mv (.t 13))⟩,
    ⟨some 301, some (298, true), .p (.ixS 2 (.t 300) (.k (.c (C.int .i64 0))))⟩,
    ⟨some 302, some (298, true), .h (.load 2 true (.t 301))⟩,
    ⟨some 303, some (298, true), .p (.eqv true [.int .i64, .int .i64] (.t 299) (.t 302))⟩,
    ⟨some 304, none, .p (.pick (.t 298) (.t 303) (.k (.c (C.bool false))))⟩] [3, 5, 6, 9, 35, 304] [])
  (.cond (.t 304)
  (.seq (.region [⟨some 2, none, .p (.mv (.k (.c (C.bool false))))⟩] [2])
  .ret)
  .skip))
  (.seq (.seq (.region [⟨some 43, none, .p (.mv (.k (.c (C.int .i64 0))))⟩] [3, 5, 6, 9, 35, 43])
  (.block 0 (.loop (.seq (.seq (.region [⟨some 305, none, .p (.mv (.t 43))⟩,
    ⟨some 306, none, .p (.mv (.t 35))⟩,
    ⟨some 307, none, .p (.len (.t 306))⟩,
    ⟨some 308, none, .p (.bin .lss (.t 305) (.t 307))⟩] [3, 5, 6, 9, 35, 43, 308])
  (.cond (.t 308)
  .skip
  (.exit 0)))
  (.seq (.block 1 (.seq (.regionD [⟨some 312, none, .h (.load 24 true (.t 3))⟩,
    ⟨some 313, none, .p (.mv (.t 35))⟩,
    ⟨some 314, none, .p (.mv (.t 43))⟩,
    ⟨some 315, none, .p (.ixS 2 (.t 313) (.t 314))⟩,
    ⟨some 316, none, .p (.ixA 2 1 (.t 315) (.k (.c (C.int .i64 0))))⟩,
    ⟨some 317, none, .h (.load 1 false (.t 316))⟩,
    ⟨some 318, none, .p (.mv (.t 35))⟩,
    ⟨some 319, none, .p (.mv (.t 43))⟩,
    ⟨some 320, none, .p (.ixS 2 (.t 318) (.t 319))⟩,
    ⟨some 321, none, .p (.ixA 2 1 (.t 320) (.k (.c (C.int .i64 1))))⟩,
    ⟨some 322, none, .h (.load 1 false (.t 321))⟩,
    ⟨some 323, none, .h (.call (.f 63) [.t 312, .t 317, .t 322])⟩,
    ⟨some 311, none, .p (.mv (.t 323))⟩,
    ⟨some 324, none, .p (.ext (.t 311) 0)⟩,
    ⟨some 325, none, .p (.ext (.t 311) 1)⟩,
    ⟨some 326, none, .p (.ext (.t 311) 2)⟩,
    ⟨some 44, none, .p (.alloc (List.replicate 24 (.k (C.int .i64 0))))⟩,
    ⟨none, none, .h (.store 24 (.t 44) (.t 324))⟩,
    ⟨some 45, none, .p (.mv (.t 325))⟩,
    ⟨some 46, none, .p (.mv (.t 326))⟩] [3, 5, 6, 9, 35, 43, 44, 46] [])
  (.seq (.region [⟨some 328, none, .h (.load 24 true (.t 44))⟩,
    ⟨some 329, none, .h (.call (.f 57) [.t 328])⟩,
    ⟨some 327, none, .p (.mv (.t 329))⟩,
    ⟨some 330, none, .p (.ext (.t 327) 0)⟩,
    ⟨some 331, none, .p (.ext (.t 327) 1)⟩,
    ⟨some 47, none, .p (.mv (.t 330))⟩,
    ⟨some 48, none, .p (.mv (.t 331))⟩] [3, 5, 6, 9, 35, 43, 44, 46, 47, 48])
  (.seq (.region [⟨some 333, none, .h (.load 24 true (.t 44))⟩,
    ⟨some 334, none, .h (.call (.f 64) [.t 333])⟩,
    ⟨some 332, none, .p (.mv (.t 334))⟩,
    ⟨some 335, none, .p (.ext (.t 332) 0)⟩,
    ⟨some 336, none, .p (.ext (.t 332) 1)⟩,
    ⟨some 49, none, .p (.mv (.t 335))⟩,
    ⟨some 50, none, .p (.mv (.t 336))⟩] [3, 5, 6, 9, 35, 43, 44, 46, 47, 48, 49, 50])
  (.seq (.region [⟨some 51, none, .p (.mv (.k (.c (C.bool false))))⟩] [3, 5, 6, 9, 35, 43, 44, 46, 47, 48, 49, 50, 51])
  (.seq (.seq (.region [⟨some 52, none, .p (.mv (.k (.c (C.int .i64 0))))⟩] [3, 5, 6, 9, 35, 43, 44, 46, 47, 48, 49, 50, 51, 52])
  (.block 2 (.loop (.seq (.seq (.region [⟨some 337, none, .p (.mv (.t 52))⟩,
    ⟨some 338, none, .p (.mv (.t 49))⟩,
    ⟨some 339, none, .p (.len (.t 338))⟩,
    ⟨some 340, none, .p (.bin .lss (.t 337) (.t 339))⟩] [3, 5, 6, 9, 35, 43, 44, 46, 47, 48, 49, 50, 51, 52, 340])
  (.cond (.t 340)
  .skip
  (.exit 2)))
  (.seq (.block 3 (.seq (.regionD [⟨some 344, none, .h (.load 24 true (.t 44))⟩,
    ⟨some 345, none, .p (.mv (.t 49))⟩,
    ⟨some 346, none, .p (.mv (.t 52))⟩,
    ⟨some 347, none, .p (.ixS 2 (.t 345) (.t 346))⟩,
    ⟨some 348, none, .p (.ixA 2 1 (.t 347) (.k (.c (C.int .i64 0))))⟩,
    ⟨some 349, none, .h (.load 1 false (.t 348))⟩,
    ⟨some 350, none, .p (.mv (.t 49))⟩,
    ⟨some 351, none, .p (.mv (.t 52))⟩,
    ⟨some 352, none, .p (.ixS 2 (.t 350) (.t 351))⟩,
    ⟨some 353, none, .p (.ixA 2 1 (.t 352) (.k (.c (C.int .i64 1))))⟩,
    ⟨some 354, none, .h (.load 1 false (.t 353))⟩,
    ⟨some 355, none, .h (.call (.f 63) [.t 344, .t 349, .t 354])⟩,
    ⟨some 343, none, .p (.mv (.t 355))⟩,
    ⟨some 356, none, .p (.ext (.t 343) 0)⟩,
    ⟨some 357, none, .p (.ext (.t 343) 1)⟩,
    ⟨some 358, none, .p (.ext (.t 343) 2)⟩,
    ⟨some 53, none, .p (.alloc (List.replicate 24 (.k (C.int .i64 0))))⟩,
    ⟨none, none, .h (.store 24 (.t 53) (.t 356))⟩,
    ⟨some 54, none, .p (.mv (.t 357))⟩,
    ⟨some 55, none, .p (.mv (.t 358))⟩] [3, 5, 6, 9, 35, 43, 44, 46, 47, 48, 49, 50, 51, 52, 53, 55] [])
  (.seq (.region [⟨some 360, none, .h (.load 24 true (.t 53))⟩,
    ⟨some 361, none, .h (.call (.f 57) [.t 360])⟩,
    ⟨some 359, none, .p (.mv (.t 361))⟩,
    ⟨some 362, none, .p (.ext (.t 359) 0)⟩,
    ⟨some 363, none, .p (.ext (.t 359) 1)⟩,
    ⟨some 56, none, .p (.mv (.t 362))⟩,
    ⟨some 57, none, .p (.mv (.t 363))⟩] [3, 5, 6, 9, 35, 43, 44, 46, 47, 48, 49, 50, 51, 52, 55, 56, 57])
  (.seq (.seq (.region [⟨some 364, none, .p (.mv (.t 55))⟩,
    ⟨some 365, none, .p (.un .not (.t 364))⟩,
    ⟨some 366, none, .p (.mv (.t 365))⟩,
    ⟨some 367, some (366, false), .p (.mv (.t 57))⟩,
    ⟨some 368, some (366, false), .p (.un .not (.t 367))⟩,
    ⟨some 369, none, .p (.pick (.t 366) (.k (.c (C.bool true))) (.t 368))⟩] [3, 5, 6, 9, 35, 43, 44, 46, 47, 48, 49, 50, 51, 52, 56, 369])
  (.cond (.t 369)
  (.seq (.region [⟨some 2, none, .p (.mv (.k (.c (C.bool false))))⟩] [2])
  .ret)
  .skip))
  (.region [⟨some 370, none, .p (.mv (.t 51))⟩,
    ⟨some 371, none, .p (.mv (.t 370))⟩,
    ⟨some 372, some (371, false), .p (.mv (.t 47))⟩,
    ⟨some 373, some (371, false), .p (.mv (.t 49))⟩,
    ⟨some 374, some (371, false), .p (.mv (.t 52))⟩,
    ⟨some 375, some (371, false), .p (.ixS 2 (.t 373) (.t 374))⟩,
    ⟨some 376, some (371, false), .p (.ixA 2 1 (.t 375) (.k (.c (C.int .i64 1))))⟩,
    ⟨some 377, some (371, false), .h (.load 1 false (.t 376))⟩,
    ⟨some 378, some (371, false), .h (.call (.f 65) [.t 372, .t 377])⟩,
    ⟨some 379, some (371, false), .p (.un .not (.t 378))⟩,
    ⟨some 380, some (371, false), .p (.mv (.t 379))⟩,
    ⟨some 381, some (380, true), .p (.mv (.t 56))⟩,
    ⟨some 382, some (380, true), .p (.mv (.t 49))⟩,
    ⟨some 383, some (380, true), .p (.mv (.t 52))⟩,
    ⟨some 384, some (380, true), .p (.ixS 2 (.t 382) (.t 383))⟩,
    ⟨some 385, some (380, true), .p (.ixA 2 1 (.t 384) (.k (.c (C.int .i64 1))))⟩,
    ⟨some 386, some (380, true), .h (.load 1 false (.t 385))⟩,
    ⟨some 387, some (380, true), .h (.call (.f 65) [.t 381, .t 386])⟩,
    ⟨some 388, some (371, false), .p (.pick (.t 380) (.t 387) (.k (.c (C.bool false))))⟩,
    ⟨some 389, none, .p (.pick (.t 371) (.k (.c (C.bool true))) (.t 388))⟩,
    ⟨some 51, none, .p (.mv (.t 389))⟩] [3, 5, 6, 9, 35, 43, 44, 46, 47, 48, 49, 50, 51, 52])))))
  (.region [⟨some 341, none, .p (.mv (.t 52))⟩,
    ⟨some 342, none, .p (.bin .add (.t 341) (.k (.c (C.int .i64 1))))⟩,
    ⟨some 52, none, .p (.mv (.t 342))⟩] [3, 5, 6, 9, 35, 43, 44, 46, 47, 48, 49, 50, 51, 52]))) [3, 5, 6, 9, 35, 43, 44, 46, 47, 48, 49, 50, 51, 52])))
  (.seq (.region [⟨some 390, none, .p (.mv (.t 46))⟩,
    ⟨some 391, none, .p (.un .not (.t 390))⟩,
    ⟨some 392, none, .p (.mv (.t 391))⟩,
    ⟨some 393, some (392, false), .p (.mv (.t 48))⟩,
    ⟨some 394, some (392, false), .p (.un .not (.t 393))⟩,
    ⟨some 395, none, .p (.pick (.t 392) (.k (.c (C.bool true))) (.t 394))⟩,
    ⟨some 396, none, .p (.mv (.t 395))⟩,
    ⟨some 397, some (396, false), .p (.mv (.t 50))⟩,
    ⟨some 398, some (396, false), .p (.un .not (.t 397))⟩,
    ⟨some 399, none, .p (.pick (.t 396) (.k (.c (C.bool true))) (.t 398))⟩,
    ⟨some 400, none, .p (.mv (.t 399))⟩,
    ⟨some 401, some (400, false), .p (.mv (.t 51))⟩,
    ⟨some 402, some (400, false), .p (.un .not (.t 401))⟩,
    ⟨some 403, none, .p (.pick (.t 400) (.k (.c (C.bool true))) (.t 402))⟩] [3, 5, 6, 9, 35, 43, 403])
  (.cond (.t 403)
  (.seq (.region [⟨some 2, none, .p (.mv (.k (.c (C.bool false))))⟩] [2])
  .ret)
  .skip))))))))
  (.region [⟨some 309, none, .p (.mv (.t 43))⟩,
    ⟨some 310, none, .p (.bin .add (.t 309) (.k (.c (C.int .i64 1))))⟩,
    ⟨some 43, none, .p (.mv (.t 310))⟩] [3, 5, 6, 9, 35, 43]))) [3, 5, 6, 9, 35, 43])))
  (.seq (.seq (.region [⟨some 404, none, .p (.mv (.t 6))⟩,
    ⟨some 405, none, .p (.un .not (.t 404))⟩] [3, 5, 9, 405])
  (.cond (.t 405)
  (.seq (.region [⟨some 2, none, .p (.mv (.k (.c (C.bool true))))⟩] [2])
  .ret)
  .skip))
  (.seq (.region [⟨some 407, none, .h (.load 24 true (.t 3))⟩,
    ⟨some 408, none, .p (.mv (.t 9))⟩,
    ⟨some 409, none, .h (.call (.f 55) [.t 407, .t 408])⟩,
    ⟨some 406, none, .p (.mv (.t 409))⟩,
    ⟨some 410, none, .p (.ext (.t 406) 0)⟩,
    ⟨some 411, none, .p (.ext (.t 406) 1)⟩,
    ⟨some 412, none, .p (.ext (.t 406) 2)⟩,
    ⟨some 413, none, .p (.ext (.t 406) 3)⟩,
    ⟨some 58, none, .p (.alloc (List.replicate 24 (.k (C.int .i64 0))))⟩,
    ⟨some 59, none, .p (.alloc [.k (C.int .i64 0), .k (C.int .i64 0)])⟩,
    ⟨none, none, .h (.store 24 (.t 58) (.t 410))⟩,
    ⟨none, none, .h (.store 2 (.t 59) (.t 411))⟩,
    ⟨some 60, none, .p (.mv (.t 412))⟩,
    ⟨some 61, none, .p (.mv (.t 413))⟩] [5, 9, 59, 60, 61])
  (.seq (.region [⟨some 414, none, .p (.mv (.t 61))⟩,
    ⟨some 415, none, .p (.mv (.t 414))⟩,
    ⟨some 416, some (415, true), .p (.mv (.t 60))⟩,
    ⟨some 417, some (415, true), .p (.mv (.t 9))⟩,
    ⟨some 418, some (415, true), .p (.len (.t 417))⟩,
    ⟨some 419, some (415, true), .p (.bin .eql (.t 416) (.t 418))⟩,
    ⟨some 420, none, .p (.pick (.t 415) (.t 419) (.k (.c (C.bool false))))⟩,
    ⟨some 421, none, .p (.mv (.t 420))⟩,
    ⟨some 422, some (421, true), .p (.ixA 2 1 (.t 59) (.k (.c (C.int .i64 0))))⟩,
    ⟨some 423, some (421, true), .h (.load 1 false (.t 422))⟩,
    ⟨some 424, some (421, true), .p (.ixA 2 1 (.t 59) (.k (.c (C.int .i64 1))))⟩,
    ⟨some 425, some (421, true), .h (.load 1 false (.t 424))⟩,
    ⟨some 426, some (421, true), .p (.bin .sub (.t 423) (.t 425))⟩,
    ⟨some 427, some (421, true), .p (.mv (.t 5))⟩,
    ⟨some 428, some (421, true), .p (.bin .eql (.t 426) (.t 427))⟩,
    ⟨some 429, none, .p (.pick (.t 421) (.t 428) (.k (.c (C.bool false))))⟩,
    ⟨some 2, none, .p (.mv (.t 429))⟩] [2])
  .ret)))))))))))))))))))))))) }
theorem a6_ok : okFn Try.prog 6 a6 = true := by kernel_rfl
/-- loop.example/g01215/laws.FnBars -/
def a7 : AFn := { np := 1, nt := 238, res := [.t 2], body :=
  (.seq (.region [⟨some 2, none, .p (.mv (.k (.c (C.bool false))))⟩] [0])
  (.seq (.seq (.region [⟨some 32, none, .p (.mv (.t 0))⟩,
    ⟨some 33, none, .h (.call (.f 12) [.t 32])⟩] [0, 33])
  (.cond (.t 33)
  (.seq (.region [⟨some 2, none, .p (.mv (.k (.c (C.bool true))))⟩] [2])
  .ret)
  .skip))
  (.seq (.region [⟨some 34, none, .p (.mv (.t 0))⟩,
    ⟨some 35, none, .h (.call (.f 66) [.t 34])⟩,
    ⟨some 3, none, .p (.alloc (List.replicate 24 (.k (C.int .i64 0))))⟩,
    ⟨none, none, .h (.store 24 (.t 3) (.t 35))⟩] [0, 3])
  (.seq (.region [⟨some 37, none, .h (.load 24 true (.t 3))⟩,
    ⟨some 38, none, .h (.call (.f 67) [.t 37])⟩,
    ⟨some 36, none, .p (.mv (.t 38))⟩,
    ⟨some 39, none, .p (.ext (.t 36) 0)⟩,
    ⟨some 40, none, .p (.ext (.t 36) 1)⟩,
    ⟨some 4, none, .p (.alloc (List.replicate 26 (.k (C.int .i64 0))))⟩,
    ⟨none, none, .h (.store 26 (.t 4) (.t 39))⟩,
    ⟨some 5, none, .p (.mv (.t 40))⟩] [0, 3, 4, 5])
  (.seq (.region [⟨some 42, none, .h (.load 24 true (.t 3))⟩,
    ⟨some 43, none, .h (.call (.f 68) [.t 42])⟩,
    ⟨some 41, none, .p (.mv (.t 43))⟩,
    ⟨some 44, none, .p (.ext (.t 41) 0)⟩,
    ⟨some 45, none, .p (.ext (.t 41) 1)⟩,
    ⟨some 6, none, .p (.alloc (List.replicate 26 (.k (C.int .i64 0))))⟩,
    ⟨none, none, .h (.store 26 (.t 6) (.t 44))⟩,
    ⟨some 7, none, .p (.mv (.t 45))⟩] [0, 4, 5, 6, 7])
  (.seq (.region [⟨some 47, none, .p (.mv (.t 0))⟩,
    ⟨some 48, none, .h (.call (.f 21) [.t 47, .k (.c (C.int .i64 1))])⟩,
    ⟨some 49, none, .h (.call (.f 69) [.t 48])⟩,
    ⟨some 46, none, .p (.mv (.t 49))⟩,
    ⟨some 50, none, .p (.ext (.t 46) 0)⟩,
    ⟨some 51, none, .p (.ext (.t 46) 1)⟩,
    ⟨some 8, none, .p (.alloc (List.replicate 26 (.k (C.int .i64 0))))⟩,
    ⟨some 9, none, .p (.alloc [.k (C.int .i64 0), .k (C.int .i64 0), .k (C.int .i64 0), .k (C.int .i64 0)])⟩,
    ⟨none, none, .h (.store 26 (.t 8) (.t 50))⟩,
    ⟨none, none, .h (.store 4 (.t 9) (.t 51))⟩] [0, 4, 5, 6, 7, 8, 9])
  (.seq (.region [⟨some 53, none, .h (.load 26 true (.t 8))⟩,
    ⟨some 54, none, .h (.load 4 true (.t 9))⟩,
    ⟨some 55, none, .h (.call (.f 70) [.t 53, .t 54])⟩,
    ⟨some 52, none, .p (.mv (.t 55))⟩,
    ⟨some 56, none, .p (.ext (.t 52) 0)⟩,
    ⟨some 57, none, .p (.ext (.t 52) 1)⟩,
    ⟨some 10, none, .p (.alloc (List.replicate 26 (.k (C.int .i64 0))))⟩,
    ⟨none, none, .h (.store 26 (.t 10) (.t 56))⟩,
    ⟨some 11, none, .p (.mv (.t 57))⟩] [0, 4, 5, 6, 7, 8, 9, 10, 11])
  (.seq (.region [⟨some 59, none, .h (.load 26 true (.t 8))⟩,
    ⟨some 60, none, .h (.load 4 true (.t 9))⟩,
    ⟨some 61, none, .h (.call (.f 71) [.t 59, .t 60])⟩,
    ⟨some 58, none, .p (.mv (.t 61))⟩,
    ⟨some 62, none, .p (.ext (.t 58) 0)⟩,
    ⟨some 63, none, .p (.ext (.t 58) 1)⟩,
    ⟨some 12, none, .p (.alloc (List.replicate 26 (.k (C.int .i64 0))))⟩,
    ⟨none, none, .h (.store 26 (.t 12) (.t 62))⟩,
    ⟨some 13, none, .p (.mv (.t 63))⟩] [0, 4, 5, 6, 7, 8, 9, 10, 11, 12, 13])
  (.seq (.region [⟨some 65, none, .p (.mv (.t 0))⟩,
    ⟨some 66, none, .h (.call (.f 21) [.t 65, .k (.c (C.int .i64 2))])⟩,
    ⟨some 67, none, .h (.call (.f 72) [.t 66])⟩,
    ⟨some 64, none, .p (.mv (.t 67))⟩,
    ⟨some 68, none, .p (.ext (.t 64) 0)⟩,
    ⟨some 69, none, .p (.ext (.t 64) 1)⟩,
    ⟨some 14, none, .p (.alloc (List.replicate 26 (.k (C.int .i64 0))))⟩,
    ⟨none, none, .h (.store 26 (.t 14) (.t 68))⟩,
    ⟨some 15, none, .p (.mv (.t 69))⟩] [4, 5, 6, 7, 8, 9, 10, 11, 12, 13, 14, 15])
  (.seq (.region [⟨some 71, none, .h (.load 26 true (.t 14))⟩,
    ⟨some 72, none, .p (.mv (.t 15))⟩,
    ⟨some 73, none, .h (.call (.f 73) [.t 71, .t 72])⟩,
    ⟨some 70, none, .p (.mv (.t 73))⟩,
    ⟨some 74, none, .p (.ext (.t 70) 0)⟩,
    ⟨some 75, none, .p (.ext (.t 70) 1)⟩,
    ⟨some 76, none, .p (.ext (.t 70) 2)⟩,
    ⟨some 16, none, .p (.alloc (List.replicate 26 (.k (C.int .i64 0))))⟩,
    ⟨none, none, .h (.store 26 (.t 16) (.t 74))⟩,
    ⟨some 17, none, .p (.mv (.t 75))⟩,
    ⟨some 18, none, .p (.mv (.t 76))⟩] [4, 5, 6, 7, 8, 9, 10, 11, 12, 13, 14, 15, 16, 17, 18])
  (.seq (.region [⟨some 78, none, .h (.load 26 true (.t 14))⟩,
    ⟨some 79, none, .p (.mv (.t 15))⟩,
    ⟨some 80, none, .h (.call (.f 74) [.t 78, .t 79])⟩,
    ⟨some 77, none, .p (.mv (.t 80))⟩,
    ⟨some 81, none, .p (.ext (.t 77) 0)⟩,
    ⟨some 82, none, .p (.ext (.t 77) 1)⟩,
    ⟨some 83, none, .p (.ext (.t 77) 2)⟩,
    ⟨some 19, none, .p (.alloc (List.replicate 26 (.k (C.int .i64 0))))⟩,
    ⟨none, none, .h (.store 26 (.t 19) (.t 81))⟩,
    ⟨some 20, none, .p (.mv (.t 82))⟩,
    ⟨some 21, none, .p (.mv (.t 83))⟩] [4, 5, 6, 7, 8, 9, 10, 11, 12, 13, 16, 17, 18, 19, 20, 21])
  (.seq (.region [⟨some 85, none, .h (.load 26 true (.t 8))⟩,
    ⟨some 86, none, .h (.call (.f 75) [.t 85])⟩,
    ⟨some 84, none, .p (.mv (.t 86))⟩,
    ⟨some 87, none, .p (.ext (.t 84) 0)⟩,
    ⟨some 88, none, .p (.ext (.t 84) 1)⟩,
    ⟨some 22, none, .p (.mv (.t 87))⟩,
    ⟨some 23, none, .p (.mv (.t 88))⟩] [4, 5, 6, 7, 8, 9, 10, 11, 12, 13, 16, 17, 18, 19, 20, 21, 22, 23])
  (.seq (.region [⟨some 90, none, .h (.load 26 true (.t 8))⟩,
    ⟨some 91, none, .h (.call (.f 76) [.t 90])⟩,
    ⟨some 89, none, .p (.mv (.t 91))⟩,
    ⟨some 92, none, .p (.ext (.t 89) 0)⟩,
    ⟨some 93, none, .p (.ext (.t 89) 1)⟩,
    ⟨some 24, none, .p (.mv (.t 92))⟩,
    ⟨some 25, none, .p (.mv (.t 93))⟩] [4, 5, 6, 7, 8, 9, 10, 11, 12, 13, 16, 17, 18, 19, 20, 21, 22, 23, 24, 25])
  (.seq (.seq (.regionD [⟨some 94, none, .h (.load 26 true (.t 4))⟩,
    ⟨some 95, none, .h (.load 26 true (.t 6))⟩,
    ⟨some 96, none, .p (.eqv true (List.replicate 26 (.int .i64)) (.t 94) (.t 95))⟩,
    ⟨some 97, none, .p (.mv (.t 96))⟩,
    ⟨some 98, some (97, false), .p (.mv (.t 5))⟩,
    ⟨some 99, some (97, false), .p (.mv (.t 7))⟩,
    ⟨some 100, some (97, false), .p (.eqb true (.t 98) (.t 99))⟩,
    ⟨some 101, none, .p (.pick (.t 97) (.k (.c (C.bool true))) (.t 100))⟩,
    ⟨some 102, none, .p (.mv (.t 101))⟩,
    ⟨some 103, some (102, false), .h (.load 26 true (.t 10))⟩,
    ⟨some 104, some (102, false), .h (.load 26 true (.t 12))⟩,
    ⟨some 105, some (102, false), .p (.eqv true (List.replicate 26 (.int .i64)) (.t 103) (.t 104))⟩,
    ⟨some 106, none, .p (.pick (.t 102) (.k (.c (C.bool true))) (.t 105))⟩,
    ⟨some 107, none, .p (.mv (.t 106))⟩,
    ⟨some 108, some (107, false), .p (.mv (.t 11))⟩,
    ⟨some 109, some (107, false), .p (.mv (.t 13))⟩,
    ⟨some 110, some (107, false), .p (.eqb true (.t 108) (.t 109))⟩,
    ⟨some 111, none, .p (.pick (.t 107) (.k (.c (C.bool true))) (.t 110))⟩,
    ⟨some 112, none, .p (.mv (.t 111))⟩,
    ⟨some 113, some (112, false), .h (.load 26 true (.t 16))⟩,
    ⟨some 114, some (112, false), .h (.load 26 true (.t 19))⟩,
    ⟨some 115, some (112, false), .p (.eqv true (List.replicate 26 (.int .i64)) (.t 113) (.t 114))⟩,
    ⟨some 116, none, .p (.pick (.t 112) (.k (.c (C.bool true))) (.t 115))⟩,
    ⟨some 117, none, .p (.mv (.t 116))⟩,
    ⟨some 118, some (117, false), .p (.mv (.t 18))⟩,
    ⟨some 119, some (117, false), .p (.mv (.t 21))⟩,
    ⟨some 120, some (117, false), .p (.eqb true (.t 118) (.t 119))⟩,
    ⟨some 121, none, .p (.pick (.t 117) (.k (.c (C.bool true))) (.t 120))⟩,
    ⟨some 122, none, .p (.mv (.t 121))⟩,
    ⟨some 123, some (122, false), .p (.mv (.t 17))⟩,
    ⟨some 124, some (122, false), .p (.mv (.t 20))⟩,
    ⟨some 125, some (122, false), .p (.bin .neq (.t 123) (.t 124))⟩,
    ⟨some 126, none, .p (.pick (.t 122) (.k (.c (C.bool true))) (.t 125))⟩,
    ⟨some 127, none, .p (.mv (.t 126))⟩,
    ⟨some 128, some (127, false), .p (.mv (.t 22))⟩,
    ⟨some 129, some (127, false), .p (.mv (.t 24))⟩,
    ⟨some 130, some (127, false), .p (.bin .neq (.t 128) (.t 129))⟩,
    ⟨some 131, none, .p (.pick (.t 127) (.k (.c (C.bool true))) (.t 130))⟩,
    ⟨some 132, none, .p (.mv (.t 131))⟩,
    ⟨some 133, some (132, false), .p (.mv (.t 23))⟩,
    ⟨some 134, some (132, false), .p (.mv (.t 25))⟩,
    ⟨some 135, some (132, false), .p (.eqb true (.t 133) (.t 134))⟩,
    ⟨some 136, none, .p (.pick (.t 132) (.k (.c (C.bool true))) (.t 135))⟩,
    ⟨some 137, none, .p (.mv (.t 136))⟩,
    ⟨some 138, some (137, false), .h (.load 26 true (.t 8))⟩,
    ⟨some 139, some (137, false), .h (.call (.f 77) [.t 138])⟩,
    ⟨some 140, some (137, false), .h (.load 26 true (.t 8))⟩,
    ⟨some 141, some (137, false), .h (.call (.f 78) [.t 140])⟩,
    ⟨some 142, some (137, false), .p (.eqb true (.t 139) (.t 141))⟩,
    ⟨some 143, none, .p (.pick (.t 137) (.k (.c (C.bool true))) (.t 142))⟩,
    ⟨some 144, none, .p (.mv (.t 143))⟩,
    ⟨some 145, some (144, false), .p (.mv (.t 23))⟩,
    ⟨some 146, some (144, false), .h (.load 26 true (.t 8))⟩,
    ⟨some 147, some (144, false), .h (.call (.f 77) [.t 146])⟩,
    ⟨some 148, some (144, false), .p (.eqb true (.t 145) (.t 147))⟩,
    ⟨some 149, none, .p (.pick (.t 144) (.k (.c (C.bool true))) (.t 148))⟩] [8, 9, 10, 11, 16, 18, 22, 23, 149] [])
  (.cond (.t 149)
  (.seq (.region [⟨some 2, none, .p (.mv (.k (.c (C.bool false))))⟩] [2])
  .ret)
  .skip))
  (.seq (.seq (.region [⟨some 150, none, .p (.mv (.t 18))⟩,
    ⟨some 151, none, .p (.mv (.t 150))⟩,
    ⟨some 152, some (151, true), .h (.load 26 true (.t 16))⟩,
    ⟨some 153, some (151, true), .h (.call (.f 77) [.t 152])⟩,
    ⟨some 154, some (151, true), .p (.un .not (.t 153))⟩,
    ⟨some 155, none, .p (.pick (.t 151) (.t 154) (.k (.c (C.bool false))))⟩] [8, 9, 10, 11, 22, 23, 155])
  (.cond (.t 155)
  (.seq (.region [⟨some 2, none, .p (.mv (.k (.c (C.bool false))))⟩] [2])
  .ret)
  .skip))
  (.seq (.seq (.region [⟨some 156, none, .p (.mv (.t 23))⟩] [8, 9, 10, 11, 22, 156])
  (.cond (.t 156)
  (.seq (.region [⟨some 158, none, .p (.fld 0 (.t 8))⟩,
    ⟨some 159, none, .h (.load 24 true (.t 158))⟩,
    ⟨some 160, none, .h (.call (.f 79) [.t 159])⟩,
    ⟨some 157, none, .p (.mv (.t 160))⟩,
    ⟨some 161, none, .p (.ext (.t 157) 0)⟩,
    ⟨some 162, none, .p (.ext (.t 157) 1)⟩,
    ⟨some 26, none, .p (.mv (.t 161))⟩,
    ⟨some 27, none, .p (.mv (.t 162))⟩] [8, 9, 10, 11, 22, 26, 27])
  (.seq (.region [⟨some 163, none, .p (.mv (.t 27))⟩,
    ⟨some 164, none, .p (.un .not (.t 163))⟩,
    ⟨some 165, none, .p (.mv (.t 164))⟩,
    ⟨some 166, some (165, false), .p (.mv (.t 22))⟩,
    ⟨some 167, some (165, false), .p (.bin .lss (.t 166) (.k (.c (C.int .i64 0))))⟩,
    ⟨some 168, none, .p (.pick (.t 165) (.k (.c (C.bool true))) (.t 167))⟩,
    ⟨some 169, none, .p (.mv (.t 168))⟩,
    ⟨some 170, some (169, false), .p (.mv (.t 26))⟩,
    ⟨some 171, some (169, false), .p (.mv (.t 170))⟩,
    ⟨some 172, some (171, true), .p (.mv (.t 22))⟩,
    ⟨some 173, some (171, true), .p (.bin .neq (.t 172) (.k (.c (C.int .i64 0))))⟩,
    ⟨some 174, some (169, false), .p (.pick (.t 171) (.t 173) (.k (.c (C.bool false))))⟩,
    ⟨some 175, none, .p (.pick (.t 169) (.k (.c (C.bool true))) (.t 174))⟩] [8, 9, 10, 11, 175])
  (.cond (.t 175)
  (.seq (.region [⟨some 2, none, .p (.mv (.k (.c (C.bool false))))⟩] [2])
  .ret)
  .skip)))
  .skip))
  (.seq (.seq (.region [⟨some 176, none, .p (.mv (.t 11))⟩,
    ⟨some 177, none, .p (.un .not (.t 176))⟩] [8, 9, 10, 177])
  (.cond (.t 177)
  (.seq (.region [⟨some 2, none, .p (.mv (.k (.c (C.bool true))))⟩] [2])
  .ret)
  .skip))
  (.seq (.seq (.region [⟨some 178, none, .h (.load 26 true (.t 10))⟩,
    ⟨some 179, none, .h (.call (.f 77) [.t 178])⟩,
    ⟨some 180, none, .p (.un .not (.t 179))⟩,
    ⟨some 181, none, .p (.mv (.t 180))⟩,
    ⟨some 182, some (181, false), .p (.fld 25 (.t 10))⟩,
    ⟨some 183, some (181, false), .h (.load 1 false (.t 182))⟩,
    ⟨some 184, some (181, false), .p (.fld 25 (.t 8))⟩,
    ⟨some 185, some (181, false), .h (.load 1 false (.t 184))⟩,
    ⟨some 186, some (181, false), .p (.bin .add (.t 185) (.k (.c (C.int .i64 1))))⟩,
    ⟨some 187, some (181, false), .p (.bin .neq (.t 183) (.t 186))⟩,
    ⟨some 188, none, .p (.pick (.t 181) (.k (.c (C.bool true))) (.t 187))⟩] [8, 9, 10, 188])
  (.cond (.t 188)
  (.seq (.region [⟨some 2, none, .p (.mv (.k (.c (C.bool false))))⟩] [2])
  .ret)
  .skip))
  (.seq (.seq (.region [⟨some 189, none, .p (.fld 25 (.t 10))⟩,
    ⟨some 190, none, .h (.load 1 false (.t 189))⟩,
    ⟨some 191, none, .p (.bin .eql (.t 190) (.k (.c (C.int .i64 1000))))⟩] [8, 9, 10, 191])
  (.cond (.t 191)
  (.seq (.region [⟨some 2, none, .p (.mv (.k (.c (C.bool true))))⟩] [2])
  .ret)
  .skip))
  (.seq (.seq (.region [⟨some 192, none, .p (.fld 0 (.t 9))⟩,
    ⟨some 193, none, .h (.load 1 false (.t 192))⟩,
    ⟨some 194, none, .p (.bin .eql (.t 193) (.k (.c (C.int .i64 1))))⟩] [8, 9, 10, 194])
  (.cond (.t 194)
  (.seq (.region [⟨some 196, none, .h (.load 26 true (.t 10))⟩,
    ⟨some 197, none, .p (.fld 1 (.t 9))⟩,
    ⟨some 198, none, .h (.load 1 false (.t 197))⟩,
    ⟨some 199, none, .p (.fld 2 (.t 9))⟩,
    ⟨some 200, none, .h (.load 1 false (.t 199))⟩,
    ⟨some 201, none, .p (.fld 24 (.t 10))⟩,
    ⟨some 202, none, .h (.load 1 false (.t 201))⟩,
    ⟨some 203, none, .p (.fld 24 (.t 8))⟩,
    ⟨some 204, none, .h (.load 1 false (.t 203))⟩,
    ⟨some 205, none, .p (.bin .sub (.t 202) (.t 204))⟩,
    ⟨some 206, none, .p (.build [.k (C.int .i64 0), .k (C.int .i64 0), .k (C.int .i64 0), .k (C.int .i64 0)] [(0, 1, .k (.c (C.int .i64 5))), (1, 1, .t 198), (2, 1, .t 200), (3, 1, .t 205)])⟩,
    ⟨some 207, none, .h (.call (.f 70) [.t 196, .t 206])⟩,
    ⟨some 195, none, .p (.mv (.t 207))⟩,
    ⟨some 208, none, .p (.ext (.t 195) 0)⟩,
    ⟨some 209, none, .p (.ext (.t 195) 1)⟩,
    ⟨some 28, none, .p (.alloc (List.replicate 26 (.k (C.int .i64 0))))⟩,
    ⟨none, none, .h (.store 26 (.t 28) (.t 208))⟩,
    ⟨some 29, none, .p (.mv (.t 209))⟩] [8, 28, 29])
  (.seq (.region [⟨some 210, none, .p (.fld 25 (.t 8))⟩,
    ⟨some 211, none, .h (.load 1 false (.t 210))⟩,
    ⟨some 212, none, .p (.fld 25 (.t 28))⟩,
    ⟨none, none, .h (.store 1 (.t 212) (.t 211))⟩] [8, 28, 29])
  (.seq (.region [⟨some 213, none, .p (.mv (.t 29))⟩,
    ⟨some 214, none, .p (.mv (.t 213))⟩,
    ⟨some 215, some (214, true), .h (.load 26 true (.t 28))⟩,
    ⟨some 216, some (214, true), .h (.load 26 true (.t 8))⟩,
    ⟨some 217, some (214, true), .p (.eqv false (List.replicate 26 (.int .i64)) (.t 215) (.t 216))⟩,
    ⟨some 218, none, .p (.pick (.t 214) (.t 217) (.k (.c (C.bool false))))⟩,
    ⟨some 2, none, .p (.mv (.t 218))⟩] [2])
  .ret)))
  .skip))
  (.seq (.seq (.region [⟨some 219, none, .p (.fld 0 (.t 9))⟩,
    ⟨some 220, none, .h (.load 1 false (.t 219))⟩,
    ⟨some 221, none, .p (.bin .eql (.t 220) (.k (.c (C.int .i64 2))))⟩] [8, 9, 10, 221])
  (.cond (.t 221)
  (.seq (.region [⟨some 223, none, .h (.load 26 true (.t 10))⟩,
    ⟨some 224, none, .p (.fld 1 (.t 9))⟩,
    ⟨some 225, none, .h (.load 1 false (.t 224))⟩,
    ⟨some 226, none, .p (.build [.k (C.int .i64 0), .k (C.int .i64 0), .k (C.int .i64 0), .k (C.int .i64 0)] [(0, 1, .k (.c (C.int .i64 3))), (1, 1, .t 225)])⟩,
    ⟨some 227, none, .h (.call (.f 70) [.t 223, .t 226])⟩,
    ⟨some 222, none, .p (.mv (.t 227))⟩,
    ⟨some 228, none, .p (.ext (.t 222) 0)⟩,
    ⟨some 229, none, .p (.ext (.t 222) 1)⟩,
    ⟨some 30, none, .p (.alloc (List.replicate 26 (.k (C.int .i64 0))))⟩,
    ⟨none, none, .h (.store 26 (.t 30) (.t 228))⟩,
    ⟨some 31, none, .p (.mv (.t 229))⟩] [8, 30, 31])
  (.seq (.region [⟨some 230, none, .p (.mv (.t 31))⟩,
    ⟨some 231, none, .p (.mv (.t 230))⟩,
    ⟨some 232, some (231, true), .p (.fld 0 (.t 30))⟩,
    ⟨some 233, some (231, true), .h (.load 24 true (.t 232))⟩,
    ⟨some 234, some (231, true), .p (.fld 0 (.t 8))⟩,
    ⟨some 235, some (231, true), .h (.load 24 true (.t 234))⟩,
    ⟨some 236, some (231, true), .p (.eqv false (List.replicate 24 (.int .i64)) (.t 233) (.t 235))⟩,
    ⟨some 237, none, .p (.pick (.t 231) (.t 236) (.k (.c (C.bool false))))⟩,
    ⟨some 2, none, .p (.mv (.t 237))⟩] [2])
  .ret))
  .skip))
  (.seq (.region [⟨some 2, none, .p (.mv (.k (.c (C.bool true))))⟩] [2])
  .ret)))))))))))))))))))))) }
theorem a7_ok : okFn Try.prog 7 a7 = true := by kernel_rfl
/-- loop.example/g01215/laws.vBig -/
def a12 : AFn := { np := 1, nt := 6, res := [.t 2], body :=
  (.seq (.region [⟨some 2, none, .p (.mv (.k (.c (C.bool false))))⟩] [0])
  (.seq (.region [⟨some 3, none, .p (.mv (.t 0))⟩,
    ⟨some 4, none, .p (.len (.t 3))⟩,
    ⟨some 5, none, .p (.bin .gtr (.t 4) (.k (.c (C.int .i64 65536))))⟩,
    ⟨some 2, none, .p (.mv (.t 5))⟩] [2])
  .ret)) }
theorem a12_ok : okFn Try.prog 12 a12 = true := by kernel_rfl
/-- loop.example/g01215/spec.DrawDealRuns -/
def a13 : AFn := { np := 1, nt := 12, res := [.cell 2 6 true, .cell 3 6 true], body :=
  (.seq (.region [⟨some 2, none, .p (.alloc [.k (C.int .i64 0), .k (C.int .i64 0), .k (C.int .i64 0), .k (C.int .i64 0), .k (C.int .i64 0), .k (C.int .i64 0)])⟩,
    ⟨some 3, none, .p (.alloc [.k (C.int .i64 0), .k (C.int .i64 0), .k (C.int .i64 0), .k (C.int .i64 0), .k (C.int .i64 0), .k (C.int .i64 0)])⟩] [0, 2, 3])
  (.seq (.region [⟨some 5, none, .p (.mv (.t 0))⟩,
    ⟨some 6, none, .p (.build [.sl 1, .k (C.int .i64 0), .k (C.int .u64 0)] [(0, 1, .t 5)])⟩,
    ⟨some 7, none, .p (.box 3 (.t 6))⟩,
    ⟨some 4, none, .p (.mv (.t 7))⟩] [2, 3, 4])
  (.seq (.region [⟨some 8, none, .p (.mv (.t 4))⟩,
    ⟨some 9, none, .h (.call (.f 100) [.t 8])⟩,
    ⟨some 10, none, .p (.ext (.t 9) 0)⟩,
    ⟨some 11, none, .p (.ext (.t 9) 1)⟩,
    ⟨none, none, .h (.store 6 (.t 2) (.t 10))⟩,
    ⟨none, none, .h (.store 6 (.t 3) (.t 11))⟩] [2, 3])
  .ret))) }
theorem a13_ok : okFn Try.prog 13 a13 = true := by kernel_rfl
/-- loop.example/g01215/impl.DealRuns -/
def a14 : AFn := { np := 2, nt := 50, res := [.cell 4 2 true, .t 5], body :=
  (.seq (.region [⟨some 2, none, .p (.box 6 (.t 0))⟩,
    ⟨some 3, none, .p (.box 6 (.t 1))⟩,
    ⟨some 4, none, .p (.alloc [.k (C.int .i64 0), .k (C.int .i64 0)])⟩,
    ⟨some 5, none, .p (.mv (.k (.c (C.bool false))))⟩] [2, 3, 4])
  (.seq (.seq (.region [⟨some 12, none, .h (.load 6 true (.t 2))⟩,
    ⟨some 13, none, .h (.load 6 true (.t 3))⟩,
    ⟨some 14, none, .h (.call (.f 101) [.t 12, .t 13])⟩,
    ⟨some 15, none, .p (.un .not (.t 14))⟩] [2, 3, 4, 15])
  (.cond (.t 15)
  (.seq (.region [⟨some 16, none, .p (.build [.k (C.int .i64 0), .k (C.int .i64 0)] [])⟩,
    ⟨none, none, .h (.store 2 (.t 4) (.t 16))⟩,
    ⟨some 5, none, .p (.mv (.k (.c (C.bool false))))⟩] [4, 5])
  .ret)
  .skip))
  (.seq (.region [⟨some 6, none, .p (.mv (.k (.c (C.int .i64 0))))⟩,
    ⟨some 7, none, .p (.mv (.k (.c (C.int .i64 0))))⟩] [2, 3, 4, 6, 7])
  (.seq (.seq (.region [⟨some 17, none, .h (.load 6 true (.t 2))⟩,
    ⟨some 18, none, .p (.mv (.k (.c (C.int .i64 0))))⟩] [3, 4, 6, 7, 17, 18])
  (.block 0 (.loop (.seq (.region [⟨some 19, none, .p (.bin .lss (.t 18) (.k (.c (C.int .i64 6))))⟩] [3, 4, 6, 7, 17, 18, 19])
  (.seq (.cond (.t 19)
  .skip
  (.exit 0))
  (.seq (.block 1 (.seq (.region [⟨some 20, none, .p (.ixV 6 1 false (.t 17) (.t 18))⟩,
    ⟨some 9, none, .p (.mv (.t 20))⟩] [3, 4, 6, 7, 9, 17, 18])
  (.seq (.region [⟨some 21, none, .p (.mv (.t 6))⟩,
    ⟨some 22, none, .p (.mv (.t 9))⟩,
    ⟨some 23, none, .p (.mnmx false [.t 22, .k (.c (C.int .i64 1))])⟩,
    ⟨some 24, none, .p (.bin .add (.t 21) (.t 23))⟩,
    ⟨some 6, none, .p (.mv (.t 24))⟩] [3, 4, 6, 7, 9, 17, 18])
  (.region [⟨some 25, none, .p (.mv (.t 7))⟩,
    ⟨some 26, none, .p (.mv (.t 9))⟩,
    ⟨some 27, none, .p (.bin .sub (.t 26) (.k (.c (C.int .i64 1))))⟩,
    ⟨some 28, none, .p (.mnmx true [.t 27, .k (.c (C.int .i64 0))])⟩,
    ⟨some 29, none, .p (.bin .add (.t 25) (.t 28))⟩,
    ⟨some 7, none, .p (.mv (.t 29))⟩] [3, 4, 6, 7, 17, 18]))))
  (.region [⟨some 30, none, .p (.bin .add (.t 18) (.k (.c (C.int .i64 1))))⟩,
    ⟨some 18, none, .p (.mv (.t 30))⟩] [3, 4, 6, 7, 17, 18])))) [3, 4, 6, 7, 17, 18])))
  (.seq (.seq (.region [⟨some 31, none, .p (.mv (.t 7))⟩,
    ⟨some 32, none, .p (.bin .eql (.t 31) (.k (.c (C.int .i64 0))))⟩] [3, 4, 6, 7, 32])
  (.cond (.t 32)
  (.seq (.region [⟨some 33, none, .p (.mv (.t 6))⟩,
    ⟨some 34, none, .p (.build [.k (C.int .i64 0), .k (C.int .i64 0)] [(0, 1, .t 33), (1, 1, .k (.c (C.int .i64 1)))])⟩,
    ⟨none, none, .h (.store 2 (.t 4) (.t 34))⟩,
    ⟨some 5, none, .p (.mv (.k (.c (C.bool true))))⟩] [4, 5])
  .ret)
  .skip))
  (.seq (.region [⟨some 36, none, .h (.load 6 true (.t 3))⟩,
    ⟨some 37, none, .h (.call (.f 102) [.t 36])⟩,
    ⟨some 35, none, .p (.mv (.t 37))⟩,
    ⟨some 38, none, .p (.ext (.t 35) 0)⟩,
    ⟨some 39, none, .p (.ext (.t 35) 1)⟩,
    ⟨some 10, none, .p (.mv (.t 38))⟩,
    ⟨some 11, none, .p (.mv (.t 39))⟩] [4, 6, 7, 10, 11])
  (.seq (.region [⟨some 40, none, .p (.mv (.t 6))⟩,
    ⟨some 41, none, .p (.build [.k (C.int .i64 0), .k (C.int .i64 0)] [(0, 1, .t 40), (1, 1, .k (.c (C.int .i64 1)))])⟩,
    ⟨some 42, none, .p (.mv (.t 7))⟩,
    ⟨some 43, none, .p (.mv (.t 11))⟩,
    ⟨some 44, none, .p (.mv (.t 10))⟩,
    ⟨some 45, none, .p (.bin .sub (.t 43) (.t 44))⟩,
    ⟨some 46, none, .p (.bin .mul (.t 42) (.t 45))⟩,
    ⟨some 47, none, .p (.mv (.t 11))⟩,
    ⟨some 48, none, .h (.call (.f 104) [.t 46, .t 47])⟩,
    ⟨some 49, none, .h (.call (.f 103) [.t 41, .t 48])⟩,
    ⟨none, none, .h (.store 2 (.t 4) (.t 49))⟩,
    ⟨some 5, none, .p (.mv (.k (.c (C.bool true))))⟩] [4, 5])
  .ret))))))) }
theorem a14_ok : okFn Try.prog 14 a14 = true := by kernel_rfl
/-- loop.example/g01215/spec.DealRuns -/
def a15 : AFn := { np := 2, nt := 52, res := [.cell 4 2 true, .t 5], body :=
  (.seq (.region [⟨some 2, none, .p (.box 6 (.t 0))⟩,
    ⟨some 3, none, .p (.box 6 (.t 1))⟩,
    ⟨some 4, none, .p (.alloc [.k (C.int .i64 0), .k (C.int .i64 0)])⟩,
    ⟨some 5, none, .p (.mv (.k (.c (C.bool false))))⟩] [2, 3, 4])
  (.seq (.region [⟨some 12, none, .h (.load 6 true (.t 2))⟩,
    ⟨some 13, none, .h (.load 6 true (.t 3))⟩,
    ⟨some 14, none, .h (.call (.f 105) [.t 12, .t 13])⟩,
    ⟨some 11, none, .p (.mv (.t 14))⟩,
    ⟨some 15, none, .p (.ext (.t 11) 0)⟩,
    ⟨some 16, none, .p (.ext (.t 11) 1)⟩,
    ⟨some 6, none, .p (.mv (.t 15))⟩,
    ⟨some 7, none, .p (.mv (.t 16))⟩] [2, 3, 4, 6, 7])
  (.seq (.seq (.region [⟨some 17, none, .p (.mv (.t 7))⟩,
    ⟨some 18, none, .p (.un .not (.t 17))⟩] [2, 3, 4, 6, 18])
  (.cond (.t 18)
  (.seq (.region [⟨some 19, none, .p (.build [.k (C.int .i64 0), .k (C.int .i64 0)] [])⟩,
    ⟨none, none, .h (.store 2 (.t 4) (.t 19))⟩,
    ⟨some 5, none, .p (.mv (.k (.c (C.bool false))))⟩] [4, 5])
  .ret)
  .skip))
  (.seq (.region [⟨some 8, none, .p (.mv (.k (.c (C.int .i64 0))))⟩] [2, 3, 4, 6, 8])
  (.seq (.seq (.region [⟨some 9, none, .p (.mv (.k (.c (C.int .i64 0))))⟩] [2, 3, 4, 6, 8, 9])
  (.block 0 (.loop (.seq (.seq (.region [⟨some 20, none, .p (.mv (.t 9))⟩,
    ⟨some 21, none, .p (.bin .lss (.t 20) (.k (.c (C.int .i64 6))))⟩] [2, 3, 4, 6, 8, 9, 21])
  (.cond (.t 21)
  .skip
  (.exit 0)))
  (.seq (.block 1 (.seq (.region [⟨some 24, none, .p (.mv (.t 9))⟩,
    ⟨some 25, none, .p (.ixA 6 1 (.t 2) (.t 24))⟩,
    ⟨some 26, none, .h (.load 1 false (.t 25))⟩,
    ⟨some 27, none, .p (.bin .gtr (.t 26) (.k (.c (C.int .i64 0))))⟩] [2, 3, 4, 6, 8, 9, 27])
  (.cond (.t 27)
  (.region [⟨some 28, none, .p (.mv (.t 8))⟩,
    ⟨some 29, none, .p (.bin .add (.t 28) (.k (.c (C.int .i64 1))))⟩,
    ⟨some 8, none, .p (.mv (.t 29))⟩] [2, 3, 4, 6, 8, 9])
  .skip)))
  (.region [⟨some 22, none, .p (.mv (.t 9))⟩,
    ⟨some 23, none, .p (.bin .add (.t 22) (.k (.c (C.int .i64 1))))⟩,
    ⟨some 9, none, .p (.mv (.t 23))⟩] [2, 3, 4, 6, 8, 9]))) [2, 3, 4, 6, 8, 9])))
  (.seq (.seq (.region [⟨some 30, none, .p (.mv (.t 6))⟩,
    ⟨some 31, none, .p (.mv (.t 8))⟩,
    ⟨some 32, none, .p (.bin .eql (.t 30) (.t 31))⟩] [3, 4, 6, 8, 32])
  (.cond (.t 32)
  (.seq (.region [⟨some 33, none, .p (.mv (.t 8))⟩,
    ⟨some 34, none, .p (.build [.k (C.int .i64 0), .k (C.int .i64 0)] [(0, 1, .t 33), (1, 1, .k (.c (C.int .i64 1)))])⟩,
    ⟨none, none, .h (.store 2 (.t 4) (.t 34))⟩,
    ⟨some 5, none, .p (.mv (.k (.c (C.bool true))))⟩] [4, 5])
  .ret)
  .skip))
  (.seq (.region [⟨some 35, none, .p (.mv (.t 6))⟩,
    ⟨some 36, none, .p (.mv (.t 6))⟩,
    ⟨some 37, none, .p (.bin .sub (.t 36) (.k (.c (C.int .i64 1))))⟩,
    ⟨some 38, none, .p (.bin .mul (.t 35) (.t 37))⟩,
    ⟨some 10, none, .p (.mv (.t 38))⟩] [3, 4, 6, 8, 10])
  (.seq (.region [⟨some 39, none, .p (.mv (.t 8))⟩,
    ⟨some 40, none, .p (.build [.k (C.int .i64 0), .k (C.int .i64 0)] [(0, 1, .t 39), (1, 1, .k (.c (C.int .i64 1)))])⟩,
    ⟨some 41, none, .p (.mv (.t 6))⟩,
    ⟨some 42, none, .p (.mv (.t 8))⟩,
    ⟨some 43, none, .p (.bin .sub (.t 41) (.t 42))⟩,
    ⟨some 44, none, .p (.mv (.t 10))⟩,
    ⟨some 45, none, .h (.load 6 true (.t 3))⟩,
    ⟨some 46, none, .h (.call (.f 108) [.t 45])⟩,
    ⟨some 47, none, .p (.bin .sub (.t 44) (.t 46))⟩,
    ⟨some 48, none, .p (.bin .mul (.t 43) (.t 47))⟩,
    ⟨some 49, none, .p (.mv (.t 10))⟩,
    ⟨some 50, none, .h (.call (.f 107) [.t 48, .t 49])⟩,
    ⟨some 51, none, .h (.call (.f 106) [.t 40, .t 50])⟩,
    ⟨none, none, .h (.store 2 (.t 4) (.t 51))⟩,
    ⟨some 5, none, .p (.mv (.k (.c (C.bool true))))⟩] [4, 5])
  .ret)))))))) }
theorem a15_ok : okFn Try.prog 15 a15 = true := by kernel_rfl
/-- loop.example/g01215/impl.DealSame -/
def a16 : AFn := { np := 2, nt := 17, res := [.cell 4 2 true, .t 5], body :=
  (.seq (.region [⟨some 2, none, .p (.box 6 (.t 0))⟩,
    ⟨some 3, none, .p (.box 6 (.t 1))⟩,
    ⟨some 4, none, .p (.alloc [.k (C.int .i64 0), .k (C.int .i64 0)])⟩,
    ⟨some 5, none, .p (.mv (.k (.c (C.bool false))))⟩] [2, 3, 4])
  (.seq (.seq (.region [⟨some 6, none, .h (.load 6 true (.t 2))⟩,
    ⟨some 7, none, .h (.load 6 true (.t 3))⟩,
    ⟨some 8, none, .h (.call (.f 101) [.t 6, .t 7])⟩,
    ⟨some 9, none, .p (.un .not (.t 8))⟩] [2, 3, 4, 9])
  (.cond (.t 9)
  (.seq (.region [⟨some 10, none, .p (.build [.k (C.int .i64 0), .k (C.int .i64 0)] [])⟩,
    ⟨none, none, .h (.store 2 (.t 4) (.t 10))⟩,
    ⟨some 5, none, .p (.mv (.k (.c (C.bool false))))⟩] [4, 5])
  .ret)
  .skip))
  (.seq (.regionD [⟨some 11, none, .h (.slA 6 1 (.t 2) none none)⟩,
    ⟨some 12, none, .h (.load 6 true (.t 3))⟩,
    ⟨some 13, none, .h (.call (.f 109) [.t 11, .t 12])⟩,
    ⟨some 14, none, .h (.load 6 true (.t 3))⟩,
    ⟨some 15, none, .h (.call (.f 110) [.t 14])⟩,
    ⟨some 16, none, .h (.call (.f 104) [.t 13, .t 15])⟩,
    ⟨none, none, .h (.store 2 (.t 4) (.t 16))⟩,
    ⟨some 5, none, .p (.mv (.k (.c (C.bool true))))⟩] [4, 5] [])
  .ret))) }
theorem a16_ok : okFn Try.prog 16 a16 = true := by kernel_rfl
/-- loop.example/g01215/spec.DealSame -/
def a17 : AFn := { np := 2, nt := 23, res := [.cell 4 2 true, .t 5], body :=
  (.seq (.region [⟨some 2, none, .p (.box 6 (.t 0))⟩,
    ⟨some 3, none, .p (.box 6 (.t 1))⟩,
    ⟨some 4, none, .p (.alloc [.k (C.int .i64 0), .k (C.int .i64 0)])⟩,
    ⟨some 5, none, .p (.mv (.k (.c (C.bool false))))⟩] [2, 3, 4])
  (.seq (.seq (.region [⟨some 9, none, .h (.load 6 true (.t 2))⟩,
    ⟨some 10, none, .h (.load 6 true (.t 3))⟩,
    ⟨some 11, none, .h (.call (.f 105) [.t 9, .t 10])⟩,
    ⟨some 8, none, .p (.mv (.t 11))⟩,
    ⟨some 12, none, .p (.ext (.t 8) 0)⟩,
    ⟨some 13, none, .p (.ext (.t 8) 1)⟩,
    ⟨some 6, none, .p (.mv (.t 12))⟩,
    ⟨some 7, none, .p (.mv (.t 13))⟩] [2, 3, 4, 7])
  (.seq (.region [⟨some 14, none, .p (.mv (.t 7))⟩,
    ⟨some 15, none, .p (.un .not (.t 14))⟩] [2, 3, 4, 15])
  (.cond (.t 15)
  (.seq (.region [⟨some 16, none, .p (.build [.k (C.int .i64 0), .k (C.int .i64 0)] [])⟩,
    ⟨none, none, .h (.store 2 (.t 4) (.t 16))⟩,
    ⟨some 5, none, .p (.mv (.k (.c (C.bool false))))⟩] [4, 5])
  .ret)
  .skip)))
  (.seq (.regionD [⟨some 17, none, .h (.load 6 true (.t 2))⟩,
    ⟨some 18, none, .h (.load 6 true (.t 3))⟩,
    ⟨some 19, none, .h (.call (.f 111) [.t 17, .t 18, .k (.c (C.int .i64 0))])⟩,
    ⟨some 20, none, .h (.load 6 true (.t 3))⟩,
    ⟨some 21, none, .h (.call (.f 112) [.t 20])⟩,
    ⟨some 22, none, .h (.call (.f 107) [.t 19, .t 21])⟩,
    ⟨none, none, .h (.store 2 (.t 4) (.t 22))⟩,
    ⟨some 5, none, .p (.mv (.k (.c (C.bool true))))⟩] [4, 5] [])
  .ret))) }
theorem a17_ok : okFn Try.prog 17 a17 = true := by kernel_rfl
/-- loop.example/g01215/impl.CountDeals -/
def a18 : AFn := { np := 2, nt := 12, res := [.t 4, .t 5], body :=
  (.seq (.region [⟨some 2, none, .p (.box 6 (.t 0))⟩,
    ⟨some 3, none, .p (.box 6 (.t 1))⟩,
    ⟨some 4, none, .p (.mv (.k (.c (C.int .i64 0))))⟩,
    ⟨some 5, none, .p (.mv (.k (.c (C.bool false))))⟩] [2, 3])
  (.seq (.seq (.region [⟨some 6, none, .h (.load 6 true (.t 2))⟩,
    ⟨some 7, none, .h (.load 6 true (.t 3))⟩,
    ⟨some 8, none, .h (.call (.f 101) [.t 6, .t 7])⟩,
    ⟨some 9, none, .p (.un .not (.t 8))⟩] [3, 9])
  (.cond (.t 9)
  (.seq (.region [⟨some 4, none, .p (.mv (.k (.c (C.int .i64 0))))⟩,
    ⟨some 5, none, .p (.mv (.k (.c (C.bool false))))⟩] [4, 5])
  .ret)
  .skip))
  (.seq (.region [⟨some 10, none, .h (.load 6 true (.t 3))⟩,
    ⟨some 11, none, .h (.call (.f 110) [.t 10])⟩,
    ⟨some 4, none, .p (.mv (.t 11))⟩,
    ⟨some 5, none, .p (.mv (.k (.c (C.bool true))))⟩] [4, 5])
  .ret))) }
theorem a18_ok : okFn Try.prog 18 a18 = true := by kernel_rfl
/-- loop.example/g01215/spec.CountDeals -/
def a19 : AFn := { np := 2, nt := 18, res := [.t 4, .t 5], body :=
  (.seq (.region [⟨some 2, none, .p (.box 6 (.t 0))⟩,
    ⟨some 3, none, .p (.box 6 (.t 1))⟩,
    ⟨some 4, none, .p (.mv (.k (.c (C.int .i64 0))))⟩,
    ⟨some 5, none, .p (.mv (.k (.c (C.bool false))))⟩] [2, 3])
  (.seq (.seq (.region [⟨some 9, none, .h (.load 6 true (.t 2))⟩,
    ⟨some 10, none, .h (.load 6 true (.t 3))⟩,
    ⟨some 11, none, .h (.call (.f 105) [.t 9, .t 10])⟩,
    ⟨some 8, none, .p (.mv (.t 11))⟩,
    ⟨some 12, none, .p (.ext (.t 8) 0)⟩,
    ⟨some 13, none, .p (.ext (.t 8) 1)⟩,
    ⟨some 6, none, .p (.mv (.t 12))⟩,
    ⟨some 7, none, .p (.mv (.t 13))⟩] [3, 7])
  (.seq (.region [⟨some 14, none, .p (.mv (.t 7))⟩,
    ⟨some 15, none, .p (.un .not (.t 14))⟩] [3, 15])
  (.cond (.t 15)
  (.seq (.region [⟨some 4, none, .p (.mv (.k (.c (C.int .i64 0))))⟩,
    ⟨some 5, none, .p (.mv (.k (.c (C.bool false))))⟩] [4, 5])
  .ret)
  .skip)))
  (.seq (.region [⟨some 16, none, .h (.load 6 true (.t 3))⟩,
    ⟨some 17, none, .h (.call (.f 112) [.t 16])⟩,
    ⟨some 4, none, .p (.mv (.t 17))⟩,
    ⟨some 5, none, .p (.mv (.k (.c (C.bool true))))⟩] [4, 5])
  .ret))) }
theorem a19_ok : okFn Try.prog 19 a19 = true := by kernel_rfl
/-- loop.example/g01215/spec.DrawDealTop -/
def a20 : AFn := { np := 1, nt := 23, res := [.cell 2 6 true, .cell 3 6 true, .t 4, .t 5], body :=
  (.seq (.region [⟨some 2, none, .p (.alloc [.k (C.int .i64 0), .k (C.int .i64 0), .k (C.int .i64 0), .k (C.int .i64 0), .k (C.int .i64 0), .k (C.int .i64 0)])⟩,
    ⟨some 3, none, .p (.alloc [.k (C.int .i64 0), .k (C.int .i64 0), .k (C.int .i64 0), .k (C.int .i64 0), .k (C.int .i64 0), .k (C.int .i64 0)])⟩,
    ⟨some 4, none, .p (.mv (.k (.c (C.int .i64 0))))⟩,
    ⟨some 5, none, .p (.mv (.k (.c (C.int .i64 0))))⟩] [0, 2, 3])
  (.seq (.region [⟨some 9, none, .p (.mv (.t 0))⟩,
    ⟨some 10, none, .p (.build [.sl 1, .k (C.int .i64 0), .k (C.int .u64 0)] [(0, 1, .t 9)])⟩,
    ⟨some 11, none, .p (.box 3 (.t 10))⟩,
    ⟨some 6, none, .p (.mv (.t 11))⟩] [2, 3, 6])
  (.seq (.region [⟨some 13, none, .p (.mv (.t 6))⟩,
    ⟨some 14, none, .h (.call (.f 100) [.t 13])⟩,
    ⟨some 12, none, .p (.mv (.t 14))⟩,
    ⟨some 15, none, .p (.ext (.t 12) 0)⟩,
    ⟨some 16, none, .p (.ext (.t 12) 1)⟩,
    ⟨some 7, none, .p (.alloc [.k (C.int .i64 0), .k (C.int .i64 0), .k (C.int .i64 0), .k (C.int .i64 0), .k (C.int .i64 0), .k (C.int .i64 0)])⟩,
    ⟨some 8, none, .p (.alloc [.k (C.int .i64 0), .k (C.int .i64 0), .k (C.int .i64 0), .k (C.int .i64 0), .k (C.int .i64 0), .k (C.int .i64 0)])⟩,
    ⟨none, none, .h (.store 6 (.t 7) (.t 15))⟩,
    ⟨none, none, .h (.store 6 (.t 8) (.t 16))⟩] [2, 3, 6, 7, 8])
  (.seq (.regionE [⟨some 17, none, .h (.load 6 true (.t 7))⟩,
    ⟨some 18, none, .h (.load 6 true (.t 8))⟩,
    ⟨some 19, none, .p (.mv (.t 6))⟩,
    ⟨some 20, none, .h (.call (.f 113) [.t 19])⟩,
    ⟨some 21, none, .p (.mv (.t 6))⟩,
    ⟨some 22, none, .h (.call (.f 114) [.t 21])⟩,
    ⟨none, none, .h (.store 6 (.t 2) (.t 17))⟩,
    ⟨none, none, .h (.store 6 (.t 3) (.t 18))⟩,
    ⟨some 4, none, .p (.mv (.t 20))⟩,
    ⟨some 5, none, .p (.mv (.t 22))⟩] [2, 3, 4, 5] [(.t 8, .t 2)] [[], [], [], [3, 1000007, 1000008], [], [3, 5, 1000007, 1000008]])
  .ret)))) }
theorem a20_ok : okFn Try.prog 20 a20 = true := by kernel_rfl
/-- loop.example/g01215/laws.vCut -/
def a21 : AFn := { np := 2, nt := 20, res := [.t 4], body :=
  (.seq (.region [⟨some 4, none, .p (.nilsl 1)⟩] [0, 1])
  (.seq (.seq (.region [⟨some 5, none, .p (.mv (.t 1))⟩,
    ⟨some 6, none, .p (.mv (.t 0))⟩,
    ⟨some 7, none, .p (.len (.t 6))⟩,
    ⟨some 8, none, .p (.bin .gtr (.t 5) (.t 7))⟩] [0, 1, 8])
  (.cond (.t 8)
  (.region [⟨some 9, none, .p (.mv (.t 0))⟩,
    ⟨some 10, none, .p (.len (.t 9))⟩,
    ⟨some 1, none, .p (.mv (.t 10))⟩] [0, 1])
  .skip))
  (.seq (.region [⟨some 11, none, .p (.mksl 1 0 [.k (C.int .u8 0)] [])⟩,
    ⟨some 12, none, .p (.mv (.t 0))⟩,
    ⟨some 13, none, .p (.mv (.t 1))⟩,
    ⟨some 14, none, .p (.slS 1 (.t 12) (some (.t 13)) none)⟩,
    ⟨some 15, none, .h (.app 1 (.t 11) (.t 14))⟩,
    ⟨some 16, none, .p (.mv (.t 1))⟩,
    ⟨some 17, none, .p (.conv .u8 (.t 16))⟩,
    ⟨some 18, none, .p (.mksl 1 1 [.k (C.int .u8 0)] [(0, 1, .t 17)])⟩,
    ⟨some 19, none, .h (.app 1 (.t 15) (.t 18))⟩,
    ⟨some 4, none, .p (.mv (.t 19))⟩] [4])
  .ret))) }
theorem a21_ok : okFn Try.prog 21 a21 = true := by kernel_rfl
/-- loop.example/g01215/impl.DealTop -/
def a22 : AFn := { np := 4, nt := 36, res := [.cell 8 2 true, .t 9], body :=
  (.seq (.region [⟨some 4, none, .p (.box 6 (.t 0))⟩,
    ⟨some 5, none, .p (.box 6 (.t 1))⟩,
    ⟨some 8, none, .p (.alloc [.k (C.int .i64 0), .k (C.int .i64 0)])⟩,
    ⟨some 9, none, .p (.mv (.k (.c (C.bool false))))⟩] [2, 3, 4, 5, 8])
  (.seq (.seq (.region [⟨some 10, none, .h (.load 6 true (.t 4))⟩,
    ⟨some 11, none, .h (.load 6 true (.t 5))⟩,
    ⟨some 12, none, .h (.call (.f 101) [.t 10, .t 11])⟩,
    ⟨some 13, none, .p (.un .not (.t 12))⟩,
    ⟨some 14, none, .p (.mv (.t 13))⟩,
    ⟨some 15, some (14, false), .p (.mv (.t 2))⟩,
    ⟨some 16, some (14, false), .h (.call (.f 115) [.t 15])⟩,
    ⟨some 17, some (14, false), .p (.un .not (.t 16))⟩,
    ⟨some 18, none, .p (.pick (.t 14) (.k (.c (C.bool true))) (.t 17))⟩,
    ⟨some 19, none, .p (.mv (.t 18))⟩,
    ⟨some 20, some (19, false), .p (.mv (.t 3))⟩,
    ⟨some 21, some (19, false), .h (.call (.f 116) [.t 20])⟩,
    ⟨some 22, some (19, false), .p (.un .not (.t 21))⟩,
    ⟨some 23, none, .p (.pick (.t 19) (.k (.c (C.bool true))) (.t 22))⟩] [2, 3, 4, 5, 8, 23])
  (.cond (.t 23)
  (.seq (.region [⟨some 24, none, .p (.build [.k (C.int .i64 0), .k (C.int .i64 0)] [])⟩,
    ⟨none, none, .h (.store 2 (.t 8) (.t 24))⟩,
    ⟨some 9, none, .p (.mv (.k (.c (C.bool false))))⟩] [8, 9])
  .ret)
  .skip))
  (.seq (.seq (.region [⟨some 25, none, .p (.mv (.t 2))⟩,
    ⟨some 26, none, .p (.ixA 6 1 (.t 4) (.t 25))⟩,
    ⟨some 27, none, .h (.load 1 false (.t 26))⟩,
    ⟨some 28, none, .p (.bin .eql (.t 27) (.k (.c (C.int .i64 0))))⟩] [3, 5, 8, 28])
  (.cond (.t 28)
  (.seq (.region [⟨some 29, none, .p (.build [.k (C.int .i64 0), .k (C.int .i64 0)] [(0, 1, .k (.c (C.int .i64 0))), (1, 1, .k (.c (C.int .i64 1)))])⟩,
    ⟨none, none, .h (.store 2 (.t 8) (.t 29))⟩,
    ⟨some 9, none, .p (.mv (.k (.c (C.bool true))))⟩] [8, 9])
  .ret)
  .skip))
  (.seq (.regionD [⟨some 30, none, .p (.mv (.t 3))⟩,
    ⟨some 31, none, .p (.ixA 6 1 (.t 5) (.t 30))⟩,
    ⟨some 32, none, .h (.load 1 false (.t 31))⟩,
    ⟨some 33, none, .h (.slA 6 1 (.t 5) none none)⟩,
    ⟨some 34, none, .h (.call (.f 117) [.t 33])⟩,
    ⟨some 35, none, .h (.call (.f 104) [.t 32, .t 34])⟩,
    ⟨none, none, .h (.store 2 (.t 8) (.t 35))⟩,
    ⟨some 9, none, .p (.mv (.k (.c (C.bool true))))⟩] [8, 9] [])
  .ret)))) }
theorem a22_ok : okFn Try.prog 22 a22 = true := by kernel_rfl
/-- loop.example/g01215/spec.DealTop -/
def a23 : AFn := { np := 4, nt := 41, res := [.cell 8 2 true, .t 9], body :=
  (.seq (.region [⟨some 4, none, .p (.box 6 (.t 0))⟩,
    ⟨some 5, none, .p (.box 6 (.t 1))⟩,
    ⟨some 8, none, .p (.alloc [.k (C.int .i64 0), .k (C.int .i64 0)])⟩,
    ⟨some 9, none, .p (.mv (.k (.c (C.bool false))))⟩] [2, 3, 4, 5, 8])
  (.seq (.region [⟨some 13, none, .h (.load 6 true (.t 4))⟩,
    ⟨some 14, none, .h (.load 6 true (.t 5))⟩,
    ⟨some 15, none, .h (.call (.f 105) [.t 13, .t 14])⟩,
    ⟨some 12, none, .p (.mv (.t 15))⟩,
    ⟨some 16, none, .p (.ext (.t 12) 0)⟩,
    ⟨some 17, none, .p (.ext (.t 12) 1)⟩,
    ⟨some 10, none, .p (.mv (.t 16))⟩,
    ⟨some 11, none, .p (.mv (.t 17))⟩] [2, 3, 4, 5, 8, 10, 11])
  (.seq (.seq (.region [⟨some 18, none, .p (.mv (.t 11))⟩,
    ⟨some 19, none, .p (.un .not (.t 18))⟩,
    ⟨some 20, none, .p (.mv (.t 19))⟩,
    ⟨some 21, some (20, false), .p (.mv (.t 2))⟩,
    ⟨some 22, some (20, false), .h (.call (.f 118) [.t 21])⟩,
    ⟨some 23, some (20, false), .p (.un .not (.t 22))⟩,
    ⟨some 24, none, .p (.pick (.t 20) (.k (.c (C.bool true))) (.t 23))⟩,
    ⟨some 25, none, .p (.mv (.t 24))⟩,
    ⟨some 26, some (25, false), .p (.mv (.t 3))⟩,
    ⟨some 27, some (25, false), .h (.call (.f 119) [.t 26, .k (.c (C.int .i64 1)), .k (.c (C.int .i64 5))])⟩,
    ⟨some 28, some (25, false), .p (.un .not (.t 27))⟩,
    ⟨some 29, none, .p (.pick (.t 25) (.k (.c (C.bool true))) (.t 28))⟩] [2, 3, 4, 5, 8, 10, 29])
  (.cond (.t 29)
  (.seq (.region [⟨some 30, none, .p (.build [.k (C.int .i64 0), .k (C.int .i64 0)] [])⟩,
    ⟨none, none, .h (.store 2 (.t 8) (.t 30))⟩,
    ⟨some 9, none, .p (.mv (.k (.c (C.bool false))))⟩] [8, 9])
  .ret)
  .skip))
  (.seq (.seq (.region [⟨some 31, none, .p (.mv (.t 2))⟩,
    ⟨some 32, none, .p (.ixA 6 1 (.t 4) (.t 31))⟩,
    ⟨some 33, none, .h (.load 1 false (.t 32))⟩,
    ⟨some 34, none, .p (.bin .eql (.t 33) (.k (.c (C.int .i64 0))))⟩] [3, 5, 8, 10, 34])
  (.cond (.t 34)
  (.seq (.region [⟨some 35, none, .p (.build [.k (C.int .i64 0), .k (C.int .i64 0)] [(0, 1, .k (.c (C.int .i64 0))), (1, 1, .k (.c (C.int .i64 1)))])⟩,
    ⟨none, none, .h (.store 2 (.t 8) (.t 35))⟩,
    ⟨some 9, none, .p (.mv (.k (.c (C.bool true))))⟩] [8, 9])
  .ret)
  .skip))
  (.seq (.region [⟨some 36, none, .p (.mv (.t 3))⟩,
    ⟨some 37, none, .p (.ixA 6 1 (.t 5) (.t 36))⟩,
    ⟨some 38, none, .h (.load 1 false (.t 37))⟩,
    ⟨some 39, none, .p (.mv (.t 10))⟩,
    ⟨some 40, none, .h (.call (.f 107) [.t 38, .t 39])⟩,
    ⟨none, none, .h (.store 2 (.t 8) (.t 40))⟩,
    ⟨some 9, none, .p (.mv (.k (.c (C.bool true))))⟩] [8, 9])
  .ret))))) }
theorem a23_ok : okFn Try.prog 23 a23 = true := by kernel_rfl
/-- loop.example/g01215/spec.DrawDealAlike -/
def a24 : AFn := { np := 1, nt := 23, res := [.cell 2 6 true, .cell 3 6 true, .t 4, .t 5], body :=
  (.seq (.region [⟨some 2, none, .p (.alloc [.k (C.int .i64 0), .k (C.int .i64 0), .k (C.int .i64 0), .k (C.int .i64 0), .k (C.int .i64 0), .k (C.int .i64 0)])⟩,
    ⟨some 3, none, .p (.alloc [.k (C.int .i64 0), .k (C.int .i64 0), .k (C.int .i64 0), .k (C.int .i64 0), .k (C.int .i64 0), .k (C.int .i64 0)])⟩,
    ⟨some 4, none, .p (.mv (.k (.c (C.int .i64 0))))⟩,
    ⟨some 5, none, .p (.mv (.k (.c (C.int .i64 0))))⟩] [0, 2, 3])
  (.seq (.region [⟨some 9, none, .p (.mv (.t 0))⟩,
    ⟨some 10, none, .p (.build [.sl 1, .k (C.int .i64 0), .k (C.int .u64 0)] [(0, 1, .t 9)])⟩,
    ⟨some 11, none, .p (.box 3 (.t 10))⟩,
    ⟨some 6, none, .p (.mv (.t 11))⟩] [2, 3, 6])
  (.seq (.region [⟨some 13, none, .p (.mv (.t 6))⟩,
    ⟨some 14, none, .h (.call (.f 100) [.t 13])⟩,
    ⟨some 12, none, .p (.mv (.t 14))⟩,
    ⟨some 15, none, .p (.ext (.t 12) 0)⟩,
    ⟨some 16, none, .p (.ext (.t 12) 1)⟩,
    ⟨some 7, none, .p (.alloc [.k (C.int .i64 0), .k (C.int .i64 0), .k (C.int .i64 0), .k (C.int .i64 0), .k (C.int .i64 0), .k (C.int .i64 0)])⟩,
    ⟨some 8, none, .p (.alloc [.k (C.int .i64 0), .k (C.int .i64 0), .k (C.int .i64 0), .k (C.int .i64 0), .k (C.int .i64 0), .k (C.int .i64 0)])⟩,
    ⟨none, none, .h (.store 6 (.t 7) (.t 15))⟩,
    ⟨none, none, .h (.store 6 (.t 8) (.t 16))⟩] [2, 3, 6, 7, 8])
  (.seq (.regionE [⟨some 17, none, .h (.load 6 true (.t 7))⟩,
    ⟨some 18, none, .h (.load 6 true (.t 8))⟩,
    ⟨some 19, none, .p (.mv (.t 6))⟩,
    ⟨some 20, none, .h (.call (.f 113) [.t 19])⟩,
    ⟨some 21, none, .p (.mv (.t 6))⟩,
    ⟨some 22, none, .h (.call (.f 113) [.t 21])⟩,
    ⟨none, none, .h (.store 6 (.t 2) (.t 17))⟩,
    ⟨none, none, .h (.store 6 (.t 3) (.t 18))⟩,
    ⟨some 4, none, .p (.mv (.t 20))⟩,
    ⟨some 5, none, .p (.mv (.t 22))⟩] [2, 3, 4, 5] [(.t 8, .t 2)] [[], [], [], [3, 1000007, 1000008], [], [3, 5, 1000007, 1000008]])
  .ret)))) }
theorem a24_ok : okFn Try.prog 24 a24 = true := by kernel_rfl
/-- loop.example/g01215/impl.DealAlike -/
def a25 : AFn := { np := 4, nt := 52, res := [.cell 8 2 true, .t 9], body :=
  (.seq (.region [⟨some 4, none, .p (.box 6 (.t 0))⟩,
    ⟨some 5, none, .p (.box 6 (.t 1))⟩,
    ⟨some 8, none, .p (.alloc [.k (C.int .i64 0), .k (C.int .i64 0)])⟩,
    ⟨some 9, none, .p (.mv (.k (.c (C.bool false))))⟩] [2, 3, 4, 5, 8])
  (.seq (.seq (.region [⟨some 12, none, .h (.load 6 true (.t 4))⟩,
    ⟨some 13, none, .h (.load 6 true (.t 5))⟩,
    ⟨some 14, none, .h (.call (.f 101) [.t 12, .t 13])⟩,
    ⟨some 15, none, .p (.un .not (.t 14))⟩,
    ⟨some 16, none, .p (.mv (.t 15))⟩,
    ⟨some 17, some (16, false), .p (.mv (.t 2))⟩,
    ⟨some 18, some (16, false), .h (.call (.f 115) [.t 17])⟩,
    ⟨some 19, some (16, false), .p (.un .not (.t 18))⟩,
    ⟨some 20, none, .p (.pick (.t 16) (.k (.c (C.bool true))) (.t 19))⟩,
    ⟨some 21, none, .p (.mv (.t 20))⟩,
    ⟨some 22, some (21, false), .p (.mv (.t 3))⟩,
    ⟨some 23, some (21, false), .h (.call (.f 115) [.t 22])⟩,
    ⟨some 24, some (21, false), .p (.un .not (.t 23))⟩,
    ⟨some 25, none, .p (.pick (.t 21) (.k (.c (C.bool true))) (.t 24))⟩,
    ⟨some 26, none, .p (.mv (.t 25))⟩,
    ⟨some 27, some (26, false), .p (.mv (.t 2))⟩,
    ⟨some 28, some (26, false), .p (.mv (.t 3))⟩,
    ⟨some 29, some (26, false), .p (.bin .eql (.t 27) (.t 28))⟩,
    ⟨some 30, none, .p (.pick (.t 26) (.k (.c (C.bool true))) (.t 29))⟩,
    ⟨some 31, none, .p (.mv (.t 30))⟩,
    ⟨some 32, some (31, false), .p (.mv (.t 2))⟩,
    ⟨some 33, some (31, false), .p (.ixA 6 1 (.t 4) (.t 32))⟩,
    ⟨some 34, some (31, false), .h (.load 1 false (.t 33))⟩,
    ⟨some 35, some (31, false), .p (.bin .eql (.t 34) (.k (.c (C.int .i64 0))))⟩,
    ⟨some 36, none, .p (.pick (.t 31) (.k (.c (C.bool true))) (.t 35))⟩,
    ⟨some 37, none, .p (.mv (.t 36))⟩,
    ⟨some 38, some (37, false), .p (.mv (.t 3))⟩,
    ⟨some 39, some (37, false), .p (.ixA 6 1 (.t 4) (.t 38))⟩,
    ⟨some 40, some (37, false), .h (.load 1 false (.t 39))⟩,
    ⟨some 41, some (37, false), .p (.bin .eql (.t 40) (.k (.c (C.int .i64 0))))⟩,
    ⟨some 42, none, .p (.pick (.t 37) (.k (.c (C.bool true))) (.t 41))⟩] [5, 8, 42])
  (.cond (.t 42)
  (.seq (.region [⟨some 43, none, .p (.build [.k (C.int .i64 0), .k (C.int .i64 0)] [])⟩,
    ⟨none, none, .h (.store 2 (.t 8) (.t 43))⟩,
    ⟨some 9, none, .p (.mv (.k (.c (C.bool false))))⟩] [8, 9])
  .ret)
  .skip))
  (.seq (.region [⟨some 45, none, .h (.load 6 true (.t 5))⟩,
    ⟨some 46, none, .h (.call (.f 102) [.t 45])⟩,
    ⟨some 44, none, .p (.mv (.t 46))⟩,
    ⟨some 47, none, .p (.ext (.t 44) 0)⟩,
    ⟨some 48, none, .p (.ext (.t 44) 1)⟩,
    ⟨some 10, none, .p (.mv (.t 47))⟩,
    ⟨some 11, none, .p (.mv (.t 48))⟩] [8, 10, 11])
  (.seq (.region [⟨some 49, none, .p (.mv (.t 10))⟩,
    ⟨some 50, none, .p (.mv (.t 11))⟩,
    ⟨some 51, none, .h (.call (.f 104) [.t 49, .t 50])⟩,
    ⟨none, none, .h (.store 2 (.t 8) (.t 51))⟩,
    ⟨some 9, none, .p (.mv (.k (.c (C.bool true))))⟩] [8, 9])
  .ret)))) }
theorem a25_ok : okFn Try.prog 25 a25 = true := by kernel_rfl
/-- loop.example/g01215/spec.DealAlike -/
def a26 : AFn := { np := 4, nt := 55, res := [.cell 8 2 true, .t 9], body :=
  (.seq (.region [⟨some 4, none, .p (.box 6 (.t 0))⟩,
    ⟨some 5, none, .p (.box 6 (.t 1))⟩,
    ⟨some 8, none, .p (.alloc [.k (C.int .i64 0), .k (C.int .i64 0)])⟩,
    ⟨some 9, none, .p (.mv (.k (.c (C.bool false))))⟩] [2, 3, 4, 5, 8])
  (.seq (.region [⟨some 13, none, .h (.load 6 true (.t 4))⟩,
    ⟨some 14, none, .h (.load 6 true (.t 5))⟩,
    ⟨some 15, none, .h (.call (.f 105) [.t 13, .t 14])⟩,
    ⟨some 12, none, .p (.mv (.t 15))⟩,
    ⟨some 16, none, .p (.ext (.t 12) 0)⟩,
    ⟨some 17, none, .p (.ext (.t 12) 1)⟩,
    ⟨some 10, none, .p (.mv (.t 16))⟩,
    ⟨some 11, none, .p (.mv (.t 17))⟩] [2, 3, 4, 5, 8, 10, 11])
  (.seq (.seq (.region [⟨some 18, none, .p (.mv (.t 11))⟩,
    ⟨some 19, none, .p (.un .not (.t 18))⟩,
    ⟨some 20, none, .p (.mv (.t 19))⟩,
    ⟨some 21, some (20, false), .p (.mv (.t 2))⟩,
    ⟨some 22, some (20, false), .h (.call (.f 118) [.t 21])⟩,
    ⟨some 23, some (20, false), .p (.un .not (.t 22))⟩,
    ⟨some 24, none, .p (.pick (.t 20) (.k (.c (C.bool true))) (.t 23))⟩,
    ⟨some 25, none, .p (.mv (.t 24))⟩,
    ⟨some 26, some (25, false), .p (.mv (.t 3))⟩,
    ⟨some 27, some (25, false), .h (.call (.f 118) [.t 26])⟩,
    ⟨some 28, some (25, false), .p (.un .not (.t 27))⟩,
    ⟨some 29, none, .p (.pick (.t 25) (.k (.c (C.bool true))) (.t 28))⟩,
    ⟨some 30, none, .p (.mv (.t 29))⟩,
    ⟨some 31, some (30, false), .p (.mv (.t 2))⟩,
    ⟨some 32, some (30, false), .p (.mv (.t 3))⟩,
    ⟨some 33, some (30, false), .p (.bin .eql (.t 31) (.t 32))⟩,
    ⟨some 34, none, .p (.pick (.t 30) (.k (.c (C.bool true))) (.t 33))⟩,
    ⟨some 35, none, .p (.mv (.t 34))⟩,
    ⟨some 36, some (35, false), .p (.mv (.t 2))⟩,
    ⟨some 37, some (35, false), .p (.ixA 6 1 (.t 4) (.t 36))⟩,
    ⟨some 38, some (35, false), .h (.load 1 false (.t 37))⟩,
    ⟨some 39, some (35, false), .p (.bin .eql (.t 38) (.k (.c (C.int .i64 0))))⟩,
    ⟨some 40, none, .p (.pick (.t 35) (.k (.c (C.bool true))) (.t 39))⟩,
    ⟨some 41, none, .p (.mv (.t 40))⟩,
    ⟨some 42, some (41, false), .p (.mv (.t 3))⟩,
    ⟨some 43, some (41, false), .p (.ixA 6 1 (.t 4) (.t 42))⟩,
    ⟨some 44, some (41, false), .h (.load 1 false (.t 43))⟩,
    ⟨some 45, some (41, false), .p (.bin .eql (.t 44) (.k (.c (C.int .i64 0))))⟩,
    ⟨some 46, none, .p (.pick (.t 41) (.k (.c (C.bool true))) (.t 45))⟩] [5, 8, 10, 46])
  (.cond (.t 46)
  (.seq (.region [⟨some 47, none, .p (.build [.k (C.int .i64 0), .k (C.int .i64 0)] [])⟩,
    ⟨none, none, .h (.store 2 (.t 8) (.t 47))⟩,
    ⟨some 9, none, .p (.mv (.k (.c (C.bool false))))⟩] [8, 9])
  .ret)
  .skip))
  (.seq (.region [⟨some 48, none, .h (.load 6 true (.t 5))⟩,
    ⟨some 49, none, .h (.call (.f 108) [.t 48])⟩,
    ⟨some 50, none, .p (.mv (.t 10))⟩,
    ⟨some 51, none, .p (.mv (.t 10))⟩,
    ⟨some 52, none, .p (.bin .sub (.t 51) (.k (.c (C.int .i64 1))))⟩,
    ⟨some 53, none, .p (.bin .mul (.t 50) (.t 52))⟩,
    ⟨some 54, none, .h (.call (.f 107) [.t 49, .t 53])⟩,
    ⟨none, none, .h (.store 2 (.t 8) (.t 54))⟩,
    ⟨some 9, none, .p (.mv (.k (.c (C.bool true))))⟩] [8, 9])
  .ret)))) }
theorem a26_ok : okFn Try.prog 26 a26 = true := by kernel_rfl
/-- loop.example/g01215/laws.vPlus -/
def a27 : AFn := { np := 2, nt := 56, res := [.cell 4 2 true], body :=
  (.seq (.region [⟨some 2, none, .p (.box 2 (.t 0))⟩,
    ⟨some 3, none, .p (.box 2 (.t 1))⟩,
    ⟨some 4, none, .p (.alloc [.k (C.int .i64 0), .k (C.int .i64 0)])⟩] [2, 3, 4])
  (.seq (.regionD [⟨some 9, none, .p (.ixA 2 1 (.t 2) (.k (.c (C.int .i64 1))))⟩,
    ⟨some 10, none, .h (.load 1 false (.t 9))⟩,
    ⟨some 11, none, .p (.ixA 2 1 (.t 3) (.k (.c (C.int .i64 1))))⟩,
    ⟨some 12, none, .h (.load 1 false (.t 11))⟩,
    ⟨some 5, none, .p (.mv (.t 10))⟩,
    ⟨some 6, none, .p (.mv (.t 12))⟩] [2, 3, 4, 5, 6] [])
  (.seq (.block 0 (.loop (.seq (.seq (.region [⟨some 13, none, .p (.mv (.t 6))⟩,
    ⟨some 14, none, .p (.bin .gtr (.t 13) (.k (.c (C.int .i64 0))))⟩] [2, 3, 4, 5, 6, 14])
  (.cond (.t 14)
  .skip
  (.exit 0)))
  (.block 1 (.regionD [⟨some 15, none, .p (.mv (.t 6))⟩,
    ⟨some 16, none, .p (.mv (.t 5))⟩,
    ⟨some 17, none, .p (.mv (.t 6))⟩,
    ⟨some 18, none, .p (.bin .rem (.t 16) (.t 17))⟩,
    ⟨some 5, none, .p (.mv (.t 15))⟩,
    ⟨some 6, none, .p (.mv (.t 18))⟩] [2, 3, 4, 5, 6] []))) [2, 3, 4, 5, 6]))
  (.seq (.regionD [⟨some 19, none, .p (.ixA 2 1 (.t 2) (.k (.c (C.int .i64 0))))⟩,
    ⟨some 20, none, .h (.load 1 false (.t 19))⟩,
    ⟨some 21, none, .p (.ixA 2 1 (.t 3) (.k (.c (C.int .i64 1))))⟩,
    ⟨some 22, none, .h (.load 1 false (.t 21))⟩,
    ⟨some 23, none, .p (.mv (.t 5))⟩,
    ⟨some 24, none, .p (.bin .quo (.t 22) (.t 23))⟩,
    ⟨some 25, none, .p (.bin .mul (.t 20) (.t 24))⟩,
    ⟨some 26, none, .p (.ixA 2 1 (.t 3) (.k (.c (C.int .i64 0))))⟩,
    ⟨some 27, none, .h (.load 1 false (.t 26))⟩,
    ⟨some 28, none, .p (.ixA 2 1 (.t 2) (.k (.c (C.int .i64 1))))⟩,
    ⟨some 29, none, .h (.load 1 false (.t 28))⟩,
    ⟨some 30, none, .p (.mv (.t 5))⟩,
    ⟨some 31, none, .p (.bin .quo (.t 29) (.t 30))⟩,
    ⟨some 32, none, .p (.bin .mul (.t 27) (.t 31))⟩,
    ⟨some 33, none, .p (.bin .add (.t 25) (.t 32))⟩,
    ⟨some 34, none, .p (.ixA 2 1 (.t 2) (.k (.c (C.int .i64 1))))⟩,
    ⟨some 35, none, .h (.load 1 false (.t 34))⟩,
    ⟨some 36, none, .p (.mv (.t 5))⟩,
    ⟨some 37, none, .p (.bin .quo (.t 35) (.t 36))⟩,
    ⟨some 38, none, .p (.ixA 2 1 (.t 3) (.k (.c (C.int .i64 1))))⟩,
    ⟨some 39, none, .h (.load 1 false (.t 38))⟩,
    ⟨some 40, none, .p (.bin .mul (.t 37) (.t 39))⟩,
    ⟨some 7, none, .p (.mv (.t 33))⟩,
    ⟨some 8, none, .p (.mv (.t 40))⟩] [4, 7, 8] [])
  (.seq (.region [⟨some 41, none, .p (.mv (.t 7))⟩,
    ⟨some 42, none, .p (.mv (.t 8))⟩,
    ⟨some 5, none, .p (.mv (.t 41))⟩,
    ⟨some 6, none, .p (.mv (.t 42))⟩] [4, 5, 6, 7, 8])
  (.seq (.block 2 (.loop (.seq (.seq (.region [⟨some 43, none, .p (.mv (.t 6))⟩,
    ⟨some 44, none, .p (.bin .gtr (.t 43) (.k (.c (C.int .i64 0))))⟩] [4, 5, 6, 7, 8, 44])
  (.cond (.t 44)
  .skip
  (.exit 2)))
  (.block 3 (.regionD [⟨some 45, none, .p (.mv (.t 6))⟩,
    ⟨some 46, none, .p (.mv (.t 5))⟩,
    ⟨some 47, none, .p (.mv (.t 6))⟩,
    ⟨some 48, none, .p (.bin .rem (.t 46) (.t 47))⟩,
    ⟨some 5, none, .p (.mv (.t 45))⟩,
    ⟨some 6, none, .p (.mv (.t 48))⟩] [4, 5, 6, 7, 8] []))) [4, 5, 6, 7, 8]))
  (.seq (.regionD [⟨some 49, none, .p (.mv (.t 7))⟩,
    ⟨some 50, none, .p (.mv (.t 5))⟩,
    ⟨some 51, none, .p (.bin .quo (.t 49) (.t 50))⟩,
    ⟨some 52, none, .p (.mv (.t 8))⟩,
    ⟨some 53, none, .p (.mv (.t 5))⟩,
    ⟨some 54, none, .p (.bin .quo (.t 52) (.t 53))⟩,
    ⟨some 55, none, .p (.build [.k (C.int .i64 0), .k (C.int .i64 0)] [(0, 1, .t 51), (1, 1, .t 54)])⟩,
    ⟨none, none, .h (.store 2 (.t 4) (.t 55))⟩] [4] [])
  .ret))))))) }
theorem a27_ok : okFn Try.prog 27 a27 = true := by kernel_rfl
/-- loop.example/g01215/laws.vLess -/
def a28 : AFn := { np := 2, nt := 16, res := [.t 4], body :=
  (.seq (.region [⟨some 2, none, .p (.box 2 (.t 0))⟩,
    ⟨some 3, none, .p (.box 2 (.t 1))⟩,
    ⟨some 4, none, .p (.mv (.k (.c (C.bool false))))⟩] [2, 3])
  (.seq (.region [⟨some 5, none, .p (.ixA 2 1 (.t 2) (.k (.c (C.int .i64 0))))⟩,
    ⟨some 6, none, .h (.load 1 false (.t 5))⟩,
    ⟨some 7, none, .p (.ixA 2 1 (.t 3) (.k (.c (C.int .i64 1))))⟩,
    ⟨some 8, none, .h (.load 1 false (.t 7))⟩,
    ⟨some 9, none, .p (.bin .mul (.t 6) (.t 8))⟩,
    ⟨some 10, none, .p (.ixA 2 1 (.t 3) (.k (.c (C.int .i64 0))))⟩,
    ⟨some 11, none, .h (.load 1 false (.t 10))⟩,
    ⟨some 12, none, .p (.ixA 2 1 (.t 2) (.k (.c (C.int .i64 1))))⟩,
    ⟨some 13, none, .h (.load 1 false (.t 12))⟩,
    ⟨some 14, none, .p (.bin .mul (.t 11) (.t 13))⟩,
    ⟨some 15, none, .p (.bin .lss (.t 9) (.t 14))⟩,
    ⟨some 4, none, .p (.mv (.t 15))⟩] [4])
  .ret)) }
theorem a28_ok : okFn Try.prog 28 a28 = true := by kernel_rfl
/-- loop.example/g01215/laws.rBig -/
def a29 : AFn := { np := 1, nt := 6, res := [.t 2], body :=
  (.seq (.region [⟨some 2, none, .p (.mv (.k (.c (C.bool false))))⟩] [0])
  (.seq (.region [⟨some 3, none, .p (.mv (.t 0))⟩,
    ⟨some 4, none, .p (.len (.t 3))⟩,
    ⟨some 5, none, .p (.bin .gtr (.t 4) (.k (.c (C.int .i64 65536))))⟩,
    ⟨some 2, none, .p (.mv (.t 5))⟩] [2])
  .ret)) }
theorem a29_ok : okFn Try.prog 29 a29 = true := by kernel_rfl
/-- loop.example/g01215/spec.DrawCutLoops -/
def a30 : AFn := { np := 1, nt := 5, res := [.cell 2 25 true], body :=
  (.seq (.region [⟨some 2, none, .p (.alloc [.k (C.int .i64 0), .k (C.int .i64 0), .k (C.int .i64 0), .k (C.int .i64 0), .k (C.int .i64 0), .k (C.int .i64 0), .k (C.int .i64 0), .k (C.int .i64 0), .k (C.int .i64 0), .k (C.int .i64 0), .k (C.int .i64 0), .k (C.int .i64 0), .k (C.int .i64 0), .k (C.int .i64 0), .k (C.int .i64 0), .k (C.int .i64 0), .k (C.int .i64 0), .k (C.int .i64 0), .k (C.int .i64 0), .k (C.int .i64 0), .k (C.int .i64 0), .k (C.int .i64 0), .k (C.int .i64 0), .k (C.int .i64 0), .sl 2])⟩] [0, 2])
  (.seq (.region [⟨some 3, none, .p (.mv (.t 0))⟩,
    ⟨some 4, none, .h (.call (.f 120) [.t 3])⟩,
    ⟨none, none, .h (.store 25 (.t 2) (.t 4))⟩] [2])
  .ret)) }
theorem a30_ok : okFn Try.prog 30 a30 = true := by kernel_rfl
/-- loop.example/g01215/impl.CutLoops -/
def a31 : AFn := { np := 1, nt := 55, res := [.cell 2 25 true, .t 3], body :=
  (.seq (.region [⟨some 1, none, .p (.box 25 (.t 0))⟩,
    ⟨some 2, none, .p (.alloc [.k (C.int .i64 0), .k (C.int .i64 0), .k (C.int .i64 0), .k (C.int .i64 0), .k (C.int .i64 0), .k (C.int .i64 0), .k (C.int .i64 0), .k (C.int .i64 0), .k (C.int .i64 0), .k (C.int .i64 0), .k (C.int .i64 0), .k (C.int .i64 0), .k (C.int .i64 0), .k (C.int .i64 0), .k (C.int .i64 0), .k (C.int .i64 0), .k (C.int .i64 0), .k (C.int .i64 0), .k (C.int .i64 0), .k (C.int .i64 0), .k (C.int .i64 0), .k (C.int .i64 0), .k (C.int .i64 0), .k (C.int .i64 0), .sl 2])⟩,
    ⟨some 3, none, .p (.mv (.k (.c (C.bool false))))⟩] [1, 2])
  (.seq (.seq (.region [⟨some 9, none, .h (.load 25 true (.t 1))⟩,
    ⟨some 10, none, .h (.call (.f 33) [.t 9])⟩,
    ⟨some 11, none, .p (.un .not (.t 10))⟩] [1, 2, 11])
  (.cond (.t 11)
  (.seq (.region [⟨some 12, none, .p (.build [.k (C.int .i64 0), .k (C.int .i64 0), .k (C.int .i64 0), .k (C.int .i64 0), .k (C.int .i64 0), .k (C.int .i64 0), .k (C.int .i64 0), .k (C.int .i64 0), .k (C.int .i64 0), .k (C.int .i64 0), .k (C.int .i64 0), .k (C.int .i64 0), .k (C.int .i64 0), .k (C.int .i64 0), .k (C.int .i64 0), .k (C.int .i64 0), .k (C.int .i64 0), .k (C.int .i64 0), .k (C.int .i64 0), .k (C.int .i64 0), .k (C.int .i64 0), .k (C.int .i64 0), .k (C.int .i64 0), .k (C.int .i64 0), .sl 2] [])⟩,
    ⟨none, none, .h (.store 25 (.t 2) (.t 12))⟩,
    ⟨some 3, none, .p (.mv (.k (.c (C.bool false))))⟩] [2, 3])
  .ret)
  .skip))
  (.seq (.region [⟨some 13, none, .h (.load 25 true (.t 1))⟩,
    ⟨some 14, none, .p (.fld 24 (.t 1))⟩,
    ⟨some 15, none, .h (.load 1 false (.t 14))⟩,
    ⟨some 16, none, .p (.mksl 1 1 [.sl 2] [(0, 1, .t 15)])⟩,
    ⟨some 17, none, .h (.call (.f 121) [.t 13, .t 16])⟩,
    ⟨some 4, none, .p (.alloc [.k (C.int .i64 0), .k (C.int .i64 0), .k (C.int .i64 0), .k (C.int .i64 0), .k (C.int .i64 0), .k (C.int .i64 0), .k (C.int .i64 0), .k (C.int .i64 0), .k (C.int .i64 0), .k (C.int .i64 0), .k (C.int .i64 0), .k (C.int .i64 0), .k (C.int .i64 0), .k (C.int .i64 0), .k (C.int .i64 0), .k (C.int .i64 0), .k (C.int .i64 0), .k (C.int .i64 0), .k (C.int .i64 0), .k (C.int .i64 0), .k (C.int .i64 0), .k (C.int .i64 0), .k (C.int .i64 0), .k (C.int .i64 0), .sl 2])⟩,
    ⟨none, none, .h (.store 25 (.t 4) (.t 17))⟩] [2, 4])
  (.seq (.seq (.region [⟨some 18, none, .h (.load 25 true (.t 4))⟩,
    ⟨some 19, none, .h (.call (.f 122) [.t 18])⟩,
    ⟨some 5, none, .p (.mv (.t 19))⟩] [2, 4, 5])
  (.block 0 (.loop (.seq (.seq (.region [⟨some 20, none, .p (.mv (.t 5))⟩,
    ⟨some 21, none, .p (.len (.t 20))⟩,
    ⟨some 22, none, .p (.bin .gtr (.t 21) (.k (.c (C.int .i64 0))))⟩] [2, 4, 5, 22])
  (.cond (.t 22)
  .skip
  (.exit 0)))
  (.seq (.block 1 (.seq (.region [⟨some 25, none, .p (.mv (.t 5))⟩,
    ⟨some 26, none, .p (.ixS 2 (.t 25) (.k (.c (C.int .i64 0))))⟩,
    ⟨some 27, none, .h (.load 2 true (.t 26))⟩,
    ⟨some 6, none, .p (.alloc [.k (C.int .i64 0), .k (C.int .i64 0)])⟩,
    ⟨none, none, .h (.store 2 (.t 6) (.t 27))⟩] [2, 4, 5, 6])
  (.seq (.seq (.region [⟨some 28, none, .p (.mv (.t 5))⟩,
    ⟨some 29, none, .p (.len (.t 28))⟩,
    ⟨some 30, none, .p (.mv (.k (.c (C.int .i64 0))))⟩] [2, 4, 6, 28, 29, 30])
  (.block 2 (.loop (.seq (.region [⟨some 31, none, .p (.bin .lss (.t 30) (.t 29))⟩] [2, 4, 6, 28, 29, 30, 31])
  (.seq (.cond (.t 31)
  .skip
  (.exit 2))
  (.seq (.block 3 (.seq (.region [⟨some 32, none, .p (.ixS 2 (.t 28) (.t 30))⟩,
    ⟨some 33, none, .h (.load 2 true (.t 32))⟩,
    ⟨some 8, none, .p (.alloc [.k (C.int .i64 0), .k (C.int .i64 0)])⟩,
    ⟨none, none, .h (.store 2 (.t 8) (.t 33))⟩] [2, 4, 6, 8, 28, 29, 30])
  (.seq (.region [⟨some 34, none, .p (.ixA 2 1 (.t 8) (.k (.c (C.int .i64 0))))⟩,
    ⟨some 35, none, .h (.load 1 false (.t 34))⟩,
    ⟨some 36, none, .p (.ixA 2 1 (.t 6) (.k (.c (C.int .i64 0))))⟩,
    ⟨some 37, none, .h (.load 1 false (.t 36))⟩,
    ⟨some 38, none, .p (.bin .eql (.t 35) (.t 37))⟩] [2, 4, 6, 8, 28, 29, 30, 38])
  (.cond (.t 38)
  (.region [⟨some 39, none, .h (.load 2 true (.t 8))⟩,
    ⟨none, none, .h (.store 2 (.t 6) (.t 39))⟩] [2, 4, 6, 28, 29, 30])
  .skip))))
  (.region [⟨some 40, none, .p (.bin .add (.t 30) (.k (.c (C.int .i64 1))))⟩,
    ⟨some 30, none, .p (.mv (.t 40))⟩] [2, 4, 6, 28, 29, 30])))) [2, 4, 6, 28, 29, 30])))
  (.regionE [⟨some 41, none, .h (.load 25 true (.t 4))⟩,
    ⟨some 42, none, .p (.fld 24 (.t 4))⟩,
    ⟨some 43, none, .h (.load 1 false (.t 42))⟩,
    ⟨some 44, none, .p (.ixA 2 1 (.t 6) (.k (.c (C.int .i64 0))))⟩,
    ⟨some 45, none, .h (.load 1 false (.t 44))⟩,
    ⟨some 46, none, .p (.slS 2 (.t 43) none (some (.t 45)))⟩,
    ⟨some 47, none, .p (.fld 24 (.t 4))⟩,
    ⟨some 48, none, .h (.load 1 false (.t 47))⟩,
    ⟨some 49, none, .p (.ixA 2 1 (.t 6) (.k (.c (C.int .i64 1))))⟩,
    ⟨some 50, none, .h (.load 1 false (.t 49))⟩,
    ⟨some 51, none, .p (.slS 2 (.t 48) (some (.t 50)) none)⟩,
    ⟨some 52, none, .p (.mksl 1 2 [.sl 2] [(0, 1, .t 46), (1, 1, .t 51)])⟩,
    ⟨some 53, none, .h (.call (.f 121) [.t 41, .t 52])⟩,
    ⟨none, none, .h (.store 25 (.t 4) (.t 53))⟩] [2, 4] [] [[], [], [], [], [], [], [], [], [], [], [], [], [11]]))))
  (.region [⟨some 23, none, .h (.load 25 true (.t 4))⟩,
    ⟨some 24, none, .h (.call (.f 122) [.t 23])⟩,
    ⟨some 5, none, .p (.mv (.t 24))⟩] [2, 4, 5]))) [2, 4, 5])))
  (.seq (.region [⟨some 54, none, .h (.load 25 true (.t 4))⟩,
    ⟨none, none, .h (.store 25 (.t 2) (.t 54))⟩,
    ⟨some 3, none, .p (.mv (.k (.c (C.bool true))))⟩] [2, 3])
  .ret))))) }
theorem a31_ok : okFn Try.prog 31 a31 = true := by kernel_rfl
/-- loop.example/g01215/spec.CutLoops -/
def a32 : AFn := { np := 1, nt := 77, res := [.cell 2 25 true, .t 3], body :=
  (.seq (.region [⟨some 1, none, .p (.box 25 (.t 0))⟩,
    ⟨some 2, none, .p (.alloc [.k (C.int .i64 0), .k (C.int .i64 0), .k (C.int .i64 0), .k (C.int .i64 0), .k (C.int .i64 0), .k (C.int .i64 0), .k (C.int .i64 0), .k (C.int .i64 0), .k (C.int .i64 0), .k (C.int .i64 0), .k (C.int .i64 0), .k (C.int .i64 0), .k (C.int .i64 0), .k (C.int .i64 0), .k (C.int .i64 0), .k (C.int .i64 0), .k (C.int .i64 0), .k (C.int .i64 0), .k (C.int .i64 0), .k (C.int .i64 0), .k (C.int .i64 0), .k (C.int .i64 0), .k (C.int .i64 0), .k (C.int .i64 0), .sl 2])⟩,
    ⟨some 3, none, .p (.mv (.k (.c (C.bool false))))⟩] [1, 2])
  (.seq (.region [⟨some 12, none, .h (.load 25 true (.t 1))⟩,
    ⟨some 13, none, .h (.call (.f 123) [.t 12])⟩,
    ⟨some 11, none, .p (.mv (.t 13))⟩,
    ⟨some 14, none, .p (.ext (.t 11) 0)⟩,
    ⟨some 15, none, .p (.ext (.t 11) 1)⟩,
    ⟨some 4, none, .p (.mv (.t 14))⟩,
    ⟨some 5, none, .p (.mv (.t 15))⟩] [1, 2, 4, 5])
  (.seq (.seq (.region [⟨some 16, none, .p (.mv (.t 5))⟩,
    ⟨some 17, none, .p (.un .not (.t 16))⟩] [1, 2, 4, 17])
  (.cond (.t 17)
  (.seq (.region [⟨some 18, none, .p (.build [.k (C.int .i64 0), .k (C.int .i64 0), .k (C.int .i64 0), .k (C.int .i64 0), .k (C.int .i64 0), .k (C.int .i64 0), .k (C.int .i64 0), .k (C.int .i64 0), .k (C.int .i64 0), .k (C.int .i64 0), .k (C.int .i64 0), .k (C.int .i64 0), .k (C.int .i64 0), .k (C.int .i64 0), .k (C.int .i64 0), .k (C.int .i64 0), .k (C.int .i64 0), .k (C.int .i64 0), .k (C.int .i64 0), .k (C.int .i64 0), .k (C.int .i64 0), .k (C.int .i64 0), .k (C.int .i64 0), .k (C.int .i64 0), .sl 2] [])⟩,
    ⟨none, none, .h (.store 25 (.t 2) (.t 18))⟩,
    ⟨some 3, none, .p (.mv (.k (.c (C.bool false))))⟩] [2, 3])
  .ret)
  .skip))
  (.seq (.region [⟨some 19, none, .h (.load 25 true (.t 1))⟩,
    ⟨some 20, none, .p (.fld 24 (.t 1))⟩,
    ⟨some 21, none, .h (.load 1 false (.t 20))⟩,
    ⟨some 22, none, .p (.len (.t 21))⟩,
    ⟨some 23, none, .h (.call (.f 124) [.t 19, .t 22])⟩,
    ⟨some 6, none, .p (.alloc [.k (C.int .i64 0), .k (C.int .i64 0), .k (C.int .i64 0), .k (C.int .i64 0), .k (C.int .i64 0), .k (C.int .i64 0), .k (C.int .i64 0), .k (C.int .i64 0), .k (C.int .i64 0), .k (C.int .i64 0), .k (C.int .i64 0), .k (C.int .i64 0), .k (C.int .i64 0), .k (C.int .i64 0), .k (C.int .i64 0), .k (C.int .i64 0), .k (C.int .i64 0), .k (C.int .i64 0), .k (C.int .i64 0), .k (C.int .i64 0), .k (C.int .i64 0), .k (C.int .i64 0), .k (C.int .i64 0), .k (C.int .i64 0), .sl 2])⟩,
    ⟨none, none, .h (.store 25 (.t 6) (.t 23))⟩] [2, 4, 6])
  (.seq (.seq (.region [⟨some 24, none, .p (.mv (.t 4))⟩,
    ⟨some 25, none, .h (.call (.f 125) [.t 24])⟩,
    ⟨some 7, none, .p (.mv (.t 25))⟩] [2, 6, 7])
  (.block 0 (.loop (.seq (.seq (.region [⟨some 26, none, .p (.mv (.t 7))⟩,
    ⟨some 27, none, .p (.len (.t 26))⟩,
    ⟨some 28, none, .p (.bin .gtr (.t 27) (.k (.c (C.int .i64 0))))⟩] [2, 6, 7, 28])
  (.cond (.t 28)
  .skip
  (.exit 0)))
  (.seq (.block 1 (.seq (.regionD [⟨some 31, none, .p (.mv (.t 7))⟩,
    ⟨some 32, none, .p (.ixS 2 (.t 31) (.k (.c (C.int .i64 0))))⟩,
    ⟨some 33, none, .p (.ixA 2 1 (.t 32) (.k (.c (C.int .i64 0))))⟩,
    ⟨some 34, none, .h (.load 1 false (.t 33))⟩,
    ⟨some 35, none, .p (.mv (.t 7))⟩,
    ⟨some 36, none, .p (.ixS 2 (.t 35) (.k (.c (C.int .i64 0))))⟩,
    ⟨some 37, none, .p (.ixA 2 1 (.t 36) (.k (.c (C.int .i64 1))))⟩,
    ⟨some 38, none, .h (.load 1 false (.t 37))⟩,
    ⟨some 8, none, .p (.mv (.t 34))⟩,
    ⟨some 9, none, .p (.mv (.t 38))⟩] [2, 6, 7, 8, 9] [])
  (.seq (.seq (.region [⟨some 10, none, .p (.mv (.k (.c (C.int .i64 1))))⟩] [2, 6, 7, 8, 9, 10])
  (.block 2 (.loop (.seq (.seq (.region [⟨some 39, none, .p (.mv (.t 10))⟩,
    ⟨some 40, none, .p (.mv (.t 7))⟩,
    ⟨some 41, none, .p (.len (.t 40))⟩,
    ⟨some 42, none, .p (.bin .lss (.t 39) (.t 41))⟩,
    ⟨some 43, none, .p (.mv (.t 42))⟩,
    ⟨some 44, some (43, true), .p (.mv (.t 7))⟩,
    ⟨some 45, some (43, true), .p (.mv (.t 10))⟩,
    ⟨some 46, some (43, true), .p (.ixS 2 (.t 44) (.t 45))⟩,
    ⟨some 47, some (43, true), .p (.ixA 2 1 (.t 46) (.k (.c (C.int .i64 0))))⟩,
    ⟨some 48, some (43, true), .h (.load 1 false (.t 47))⟩,
    ⟨some 49, some (43, true), .p (.mv (.t 8))⟩,
    ⟨some 50, some (43, true), .p (.bin .eql (.t 48) (.t 49))⟩,
    ⟨some 51, none, .p (.pick (.t 43) (.t 50) (.k (.c (C.bool false))))⟩] [2, 6, 7, 8, 9, 10, 51])
  (.cond (.t 51)
  .skip
  (.exit 2)))
  (.seq (.block 3 (.region [⟨some 54, none, .p (.mv (.t 7))⟩,
    ⟨some 55, none, .p (.mv (.t 10))⟩,
    ⟨some 56, none, .p (.ixS 2 (.t 54) (.t 55))⟩,
    ⟨some 57, none, .p (.ixA 2 1 (.t 56) (.k (.c (C.int .i64 1))))⟩,
    ⟨some 58, none, .h (.load 1 false (.t 57))⟩,
    ⟨some 9, none, .p (.mv (.t 58))⟩] [2, 6, 7, 8, 9, 10]))
  (.region [⟨some 52, none, .p (.mv (.t 10))⟩,
    ⟨some 53, none, .p (.bin .add (.t 52) (.k (.c (C.int .i64 1))))⟩,
    ⟨some 10, none, .p (.mv (.t 53))⟩] [2, 6, 7, 8, 9, 10]))) [2, 6, 7, 8, 9, 10])))
  (.seq (.regionE [⟨some 59, none, .p (.mksl 2 0 [.k (C.int .i64 0), .k (C.int .i64 0)] [])⟩,
    ⟨some 60, none, .p (.fld 24 (.t 6))⟩,
    ⟨some 61, none, .h (.load 1 false (.t 60))⟩,
    ⟨some 62, none, .p (.mv (.t 8))⟩,
    ⟨some 63, none, .p (.slS 2 (.t 61) none (some (.t 62)))⟩,
    ⟨some 64, none, .h (.app 2 (.t 59) (.t 63))⟩,
    ⟨some 65, none, .p (.fld 24 (.t 6))⟩,
    ⟨some 66, none, .h (.load 1 false (.t 65))⟩,
    ⟨some 67, none, .p (.mv (.t 9))⟩,
    ⟨some 68, none, .p (.slS 2 (.t 66) (some (.t 67)) none)⟩,
    ⟨some 69, none, .h (.app 2 (.t 64) (.t 68))⟩,
    ⟨some 70, none, .p (.fld 24 (.t 6))⟩,
    ⟨none, none, .h (.store 1 (.t 70) (.t 69))⟩] [2, 6] [(.t 59, .t 65)] [[], [], [], [], [], [0], [], [], [], [], [0, 5]])
  (.region [⟨some 72, none, .h (.load 25 true (.t 6))⟩,
    ⟨some 73, none, .h (.call (.f 123) [.t 72])⟩,
    ⟨some 71, none, .p (.mv (.t 73))⟩,
    ⟨some 74, none, .p (.ext (.t 71) 0)⟩,
    ⟨some 75, none, .p (.ext (.t 71) 1)⟩,
    ⟨some 4, none, .p (.mv (.t 74))⟩] [2, 4, 6])))))
  (.region [⟨some 29, none, .p (.mv (.t 4))⟩,
    ⟨some 30, none, .h (.call (.f 125) [.t 29])⟩,
    ⟨some 7, none, .p (.mv (.t 30))⟩] [2, 6, 7]))) [2, 6, 7])))
  (.seq (.region [⟨some 76, none, .h (.load 25 true (.t 6))⟩,
    ⟨none, none, .h (.store 25 (.t 2) (.t 76))⟩,
    ⟨some 3, none, .p (.mv (.k (.c (C.bool true))))⟩] [2, 3])
  .ret)))))) }
theorem a32_ok : okFn Try.prog 32 a32 = true := by kernel_rfl
/-- loop.example/g01215/impl.IsReplay -/
def a33 : AFn := { np := 1, nt := 11, res := [.t 2], body :=
  (.seq (.region [⟨some 1, none, .p (.box 25 (.t 0))⟩,
    ⟨some 2, none, .p (.mv (.k (.c (C.bool false))))⟩] [1])
  (.seq (.region [⟨some 6, none, .h (.load 25 true (.t 1))⟩,
    ⟨some 7, none, .h (.call (.f 126) [.t 6])⟩,
    ⟨some 5, none, .p (.mv (.t 7))⟩,
    ⟨some 8, none, .p (.ext (.t 5) 0)⟩,
    ⟨some 9, none, .p (.ext (.t 5) 1)⟩,
    ⟨some 3, none, .p (.mv (.t 8))⟩,
    ⟨some 4, none, .p (.mv (.t 9))⟩] [4])
  (.seq (.region [⟨some 10, none, .p (.mv (.t 4))⟩,
    ⟨some 2, none, .p (.mv (.t 10))⟩] [2])
  .ret))) }
theorem a33_ok : okFn Try.prog 33 a33 = true := by kernel_rfl
/-- loop.example/g01215/laws.rReplay -/
def a34 : AFn := { np := 2, nt := 17, res := [.t 4], body :=
  (.seq (.region [⟨some 2, none, .p (.box 25 (.t 0))⟩,
    ⟨some 3, none, .p (.box 25 (.t 1))⟩,
    ⟨some 4, none, .p (.mv (.k (.c (C.bool false))))⟩] [2, 3])
  (.seq (.region [⟨some 5, none, .p (.fld 0 (.t 2))⟩,
    ⟨some 6, none, .h (.load 24 true (.t 5))⟩,
    ⟨some 7, none, .p (.fld 0 (.t 3))⟩,
    ⟨some 8, none, .h (.load 24 true (.t 7))⟩,
    ⟨some 9, none, .p (.eqv false (List.replicate 24 (.int .i64)) (.t 6) (.t 8))⟩,
    ⟨some 10, none, .p (.mv (.t 9))⟩,
    ⟨some 11, some (10, true), .p (.fld 24 (.t 2))⟩,
    ⟨some 12, some (10, true), .h (.load 1 false (.t 11))⟩,
    ⟨some 13, some (10, true), .p (.fld 24 (.t 3))⟩,
    ⟨some 14, some (10, true), .h (.load 1 false (.t 13))⟩,
    ⟨some 15, some (10, true), .h (.call (.f 37) [.t 12, .t 14])⟩,
    ⟨some 16, none, .p (.pick (.t 10) (.t 15) (.k (.c (C.bool false))))⟩,
    ⟨some 4, none, .p (.mv (.t 16))⟩] [4])
  .ret)) }
theorem a34_ok : okFn Try.prog 34 a34 = true := by kernel_rfl
/-- loop.example/g01215/impl.LoopsOf -/
def a35 : AFn := { np := 1, nt := 9, res := [.t 2, .t 3], body :=
  (.seq (.region [⟨some 1, none, .p (.box 25 (.t 0))⟩,
    ⟨some 2, none, .p (.nilsl 2)⟩,
    ⟨some 3, none, .p (.mv (.k (.c (C.bool false))))⟩] [1])
  (.seq (.seq (.region [⟨some 4, none, .h (.load 25 true (.t 1))⟩,
    ⟨some 5, none, .h (.call (.f 33) [.t 4])⟩,
    ⟨some 6, none, .p (.un .not (.t 5))⟩] [1, 6])
  (.cond (.t 6)
  (.seq (.region [⟨some 2, none, .p (.nilsl 2)⟩,
    ⟨some 3, none, .p (.mv (.k (.c (C.bool false))))⟩] [2, 3])
  .ret)
  .skip))
  (.seq (.region [⟨some 7, none, .h (.load 25 true (.t 1))⟩,
    ⟨some 8, none, .h (.call (.f 122) [.t 7])⟩,
    ⟨some 2, none, .p (.mv (.t 8))⟩,
    ⟨some 3, none, .p (.mv (.k (.c (C.bool true))))⟩] [2, 3])
  .ret))) }
theorem a35_ok : okFn Try.prog 35 a35 = true := by kernel_rfl
/-- loop.example/g01215/spec.LoopsOf -/
def a36 : AFn := { np := 1, nt := 16, res := [.t 2, .t 3], body :=
  (.seq (.region [⟨some 1, none, .p (.box 25 (.t 0))⟩,
    ⟨some 2, none, .p (.nilsl 2)⟩,
    ⟨some 3, none, .p (.mv (.k (.c (C.bool false))))⟩] [1])
  (.seq (.region [⟨some 7, none, .h (.load 25 true (.t 1))⟩,
    ⟨some 8, none, .h (.call (.f 123) [.t 7])⟩,
    ⟨some 6, none, .p (.mv (.t 8))⟩,
    ⟨some 9, none, .p (.ext (.t 6) 0)⟩,
    ⟨some 10, none, .p (.ext (.t 6) 1)⟩,
    ⟨some 4, none, .p (.mv (.t 9))⟩,
    ⟨some 5, none, .p (.mv (.t 10))⟩] [4, 5])
  (.seq (.seq (.region [⟨some 11, none, .p (.mv (.t 5))⟩,
    ⟨some 12, none, .p (.un .not (.t 11))⟩] [4, 12])
  (.cond (.t 12)
  (.seq (.region [⟨some 13, none, .p (.mksl 2 0 [.k (C.int .i64 0), .k (C.int .i64 0)] [])⟩,
    ⟨some 2, none, .p (.mv (.t 13))⟩,
    ⟨some 3, none, .p (.mv (.k (.c (C.bool false))))⟩] [2, 3])
  .ret)
  .skip))
  (.seq (.region [⟨some 14, none, .p (.mv (.t 4))⟩,
    ⟨some 15, none, .h (.call (.f 125) [.t 14])⟩,
    ⟨some 2, none, .p (.mv (.t 15))⟩,
    ⟨some 3, none, .p (.mv (.k (.c (C.bool true))))⟩] [2, 3])
  .ret)))) }
theorem a36_ok : okFn Try.prog 36 a36 = true := by kernel_rfl
/-- loop.example/g01215/laws.rPairs -/
def a37 : AFn := { np := 2, nt := 26, res := [.t 4], body :=
  (.seq (.region [⟨some 4, none, .p (.mv (.k (.c (C.bool false))))⟩] [0, 1])
  (.seq (.seq (.region [⟨some 6, none, .p (.mv (.t 0))⟩,
    ⟨some 7, none, .p (.len (.t 6))⟩,
    ⟨some 8, none, .p (.mv (.t 1))⟩,
    ⟨some 9, none, .p (.len (.t 8))⟩,
    ⟨some 10, none, .p (.bin .neq (.t 7) (.t 9))⟩] [0, 1, 10])
  (.cond (.t 10)
  (.seq (.region [⟨some 4, none, .p (.mv (.k (.c (C.bool false))))⟩] [4])
  .ret)
  .skip))
  (.seq (.seq (.region [⟨some 5, none, .p (.mv (.k (.c (C.int .i64 0))))⟩] [0, 1, 5])
  (.block 0 (.loop (.seq (.seq (.region [⟨some 11, none, .p (.mv (.t 5))⟩,
    ⟨some 12, none, .p (.mv (.t 0))⟩,
    ⟨some 13, none, .p (.len (.t 12))⟩,
    ⟨some 14, none, .p (.bin .lss (.t 11) (.t 13))⟩] [0, 1, 5, 14])
  (.cond (.t 14)
  .skip
  (.exit 0)))
  (.seq (.block 1 (.seq (.regionD [⟨some 17, none, .p (.mv (.t 0))⟩,
    ⟨some 18, none, .p (.mv (.t 5))⟩,
    ⟨some 19, none, .p (.ixS 2 (.t 17) (.t 18))⟩,
    ⟨some 20, none, .h (.load 2 true (.t 19))⟩,
    ⟨some 21, none, .p (.mv (.t 1))⟩,
    ⟨some 22, none, .p (.mv (.t 5))⟩,
    ⟨some 23, none, .p (.ixS 2 (.t 21) (.t 22))⟩,
    ⟨some 24, none, .h (.load 2 true (.t 23))⟩,
    ⟨some 25, none, .p (.eqv true [.int .i64, .int .i64] (.t 20) (.t 24))⟩] [0, 1, 5, 25] [])
  (.cond (.t 25)
  (.seq (.region [⟨some 4, none, .p (.mv (.k (.c (C.bool false))))⟩] [4])
  .ret)
  .skip)))
  (.region [⟨some 15, none, .p (.mv (.t 5))⟩,
    ⟨some 16, none, .p (.bin .add (.t 15) (.k (.c (C.int .i64 1))))⟩,
    ⟨some 5, none, .p (.mv (.t 16))⟩] [0, 1, 5]))) [0, 1, 5])))
  (.seq (.region [⟨some 4, none, .p (.mv (.k (.c (C.bool true))))⟩] [4])
  .ret)))) }
theorem a37_ok : okFn Try.prog 37 a37 = true := by kernel_rfl
/-- loop.example/g01215/impl.DropIdle -/
def a38 : AFn := { np := 1, nt := 50, res := [.cell 2 25 true, .t 3], body :=
  (.seq (.region [⟨some 1, none, .p (.box 25 (.t 0))⟩,
    ⟨some 2, none, .p (.alloc [.k (C.int .i64 0), .k (C.int .i64 0), .k (C.int .i64 0), .k (C.int .i64 0), .k (C.int .i64 0), .k (C.int .i64 0), .k (C.int .i64 0), .k (C.int .i64 0), .k (C.int .i64 0), .k (C.int .i64 0), .k (C.int .i64 0), .k (C.int .i64 0), .k (C.int .i64 0), .k (C.int .i64 0), .k (C.int .i64 0), .k (C.int .i64 0), .k (C.int .i64 0), .k (C.int .i64 0), .k (C.int .i64 0), .k (C.int .i64 0), .k (C.int .i64 0), .k (C.int .i64 0), .k (C.int .i64 0), .k (C.int .i64 0), .sl 2])⟩,
    ⟨some 3, none, .p (.mv (.k (.c (C.bool false))))⟩] [1, 2])
  (.seq (.seq (.region [⟨some 8, none, .h (.load 25 true (.t 1))⟩,
    ⟨some 9, none, .h (.call (.f 33) [.t 8])⟩,
    ⟨some 10, none, .p (.un .not (.t 9))⟩] [1, 2, 10])
  (.cond (.t 10)
  (.seq (.region [⟨some 11, none, .p (.build [.k (C.int .i64 0), .k (C.int .i64 0), .k (C.int .i64 0), .k (C.int .i64 0), .k (C.int .i64 0), .k (C.int .i64 0), .k (C.int .i64 0), .k (C.int .i64 0), .k (C.int .i64 0), .k (C.int .i64 0), .k (C.int .i64 0), .k (C.int .i64 0), .k (C.int .i64 0), .k (C.int .i64 0), .k (C.int .i64 0), .k (C.int .i64 0), .k (C.int .i64 0), .k (C.int .i64 0), .k (C.int .i64 0), .k (C.int .i64 0), .k (C.int .i64 0), .k (C.int .i64 0), .k (C.int .i64 0), .k (C.int .i64 0), .sl 2] [])⟩,
    ⟨none, none, .h (.store 25 (.t 2) (.t 11))⟩,
    ⟨some 3, none, .p (.mv (.k (.c (C.bool false))))⟩] [2, 3])
  .ret)
  .skip))
  (.seq (.regionD [⟨some 12, none, .p (.fld 0 (.t 1))⟩,
    ⟨some 13, none, .h (.load 24 true (.t 12))⟩,
    ⟨some 14, none, .p (.build [.k (C.int .i64 0), .k (C.int .i64 0), .k (C.int .i64 0), .k (C.int .i64 0), .k (C.int .i64 0), .k (C.int .i64 0), .k (C.int .i64 0), .k (C.int .i64 0), .k (C.int .i64 0), .k (C.int .i64 0), .k (C.int .i64 0), .k (C.int .i64 0), .k (C.int .i64 0), .k (C.int .i64 0), .k (C.int .i64 0), .k (C.int .i64 0), .k (C.int .i64 0), .k (C.int .i64 0), .k (C.int .i64 0), .k (C.int .i64 0), .k (C.int .i64 0), .k (C.int .i64 0), .k (C.int .i64 0), .k (C.int .i64 0), .sl 2] [(0, 24, .t 13)])⟩,
    ⟨some 15, none, .p (.fld 0 (.t 1))⟩,
    ⟨some 16, none, .h (.load 24 true (.t 15))⟩,
    ⟨some 4, none, .p (.alloc [.k (C.int .i64 0), .k (C.int .i64 0), .k (C.int .i64 0), .k (C.int .i64 0), .k (C.int .i64 0), .k (C.int .i64 0), .k (C.int .i64 0), .k (C.int .i64 0), .k (C.int .i64 0), .k (C.int .i64 0), .k (C.int .i64 0), .k (C.int .i64 0), .k (C.int .i64 0), .k (C.int .i64 0), .k (C.int .i64 0), .k (C.int .i64 0), .k (C.int .i64 0), .k (C.int .i64 0), .k (C.int .i64 0), .k (C.int .i64 0), .k (C.int .i64 0), .k (C.int .i64 0), .k (C.int .i64 0), .k (C.int .i64 0), .sl 2])⟩,
    ⟨some 5, none, .p (.alloc (List.replicate 24 (.k (C.int .i64 0))))⟩,
    ⟨none, none, .h (.store 25 (.t 4) (.t 14))⟩,
    ⟨none, none, .h (.store 24 (.t 5) (.t 16))⟩] [1, 2, 4, 5] [(.t 15, .t 4)])
  (.seq (.seq (.region [⟨some 17, none, .p (.fld 24 (.t 1))⟩,
    ⟨some 18, none, .h (.load 1 false (.t 17))⟩,
    ⟨some 19, none, .p (.len (.t 18))⟩,
    ⟨some 20, none, .p (.mv (.k (.c (C.int .i64 0))))⟩] [2, 4, 5, 18, 19, 20])
  (.block 0 (.loop (.seq (.region [⟨some 21, none, .p (.bin .lss (.t 20) (.t 19))⟩] [2, 4, 5, 18, 19, 20, 21])
  (.seq (.cond (.t 21)
  .skip
  (.exit 0))
  (.seq (.block 1 (.seq (.region [⟨some 22, none, .p (.ixS 2 (.t 18) (.t 20))⟩,
    ⟨some 23, none, .h (.load 2 true (.t 22))⟩,
    ⟨some 7, none, .p (.alloc [.k (C.int .i64 0), .k (C.int .i64 0)])⟩,
    ⟨none, none, .h (.store 2 (.t 7) (.t 23))⟩] [2, 4, 5, 7, 18, 19, 20])
  (.seq (.region [⟨some 24, none, .h (.load 24 true (.t 5))⟩,
    ⟨some 25, none, .h (.load 2 true (.t 7))⟩,
    ⟨some 26, none, .h (.call (.f 127) [.t 24, .t 25])⟩,
    ⟨some 27, none, .p (.mv (.t 26))⟩,
    ⟨some 28, some (27, true), .h (.load 24 true (.t 5))⟩,
    ⟨some 29, some (27, true), .h (.load 2 true (.t 7))⟩,
    ⟨some 30, some (27, true), .h (.call (.f 128) [.t 28, .t 29])⟩,
    ⟨some 31, some (27, true), .p (.un .not (.t 30))⟩,
    ⟨some 32, none, .p (.pick (.t 27) (.t 31) (.k (.c (C.bool false))))⟩] [2, 4, 5, 7, 18, 19, 20, 32])
  (.cond (.t 32)
  (.seq (.region [⟨some 33, none, .p (.fld 24 (.t 4))⟩,
    ⟨some 34, none, .h (.load 1 false (.t 33))⟩,
    ⟨some 35, none, .h (.load 2 true (.t 7))⟩,
    ⟨some 36, none, .p (.mksl 2 1 [.k (C.int .i64 0), .k (C.int .i64 0)] [(0, 2, .t 35)])⟩,
    ⟨some 37, none, .h (.app 2 (.t 34) (.t 36))⟩,
    ⟨some 38, none, .p (.fld 24 (.t 4))⟩,
    ⟨none, none, .h (.store 1 (.t 38) (.t 37))⟩] [2, 4, 5, 7, 18, 19, 20])
  (.region [⟨some 40, none, .h (.load 24 true (.t 5))⟩,
    ⟨some 41, none, .p (.ixA 2 1 (.t 7) (.k (.c (C.int .i64 0))))⟩,
    ⟨some 42, none, .h (.load 1 false (.t 41))⟩,
    ⟨some 43, none, .p (.ixA 2 1 (.t 7) (.k (.c (C.int .i64 1))))⟩,
    ⟨some 44, none, .h (.load 1 false (.t 43))⟩,
    ⟨some 45, none, .h (.call (.f 99) [.t 40, .t 42, .t 44])⟩,
    ⟨some 39, none, .p (.mv (.t 45))⟩,
    ⟨some 46, none, .p (.ext (.t 39) 0)⟩,
    ⟨some 47, none, .p (.ext (.t 39) 1)⟩,
    ⟨none, none, .h (.store 24 (.t 5) (.t 46))⟩] [2, 4, 5, 18, 19, 20]))
  .skip))))
  (.region [⟨some 48, none, .p (.bin .add (.t 20) (.k (.c (C.int .i64 1))))⟩,
    ⟨some 20, none, .p (.mv (.t 48))⟩] [2, 4, 5, 18, 19, 20])))) [2, 4, 5, 18, 19, 20])))
  (.seq (.region [⟨some 49, none, .h (.load 25 true (.t 4))⟩,
    ⟨none, none, .h (.store 25 (.t 2) (.t 49))⟩,
    ⟨some 3, none, .p (.mv (.k (.c (C.bool true))))⟩] [2, 3])
  .ret))))) }
theorem a38_ok : okFn Try.prog 38 a38 = true := by kernel_rfl
/-- loop.example/g01215/spec.DropIdle -/
def a39 : AFn := { np := 1, nt := 59, res := [.cell 2 25 true, .t 3], body :=
  (.seq (.region [⟨some 1, none, .p (.box 25 (.t 0))⟩,
    ⟨some 2, none, .p (.alloc [.k (C.int .i64 0), .k (C.int .i64 0), .k (C.int .i64 0), .k (C.int .i64 0), .k (C.int .i64 0), .k (C.int .i64 0), .k (C.int .i64 0), .k (C.int .i64 0), .k (C.int .i64 0), .k (C.int .i64 0), .k (C.int .i64 0), .k (C.int .i64 0), .k (C.int .i64 0), .k (C.int .i64 0), .k (C.int .i64 0), .k (C.int .i64 0), .k (C.int .i64 0), .k (C.int .i64 0), .k (C.int .i64 0), .k (C.int .i64 0), .k (C.int .i64 0), .k (C.int .i64 0), .k (C.int .i64 0), .k (C.int .i64 0), .sl 2])⟩,
    ⟨some 3, none, .p (.mv (.k (.c (C.bool false))))⟩] [1, 2])
  (.seq (.seq (.region [⟨some 10, none, .h (.load 25 true (.t 1))⟩,
    ⟨some 11, none, .h (.call (.f 129) [.t 10])⟩,
    ⟨some 12, none, .p (.un .not (.t 11))⟩] [1, 2, 12])
  (.cond (.t 12)
  (.seq (.region [⟨some 13, none, .p (.build [.k (C.int .i64 0), .k (C.int .i64 0), .k (C.int .i64 0), .k (C.int .i64 0), .k (C.int .i64 0), .k (C.int .i64 0), .k (C.int .i64 0), .k (C.int .i64 0), .k (C.int .i64 0), .k (C.int .i64 0), .k (C.int .i64 0), .k (C.int .i64 0), .k (C.int .i64 0), .k (C.int .i64 0), .k (C.int .i64 0), .k (C.int .i64 0), .k (C.int .i64 0), .k (C.int .i64 0), .k (C.int .i64 0), .k (C.int .i64 0), .k (C.int .i64 0), .k (C.int .i64 0), .k (C.int .i64 0), .k (C.int .i64 0), .sl 2] [])⟩,
    ⟨none, none, .h (.store 25 (.t 2) (.t 13))⟩,
    ⟨some 3, none, .p (.mv (.k (.c (C.bool false))))⟩] [2, 3])
  .ret)
  .skip))
  (.seq (.regionD [⟨some 14, none, .h (.load 25 true (.t 1))⟩,
    ⟨some 15, none, .h (.call (.f 124) [.t 14, .k (.c (C.int .i64 0))])⟩,
    ⟨some 16, none, .p (.fld 0 (.t 1))⟩,
    ⟨some 17, none, .h (.load 24 true (.t 16))⟩,
    ⟨some 4, none, .p (.alloc [.k (C.int .i64 0), .k (C.int .i64 0), .k (C.int .i64 0), .k (C.int .i64 0), .k (C.int .i64 0), .k (C.int .i64 0), .k (C.int .i64 0), .k (C.int .i64 0), .k (C.int .i64 0), .k (C.int .i64 0), .k (C.int .i64 0), .k (C.int .i64 0), .k (C.int .i64 0), .k (C.int .i64 0), .k (C.int .i64 0), .k (C.int .i64 0), .k (C.int .i64 0), .k (C.int .i64 0), .k (C.int .i64 0), .k (C.int .i64 0), .k (C.int .i64 0), .k (C.int .i64 0), .k (C.int .i64 0), .k (C.int .i64 0), .sl 2])⟩,
    ⟨some 5, none, .p (.alloc (List.replicate 24 (.k (C.int .i64 0))))⟩,
    ⟨none, none, .h (.store 25 (.t 4) (.t 15))⟩,
    ⟨none, none, .h (.store 24 (.t 5) (.t 17))⟩] [1, 2, 4, 5] [(.t 16, .t 4)])
  (.seq (.seq (.region [⟨some 6, none, .p (.mv (.k (.c (C.int .i64 0))))⟩] [1, 2, 4, 5, 6])
  (.block 0 (.loop (.seq (.seq (.region [⟨some 18, none, .p (.mv (.t 6))⟩,
    ⟨some 19, none, .p (.fld 24 (.t 1))⟩,
    ⟨some 20, none, .h (.load 1 false (.t 19))⟩,
    ⟨some 21, none, .p (.len (.t 20))⟩,
    ⟨some 22, none, .p (.bin .lss (.t 18) (.t 21))⟩] [1, 2, 4, 5, 6, 22])
  (.cond (.t 22)
  .skip
  (.exit 0)))
  (.seq (.block 1 (.seq (.region [⟨some 25, none, .p (.fld 24 (.t 1))⟩,
    ⟨some 26, none, .h (.load 1 false (.t 25))⟩,
    ⟨some 27, none, .p (.mv (.t 6))⟩,
    ⟨some 28, none, .p (.ixS 2 (.t 26) (.t 27))⟩,
    ⟨some 29, none, .h (.load 2 true (.t 28))⟩,
    ⟨some 7, none, .p (.alloc [.k (C.int .i64 0), .k (C.int .i64 0)])⟩,
    ⟨none, none, .h (.store 2 (.t 7) (.t 29))⟩] [1, 2, 4, 5, 6, 7])
  (.seq (.region [⟨some 30, none, .h (.load 24 true (.t 5))⟩,
    ⟨some 31, none, .h (.load 2 true (.t 7))⟩,
    ⟨some 32, none, .h (.call (.f 130) [.t 30, .t 31])⟩,
    ⟨some 33, none, .p (.mv (.t 32))⟩,
    ⟨some 34, some (33, true), .h (.load 24 true (.t 5))⟩,
    ⟨some 35, some (33, true), .p (.ixA 2 1 (.t 7) (.k (.c (C.int .i64 0))))⟩,
    ⟨some 36, some (33, true), .h (.load 1 false (.t 35))⟩,
    ⟨some 37, some (33, true), .p (.ixA 2 1 (.t 7) (.k (.c (C.int .i64 1))))⟩,
    ⟨some 38, some (33, true), .h (.load 1 false (.t 37))⟩,
    ⟨some 39, some (33, true), .h (.call (.f 131) [.t 34, .t 36, .t 38])⟩,
    ⟨some 40, some (33, true), .p (.un .not (.t 39))⟩,
    ⟨some 41, none, .p (.pick (.t 33) (.t 40) (.k (.c (C.bool false))))⟩] [1, 2, 4, 5, 6, 7, 41])
  (.cond (.t 41)
  (.seq (.region [⟨some 43, none, .h (.load 24 true (.t 5))⟩,
    ⟨some 44, none, .p (.ixA 2 1 (.t 7) (.k (.c (C.int .i64 0))))⟩,
    ⟨some 45, none, .h (.load 1 false (.t 44))⟩,
    ⟨some 46, none, .p (.ixA 2 1 (.t 7) (.k (.c (C.int .i64 1))))⟩,
    ⟨some 47, none, .h (.load 1 false (.t 46))⟩,
    ⟨some 48, none, .h (.call (.f 132) [.t 43, .t 45, .t 47])⟩,
    ⟨some 42, none, .p (.mv (.t 48))⟩,
    ⟨some 49, none, .p (.ext (.t 42) 0)⟩,
    ⟨some 50, none, .p (.ext (.t 42) 1)⟩,
    ⟨some 8, none, .p (.alloc (List.replicate 24 (.k (C.int .i64 0))))⟩,
    ⟨none, none, .h (.store 24 (.t 8) (.t 49))⟩,
    ⟨some 9, none, .p (.mv (.t 50))⟩] [1, 2, 4, 5, 6, 7, 8])
  (.seq (.region [⟨some 51, none, .p (.fld 24 (.t 4))⟩,
    ⟨some 52, none, .h (.load 1 false (.t 51))⟩,
    ⟨some 53, none, .h (.load 2 true (.t 7))⟩,
    ⟨some 54, none, .p (.mksl 2 1 [.k (C.int .i64 0), .k (C.int .i64 0)] [(0, 2, .t 53)])⟩,
    ⟨some 55, none, .h (.app 2 (.t 52) (.t 54))⟩,
    ⟨some 56, none, .p (.fld 24 (.t 4))⟩,
    ⟨none, none, .h (.store 1 (.t 56) (.t 55))⟩] [1, 2, 4, 5, 6, 8])
  (.region [⟨some 57, none, .h (.load 24 true (.t 8))⟩,
    ⟨none, none, .h (.store 24 (.t 5) (.t 57))⟩] [1, 2, 4, 5, 6])))
  .skip))))
  (.region [⟨some 23, none, .p (.mv (.t 6))⟩,
    ⟨some 24, none, .p (.bin .add (.t 23) (.k (.c (C.int .i64 1))))⟩,
    ⟨some 6, none, .p (.mv (.t 24))⟩] [1, 2, 4, 5, 6]))) [1, 2, 4, 5, 6])))
  (.seq (.region [⟨some 58, none, .h (.load 25 true (.t 4))⟩,
    ⟨none, none, .h (.store 25 (.t 2) (.t 58))⟩,
    ⟨some 3, none, .p (.mv (.k (.c (C.bool true))))⟩] [2, 3])
  .ret))))) }
theorem a39_ok : okFn Try.prog 39 a39 = true := by kernel_rfl
/-- loop.example/g01215/impl.DoesSolve -/
def a40 : AFn := { np := 1, nt := 9, res := [.t 2, .t 3], body :=
  (.seq (.region [⟨some 1, none, .p (.box 25 (.t 0))⟩,
    ⟨some 2, none, .p (.mv (.k (.c (C.bool false))))⟩,
    ⟨some 3, none, .p (.mv (.k (.c (C.bool false))))⟩] [1])
  (.seq (.seq (.region [⟨some 4, none, .h (.load 25 true (.t 1))⟩,
    ⟨some 5, none, .h (.call (.f 33) [.t 4])⟩,
    ⟨some 6, none, .p (.un .not (.t 5))⟩] [1, 6])
  (.cond (.t 6)
  (.seq (.region [⟨some 2, none, .p (.mv (.k (.c (C.bool false))))⟩,
    ⟨some 3, none, .p (.mv (.k (.c (C.bool false))))⟩] [2, 3])
  .ret)
  .skip))
  (.seq (.region [⟨some 7, none, .h (.load 25 true (.t 1))⟩,
    ⟨some 8, none, .h (.call (.f 133) [.t 7])⟩,
    ⟨some 2, none, .p (.mv (.t 8))⟩,
    ⟨some 3, none, .p (.mv (.k (.c (C.bool true))))⟩] [2, 3])
  .ret))) }
theorem a40_ok : okFn Try.prog 40 a40 = true := by kernel_rfl
/-- loop.example/g01215/spec.DoesSolve -/
def a41 : AFn := { np := 1, nt := 20, res := [.t 2, .t 3], body :=
  (.seq (.region [⟨some 1, none, .p (.box 25 (.t 0))⟩,
    ⟨some 2, none, .p (.mv (.k (.c (C.bool false))))⟩,
    ⟨some 3, none, .p (.mv (.k (.c (C.bool false))))⟩] [1])
  (.seq (.region [⟨some 7, none, .h (.load 25 true (.t 1))⟩,
    ⟨some 8, none, .h (.call (.f 123) [.t 7])⟩,
    ⟨some 6, none, .p (.mv (.t 8))⟩,
    ⟨some 9, none, .p (.ext (.t 6) 0)⟩,
    ⟨some 10, none, .p (.ext (.t 6) 1)⟩,
    ⟨some 4, none, .p (.mv (.t 9))⟩,
    ⟨some 5, none, .p (.mv (.t 10))⟩] [4, 5])
  (.seq (.seq (.region [⟨some 11, none, .p (.mv (.t 5))⟩,
    ⟨some 12, none, .p (.un .not (.t 11))⟩] [4, 12])
  (.cond (.t 12)
  (.seq (.region [⟨some 2, none, .p (.mv (.k (.c (C.bool false))))⟩,
    ⟨some 3, none, .p (.mv (.k (.c (C.bool false))))⟩] [2, 3])
  .ret)
  .skip))
  (.seq (.region [⟨some 13, none, .p (.mv (.t 4))⟩,
    ⟨some 14, none, .p (.mv (.t 4))⟩,
    ⟨some 15, none, .p (.len (.t 14))⟩,
    ⟨some 16, none, .p (.bin .sub (.t 15) (.k (.c (C.int .i64 1))))⟩,
    ⟨some 17, none, .p (.ixS 24 (.t 13) (.t 16))⟩,
    ⟨some 18, none, .h (.load 24 true (.t 17))⟩,
    ⟨some 19, none, .h (.call (.f 134) [.t 18])⟩,
    ⟨some 2, none, .p (.mv (.t 19))⟩,
    ⟨some 3, none, .p (.mv (.k (.c (C.bool true))))⟩] [2, 3])
  .ret)))) }
theorem a41_ok : okFn Try.prog 41 a41 = true := by kernel_rfl
/-- loop.example/g01215/impl.CertifyReplay -/
def a42 : AFn := { np := 1, nt := 14, res := [.t 2, .t 3], body :=
  (.seq (.region [⟨some 1, none, .p (.box 25 (.t 0))⟩,
    ⟨some 2, none, .p (.mv (.k (.c (C.int .i64 0))))⟩,
    ⟨some 3, none, .p (.mv (.k (.c (C.bool false))))⟩] [1])
  (.seq (.seq (.region [⟨some 4, none, .h (.load 25 true (.t 1))⟩,
    ⟨some 5, none, .h (.call (.f 133) [.t 4])⟩,
    ⟨some 6, none, .p (.un .not (.t 5))⟩] [1, 6])
  (.cond (.t 6)
  (.seq (.region [⟨some 2, none, .p (.mv (.k (.c (C.int .i64 0))))⟩,
    ⟨some 3, none, .p (.mv (.k (.c (C.bool false))))⟩] [2, 3])
  .ret)
  .skip))
  (.seq (.regionD [⟨some 7, none, .p (.fld 24 (.t 1))⟩,
    ⟨some 8, none, .h (.load 1 false (.t 7))⟩,
    ⟨some 9, none, .p (.len (.t 8))⟩,
    ⟨some 10, none, .p (.fld 0 (.t 1))⟩,
    ⟨some 11, none, .h (.load 24 true (.t 10))⟩,
    ⟨some 12, none, .h (.call (.f 135) [.t 11])⟩,
    ⟨some 13, none, .p (.bin .sub (.t 9) (.t 12))⟩,
    ⟨some 2, none, .p (.mv (.t 13))⟩,
    ⟨some 3, none, .p (.mv (.k (.c (C.bool true))))⟩] [2, 3] [])
  .ret))) }
theorem a42_ok : okFn Try.prog 42 a42 = true := by kernel_rfl
/-- loop.example/g01215/spec.CertifyReplay -/
def a43 : AFn := { np := 1, nt := 30, res := [.t 2, .t 3], body :=
  (.seq (.region [⟨some 1, none, .p (.box 25 (.t 0))⟩,
    ⟨some 2, none, .p (.mv (.k (.c (C.int .i64 0))))⟩,
    ⟨some 3, none, .p (.mv (.k (.c (C.bool false))))⟩] [1])
  (.seq (.region [⟨some 7, none, .h (.load 25 true (.t 1))⟩,
    ⟨some 8, none, .h (.call (.f 123) [.t 7])⟩,
    ⟨some 6, none, .p (.mv (.t 8))⟩,
    ⟨some 9, none, .p (.ext (.t 6) 0)⟩,
    ⟨some 10, none, .p (.ext (.t 6) 1)⟩,
    ⟨some 4, none, .p (.mv (.t 9))⟩,
    ⟨some 5, none, .p (.mv (.t 10))⟩] [1, 4, 5])
  (.seq (.seq (.region [⟨some 11, none, .p (.mv (.t 5))⟩,
    ⟨some 12, none, .p (.un .not (.t 11))⟩,
    ⟨some 13, none, .p (.mv (.t 12))⟩,
    ⟨some 14, some (13, false), .p (.mv (.t 4))⟩,
    ⟨some 15, some (13, false), .p (.mv (.t 4))⟩,
    ⟨some 16, some (13, false), .p (.len (.t 15))⟩,
    ⟨some 17, some (13, false), .p (.bin .sub (.t 16) (.k (.c (C.int .i64 1))))⟩,
    ⟨some 18, some (13, false), .p (.ixS 24 (.t 14) (.t 17))⟩,
    ⟨some 19, some (13, false), .h (.load 24 true (.t 18))⟩,
    ⟨some 20, some (13, false), .h (.call (.f 134) [.t 19])⟩,
    ⟨some 21, some (13, false), .p (.un .not (.t 20))⟩,
    ⟨some 22, none, .p (.pick (.t 13) (.k (.c (C.bool true))) (.t 21))⟩] [1, 22])
  (.cond (.t 22)
  (.seq (.region [⟨some 2, none, .p (.mv (.k (.c (C.int .i64 0))))⟩,
    ⟨some 3, none, .p (.mv (.k (.c (C.bool false))))⟩] [2, 3])
  .ret)
  .skip))
  (.seq (.regionD [⟨some 23, none, .p (.fld 24 (.t 1))⟩,
    ⟨some 24, none, .h (.load 1 false (.t 23))⟩,
    ⟨some 25, none, .p (.len (.t 24))⟩,
    ⟨some 26, none, .p (.fld 0 (.t 1))⟩,
    ⟨some 27, none, .h (.load 24 true (.t 26))⟩,
    ⟨some 28, none, .h (.call (.f 136) [.t 27])⟩,
    ⟨some 29, none, .p (.bin .sub (.t 25) (.t 28))⟩,
    ⟨some 2, none, .p (.mv (.t 29))⟩,
    ⟨some 3, none, .p (.mv (.k (.c (C.bool true))))⟩] [2, 3] [])
  .ret)))) }
theorem a43_ok : okFn Try.prog 43 a43 = true := by kernel_rfl
/-- loop.example/g01215/impl.ReplayRack -/
def a44 : AFn := { np := 2, nt := 28, res := [.cell 4 24 true, .t 5], body :=
  (.seq (.region [⟨some 2, none, .p (.box 25 (.t 0))⟩,
    ⟨some 4, none, .p (.alloc (List.replicate 24 (.k (C.int .i64 0))))⟩,
    ⟨some 5, none, .p (.mv (.k (.c (C.bool false))))⟩] [1, 2, 4])
  (.seq (.region [⟨some 9, none, .h (.load 25 true (.t 2))⟩,
    ⟨some 10, none, .h (.call (.f 126) [.t 9])⟩,
    ⟨some 8, none, .p (.mv (.t 10))⟩,
    ⟨some 11, none, .p (.ext (.t 8) 0)⟩,
    ⟨some 12, none, .p (.ext (.t 8) 1)⟩,
    ⟨some 6, none, .p (.mv (.t 11))⟩,
    ⟨some 7, none, .p (.mv (.t 12))⟩] [1, 2, 4, 6, 7])
  (.seq (.seq (.region [⟨some 13, none, .p (.mv (.t 7))⟩,
    ⟨some 14, none, .p (.un .not (.t 13))⟩,
    ⟨some 15, none, .p (.mv (.t 14))⟩,
    ⟨some 16, some (15, false), .p (.mv (.t 1))⟩,
    ⟨some 17, some (15, false), .p (.fld 24 (.t 2))⟩,
    ⟨some 18, some (15, false), .h (.load 1 false (.t 17))⟩,
    ⟨some 19, some (15, false), .p (.len (.t 18))⟩,
    ⟨some 20, some (15, false), .h (.call (.f 137) [.t 16, .k (.c (C.int .i64 0)), .t 19])⟩,
    ⟨some 21, some (15, false), .p (.un .not (.t 20))⟩,
    ⟨some 22, none, .p (.pick (.t 15) (.k (.c (C.bool true))) (.t 21))⟩] [1, 4, 6, 22])
  (.cond (.t 22)
  (.seq (.region [⟨some 23, none, .p (.build (List.replicate 24 (.k (C.int .i64 0))) [])⟩,
    ⟨none, none, .h (.store 24 (.t 4) (.t 23))⟩,
    ⟨some 5, none, .p (.mv (.k (.c (C.bool false))))⟩] [4, 5])
  .ret)
  .skip))
  (.seq (.region [⟨some 24, none, .p (.mv (.t 6))⟩,
    ⟨some 25, none, .p (.mv (.t 1))⟩,
    ⟨some 26, none, .p (.ixS 24 (.t 24) (.t 25))⟩,
    ⟨some 27, none, .h (.load 24 true (.t 26))⟩,
    ⟨none, none, .h (.store 24 (.t 4) (.t 27))⟩,
    ⟨some 5, none, .p (.mv (.k (.c (C.bool true))))⟩] [4, 5])
  .ret)))) }
theorem a44_ok : okFn Try.prog 44 a44 = true := by kernel_rfl
/-- loop.example/g01215/spec.DrawTubeValue -/
def a45 : AFn := { np := 1, nt := 8, res := [.cell 2 24 true, .t 3], body :=
  (.seq (.region [⟨some 2, none, .p (.alloc (List.replicate 24 (.k (C.int .i64 0))))⟩,
    ⟨some 3, none, .p (.mv (.k (.c (C.int .i64 0))))⟩] [0, 2])
  (.seq (.region [⟨some 4, none, .p (.mv (.t 0))⟩,
    ⟨some 5, none, .h (.call (.f 138) [.t 4])⟩,
    ⟨some 6, none, .p (.ext (.t 5) 0)⟩,
    ⟨some 7, none, .p (.ext (.t 5) 1)⟩,
    ⟨none, none, .h (.store 24 (.t 2) (.t 6))⟩,
    ⟨some 3, none, .p (.mv (.t 7))⟩] [2, 3])
  .ret)) }
theorem a45_ok : okFn Try.prog 45 a45 = true := by kernel_rfl
/-- loop.example/g01215/impl.TubeValue -/
def a46 : AFn := { np := 2, nt := 19, res := [.t 4, .t 5], body :=
  (.seq (.region [⟨some 2, none, .p (.box 24 (.t 0))⟩,
    ⟨some 4, none, .p (.mv (.k (.c (C.int .i64 0))))⟩,
    ⟨some 5, none, .p (.mv (.k (.c (C.bool false))))⟩] [1, 2])
  (.seq (.seq (.region [⟨some 8, none, .h (.load 24 true (.t 2))⟩,
    ⟨some 9, none, .p (.mv (.t 1))⟩,
    ⟨some 10, none, .h (.call (.f 139) [.t 8, .t 9, .k (.c (C.int .i64 0))])⟩,
    ⟨some 11, none, .p (.un .not (.t 10))⟩] [1, 2, 11])
  (.cond (.t 11)
  (.seq (.region [⟨some 4, none, .p (.mv (.k (.c (C.int .i64 0))))⟩,
    ⟨some 5, none, .p (.mv (.k (.c (C.bool false))))⟩] [4, 5])
  .ret)
  .skip))
  (.seq (.region [⟨some 13, none, .h (.load 24 true (.t 2))⟩,
    ⟨some 14, none, .p (.mv (.t 1))⟩,
    ⟨some 15, none, .h (.call (.f 140) [.t 13, .t 14])⟩,
    ⟨some 12, none, .p (.mv (.t 15))⟩,
    ⟨some 16, none, .p (.ext (.t 12) 0)⟩,
    ⟨some 17, none, .p (.ext (.t 12) 1)⟩,
    ⟨some 6, none, .p (.mv (.t 16))⟩,
    ⟨some 7, none, .p (.mv (.t 17))⟩] [6])
  (.seq (.region [⟨some 18, none, .p (.mv (.t 6))⟩,
    ⟨some 4, none, .p (.mv (.t 18))⟩,
    ⟨some 5, none, .p (.mv (.k (.c (C.bool true))))⟩] [4, 5])
  .ret)))) }
theorem a46_ok : okFn Try.prog 46 a46 = true := by kernel_rfl
/-- loop.example/g01215/spec.TubeValue -/
def a47 : AFn := { np := 2, nt := 17, res := [.t 4, .t 5], body :=
  (.seq (.region [⟨some 2, none, .p (.box 24 (.t 0))⟩,
    ⟨some 4, none, .p (.mv (.k (.c (C.int .i64 0))))⟩,
    ⟨some 5, none, .p (.mv (.k (.c (C.bool false))))⟩] [1, 2])
  (.seq (.seq (.region [⟨some 6, none, .h (.load 24 true (.t 2))⟩,
    ⟨some 7, none, .h (.call (.f 141) [.t 6])⟩,
    ⟨some 8, none, .p (.un .not (.t 7))⟩,
    ⟨some 9, none, .p (.mv (.t 8))⟩,
    ⟨some 10, some (9, false), .p (.mv (.t 1))⟩,
    ⟨some 11, some (9, false), .h (.call (.f 119) [.t 10, .k (.c (C.int .i64 0)), .k (.c (C.int .i64 3))])⟩,
    ⟨some 12, some (9, false), .p (.un .not (.t 11))⟩,
    ⟨some 13, none, .p (.pick (.t 9) (.k (.c (C.bool true))) (.t 12))⟩] [1, 2, 13])
  (.cond (.t 13)
  (.seq (.region [⟨some 4, none, .p (.mv (.k (.c (C.int .i64 0))))⟩,
    ⟨some 5, none, .p (.mv (.k (.c (C.bool false))))⟩] [4, 5])
  .ret)
  .skip))
  (.seq (.region [⟨some 14, none, .h (.load 24 true (.t 2))⟩,
    ⟨some 15, none, .p (.mv (.t 1))⟩,
    ⟨some 16, none, .h (.call (.f 142) [.t 14, .t 15])⟩,
    ⟨some 4, none, .p (.mv (.t 16))⟩,
    ⟨some 5, none, .p (.mv (.k (.c (C.bool true))))⟩] [4, 5])
  .ret))) }
theorem a47_ok : okFn Try.prog 47 a47 = true := by kernel_rfl
/-- loop.example/g01215/impl.BestParty -/
def a48 : AFn := { np := 2, nt := 46, res := [.t 4, .t 5], body :=
  (.seq (.region [⟨some 2, none, .p (.box 24 (.t 0))⟩,
    ⟨some 4, none, .p (.nilsl 2)⟩,
    ⟨some 5, none, .p (.mv (.k (.c (C.bool false))))⟩] [1, 2])
  (.seq (.seq (.region [⟨some 9, none, .h (.load 24 true (.t 2))⟩,
    ⟨some 10, none, .p (.mv (.t 1))⟩,
    ⟨some 11, none, .h (.call (.f 139) [.t 9, .t 10, .k (.c (C.int .i64 0))])⟩,
    ⟨some 12, none, .p (.un .not (.t 11))⟩] [1, 2, 12])
  (.cond (.t 12)
  (.seq (.region [⟨some 4, none, .p (.nilsl 2)⟩,
    ⟨some 5, none, .p (.mv (.k (.c (C.bool false))))⟩] [4, 5])
  .ret)
  .skip))
  (.seq (.region [⟨some 6, none, .p (.nilsl 2)⟩] [1, 2, 6])
  (.seq (.block 0 (.loop (.seq (.seq (.region [⟨some 13, none, .p (.mv (.t 1))⟩,
    ⟨some 14, none, .p (.bin .gtr (.t 13) (.k (.c (C.int .i64 0))))⟩] [1, 2, 6, 14])
  (.cond (.t 14)
  .skip
  (.exit 0)))
  (.seq (.block 1 (.seq (.region [⟨some 18, none, .h (.load 24 true (.t 2))⟩,
    ⟨some 19, none, .p (.mv (.t 1))⟩,
    ⟨some 20, none, .h (.call (.f 140) [.t 18, .t 19])⟩,
    ⟨some 17, none, .p (.mv (.t 20))⟩,
    ⟨some 21, none, .p (.ext (.t 17) 0)⟩,
    ⟨some 22, none, .p (.ext (.t 17) 1)⟩,
    ⟨some 7, none, .p (.mv (.t 21))⟩,
    ⟨some 8, none, .p (.mv (.t 22))⟩] [1, 2, 6, 8])
  (.seq (.seq (.region [⟨some 23, none, .p (.mv (.t 8))⟩,
    ⟨some 24, none, .p (.len (.t 23))⟩,
    ⟨some 25, none, .p (.bin .eql (.t 24) (.k (.c (C.int .i64 0))))⟩] [1, 2, 6, 8, 25])
  (.cond (.t 25)
  (.exit 0)
  .skip))
  (.seq (.region [⟨some 26, none, .p (.mv (.t 6))⟩,
    ⟨some 27, none, .p (.mv (.t 8))⟩,
    ⟨some 28, none, .p (.ixS 2 (.t 27) (.k (.c (C.int .i64 0))))⟩,
    ⟨some 29, none, .h (.load 2 true (.t 28))⟩,
    ⟨some 30, none, .p (.mksl 2 1 [.k (C.int .i64 0), .k (C.int .i64 0)] [(0, 2, .t 29)])⟩,
    ⟨some 31, none, .h (.app 2 (.t 26) (.t 30))⟩,
    ⟨some 6, none, .p (.mv (.t 31))⟩] [1, 2, 6, 8])
  (.regionD [⟨some 33, none, .h (.load 24 true (.t 2))⟩,
    ⟨some 34, none, .p (.mv (.t 8))⟩,
    ⟨some 35, none, .p (.ixS 2 (.t 34) (.k (.c (C.int .i64 0))))⟩,
    ⟨some 36, none, .p (.ixA 2 1 (.t 35) (.k (.c (C.int .i64 0))))⟩,
    ⟨some 37, none, .h (.load 1 false (.t 36))⟩,
    ⟨some 38, none, .p (.mv (.t 8))⟩,
    ⟨some 39, none, .p (.ixS 2 (.t 38) (.k (.c (C.int .i64 0))))⟩,
    ⟨some 40, none, .p (.ixA 2 1 (.t 39) (.k (.c (C.int .i64 1))))⟩,
    ⟨some 41, none, .h (.load 1 false (.t 40))⟩,
    ⟨some 42, none, .h (.call (.f 99) [.t 33, .t 37, .t 41])⟩,
    ⟨some 32, none, .p (.mv (.t 42))⟩,
    ⟨some 43, none, .p (.ext (.t 32) 0)⟩,
    ⟨some 44, none, .p (.ext (.t 32) 1)⟩,
    ⟨none, none, .h (.store 24 (.t 2) (.t 43))⟩] [1, 2, 6] [])))))
  (.region [⟨some 15, none, .p (.mv (.t 1))⟩,
    ⟨some 16, none, .p (.bin .sub (.t 15) (.k (.c (C.int .i64 1))))⟩,
    ⟨some 1, none, .p (.mv (.t 16))⟩] [1, 2, 6]))) [1, 2, 6]))
  (.seq (.region [⟨some 45, none, .p (.mv (.t 6))⟩,
    ⟨some 4, none, .p (.mv (.t 45))⟩,
    ⟨some 5, none, .p (.mv (.k (.c (C.bool true))))⟩] [4, 5])
  .ret))))) }
theorem a48_ok : okFn Try.prog 48 a48 = true := by kernel_rfl
/-- loop.example/g01215/spec.BestParty -/
def a49 : AFn := { np := 2, nt := 52, res := [.t 4, .t 5], body :=
  (.seq (.region [⟨some 2, none, .p (.box 24 (.t 0))⟩,
    ⟨some 4, none, .p (.nilsl 2)⟩,
    ⟨some 5, none, .p (.mv (.k (.c (C.bool false))))⟩] [1, 2])
  (.seq (.region [⟨some 10, none, .p (.mksl 2 0 [.k (C.int .i64 0), .k (C.int .i64 0)] [])⟩,
    ⟨some 6, none, .p (.mv (.t 10))⟩] [1, 2, 6])
  (.seq (.seq (.region [⟨some 11, none, .h (.load 24 true (.t 2))⟩,
    ⟨some 12, none, .h (.call (.f 141) [.t 11])⟩,
    ⟨some 13, none, .p (.un .not (.t 12))⟩,
    ⟨some 14, none, .p (.mv (.t 13))⟩,
    ⟨some 15, some (14, false), .p (.mv (.t 1))⟩,
    ⟨some 16, some (14, false), .h (.call (.f 119) [.t 15, .k (.c (C.int .i64 0)), .k (.c (C.int .i64 3))])⟩,
    ⟨some 17, some (14, false), .p (.un .not (.t 16))⟩,
    ⟨some 18, none, .p (.pick (.t 14) (.k (.c (C.bool true))) (.t 17))⟩] [1, 2, 6, 18])
  (.cond (.t 18)
  (.seq (.region [⟨some 19, none, .p (.mv (.t 6))⟩,
    ⟨some 4, none, .p (.mv (.t 19))⟩,
    ⟨some 5, none, .p (.mv (.k (.c (C.bool false))))⟩] [4, 5])
  .ret)
  .skip))
  (.seq (.block 0 (.loop (.seq (.seq (.region [⟨some 20, none, .p (.mv (.t 1))⟩,
    ⟨some 21, none, .p (.bin .gtr (.t 20) (.k (.c (C.int .i64 0))))⟩] [1, 2, 6, 21])
  (.cond (.t 21)
  .skip
  (.exit 0)))
  (.seq (.block 1 (.seq (.region [⟨some 24, none, .h (.load 24 true (.t 2))⟩,
    ⟨some 25, none, .p (.mv (.t 1))⟩,
    ⟨some 26, none, .h (.call (.f 143) [.t 24, .t 25])⟩,
    ⟨some 7, none, .p (.mv (.t 26))⟩] [1, 2, 6, 7])
  (.seq (.seq (.region [⟨some 27, none, .p (.mv (.t 7))⟩,
    ⟨some 28, none, .p (.len (.t 27))⟩,
    ⟨some 29, none, .p (.bin .eql (.t 28) (.k (.c (C.int .i64 0))))⟩] [1, 2, 6, 7, 29])
  (.cond (.t 29)
  (.seq (.region [⟨some 30, none, .p (.mv (.t 6))⟩,
    ⟨some 4, none, .p (.mv (.t 30))⟩,
    ⟨some 5, none, .p (.mv (.k (.c (C.bool true))))⟩] [4, 5])
  .ret)
  .skip))
  (.seq (.regionD [⟨some 32, none, .h (.load 24 true (.t 2))⟩,
    ⟨some 33, none, .p (.mv (.t 7))⟩,
    ⟨some 34, none, .p (.ixS 2 (.t 33) (.k (.c (C.int .i64 0))))⟩,
    ⟨some 35, none, .p (.ixA 2 1 (.t 34) (.k (.c (C.int .i64 0))))⟩,
    ⟨some 36, none, .h (.load 1 false (.t 35))⟩,
    ⟨some 37, none, .p (.mv (.t 7))⟩,
    ⟨some 38, none, .p (.ixS 2 (.t 37) (.k (.c (C.int .i64 0))))⟩,
    ⟨some 39, none, .p (.ixA 2 1 (.t 38) (.k (.c (C.int .i64 1))))⟩,
    ⟨some 40, none, .h (.load 1 false (.t 39))⟩,
    ⟨some 41, none, .h (.call (.f 132) [.t 32, .t 36, .t 40])⟩,
    ⟨some 31, none, .p (.mv (.t 41))⟩,
    ⟨some 42, none, .p (.ext (.t 31) 0)⟩,
    ⟨some 43, none, .p (.ext (.t 31) 1)⟩,
    ⟨some 8, none, .p (.alloc (List.replicate 24 (.k (C.int .i64 0))))⟩,
    ⟨none, none, .h (.store 24 (.t 8) (.t 42))⟩,
    ⟨some 9, none, .p (.mv (.t 43))⟩] [1, 2, 6, 7, 8] [])
  (.seq (.region [⟨some 44, none, .p (.mv (.t 6))⟩,
    ⟨some 45, none, .p (.mv (.t 7))⟩,
    ⟨some 46, none, .p (.ixS 2 (.t 45) (.k (.c (C.int .i64 0))))⟩,
    ⟨some 47, none, .h (.load 2 true (.t 46))⟩,
    ⟨some 48, none, .p (.mksl 2 1 [.k (C.int .i64 0), .k (C.int .i64 0)] [(0, 2, .t 47)])⟩,
    ⟨some 49, none, .h (.app 2 (.t 44) (.t 48))⟩,
    ⟨some 6, none, .p (.mv (.t 49))⟩] [1, 2, 6, 8])
  (.region [⟨some 50, none, .h (.load 24 true (.t 8))⟩,
    ⟨none, none, .h (.store 24 (.t 2) (.t 50))⟩] [1, 2, 6]))))))
  (.region [⟨some 22, none, .p (.mv (.t 1))⟩,
    ⟨some 23, none, .p (.bin .sub (.t 22) (.k (.c (C.int .i64 1))))⟩,
    ⟨some 1, none, .p (.mv (.t 23))⟩] [1, 2, 6]))) [1, 2, 6]))
  (.seq (.region [⟨some 51, none, .p (.mv (.t 6))⟩,
    ⟨some 4, none, .p (.mv (.t 51))⟩,
    ⟨some 5, none, .p (.mv (.k (.c (C.bool true))))⟩] [4, 5])
  .ret))))) }
theorem a49_ok : okFn Try.prog 49 a49 = true := by kernel_rfl
/-- loop.example/g01215/impl.TubePours -/
def a50 : AFn := { np := 2, nt := 19, res := [.t 4, .t 5], body :=
  (.seq (.region [⟨some 2, none, .p (.box 24 (.t 0))⟩,
    ⟨some 4, none, .p (.nilsl 2)⟩,
    ⟨some 5, none, .p (.mv (.k (.c (C.bool false))))⟩] [1, 2])
  (.seq (.seq (.region [⟨some 8, none, .h (.load 24 true (.t 2))⟩,
    ⟨some 9, none, .p (.mv (.t 1))⟩,
    ⟨some 10, none, .h (.call (.f 139) [.t 8, .t 9, .k (.c (C.int .i64 1))])⟩,
    ⟨some 11, none, .p (.un .not (.t 10))⟩] [1, 2, 11])
  (.cond (.t 11)
  (.seq (.region [⟨some 4, none, .p (.nilsl 2)⟩,
    ⟨some 5, none, .p (.mv (.k (.c (C.bool false))))⟩] [4, 5])
  .ret)
  .skip))
  (.seq (.region [⟨some 13, none, .h (.load 24 true (.t 2))⟩,
    ⟨some 14, none, .p (.mv (.t 1))⟩,
    ⟨some 15, none, .h (.call (.f 140) [.t 13, .t 14])⟩,
    ⟨some 12, none, .p (.mv (.t 15))⟩,
    ⟨some 16, none, .p (.ext (.t 12) 0)⟩,
    ⟨some 17, none, .p (.ext (.t 12) 1)⟩,
    ⟨some 6, none, .p (.mv (.t 16))⟩,
    ⟨some 7, none, .p (.mv (.t 17))⟩] [7])
  (.seq (.region [⟨some 18, none, .p (.mv (.t 7))⟩,
    ⟨some 4, none, .p (.mv (.t 18))⟩,
    ⟨some 5, none, .p (.mv (.k (.c (C.bool true))))⟩] [4, 5])
  .ret)))) }
theorem a50_ok : okFn Try.prog 50 a50 = true := by kernel_rfl
/-- loop.example/g01215/spec.TubePours -/
def a51 : AFn := { np := 2, nt := 18, res := [.t 4, .t 5], body :=
  (.seq (.region [⟨some 2, none, .p (.box 24 (.t 0))⟩,
    ⟨some 4, none, .p (.nilsl 2)⟩,
    ⟨some 5, none, .p (.mv (.k (.c (C.bool false))))⟩] [1, 2])
  (.seq (.seq (.region [⟨some 6, none, .h (.load 24 true (.t 2))⟩,
    ⟨some 7, none, .h (.call (.f 141) [.t 6])⟩,
    ⟨some 8, none, .p (.un .not (.t 7))⟩,
    ⟨some 9, none, .p (.mv (.t 8))⟩,
    ⟨some 10, some (9, false), .p (.mv (.t 1))⟩,
    ⟨some 11, some (9, false), .h (.call (.f 119) [.t 10, .k (.c (C.int .i64 1)), .k (.c (C.int .i64 3))])⟩,
    ⟨some 12, some (9, false), .p (.un .not (.t 11))⟩,
    ⟨some 13, none, .p (.pick (.t 9) (.k (.c (C.bool true))) (.t 12))⟩] [1, 2, 13])
  (.cond (.t 13)
  (.seq (.region [⟨some 14, none, .p (.mksl 2 0 [.k (C.int .i64 0), .k (C.int .i64 0)] [])⟩,
    ⟨some 4, none, .p (.mv (.t 14))⟩,
    ⟨some 5, none, .p (.mv (.k (.c (C.bool false))))⟩] [4, 5])
  .ret)
  .skip))
  (.seq (.region [⟨some 15, none, .h (.load 24 true (.t 2))⟩,
    ⟨some 16, none, .p (.mv (.t 1))⟩,
    ⟨some 17, none, .h (.call (.f 143) [.t 15, .t 16])⟩,
    ⟨some 4, none, .p (.mv (.t 17))⟩,
    ⟨some 5, none, .p (.mv (.k (.c (C.bool true))))⟩] [4, 5])
  .ret))) }
theorem a51_ok : okFn Try.prog 51 a51 = true := by kernel_rfl
/-- loop.example/g01215/impl.FirstBest -/
def a52 : AFn := { np := 2, nt := 25, res := [.cell 4 2 true, .t 5], body :=
  (.seq (.region [⟨some 2, none, .p (.box 24 (.t 0))⟩,
    ⟨some 4, none, .p (.alloc [.k (C.int .i64 0), .k (C.int .i64 0)])⟩,
    ⟨some 5, none, .p (.mv (.k (.c (C.bool false))))⟩] [1, 2, 4])
  (.seq (.region [⟨some 9, none, .h (.load 24 true (.t 2))⟩,
    ⟨some 10, none, .p (.mv (.t 1))⟩,
    ⟨some 11, none, .h (.call (.f 50) [.t 9, .t 10])⟩,
    ⟨some 8, none, .p (.mv (.t 11))⟩,
    ⟨some 12, none, .p (.ext (.t 8) 0)⟩,
    ⟨some 13, none, .p (.ext (.t 8) 1)⟩,
    ⟨some 6, none, .p (.mv (.t 12))⟩,
    ⟨some 7, none, .p (.mv (.t 13))⟩] [4, 6, 7])
  (.seq (.seq (.region [⟨some 14, none, .p (.mv (.t 7))⟩,
    ⟨some 15, none, .p (.un .not (.t 14))⟩,
    ⟨some 16, none, .p (.mv (.t 15))⟩,
    ⟨some 17, some (16, false), .p (.mv (.t 6))⟩,
    ⟨some 18, some (16, false), .p (.len (.t 17))⟩,
    ⟨some 19, some (16, false), .p (.bin .eql (.t 18) (.k (.c (C.int .i64 0))))⟩,
    ⟨some 20, none, .p (.pick (.t 16) (.k (.c (C.bool true))) (.t 19))⟩] [4, 6, 20])
  (.cond (.t 20)
  (.seq (.region [⟨some 21, none, .p (.build [.k (C.int .i64 0), .k (C.int .i64 0)] [])⟩,
    ⟨none, none, .h (.store 2 (.t 4) (.t 21))⟩,
    ⟨some 5, none, .p (.mv (.k (.c (C.bool false))))⟩] [4, 5])
  .ret)
  .skip))
  (.seq (.region [⟨some 22, none, .p (.mv (.t 6))⟩,
    ⟨some 23, none, .p (.ixS 2 (.t 22) (.k (.c (C.int .i64 0))))⟩,
    ⟨some 24, none, .h (.load 2 true (.t 23))⟩,
    ⟨none, none, .h (.store 2 (.t 4) (.t 24))⟩,
    ⟨some 5, none, .p (.mv (.k (.c (C.bool true))))⟩] [4, 5])
  .ret)))) }
theorem a52_ok : okFn Try.prog 52 a52 = true := by kernel_rfl
/-- loop.example/g01215/spec.FirstBest -/
def a53 : AFn := { np := 2, nt := 25, res := [.cell 4 2 true, .t 5], body :=
  (.seq (.region [⟨some 2, none, .p (.box 24 (.t 0))⟩,
    ⟨some 4, none, .p (.alloc [.k (C.int .i64 0), .k (C.int .i64 0)])⟩,
    ⟨some 5, none, .p (.mv (.k (.c (C.bool false))))⟩] [1, 2, 4])
  (.seq (.region [⟨some 9, none, .h (.load 24 true (.t 2))⟩,
    ⟨some 10, none, .p (.mv (.t 1))⟩,
    ⟨some 11, none, .h (.call (.f 51) [.t 9, .t 10])⟩,
    ⟨some 8, none, .p (.mv (.t 11))⟩,
    ⟨some 12, none, .p (.ext (.t 8) 0)⟩,
    ⟨some 13, none, .p (.ext (.t 8) 1)⟩,
    ⟨some 6, none, .p (.mv (.t 12))⟩,
    ⟨some 7, none, .p (.mv (.t 13))⟩] [4, 6, 7])
  (.seq (.seq (.region [⟨some 14, none, .p (.mv (.t 7))⟩,
    ⟨some 15, none, .p (.un .not (.t 14))⟩,
    ⟨some 16, none, .p (.mv (.t 15))⟩,
    ⟨some 17, some (16, false), .p (.mv (.t 6))⟩,
    ⟨some 18, some (16, false), .p (.len (.t 17))⟩,
    ⟨some 19, some (16, false), .p (.bin .eql (.t 18) (.k (.c (C.int .i64 0))))⟩,
    ⟨some 20, none, .p (.pick (.t 16) (.k (.c (C.bool true))) (.t 19))⟩] [4, 6, 20])
  (.cond (.t 20)
  (.seq (.region [⟨some 21, none, .p (.build [.k (C.int .i64 0), .k (C.int .i64 0)] [])⟩,
    ⟨none, none, .h (.store 2 (.t 4) (.t 21))⟩,
    ⟨some 5, none, .p (.mv (.k (.c (C.bool false))))⟩] [4, 5])
  .ret)
  .skip))
  (.seq (.region [⟨some 22, none, .p (.mv (.t 6))⟩,
    ⟨some 23, none, .p (.ixS 2 (.t 22) (.k (.c (C.int .i64 0))))⟩,
    ⟨some 24, none, .h (.load 2 true (.t 23))⟩,
    ⟨none, none, .h (.store 2 (.t 4) (.t 24))⟩,
    ⟨some 5, none, .p (.mv (.k (.c (C.bool true))))⟩] [4, 5])
  .ret)))) }
theorem a53_ok : okFn Try.prog 53 a53 = true := by kernel_rfl
/-- loop.example/g01215/spec.DrawPlayParty -/
def a54 : AFn := { np := 1, nt := 21, res := [.cell 2 24 true, .t 3], body :=
  (.seq (.region [⟨some 2, none, .p (.alloc (List.replicate 24 (.k (C.int .i64 0))))⟩,
    ⟨some 3, none, .p (.nilsl 2)⟩] [0, 2])
  (.seq (.region [⟨some 6, none, .p (.mv (.t 0))⟩,
    ⟨some 7, none, .p (.build [.sl 1, .k (C.int .i64 0), .k (C.int .u64 0)] [(0, 1, .t 6)])⟩,
    ⟨some 8, none, .p (.box 3 (.t 7))⟩,
    ⟨some 4, none, .p (.mv (.t 8))⟩] [2, 4])
  (.seq (.region [⟨some 9, none, .p (.mv (.t 4))⟩,
    ⟨some 10, none, .h (.call (.f 144) [.t 9])⟩,
    ⟨some 5, none, .p (.alloc (List.replicate 24 (.k (C.int .i64 0))))⟩,
    ⟨none, none, .h (.store 24 (.t 5) (.t 10))⟩] [2, 4, 5])
  (.seq (.seq (.region [⟨some 11, none, .h (.load 24 true (.t 5))⟩,
    ⟨some 12, none, .h (.call (.f 141) [.t 11])⟩,
    ⟨some 13, none, .p (.un .not (.t 12))⟩] [2, 4, 5, 13])
  (.cond (.t 13)
  (.seq (.region [⟨some 14, none, .h (.load 24 true (.t 5))⟩,
    ⟨some 15, none, .p (.build [.k (C.int .i64 0), .k (C.int .i64 0)] [(0, 1, .k (.c (C.int .i64 0))), (1, 1, .k (.c (C.int .i64 1)))])⟩,
    ⟨some 16, none, .p (.mksl 2 1 [.k (C.int .i64 0), .k (C.int .i64 0)] [(0, 2, .t 15)])⟩,
    ⟨none, none, .h (.store 24 (.t 2) (.t 14))⟩,
    ⟨some 3, none, .p (.mv (.t 16))⟩] [2, 3])
  .ret)
  .skip))
  (.seq (.regionE [⟨some 17, none, .h (.load 24 true (.t 5))⟩,
    ⟨some 18, none, .p (.mv (.t 4))⟩,
    ⟨some 19, none, .h (.load 24 true (.t 5))⟩,
    ⟨some 20, none, .h (.call (.f 145) [.t 18, .t 19])⟩,
    ⟨none, none, .h (.store 24 (.t 2) (.t 17))⟩,
    ⟨some 3, none, .p (.mv (.t 20))⟩] [2, 3] [] [[], [], [], [3, 1000005]])
  .ret))))) }
theorem a54_ok : okFn Try.prog 54 a54 = true := by kernel_rfl
/-- loop.example/g01215/impl.PlayParty -/
def a55 : AFn := { np := 2, nt := 61, res := [.cell 4 24 true, .cell 5 2 true, .t 6, .t 7], body :=
  (.seq (.region [⟨some 2, none, .p (.box 24 (.t 0))⟩,
    ⟨some 4, none, .p (.alloc (List.replicate 24 (.k (C.int .i64 0))))⟩,
    ⟨some 5, none, .p (.alloc [.k (C.int .i64 0), .k (C.int .i64 0)])⟩,
    ⟨some 6, none, .p (.mv (.k (.c (C.int .i64 0))))⟩,
    ⟨some 7, none, .p (.mv (.k (.c (C.bool false))))⟩] [1, 2, 4, 5])
  (.seq (.seq (.region [⟨some 13, none, .h (.load 24 true (.t 2))⟩,
    ⟨some 14, none, .h (.call (.f 59) [.t 13])⟩,
    ⟨some 15, none, .p (.un .not (.t 14))⟩,
    ⟨some 16, none, .p (.mv (.t 15))⟩,
    ⟨some 17, some (16, false), .p (.mv (.t 1))⟩,
    ⟨some 18, some (16, false), .p (.len (.t 17))⟩,
    ⟨some 19, some (16, false), .p (.bin .gtr (.t 18) (.k (.c (C.int .i64 60))))⟩,
    ⟨some 20, none, .p (.pick (.t 16) (.k (.c (C.bool true))) (.t 19))⟩] [1, 2, 4, 5, 20])
  (.cond (.t 20)
  (.seq (.region [⟨some 21, none, .p (.build (List.replicate 24 (.k (C.int .i64 0))) [])⟩,
    ⟨some 22, none, .p (.build [.k (C.int .i64 0), .k (C.int .i64 0)] [])⟩,
    ⟨none, none, .h (.store 24 (.t 4) (.t 21))⟩,
    ⟨none, none, .h (.store 2 (.t 5) (.t 22))⟩,
    ⟨some 6, none, .p (.mv (.k (.c (C.int .i64 0))))⟩,
    ⟨some 7, none, .p (.mv (.k (.c (C.bool false))))⟩] [4, 5, 6, 7])
  .ret)
  .skip))
  (.seq (.region [⟨some 8, none, .p (.alloc [.k (C.int .i64 0), .k (C.int .i64 0)])⟩] [1, 2, 4, 5, 8])
  (.seq (.seq (.region [⟨some 23, none, .p (.mv (.t 1))⟩,
    ⟨some 24, none, .p (.len (.t 23))⟩,
    ⟨some 25, none, .p (.mv (.k (.c (C.int .i64 0))))⟩] [1, 2, 4, 5, 8, 23, 24, 25])
  (.block 0 (.loop (.seq (.region [⟨some 26, none, .p (.bin .lss (.t 25) (.t 24))⟩] [1, 2, 4, 5, 8, 23, 24, 25, 26])
  (.seq (.cond (.t 26)
  .skip
  (.exit 0))
  (.seq (.block 1 (.seq (.region [⟨some 27, none, .p (.mv (.t 25))⟩,
    ⟨some 28, none, .p (.ixS 2 (.t 23) (.t 25))⟩,
    ⟨some 29, none, .h (.load 2 true (.t 28))⟩,
    ⟨some 10, none, .p (.alloc [.k (C.int .i64 0), .k (C.int .i64 0)])⟩,
    ⟨some 9, none, .p (.mv (.t 27))⟩,
    ⟨none, none, .h (.store 2 (.t 10) (.t 29))⟩] [1, 2, 4, 5, 8, 9, 10, 23, 24, 25])
  (.seq (.seq (.region [⟨some 30, none, .h (.load 24 true (.t 2))⟩,
    ⟨some 31, none, .h (.load 2 true (.t 10))⟩,
    ⟨some 32, none, .h (.call (.f 127) [.t 30, .t 31])⟩,
    ⟨some 33, none, .p (.un .not (.t 32))⟩,
    ⟨some 34, none, .p (.mv (.t 33))⟩,
    ⟨some 35, some (34, false), .h (.load 24 true (.t 2))⟩,
    ⟨some 36, some (34, false), .h (.load 2 true (.t 10))⟩,
    ⟨some 37, some (34, false), .h (.call (.f 128) [.t 35, .t 36])⟩,
    ⟨some 38, none, .p (.pick (.t 34) (.k (.c (C.bool true))) (.t 37))⟩] [1, 2, 4, 5, 8, 9, 10, 23, 24, 25, 38])
  (.cond (.t 38)
  (.seq (.regionD [⟨some 39, none, .h (.load 24 true (.t 2))⟩,
    ⟨some 40, none, .h (.load 2 true (.t 8))⟩,
    ⟨some 41, none, .p (.mv (.t 9))⟩,
    ⟨none, none, .h (.store 24 (.t 4) (.t 39))⟩,
    ⟨none, none, .h (.store 2 (.t 5) (.t 40))⟩,
    ⟨some 6, none, .p (.mv (.t 41))⟩,
    ⟨some 7, none, .p (.mv (.k (.c (C.bool true))))⟩] [4, 5, 6, 7] [(.t 8, .t 4)])
  .ret)
  .skip))
  (.seq (.region [⟨some 43, none, .h (.load 24 true (.t 2))⟩,
    ⟨some 44, none, .h (.load 2 true (.t 10))⟩,
    ⟨some 45, none, .h (.call (.f 146) [.t 43, .t 44])⟩,
    ⟨some 42, none, .p (.mv (.t 45))⟩,
    ⟨some 46, none, .p (.ext (.t 42) 0)⟩,
    ⟨some 47, none, .p (.ext (.t 42) 1)⟩,
    ⟨some 12, none, .p (.alloc (List.replicate 24 (.k (C.int .i64 0))))⟩,
    ⟨some 11, none, .p (.mv (.t 46))⟩,
    ⟨none, none, .h (.store 24 (.t 12) (.t 47))⟩] [1, 2, 4, 5, 8, 9, 11, 12, 23, 24, 25])
  (.seq (.region [⟨some 48, none, .p (.mv (.t 9))⟩,
    ⟨some 49, none, .p (.bin .rem (.t 48) (.k (.c (C.int .i64 2))))⟩,
    ⟨some 50, none, .p (.ixA 2 1 (.t 8) (.t 49))⟩,
    ⟨some 51, none, .h (.load 1 false (.t 50))⟩,
    ⟨some 52, none, .p (.mv (.t 11))⟩,
    ⟨some 53, none, .p (.bin .add (.t 51) (.t 52))⟩,
    ⟨some 54, none, .p (.ixA 2 1 (.t 8) (.t 49))⟩,
    ⟨none, none, .h (.store 1 (.t 54) (.t 53))⟩] [1, 2, 4, 5, 8, 12, 23, 24, 25])
  (.region [⟨some 55, none, .h (.load 24 true (.t 12))⟩,
    ⟨none, none, .h (.store 24 (.t 2) (.t 55))⟩] [1, 2, 4, 5, 8, 23, 24, 25]))))))
  (.region [⟨some 56, none, .p (.bin .add (.t 25) (.k (.c (C.int .i64 1))))⟩,
    ⟨some 25, none, .p (.mv (.t 56))⟩] [1, 2, 4, 5, 8, 23, 24, 25])))) [1, 2, 4, 5, 8, 23, 24, 25])))
  (.seq (.regionD [⟨some 57, none, .h (.load 24 true (.t 2))⟩,
    ⟨some 58, none, .h (.load 2 true (.t 8))⟩,
    ⟨some 59, none, .p (.mv (.t 1))⟩,
    ⟨some 60, none, .p (.len (.t 59))⟩,
    ⟨none, none, .h (.store 24 (.t 4) (.t 57))⟩,
    ⟨none, none, .h (.store 2 (.t 5) (.t 58))⟩,
    ⟨some 6, none, .p (.mv (.t 60))⟩,
    ⟨some 7, none, .p (.mv (.k (.c (C.bool true))))⟩] [4, 5, 6, 7] [(.t 8, .t 4)])
  .ret))))) }
theorem a55_ok : okFn Try.prog 55 a55 = true := by kernel_rfl
/-- loop.example/g01215/spec.PlayParty -/
def a56 : AFn := { np := 2, nt := 76, res := [.cell 4 24 true, .cell 5 2 true, .t 6, .t 7], body :=
  (.seq (.region [⟨some 2, none, .p (.box 24 (.t 0))⟩,
    ⟨some 4, none, .p (.alloc (List.replicate 24 (.k (C.int .i64 0))))⟩,
    ⟨some 5, none, .p (.alloc [.k (C.int .i64 0), .k (C.int .i64 0)])⟩,
    ⟨some 6, none, .p (.mv (.k (.c (C.int .i64 0))))⟩,
    ⟨some 7, none, .p (.mv (.k (.c (C.bool false))))⟩] [1, 2, 4, 5])
  (.seq (.region [⟨some 12, none, .p (.build [.k (C.int .i64 0), .k (C.int .i64 0)] [])⟩,
    ⟨some 8, none, .p (.alloc [.k (C.int .i64 0), .k (C.int .i64 0)])⟩,
    ⟨none, none, .h (.store 2 (.t 8) (.t 12))⟩] [1, 2, 4, 5, 8])
  (.seq (.seq (.region [⟨some 13, none, .h (.load 24 true (.t 2))⟩,
    ⟨some 14, none, .h (.call (.f 141) [.t 13])⟩,
    ⟨some 15, none, .p (.un .not (.t 14))⟩,
    ⟨some 16, none, .p (.mv (.t 15))⟩,
    ⟨some 17, some (16, false), .p (.mv (.t 1))⟩,
    ⟨some 18, some (16, false), .p (.len (.t 17))⟩,
    ⟨some 19, some (16, false), .p (.bin .gtr (.t 18) (.k (.c (C.int .i64 60))))⟩,
    ⟨some 20, none, .p (.pick (.t 16) (.k (.c (C.bool true))) (.t 19))⟩] [1, 2, 4, 5, 8, 20])
  (.cond (.t 20)
  (.seq (.regionD [⟨some 21, none, .p (.build (List.replicate 24 (.k (C.int .i64 0))) [])⟩,
    ⟨some 22, none, .h (.load 2 true (.t 8))⟩,
    ⟨none, none, .h (.store 24 (.t 4) (.t 21))⟩,
    ⟨none, none, .h (.store 2 (.t 5) (.t 22))⟩,
    ⟨some 6, none, .p (.mv (.k (.c (C.int .i64 0))))⟩,
    ⟨some 7, none, .p (.mv (.k (.c (C.bool false))))⟩] [4, 5, 6, 7] [(.t 8, .t 4)])
  .ret)
  .skip))
  (.seq (.seq (.region [⟨some 9, none, .p (.mv (.k (.c (C.int .i64 0))))⟩] [1, 2, 4, 5, 8, 9])
  (.block 0 (.loop (.seq (.seq (.region [⟨some 23, none, .p (.mv (.t 9))⟩,
    ⟨some 24, none, .p (.mv (.t 1))⟩,
    ⟨some 25, none, .p (.len (.t 24))⟩,
    ⟨some 26, none, .p (.bin .lss (.t 23) (.t 25))⟩] [1, 2, 4, 5, 8, 9, 26])
  (.cond (.t 26)
  .skip
  (.exit 0)))
  (.seq (.block 1 (.seq (.seq (.regionD [⟨some 29, none, .h (.load 24 true (.t 2))⟩,
    ⟨some 30, none, .p (.mv (.t 1))⟩,
    ⟨some 31, none, .p (.mv (.t 9))⟩,
    ⟨some 32, none, .p (.ixS 2 (.t 30) (.t 31))⟩,
    ⟨some 33, none, .h (.load 2 true (.t 32))⟩,
    ⟨some 34, none, .h (.call (.f 130) [.t 29, .t 33])⟩,
    ⟨some 35, none, .p (.un .not (.t 34))⟩,
    ⟨some 36, none, .p (.mv (.t 35))⟩,
    ⟨some 37, some (36, false), .h (.load 24 true (.t 2))⟩,
    ⟨some 38, some (36, false), .p (.mv (.t 1))⟩,
    ⟨some 39, some (36, false), .p (.mv (.t 9))⟩,
    ⟨some 40, some (36, false), .p (.ixS 2 (.t 38) (.t 39))⟩,
    ⟨some 41, some (36, false), .p (.ixA 2 1 (.t 40) (.k (.c (C.int .i64 0))))⟩,
    ⟨some 42, some (36, false), .h (.load 1 false (.t 41))⟩,
    ⟨some 43, some (36, false), .p (.mv (.t 1))⟩,
    ⟨some 44, some (36, false), .p (.mv (.t 9))⟩,
    ⟨some 45, some (36, false), .p (.ixS 2 (.t 43) (.t 44))⟩,
    ⟨some 46, some (36, false), .p (.ixA 2 1 (.t 45) (.k (.c (C.int .i64 1))))⟩,
    ⟨some 47, some (36, false), .h (.load 1 false (.t 46))⟩,
    ⟨some 48, some (36, false), .h (.call (.f 131) [.t 37, .t 42, .t 47])⟩,
    ⟨some 49, none, .p (.pick (.t 36) (.k (.c (C.bool true))) (.t 48))⟩] [1, 2, 4, 5, 8, 9, 49] [])
  (.cond (.t 49)
  (.seq (.regionD [⟨some 50, none, .h (.load 24 true (.t 2))⟩,
    ⟨some 51, none, .h (.load 2 true (.t 8))⟩,
    ⟨some 52, none, .p (.mv (.t 9))⟩,
    ⟨none, none, .h (.store 24 (.t 4) (.t 50))⟩,
    ⟨none, none, .h (.store 2 (.t 5) (.t 51))⟩,
    ⟨some 6, none, .p (.mv (.t 52))⟩,
    ⟨some 7, none, .p (.mv (.k (.c (C.bool true))))⟩] [4, 5, 6, 7] [(.t 8, .t 4)])
  .ret)
  .skip))
  (.seq (.regionD [⟨some 54, none, .h (.load 24 true (.t 2))⟩,
    ⟨some 55, none, .p (.mv (.t 1))⟩,
    ⟨some 56, none, .p (.mv (.t 9))⟩,
    ⟨some 57, none, .p (.ixS 2 (.t 55) (.t 56))⟩,
    ⟨some 58, none, .h (.load 2 true (.t 57))⟩,
    ⟨some 59, none, .h (.call (.f 147) [.t 54, .t 58])⟩,
    ⟨some 53, none, .p (.mv (.t 59))⟩,
    ⟨some 60, none, .p (.ext (.t 53) 0)⟩,
    ⟨some 61, none, .p (.ext (.t 53) 1)⟩,
    ⟨some 11, none, .p (.alloc (List.replicate 24 (.k (C.int .i64 0))))⟩,
    ⟨some 10, none, .p (.mv (.t 60))⟩,
    ⟨none, none, .h (.store 24 (.t 11) (.t 61))⟩] [1, 2, 4, 5, 8, 9, 10, 11] [])
  (.seq (.region [⟨some 62, none, .p (.mv (.t 9))⟩,
    ⟨some 63, none, .p (.bin .rem (.t 62) (.k (.c (C.int .i64 2))))⟩,
    ⟨some 64, none, .p (.mv (.t 9))⟩,
    ⟨some 65, none, .p (.bin .rem (.t 64) (.k (.c (C.int .i64 2))))⟩,
    ⟨some 66, none, .p (.ixA 2 1 (.t 8) (.t 65))⟩,
    ⟨some 67, none, .h (.load 1 false (.t 66))⟩,
    ⟨some 68, none, .p (.mv (.t 10))⟩,
    ⟨some 69, none, .p (.bin .add (.t 67) (.t 68))⟩,
    ⟨some 70, none, .p (.ixA 2 1 (.t 8) (.t 63))⟩,
    ⟨none, none, .h (.store 1 (.t 70) (.t 69))⟩] [1, 2, 4, 5, 8, 9, 11])
  (.region [⟨some 71, none, .h (.load 24 true (.t 11))⟩,
    ⟨none, none, .h (.store 24 (.t 2) (.t 71))⟩] [1, 2, 4, 5, 8, 9])))))
  (.region [⟨some 27, none, .p (.mv (.t 9))⟩,
    ⟨some 28, none, .p (.bin .add (.t 27) (.k (.c (C.int .i64 1))))⟩,
    ⟨some 9, none, .p (.mv (.t 28))⟩] [1, 2, 4, 5, 8, 9]))) [1, 2, 4, 5, 8, 9])))
  (.seq (.regionD [⟨some 72, none, .h (.load 24 true (.t 2))⟩,
    ⟨some 73, none, .h (.load 2 true (.t 8))⟩,
    ⟨some 74, none, .p (.mv (.t 1))⟩,
    ⟨some 75, none, .p (.len (.t 74))⟩,
    ⟨none, none, .h (.store 24 (.t 4) (.t 72))⟩,
    ⟨none, none, .h (.store 2 (.t 5) (.t 73))⟩,
    ⟨some 6, none, .p (.mv (.t 75))⟩,
    ⟨some 7, none, .p (.mv (.k (.c (C.bool true))))⟩] [4, 5, 6, 7] [(.t 8, .t 4)])
  .ret))))) }
theorem a56_ok : okFn Try.prog 56 a56 = true := by kernel_rfl
/-- loop.example/g01215/impl.CompleteTubes -/
def a57 : AFn := { np := 1, nt := 9, res := [.t 2, .t 3], body :=
  (.seq (.region [⟨some 1, none, .p (.box 24 (.t 0))⟩,
    ⟨some 2, none, .p (.nilsl 1)⟩,
    ⟨some 3, none, .p (.mv (.k (.c (C.bool false))))⟩] [1])
  (.seq (.seq (.region [⟨some 4, none, .h (.load 24 true (.t 1))⟩,
    ⟨some 5, none, .h (.call (.f 59) [.t 4])⟩,
    ⟨some 6, none, .p (.un .not (.t 5))⟩] [1, 6])
  (.cond (.t 6)
  (.seq (.region [⟨some 2, none, .p (.nilsl 1)⟩,
    ⟨some 3, none, .p (.mv (.k (.c (C.bool false))))⟩] [2, 3])
  .ret)
  .skip))
  (.seq (.region [⟨some 7, none, .h (.load 24 true (.t 1))⟩,
    ⟨some 8, none, .h (.call (.f 148) [.t 7])⟩,
    ⟨some 2, none, .p (.mv (.t 8))⟩,
    ⟨some 3, none, .p (.mv (.k (.c (C.bool true))))⟩] [2, 3])
  .ret))) }
theorem a57_ok : okFn Try.prog 57 a57 = true := by kernel_rfl
/-- loop.example/g01215/spec.CompleteTubes -/
def a58 : AFn := { np := 1, nt := 10, res := [.t 2, .t 3], body :=
  (.seq (.region [⟨some 1, none, .p (.box 24 (.t 0))⟩,
    ⟨some 2, none, .p (.nilsl 1)⟩,
    ⟨some 3, none, .p (.mv (.k (.c (C.bool false))))⟩] [1])
  (.seq (.seq (.region [⟨some 4, none, .h (.load 24 true (.t 1))⟩,
    ⟨some 5, none, .h (.call (.f 141) [.t 4])⟩,
    ⟨some 6, none, .p (.un .not (.t 5))⟩] [1, 6])
  (.cond (.t 6)
  (.seq (.region [⟨some 7, none, .p (.mksl 1 0 [.k (C.int .i64 0)] [])⟩,
    ⟨some 2, none, .p (.mv (.t 7))⟩,
    ⟨some 3, none, .p (.mv (.k (.c (C.bool false))))⟩] [2, 3])
  .ret)
  .skip))
  (.seq (.region [⟨some 8, none, .h (.load 24 true (.t 1))⟩,
    ⟨some 9, none, .h (.call (.f 149) [.t 8])⟩,
    ⟨some 2, none, .p (.mv (.t 9))⟩,
    ⟨some 3, none, .p (.mv (.k (.c (C.bool true))))⟩] [2, 3])
  .ret))) }
theorem a58_ok : okFn Try.prog 58 a58 = true := by kernel_rfl
/-- loop.example/g01215/impl.IsRack -/
def a59 : AFn := { np := 1, nt := 6, res := [.t 2], body :=
  (.seq (.region [⟨some 1, none, .p (.box 24 (.t 0))⟩,
    ⟨some 2, none, .p (.mv (.k (.c (C.bool false))))⟩] [1])
  (.seq (.region [⟨some 3, none, .p (.fld 0 (.t 1))⟩,
    ⟨some 4, none, .h (.slA 6 4 (.t 3) none none)⟩,
    ⟨some 5, none, .h (.call (.f 150) [.t 4, .f 151])⟩,
    ⟨some 2, none, .p (.mv (.t 5))⟩] [2])
  .ret)) }
theorem a59_ok : okFn Try.prog 59 a59 = true := by kernel_rfl
/-- loop.example/g01215/laws.rInts -/
def a60 : AFn := { np := 2, nt := 26, res := [.t 4], body :=
  (.seq (.region [⟨some 4, none, .p (.mv (.k (.c (C.bool false))))⟩] [0, 1])
  (.seq (.seq (.region [⟨some 6, none, .p (.mv (.t 0))⟩,
    ⟨some 7, none, .p (.len (.t 6))⟩,
    ⟨some 8, none, .p (.mv (.t 1))⟩,
    ⟨some 9, none, .p (.len (.t 8))⟩,
    ⟨some 10, none, .p (.bin .neq (.t 7) (.t 9))⟩] [0, 1, 10])
  (.cond (.t 10)
  (.seq (.region [⟨some 4, none, .p (.mv (.k (.c (C.bool false))))⟩] [4])
  .ret)
  .skip))
  (.seq (.seq (.region [⟨some 5, none, .p (.mv (.k (.c (C.int .i64 0))))⟩] [0, 1, 5])
  (.block 0 (.loop (.seq (.seq (.region [⟨some 11, none, .p (.mv (.t 5))⟩,
    ⟨some 12, none, .p (.mv (.t 0))⟩,
    ⟨some 13, none, .p (.len (.t 12))⟩,
    ⟨some 14, none, .p (.bin .lss (.t 11) (.t 13))⟩] [0, 1, 5, 14])
  (.cond (.t 14)
  .skip
  (.exit 0)))
  (.seq (.block 1 (.seq (.regionD [⟨some 17, none, .p (.mv (.t 0))⟩,
    ⟨some 18, none, .p (.mv (.t 5))⟩,
    ⟨some 19, none, .p (.ixS 1 (.t 17) (.t 18))⟩,
    ⟨some 20, none, .h (.load 1 false (.t 19))⟩,
    ⟨some 21, none, .p (.mv (.t 1))⟩,
    ⟨some 22, none, .p (.mv (.t 5))⟩,
    ⟨some 23, none, .p (.ixS 1 (.t 21) (.t 22))⟩,
    ⟨some 24, none, .h (.load 1 false (.t 23))⟩,
    ⟨some 25, none, .p (.bin .neq (.t 20) (.t 24))⟩] [0, 1, 5, 25] [])
  (.cond (.t 25)
  (.seq (.region [⟨some 4, none, .p (.mv (.k (.c (C.bool false))))⟩] [4])
  .ret)
  .skip)))
  (.region [⟨some 15, none, .p (.mv (.t 5))⟩,
    ⟨some 16, none, .p (.bin .add (.t 15) (.k (.c (C.int .i64 1))))⟩,
    ⟨some 5, none, .p (.mv (.t 16))⟩] [0, 1, 5]))) [0, 1, 5])))
  (.seq (.region [⟨some 4, none, .p (.mv (.k (.c (C.bool true))))⟩] [4])
  .ret)))) }
theorem a60_ok : okFn Try.prog 60 a60 = true := by kernel_rfl
/-- loop.example/g01215/impl.CanHurt -/
def a61 : AFn := { np := 1, nt := 11, res := [.t 2, .t 3], body :=
  (.seq (.region [⟨some 1, none, .p (.box 24 (.t 0))⟩,
    ⟨some 2, none, .p (.nilsl 2)⟩,
    ⟨some 3, none, .p (.mv (.k (.c (C.bool false))))⟩] [1])
  (.seq (.seq (.region [⟨some 4, none, .h (.load 24 true (.t 1))⟩,
    ⟨some 5, none, .h (.call (.f 59) [.t 4])⟩,
    ⟨some 6, none, .p (.un .not (.t 5))⟩] [1, 6])
  (.cond (.t 6)
  (.seq (.region [⟨some 2, none, .p (.nilsl 2)⟩,
    ⟨some 3, none, .p (.mv (.k (.c (C.bool false))))⟩] [2, 3])
  .ret)
  .skip))
  (.seq (.region [⟨some 7, none, .h (.load 24 true (.t 1))⟩,
    ⟨some 8, none, .h (.call (.f 98) [.t 7])⟩,
    ⟨some 9, none, .p (.mkfn 153 [.t 1])⟩,
    ⟨some 10, none, .h (.call (.f 152) [.t 8, .t 9])⟩,
    ⟨some 2, none, .p (.mv (.t 10))⟩,
    ⟨some 3, none, .p (.mv (.k (.c (C.bool true))))⟩] [2, 3])
  .ret))) }
theorem a61_ok : okFn Try.prog 61 a61 = true := by kernel_rfl
/-- loop.example/g01215/spec.CanHurt -/
def a62 : AFn := { np := 1, nt := 47, res := [.t 2, .t 3], body :=
  (.seq (.region [⟨some 1, none, .p (.box 24 (.t 0))⟩,
    ⟨some 2, none, .p (.nilsl 2)⟩,
    ⟨some 3, none, .p (.mv (.k (.c (C.bool false))))⟩] [1])
  (.seq (.region [⟨some 9, none, .p (.mksl 2 0 [.k (C.int .i64 0), .k (C.int .i64 0)] [])⟩,
    ⟨some 4, none, .p (.mv (.t 9))⟩] [1, 4])
  (.seq (.seq (.region [⟨some 10, none, .h (.load 24 true (.t 1))⟩,
    ⟨some 11, none, .h (.call (.f 141) [.t 10])⟩,
    ⟨some 12, none, .p (.un .not (.t 11))⟩] [1, 4, 12])
  (.cond (.t 12)
  (.seq (.region [⟨some 13, none, .p (.mv (.t 4))⟩,
    ⟨some 2, none, .p (.mv (.t 13))⟩,
    ⟨some 3, none, .p (.mv (.k (.c (C.bool false))))⟩] [2, 3])
  .ret)
  .skip))
  (.seq (.region [⟨some 14, none, .h (.load 24 true (.t 1))⟩,
    ⟨some 15, none, .h (.call (.f 155) [.t 14])⟩,
    ⟨some 5, none, .p (.mv (.t 15))⟩] [1, 4, 5])
  (.seq (.seq (.region [⟨some 6, none, .p (.mv (.k (.c (C.int .i64 0))))⟩] [1, 4, 5, 6])
  (.block 0 (.loop (.seq (.seq (.region [⟨some 16, none, .p (.mv (.t 6))⟩,
    ⟨some 17, none, .p (.mv (.t 5))⟩,
    ⟨some 18, none, .p (.len (.t 17))⟩,
    ⟨some 19, none, .p (.bin .lss (.t 16) (.t 18))⟩] [1, 4, 5, 6, 19])
  (.cond (.t 19)
  .skip
  (.exit 0)))
  (.seq (.block 1 (.seq (.regionD [⟨some 23, none, .h (.load 24 true (.t 1))⟩,
    ⟨some 24, none, .p (.mv (.t 5))⟩,
    ⟨some 25, none, .p (.mv (.t 6))⟩,
    ⟨some 26, none, .p (.ixS 2 (.t 24) (.t 25))⟩,
    ⟨some 27, none, .p (.ixA 2 1 (.t 26) (.k (.c (C.int .i64 0))))⟩,
    ⟨some 28, none, .h (.load 1 false (.t 27))⟩,
    ⟨some 29, none, .p (.mv (.t 5))⟩,
    ⟨some 30, none, .p (.mv (.t 6))⟩,
    ⟨some 31, none, .p (.ixS 2 (.t 29) (.t 30))⟩,
    ⟨some 32, none, .p (.ixA 2 1 (.t 31) (.k (.c (C.int .i64 1))))⟩,
    ⟨some 33, none, .h (.load 1 false (.t 32))⟩,
    ⟨some 34, none, .h (.call (.f 132) [.t 23, .t 28, .t 33])⟩,
    ⟨some 22, none, .p (.mv (.t 34))⟩,
    ⟨some 35, none, .p (.ext (.t 22) 0)⟩,
    ⟨some 36, none, .p (.ext (.t 22) 1)⟩,
    ⟨some 7, none, .p (.alloc (List.replicate 24 (.k (C.int .i64 0))))⟩,
    ⟨none, none, .h (.store 24 (.t 7) (.t 35))⟩,
    ⟨some 8, none, .p (.mv (.t 36))⟩] [1, 4, 5, 6, 7] [])
  (.seq (.region [⟨some 37, none, .h (.load 24 true (.t 7))⟩,
    ⟨some 38, none, .h (.call (.f 156) [.t 37])⟩] [1, 4, 5, 6, 38])
  (.cond (.t 38)
  (.region [⟨some 39, none, .p (.mv (.t 4))⟩,
    ⟨some 40, none, .p (.mv (.t 5))⟩,
    ⟨some 41, none, .p (.mv (.t 6))⟩,
    ⟨some 42, none, .p (.ixS 2 (.t 40) (.t 41))⟩,
    ⟨some 43, none, .h (.load 2 true (.t 42))⟩,
    ⟨some 44, none, .p (.mksl 2 1 [.k (C.int .i64 0), .k (C.int .i64 0)] [(0, 2, .t 43)])⟩,
    ⟨some 45, none, .h (.app 2 (.t 39) (.t 44))⟩,
    ⟨some 4, none, .p (.mv (.t 45))⟩] [1, 4, 5, 6])
  .skip))))
  (.region [⟨some 20, none, .p (.mv (.t 6))⟩,
    ⟨some 21, none, .p (.bin .add (.t 20) (.k (.c (C.int .i64 1))))⟩,
    ⟨some 6, none, .p (.mv (.t 21))⟩] [1, 4, 5, 6]))) [1, 4, 5, 6])))
  (.seq (.region [⟨some 46, none, .p (.mv (.t 4))⟩,
    ⟨some 2, none, .p (.mv (.t 46))⟩,
    ⟨some 3, none, .p (.mv (.k (.c (C.bool true))))⟩] [2, 3])
  .ret)))))) }
theorem a62_ok : okFn Try.prog 62 a62 = true := by kernel_rfl
/-- loop.example/g01215/impl.Pour -/
def a63 : AFn := { np := 3, nt := 34, res := [.cell 6 24 true, .t 7, .t 8], body :=
  (.seq (.region [⟨some 3, none, .p (.box 24 (.t 0))⟩,
    ⟨some 6, none, .p (.alloc (List.replicate 24 (.k (C.int .i64 0))))⟩,
    ⟨some 7, none, .p (.mv (.k (.c (C.int .i64 0))))⟩,
    ⟨some 8, none, .p (.mv (.k (.c (C.bool false))))⟩] [1, 2, 3, 6])
  (.seq (.seq (.region [⟨some 11, none, .h (.load 24 true (.t 3))⟩,
    ⟨some 12, none, .p (.mv (.t 1))⟩,
    ⟨some 13, none, .p (.mv (.t 2))⟩,
    ⟨some 14, none, .p (.mksl 1 2 [.k (C.int .i64 0)] [(0, 1, .t 12), (1, 1, .t 13)])⟩,
    ⟨some 15, none, .h (.call (.f 157) [.t 11, .t 14])⟩,
    ⟨some 16, none, .p (.un .not (.t 15))⟩,
    ⟨some 17, none, .p (.mv (.t 16))⟩,
    ⟨some 18, some (17, false), .h (.load 24 true (.t 3))⟩,
    ⟨some 19, some (17, false), .p (.mv (.t 1))⟩,
    ⟨some 20, some (17, false), .p (.mv (.t 2))⟩,
    ⟨some 21, some (17, false), .h (.call (.f 158) [.t 18, .t 19, .t 20])⟩,
    ⟨some 22, some (17, false), .p (.un .not (.t 21))⟩,
    ⟨some 23, none, .p (.pick (.t 17) (.k (.c (C.bool true))) (.t 22))⟩] [1, 2, 3, 6, 23])
  (.cond (.t 23)
  (.seq (.region [⟨some 24, none, .p (.build (List.replicate 24 (.k (C.int .i64 0))) [])⟩,
    ⟨none, none, .h (.store 24 (.t 6) (.t 24))⟩,
    ⟨some 7, none, .p (.mv (.k (.c (C.int .i64 0))))⟩,
    ⟨some 8, none, .p (.mv (.k (.c (C.bool false))))⟩] [6, 7, 8])
  .ret)
  .skip))
  (.seq (.region [⟨some 26, none, .h (.load 24 true (.t 3))⟩,
    ⟨some 27, none, .p (.mv (.t 1))⟩,
    ⟨some 28, none, .p (.mv (.t 2))⟩,
    ⟨some 29, none, .h (.call (.f 99) [.t 26, .t 27, .t 28])⟩,
    ⟨some 25, none, .p (.mv (.t 29))⟩,
    ⟨some 30, none, .p (.ext (.t 25) 0)⟩,
    ⟨some 31, none, .p (.ext (.t 25) 1)⟩,
    ⟨some 9, none, .p (.alloc (List.replicate 24 (.k (C.int .i64 0))))⟩,
    ⟨none, none, .h (.store 24 (.t 9) (.t 30))⟩,
    ⟨some 10, none, .p (.mv (.t 31))⟩] [6, 9, 10])
  (.seq (.region [⟨some 32, none, .h (.load 24 true (.t 9))⟩,
    ⟨some 33, none, .p (.mv (.t 10))⟩,
    ⟨none, none, .h (.store 24 (.t 6) (.t 32))⟩,
    ⟨some 7, none, .p (.mv (.t 33))⟩,
    ⟨some 8, none, .p (.mv (.k (.c (C.bool true))))⟩] [6, 7, 8])
  .ret)))) }
theorem a63_ok : okFn Try.prog 63 a63 = true := by kernel_rfl
/-- loop.example/g01215/impl.UsefulPours -/
def a64 : AFn := { np := 1, nt := 9, res := [.t 2, .t 3], body :=
  (.seq (.region [⟨some 1, none, .p (.box 24 (.t 0))⟩,
    ⟨some 2, none, .p (.nilsl 2)⟩,
    ⟨some 3, none, .p (.mv (.k (.c (C.bool false))))⟩] [1])
  (.seq (.seq (.region [⟨some 4, none, .h (.load 24 true (.t 1))⟩,
    ⟨some 5, none, .h (.call (.f 59) [.t 4])⟩,
    ⟨some 6, none, .p (.un .not (.t 5))⟩] [1, 6])
  (.cond (.t 6)
  (.seq (.region [⟨some 2, none, .p (.nilsl 2)⟩,
    ⟨some 3, none, .p (.mv (.k (.c (C.bool false))))⟩] [2, 3])
  .ret)
  .skip))
  (.seq (.region [⟨some 7, none, .h (.load 24 true (.t 1))⟩,
    ⟨some 8, none, .h (.call (.f 98) [.t 7])⟩,
    ⟨some 2, none, .p (.mv (.t 8))⟩,
    ⟨some 3, none, .p (.mv (.k (.c (C.bool true))))⟩] [2, 3])
  .ret))) }
theorem a64_ok : okFn Try.prog 64 a64 = true := by kernel_rfl
/-- loop.example/g01215/laws.rHas -/
def a65 : AFn := { np := 2, nt := 18, res := [.t 4], body :=
  (.seq (.region [⟨some 4, none, .p (.mv (.k (.c (C.bool false))))⟩] [0, 1])
  (.seq (.seq (.region [⟨some 5, none, .p (.mv (.k (.c (C.int .i64 0))))⟩] [0, 1, 5])
  (.block 0 (.loop (.seq (.seq (.region [⟨some 6, none, .p (.mv (.t 5))⟩,
    ⟨some 7, none, .p (.mv (.t 0))⟩,
    ⟨some 8, none, .p (.len (.t 7))⟩,
    ⟨some 9, none, .p (.bin .lss (.t 6) (.t 8))⟩] [0, 1, 5, 9])
  (.cond (.t 9)
  .skip
  (.exit 0)))
  (.seq (.block 1 (.seq (.region [⟨some 12, none, .p (.mv (.t 0))⟩,
    ⟨some 13, none, .p (.mv (.t 5))⟩,
    ⟨some 14, none, .p (.ixS 1 (.t 12) (.t 13))⟩,
    ⟨some 15, none, .h (.load 1 false (.t 14))⟩,
    ⟨some 16, none, .p (.mv (.t 1))⟩,
    ⟨some 17, none, .p (.bin .eql (.t 15) (.t 16))⟩] [0, 1, 5, 17])
  (.cond (.t 17)
  (.seq (.region [⟨some 4, none, .p (.mv (.k (.c (C.bool true))))⟩] [4])
  .ret)
  .skip)))
  (.region [⟨some 10, none, .p (.mv (.t 5))⟩,
    ⟨some 11, none, .p (.bin .add (.t 10) (.k (.c (C.int .i64 1))))⟩,
    ⟨some 5, none, .p (.mv (.t 11))⟩] [0, 1, 5]))) [0, 1, 5])))
  (.seq (.region [⟨some 4, none, .p (.mv (.k (.c (C.bool false))))⟩] [4])
  .ret))) }
theorem a65_ok : okFn Try.prog 65 a65 = true := by kernel_rfl
/-- loop.example/g01215/spec.DrawNewBar -/
def a66 : AFn := { np := 1, nt := 9, res := [.cell 2 24 true], body :=
  (.seq (.region [⟨some 2, none, .p (.alloc (List.replicate 24 (.k (C.int .i64 0))))⟩] [0, 2])
  (.seq (.region [⟨some 4, none, .p (.mv (.t 0))⟩,
    ⟨some 5, none, .p (.build [.sl 1, .k (C.int .i64 0), .k (C.int .u64 0)] [(0, 1, .t 4)])⟩,
    ⟨some 6, none, .p (.box 3 (.t 5))⟩,
    ⟨some 3, none, .p (.mv (.t 6))⟩] [2, 3])
  (.seq (.region [⟨some 7, none, .p (.mv (.t 3))⟩,
    ⟨some 8, none, .h (.call (.f 159) [.t 7])⟩,
    ⟨none, none, .h (.store 24 (.t 2) (.t 8))⟩] [2])
  .ret))) }
theorem a66_ok : okFn Try.prog 66 a66 = true := by kernel_rfl
/-- loop.example/g01215/impl.NewBar -/
def a67 : AFn := { np := 1, nt := 12, res := [.cell 2 26 true, .t 3], body :=
  (.seq (.region [⟨some 1, none, .p (.box 24 (.t 0))⟩,
    ⟨some 2, none, .p (.alloc (List.replicate 26 (.k (C.int .i64 0))))⟩,
    ⟨some 3, none, .p (.mv (.k (.c (C.bool false))))⟩] [1, 2])
  (.seq (.region [⟨some 5, none, .h (.load 24 true (.t 1))⟩,
    ⟨some 6, none, .p (.build (List.replicate 26 (.k (C.int .i64 0))) [(0, 24, .t 5)])⟩,
    ⟨some 4, none, .p (.alloc (List.replicate 26 (.k (C.int .i64 0))))⟩,
    ⟨none, none, .h (.store 26 (.t 4) (.t 6))⟩] [2, 4])
  (.seq (.seq (.region [⟨some 7, none, .h (.load 26 true (.t 4))⟩,
    ⟨some 8, none, .h (.call (.f 77) [.t 7])⟩,
    ⟨some 9, none, .p (.un .not (.t 8))⟩] [2, 4, 9])
  (.cond (.t 9)
  (.seq (.region [⟨some 10, none, .p (.build (List.replicate 26 (.k (C.int .i64 0))) [])⟩,
    ⟨none, none, .h (.store 26 (.t 2) (.t 10))⟩,
    ⟨some 3, none, .p (.mv (.k (.c (C.bool false))))⟩] [2, 3])
  .ret)
  .skip))
  (.seq (.region [⟨some 11, none, .h (.load 26 true (.t 4))⟩,
    ⟨none, none, .h (.store 26 (.t 2) (.t 11))⟩,
    ⟨some 3, none, .p (.mv (.k (.c (C.bool true))))⟩] [2, 3])
  .ret)))) }
theorem a67_ok : okFn Try.prog 67 a67 = true := by kernel_rfl
/-- loop.example/g01215/spec.NewBar -/
def a68 : AFn := { np := 1, nt := 10, res := [.cell 2 26 true, .t 3], body :=
  (.seq (.region [⟨some 1, none, .p (.box 24 (.t 0))⟩,
    ⟨some 2, none, .p (.alloc (List.replicate 26 (.k (C.int .i64 0))))⟩,
    ⟨some 3, none, .p (.mv (.k (.c (C.bool false))))⟩] [1, 2])
  (.seq (.seq (.region [⟨some 4, none, .h (.load 24 true (.t 1))⟩,
    ⟨some 5, none, .h (.call (.f 141) [.t 4])⟩,
    ⟨some 6, none, .p (.un .not (.t 5))⟩] [1, 2, 6])
  (.cond (.t 6)
  (.seq (.region [⟨some 7, none, .p (.build (List.replicate 26 (.k (C.int .i64 0))) [])⟩,
    ⟨none, none, .h (.store 26 (.t 2) (.t 7))⟩,
    ⟨some 3, none, .p (.mv (.k (.c (C.bool false))))⟩] [2, 3])
  .ret)
  .skip))
  (.seq (.region [⟨some 8, none, .h (.load 24 true (.t 1))⟩,
    ⟨some 9, none, .p (.build (List.replicate 26 (.k (C.int .i64 0))) [(0, 24, .t 8)])⟩,
    ⟨none, none, .h (.store 26 (.t 2) (.t 9))⟩,
    ⟨some 3, none, .p (.mv (.k (.c (C.bool true))))⟩] [2, 3])
  .ret))) }
theorem a68_ok : okFn Try.prog 68 a68 = true := by kernel_rfl
/-- loop.example/g01215/spec.DrawDoServe -/
def a69 : AFn := { np := 1, nt := 16, res := [.cell 2 26 true, .cell 3 4 true], body :=
  (.seq (.region [⟨some 2, none, .p (.alloc (List.replicate 26 (.k (C.int .i64 0))))⟩,
    ⟨some 3, none, .p (.alloc [.k (C.int .i64 0), .k (C.int .i64 0), .k (C.int .i64 0), .k (C.int .i64 0)])⟩] [0, 2, 3])
  (.seq (.region [⟨some 6, none, .p (.mv (.t 0))⟩,
    ⟨some 7, none, .p (.build [.sl 1, .k (C.int .i64 0), .k (C.int .u64 0)] [(0, 1, .t 6)])⟩,
    ⟨some 8, none, .p (.box 3 (.t 7))⟩,
    ⟨some 4, none, .p (.mv (.t 8))⟩] [2, 3, 4])
  (.seq (.region [⟨some 9, none, .p (.mv (.t 4))⟩,
    ⟨some 10, none, .h (.call (.f 160) [.t 9])⟩,
    ⟨some 5, none, .p (.alloc (List.replicate 26 (.k (C.int .i64 0))))⟩,
    ⟨none, none, .h (.store 26 (.t 5) (.t 10))⟩] [2, 3, 4, 5])
  (.seq (.regionE [⟨some 11, none, .h (.load 26 true (.t 5))⟩,
    ⟨some 12, none, .p (.mv (.t 4))⟩,
    ⟨some 13, none, .p (.fld 0 (.t 5))⟩,
    ⟨some 14, none, .h (.load 24 true (.t 13))⟩,
    ⟨some 15, none, .h (.call (.f 161) [.t 12, .t 14])⟩,
    ⟨none, none, .h (.store 26 (.t 2) (.t 11))⟩,
    ⟨none, none, .h (.store 4 (.t 3) (.t 15))⟩] [2, 3] [] [[], [], [], [], [4, 1000005]])
  .ret)))) }
theorem a69_ok : okFn Try.prog 69 a69 = true := by kernel_rfl
/-- loop.example/g01215/impl.DoServe -/
def a70 : AFn := { np := 2, nt := 27, res := [.cell 4 26 true, .t 5], body :=
  (.seq (.region [⟨some 2, none, .p (.box 26 (.t 0))⟩,
    ⟨some 3, none, .p (.box 4 (.t 1))⟩,
    ⟨some 4, none, .p (.alloc (List.replicate 26 (.k (C.int .i64 0))))⟩,
    ⟨some 5, none, .p (.mv (.k (.c (C.bool false))))⟩] [2, 3, 4])
  (.seq (.seq (.region [⟨some 8, none, .h (.load 26 true (.t 2))⟩,
    ⟨some 9, none, .h (.call (.f 77) [.t 8])⟩,
    ⟨some 10, none, .p (.un .not (.t 9))⟩] [2, 3, 4, 10])
  (.cond (.t 10)
  (.seq (.region [⟨some 11, none, .p (.build (List.replicate 26 (.k (C.int .i64 0))) [])⟩,
    ⟨none, none, .h (.store 26 (.t 4) (.t 11))⟩,
    ⟨some 5, none, .p (.mv (.k (.c (C.bool false))))⟩] [4, 5])
  .ret)
  .skip))
  (.seq (.region [⟨some 13, none, .h (.load 26 true (.t 2))⟩,
    ⟨some 14, none, .h (.load 4 true (.t 3))⟩,
    ⟨some 15, none, .h (.call (.f 162) [.t 13, .t 14])⟩,
    ⟨some 12, none, .p (.mv (.t 15))⟩,
    ⟨some 16, none, .p (.ext (.t 12) 0)⟩,
    ⟨some 17, none, .p (.ext (.t 12) 1)⟩,
    ⟨some 6, none, .p (.alloc (List.replicate 26 (.k (C.int .i64 0))))⟩,
    ⟨none, none, .h (.store 26 (.t 6) (.t 16))⟩,
    ⟨some 7, none, .p (.mv (.t 17))⟩] [4, 6, 7])
  (.seq (.seq (.region [⟨some 18, none, .p (.mv (.t 7))⟩,
    ⟨some 19, none, .p (.un .not (.t 18))⟩,
    ⟨some 20, none, .p (.mv (.t 19))⟩,
    ⟨some 21, some (20, false), .h (.load 26 true (.t 6))⟩,
    ⟨some 22, some (20, false), .h (.call (.f 77) [.t 21])⟩,
    ⟨some 23, some (20, false), .p (.un .not (.t 22))⟩,
    ⟨some 24, none, .p (.pick (.t 20) (.k (.c (C.bool true))) (.t 23))⟩] [4, 6, 24])
  (.cond (.t 24)
  (.seq (.region [⟨some 25, none, .p (.build (List.replicate 26 (.k (C.int .i64 0))) [])⟩,
    ⟨none, none, .h (.store 26 (.t 4) (.t 25))⟩,
    ⟨some 5, none, .p (.mv (.k (.c (C.bool false))))⟩] [4, 5])
  .ret)
  .skip))
  (.seq (.region [⟨some 26, none, .h (.load 26 true (.t 6))⟩,
    ⟨none, none, .h (.store 26 (.t 4) (.t 26))⟩,
    ⟨some 5, none, .p (.mv (.k (.c (C.bool true))))⟩] [4, 5])
  .ret))))) }
theorem a70_ok : okFn Try.prog 70 a70 = true := by kernel_rfl
/-- loop.example/g01215/spec.DoServe -/
def a71 : AFn := { np := 2, nt := 15, res := [.cell 4 26 true, .t 5], body :=
  (.seq (.region [⟨some 2, none, .p (.box 26 (.t 0))⟩,
    ⟨some 3, none, .p (.box 4 (.t 1))⟩,
    ⟨some 4, none, .p (.alloc (List.replicate 26 (.k (C.int .i64 0))))⟩,
    ⟨some 5, none, .p (.mv (.k (.c (C.bool false))))⟩] [2, 3, 4])
  (.seq (.seq (.region [⟨some 6, none, .h (.load 26 true (.t 2))⟩,
    ⟨some 7, none, .h (.call (.f 163) [.t 6])⟩,
    ⟨some 8, none, .p (.un .not (.t 7))⟩] [2, 3, 4, 8])
  (.cond (.t 8)
  (.seq (.region [⟨some 9, none, .p (.build (List.replicate 26 (.k (C.int .i64 0))) [])⟩,
    ⟨none, none, .h (.store 26 (.t 4) (.t 9))⟩,
    ⟨some 5, none, .p (.mv (.k (.c (C.bool false))))⟩] [4, 5])
  .ret)
  .skip))
  (.seq (.region [⟨some 10, none, .h (.load 26 true (.t 2))⟩,
    ⟨some 11, none, .h (.load 4 true (.t 3))⟩,
    ⟨some 12, none, .h (.call (.f 164) [.t 10, .t 11])⟩,
    ⟨some 13, none, .p (.ext (.t 12) 0)⟩,
    ⟨some 14, none, .p (.ext (.t 12) 1)⟩,
    ⟨none, none, .h (.store 26 (.t 4) (.t 13))⟩,
    ⟨some 5, none, .p (.mv (.t 14))⟩] [4, 5])
  .ret))) }
theorem a71_ok : okFn Try.prog 71 a71 = true := by kernel_rfl
/-- loop.example/g01215/spec.DrawDoServes -/
def a72 : AFn := { np := 1, nt := 47, res := [.cell 2 26 true, .t 3], body :=
  (.seq (.region [⟨some 2, none, .p (.alloc (List.replicate 26 (.k (C.int .i64 0))))⟩,
    ⟨some 3, none, .p (.nilsl 4)⟩] [0, 2])
  (.seq (.region [⟨some 12, none, .p (.mv (.t 0))⟩,
    ⟨some 13, none, .p (.build [.sl 1, .k (C.int .i64 0), .k (C.int .u64 0)] [(0, 1, .t 12)])⟩,
    ⟨some 14, none, .p (.box 3 (.t 13))⟩,
    ⟨some 4, none, .p (.mv (.t 14))⟩] [2, 4])
  (.seq (.region [⟨some 15, none, .p (.mv (.t 4))⟩,
    ⟨some 16, none, .h (.call (.f 160) [.t 15])⟩,
    ⟨some 5, none, .p (.alloc (List.replicate 26 (.k (C.int .i64 0))))⟩,
    ⟨none, none, .h (.store 26 (.t 5) (.t 16))⟩] [2, 4, 5])
  (.seq (.region [⟨some 17, none, .p (.mksl 4 0 [.k (C.int .i64 0), .k (C.int .i64 0), .k (C.int .i64 0), .k (C.int .i64 0)] [])⟩,
    ⟨some 6, none, .p (.mv (.t 17))⟩] [2, 4, 5, 6])
  (.seq (.region [⟨some 18, none, .h (.load 26 true (.t 5))⟩,
    ⟨some 7, none, .p (.alloc (List.replicate 26 (.k (C.int .i64 0))))⟩,
    ⟨none, none, .h (.store 26 (.t 7) (.t 18))⟩] [2, 4, 5, 6, 7])
  (.seq (.seq (.region [⟨some 19, none, .p (.mv (.t 4))⟩,
    ⟨some 20, none, .h (.call (.f 165) [.t 19, .k (.c (C.int .i64 6))])⟩,
    ⟨some 8, none, .p (.mv (.t 20))⟩] [2, 4, 5, 6, 7, 8])
  (.block 0 (.loop (.seq (.seq (.region [⟨some 21, none, .p (.mv (.t 8))⟩,
    ⟨some 22, none, .p (.bin .gtr (.t 21) (.k (.c (C.int .i64 0))))⟩,
    ⟨some 23, none, .p (.mv (.t 22))⟩,
    ⟨some 24, some (23, true), .h (.load 26 true (.t 7))⟩,
    ⟨some 25, some (23, true), .h (.call (.f 163) [.t 24])⟩,
    ⟨some 26, none, .p (.pick (.t 23) (.t 25) (.k (.c (C.bool false))))⟩] [2, 4, 5, 6, 7, 8, 26])
  (.cond (.t 26)
  .skip
  (.exit 0)))
  (.seq (.block 1 (.seq (.region [⟨some 29, none, .p (.mv (.t 4))⟩,
    ⟨some 30, none, .p (.fld 0 (.t 7))⟩,
    ⟨some 31, none, .h (.load 24 true (.t 30))⟩,
    ⟨some 32, none, .h (.call (.f 161) [.t 29, .t 31])⟩,
    ⟨some 9, none, .p (.alloc [.k (C.int .i64 0), .k (C.int .i64 0), .k (C.int .i64 0), .k (C.int .i64 0)])⟩,
    ⟨none, none, .h (.store 4 (.t 9) (.t 32))⟩] [2, 4, 5, 6, 7, 8, 9])
  (.seq (.region [⟨some 33, none, .p (.mv (.t 6))⟩,
    ⟨some 34, none, .h (.load 4 true (.t 9))⟩,
    ⟨some 35, none, .p (.mksl 4 1 [.k (C.int .i64 0), .k (C.int .i64 0), .k (C.int .i64 0), .k (C.int .i64 0)] [(0, 4, .t 34)])⟩,
    ⟨some 36, none, .h (.app 4 (.t 33) (.t 35))⟩,
    ⟨some 6, none, .p (.mv (.t 36))⟩] [2, 4, 5, 6, 7, 8, 9])
  (.seq (.region [⟨some 38, none, .h (.load 26 true (.t 7))⟩,
    ⟨some 39, none, .h (.load 4 true (.t 9))⟩,
    ⟨some 40, none, .h (.call (.f 164) [.t 38, .t 39])⟩,
    ⟨some 37, none, .p (.mv (.t 40))⟩,
    ⟨some 41, none, .p (.ext (.t 37) 0)⟩,
    ⟨some 42, none, .p (.ext (.t 37) 1)⟩,
    ⟨some 10, none, .p (.alloc (List.replicate 26 (.k (C.int .i64 0))))⟩,
    ⟨none, none, .h (.store 26 (.t 10) (.t 41))⟩,
    ⟨some 11, none, .p (.mv (.t 42))⟩] [2, 4, 5, 6, 7, 8, 10, 11])
  (.seq (.region [⟨some 43, none, .p (.mv (.t 11))⟩] [2, 4, 5, 6, 7, 8, 10, 43])
  (.cond (.t 43)
  (.region [⟨some 44, none, .h (.load 26 true (.t 10))⟩,
    ⟨none, none, .h (.store 26 (.t 7) (.t 44))⟩] [2, 4, 5, 6, 7, 8])
  .skip))))))
  (.region [⟨some 27, none, .p (.mv (.t 8))⟩,
    ⟨some 28, none, .p (.bin .sub (.t 27) (.k (.c (C.int .i64 1))))⟩,
    ⟨some 8, none, .p (.mv (.t 28))⟩] [2, 4, 5, 6, 7, 8]))) [2, 4, 5, 6, 7, 8])))
  (.seq (.region [⟨some 45, none, .h (.load 26 true (.t 5))⟩,
    ⟨some 46, none, .p (.mv (.t 6))⟩,
    ⟨none, none, .h (.store 26 (.t 2) (.t 45))⟩,
    ⟨some 3, none, .p (.mv (.t 46))⟩] [2, 3])
  .ret))))))) }
theorem a72_ok : okFn Try.prog 72 a72 = true := by kernel_rfl
/-- loop.example/g01215/impl.DoServes -/
def a73 : AFn := { np := 2, nt := 37, res := [.cell 4 26 true, .t 5, .t 6], body :=
  (.seq (.region [⟨some 2, none, .p (.box 26 (.t 0))⟩,
    ⟨some 4, none, .p (.alloc (List.replicate 26 (.k (C.int .i64 0))))⟩,
    ⟨some 5, none, .p (.mv (.k (.c (C.int .i64 0))))⟩,
    ⟨some 6, none, .p (.mv (.k (.c (C.bool false))))⟩] [1, 2, 4])
  (.seq (.seq (.region [⟨some 11, none, .h (.load 26 true (.t 2))⟩,
    ⟨some 12, none, .h (.call (.f 77) [.t 11])⟩,
    ⟨some 13, none, .p (.un .not (.t 12))⟩] [1, 2, 4, 13])
  (.cond (.t 13)
  (.seq (.region [⟨some 14, none, .p (.build (List.replicate 26 (.k (C.int .i64 0))) [])⟩,
    ⟨none, none, .h (.store 26 (.t 4) (.t 14))⟩,
    ⟨some 5, none, .p (.mv (.k (.c (C.int .i64 0))))⟩,
    ⟨some 6, none, .p (.mv (.k (.c (C.bool false))))⟩] [4, 5, 6])
  .ret)
  .skip))
  (.seq (.seq (.region [⟨some 15, none, .p (.mv (.t 1))⟩,
    ⟨some 16, none, .p (.len (.t 15))⟩,
    ⟨some 17, none, .p (.mv (.k (.c (C.int .i64 0))))⟩] [1, 2, 4, 15, 16, 17])
  (.block 0 (.loop (.seq (.region [⟨some 18, none, .p (.bin .lss (.t 17) (.t 16))⟩] [1, 2, 4, 15, 16, 17, 18])
  (.seq (.cond (.t 18)
  .skip
  (.exit 0))
  (.seq (.block 1 (.seq (.region [⟨some 19, none, .p (.mv (.t 17))⟩,
    ⟨some 20, none, .p (.ixS 4 (.t 15) (.t 17))⟩,
    ⟨some 21, none, .h (.load 4 true (.t 20))⟩,
    ⟨some 8, none, .p (.alloc [.k (C.int .i64 0), .k (C.int .i64 0), .k (C.int .i64 0), .k (C.int .i64 0)])⟩,
    ⟨some 7, none, .p (.mv (.t 19))⟩,
    ⟨none, none, .h (.store 4 (.t 8) (.t 21))⟩] [1, 2, 4, 7, 8, 15, 16, 17])
  (.seq (.region [⟨some 23, none, .h (.load 26 true (.t 2))⟩,
    ⟨some 24, none, .h (.load 4 true (.t 8))⟩,
    ⟨some 25, none, .h (.call (.f 70) [.t 23, .t 24])⟩,
    ⟨some 22, none, .p (.mv (.t 25))⟩,
    ⟨some 26, none, .p (.ext (.t 22) 0)⟩,
    ⟨some 27, none, .p (.ext (.t 22) 1)⟩,
    ⟨some 9, none, .p (.alloc (List.replicate 26 (.k (C.int .i64 0))))⟩,
    ⟨none, none, .h (.store 26 (.t 9) (.t 26))⟩,
    ⟨some 10, none, .p (.mv (.t 27))⟩] [1, 2, 4, 7, 9, 10, 15, 16, 17])
  (.seq (.seq (.region [⟨some 28, none, .p (.mv (.t 10))⟩,
    ⟨some 29, none, .p (.un .not (.t 28))⟩] [1, 2, 4, 7, 9, 15, 16, 17, 29])
  (.cond (.t 29)
  (.seq (.region [⟨some 30, none, .h (.load 26 true (.t 2))⟩,
    ⟨some 31, none, .p (.mv (.t 7))⟩,
    ⟨none, none, .h (.store 26 (.t 4) (.t 30))⟩,
    ⟨some 5, none, .p (.mv (.t 31))⟩,
    ⟨some 6, none, .p (.mv (.k (.c (C.bool true))))⟩] [4, 5, 6])
  .ret)
  .skip))
  (.region [⟨some 32, none, .h (.load 26 true (.t 9))⟩,
    ⟨none, none, .h (.store 26 (.t 2) (.t 32))⟩] [1, 2, 4, 15, 16, 17])))))
  (.region [⟨some 33, none, .p (.bin .add (.t 17) (.k (.c (C.int .i64 1))))⟩,
    ⟨some 17, none, .p (.mv (.t 33))⟩] [1, 2, 4, 15, 16, 17])))) [1, 2, 4, 15, 16, 17])))
  (.seq (.region [⟨some 34, none, .h (.load 26 true (.t 2))⟩,
    ⟨some 35, none, .p (.mv (.t 1))⟩,
    ⟨some 36, none, .p (.len (.t 35))⟩,
    ⟨none, none, .h (.store 26 (.t 4) (.t 34))⟩,
    ⟨some 5, none, .p (.mv (.t 36))⟩,
    ⟨some 6, none, .p (.mv (.k (.c (C.bool true))))⟩] [4, 5, 6])
  .ret)))) }
theorem a73_ok : okFn Try.prog 73 a73 = true := by kernel_rfl
/-- loop.example/g01215/spec.DoServes -/
def a74 : AFn := { np := 2, nt := 39, res := [.cell 4 26 true, .t 5, .t 6], body :=
  (.seq (.region [⟨some 2, none, .p (.box 26 (.t 0))⟩,
    ⟨some 4, none, .p (.alloc (List.replicate 26 (.k (C.int .i64 0))))⟩,
    ⟨some 5, none, .p (.mv (.k (.c (C.int .i64 0))))⟩,
    ⟨some 6, none, .p (.mv (.k (.c (C.bool false))))⟩] [1, 2, 4])
  (.seq (.seq (.region [⟨some 11, none, .h (.load 26 true (.t 2))⟩,
    ⟨some 12, none, .h (.call (.f 163) [.t 11])⟩,
    ⟨some 13, none, .p (.un .not (.t 12))⟩] [1, 2, 4, 13])
  (.cond (.t 13)
  (.seq (.region [⟨some 14, none, .p (.build (List.replicate 26 (.k (C.int .i64 0))) [])⟩,
    ⟨none, none, .h (.store 26 (.t 4) (.t 14))⟩,
    ⟨some 5, none, .p (.mv (.k (.c (C.int .i64 0))))⟩,
    ⟨some 6, none, .p (.mv (.k (.c (C.bool false))))⟩] [4, 5, 6])
  .ret)
  .skip))
  (.seq (.region [⟨some 15, none, .h (.load 26 true (.t 2))⟩,
    ⟨some 7, none, .p (.alloc (List.replicate 26 (.k (C.int .i64 0))))⟩,
    ⟨none, none, .h (.store 26 (.t 7) (.t 15))⟩] [1, 4, 7])
  (.seq (.seq (.region [⟨some 8, none, .p (.mv (.k (.c (C.int .i64 0))))⟩] [1, 4, 7, 8])
  (.block 0 (.loop (.seq (.seq (.region [⟨some 16, none, .p (.mv (.t 8))⟩,
    ⟨some 17, none, .p (.mv (.t 1))⟩,
    ⟨some 18, none, .p (.len (.t 17))⟩,
    ⟨some 19, none, .p (.bin .lss (.t 16) (.t 18))⟩] [1, 4, 7, 8, 19])
  (.cond (.t 19)
  .skip
  (.exit 0)))
  (.seq (.block 1 (.seq (.regionD [⟨some 23, none, .h (.load 26 true (.t 7))⟩,
    ⟨some 24, none, .p (.mv (.t 1))⟩,
    ⟨some 25, none, .p (.mv (.t 8))⟩,
    ⟨some 26, none, .p (.ixS 4 (.t 24) (.t 25))⟩,
    ⟨some 27, none, .h (.load 4 true (.t 26))⟩,
    ⟨some 28, none, .h (.call (.f 164) [.t 23, .t 27])⟩,
    ⟨some 22, none, .p (.mv (.t 28))⟩,
    ⟨some 29, none, .p (.ext (.t 22) 0)⟩,
    ⟨some 30, none, .p (.ext (.t 22) 1)⟩,
    ⟨some 9, none, .p (.alloc (List.replicate 26 (.k (C.int .i64 0))))⟩,
    ⟨none, none, .h (.store 26 (.t 9) (.t 29))⟩,
    ⟨some 10, none, .p (.mv (.t 30))⟩] [1, 4, 7, 8, 9, 10] [])
  (.seq (.seq (.region [⟨some 31, none, .p (.mv (.t 10))⟩,
    ⟨some 32, none, .p (.un .not (.t 31))⟩] [1, 4, 7, 8, 9, 32])
  (.cond (.t 32)
  (.seq (.region [⟨some 33, none, .h (.load 26 true (.t 7))⟩,
    ⟨some 34, none, .p (.mv (.t 8))⟩,
    ⟨none, none, .h (.store 26 (.t 4) (.t 33))⟩,
    ⟨some 5, none, .p (.mv (.t 34))⟩,
    ⟨some 6, none, .p (.mv (.k (.c (C.bool true))))⟩] [4, 5, 6])
  .ret)
  .skip))
  (.region [⟨some 35, none, .h (.load 26 true (.t 9))⟩,
    ⟨none, none, .h (.store 26 (.t 7) (.t 35))⟩] [1, 4, 7, 8]))))
  (.region [⟨some 20, none, .p (.mv (.t 8))⟩,
    ⟨some 21, none, .p (.bin .add (.t 20) (.k (.c (C.int .i64 1))))⟩,
    ⟨some 8, none, .p (.mv (.t 21))⟩] [1, 4, 7, 8]))) [1, 4, 7, 8])))
  (.seq (.region [⟨some 36, none, .h (.load 26 true (.t 7))⟩,
    ⟨some 37, none, .p (.mv (.t 1))⟩,
    ⟨some 38, none, .p (.len (.t 37))⟩,
    ⟨none, none, .h (.store 26 (.t 4) (.t 36))⟩,
    ⟨some 5, none, .p (.mv (.t 38))⟩,
    ⟨some 6, none, .p (.mv (.k (.c (C.bool true))))⟩] [4, 5, 6])
  .ret))))) }
theorem a74_ok : okFn Try.prog 74 a74 = true := by kernel_rfl
/-- loop.example/g01215/impl.RunsLeft -/
def a75 : AFn := { np := 1, nt := 12, res := [.t 2, .t 3], body :=
  (.seq (.region [⟨some 1, none, .p (.box 26 (.t 0))⟩,
    ⟨some 2, none, .p (.mv (.k (.c (C.int .i64 0))))⟩,
    ⟨some 3, none, .p (.mv (.k (.c (C.bool false))))⟩] [1])
  (.seq (.seq (.region [⟨some 4, none, .h (.load 26 true (.t 1))⟩,
    ⟨some 5, none, .h (.call (.f 77) [.t 4])⟩,
    ⟨some 6, none, .p (.un .not (.t 5))⟩] [1, 6])
  (.cond (.t 6)
  (.seq (.region [⟨some 2, none, .p (.mv (.k (.c (C.int .i64 0))))⟩,
    ⟨some 3, none, .p (.mv (.k (.c (C.bool false))))⟩] [2, 3])
  .ret)
  .skip))
  (.seq (.region [⟨some 7, none, .p (.fld 0 (.t 1))⟩,
    ⟨some 8, none, .h (.load 24 true (.t 7))⟩,
    ⟨some 9, none, .h (.call (.f 166) [.t 8])⟩,
    ⟨some 10, none, .p (.ext (.t 9) 0)⟩,
    ⟨some 11, none, .p (.ext (.t 9) 1)⟩,
    ⟨some 2, none, .p (.mv (.t 10))⟩,
    ⟨some 3, none, .p (.mv (.t 11))⟩] [2, 3])
  .ret))) }
theorem a75_ok : okFn Try.prog 75 a75 = true := by kernel_rfl
/-- loop.example/g01215/spec.RunsLeft -/
def a76 : AFn := { np := 1, nt := 28, res := [.t 2, .t 3], body :=
  (.seq (.region [⟨some 1, none, .p (.box 26 (.t 0))⟩,
    ⟨some 2, none, .p (.mv (.k (.c (C.int .i64 0))))⟩,
    ⟨some 3, none, .p (.mv (.k (.c (C.bool false))))⟩] [1])
  (.seq (.seq (.region [⟨some 7, none, .h (.load 26 true (.t 1))⟩,
    ⟨some 8, none, .h (.call (.f 163) [.t 7])⟩,
    ⟨some 9, none, .p (.un .not (.t 8))⟩] [1, 9])
  (.cond (.t 9)
  (.seq (.region [⟨some 2, none, .p (.mv (.k (.c (C.int .i64 0))))⟩,
    ⟨some 3, none, .p (.mv (.k (.c (C.bool false))))⟩] [2, 3])
  .ret)
  .skip))
  (.seq (.region [⟨some 10, none, .p (.fld 0 (.t 1))⟩,
    ⟨some 11, none, .h (.load 24 true (.t 10))⟩,
    ⟨some 12, none, .h (.call (.f 167) [.t 11])⟩,
    ⟨some 5, none, .p (.alloc [.k (C.int .i64 0), .k (C.int .i64 0), .k (C.int .i64 0), .k (C.int .i64 0), .k (C.int .i64 0), .k (C.int .i64 0)])⟩,
    ⟨some 4, none, .p (.mv (.k (.c (C.int .i64 0))))⟩,
    ⟨none, none, .h (.store 6 (.t 5) (.t 12))⟩] [1, 4, 5])
  (.seq (.seq (.region [⟨some 6, none, .p (.mv (.k (.c (C.int .i64 1))))⟩] [1, 4, 5, 6])
  (.block 0 (.loop (.seq (.seq (.region [⟨some 13, none, .p (.mv (.t 6))⟩,
    ⟨some 14, none, .p (.bin .leq (.t 13) (.k (.c (C.int .i64 5))))⟩] [1, 4, 5, 6, 14])
  (.cond (.t 14)
  .skip
  (.exit 0)))
  (.seq (.block 1 (.seq (.region [⟨some 17, none, .p (.mv (.t 6))⟩,
    ⟨some 18, none, .p (.ixA 6 1 (.t 5) (.t 17))⟩,
    ⟨some 19, none, .h (.load 1 false (.t 18))⟩,
    ⟨some 20, none, .p (.bin .gtr (.t 19) (.k (.c (C.int .i64 0))))⟩] [1, 4, 5, 6, 20])
  (.cond (.t 20)
  (.region [⟨some 21, none, .p (.mv (.t 4))⟩,
    ⟨some 22, none, .p (.bin .add (.t 21) (.k (.c (C.int .i64 1))))⟩,
    ⟨some 4, none, .p (.mv (.t 22))⟩] [1, 4, 5, 6])
  .skip)))
  (.region [⟨some 15, none, .p (.mv (.t 6))⟩,
    ⟨some 16, none, .p (.bin .add (.t 15) (.k (.c (C.int .i64 1))))⟩,
    ⟨some 6, none, .p (.mv (.t 16))⟩] [1, 4, 5, 6]))) [1, 4, 5, 6])))
  (.seq (.region [⟨some 23, none, .p (.fld 0 (.t 1))⟩,
    ⟨some 24, none, .h (.load 24 true (.t 23))⟩,
    ⟨some 25, none, .h (.call (.f 168) [.t 24])⟩,
    ⟨some 26, none, .p (.mv (.t 4))⟩,
    ⟨some 27, none, .p (.bin .sub (.t 25) (.t 26))⟩,
    ⟨some 2, none, .p (.mv (.t 27))⟩,
    ⟨some 3, none, .p (.mv (.k (.c (C.bool true))))⟩] [2, 3])
  .ret))))) }
theorem a76_ok : okFn Try.prog 76 a76 = true := by kernel_rfl
/-- loop.example/g01215/impl.IsBar -/
def a77 : AFn := { np := 1, nt := 16, res := [.t 2], body :=
  (.seq (.region [⟨some 1, none, .p (.box 26 (.t 0))⟩,
    ⟨some 2, none, .p (.mv (.k (.c (C.bool false))))⟩] [1])
  (.seq (.region [⟨some 3, none, .p (.fld 0 (.t 1))⟩,
    ⟨some 4, none, .h (.load 24 true (.t 3))⟩,
    ⟨some 5, none, .h (.call (.f 59) [.t 4])⟩,
    ⟨some 6, none, .p (.mv (.t 5))⟩,
    ⟨some 7, some (6, true), .p (.fld 24 (.t 1))⟩,
    ⟨some 8, some (6, true), .h (.load 1 false (.t 7))⟩,
    ⟨some 9, some (6, true), .h (.call (.f 137) [.t 8, .k (.c (C.int .i64 0)), .k (.c (C.int .i64 9999))])⟩,
    ⟨some 10, none, .p (.pick (.t 6) (.t 9) (.k (.c (C.bool false))))⟩,
    ⟨some 11, none, .p (.mv (.t 10))⟩,
    ⟨some 12, some (11, true), .p (.fld 25 (.t 1))⟩,
    ⟨some 13, some (11, true), .h (.load 1 false (.t 12))⟩,
    ⟨some 14, some (11, true), .h (.call (.f 137) [.t 13, .k (.c (C.int .i64 0)), .k (.c (C.int .i64 1000))])⟩,
    ⟨some 15, none, .p (.pick (.t 11) (.t 14) (.k (.c (C.bool false))))⟩,
    ⟨some 2, none, .p (.mv (.t 15))⟩] [2])
  .ret)) }
theorem a77_ok : okFn Try.prog 77 a77 = true := by kernel_rfl
/-- loop.example/g01215/spec.IsBar -/
def a78 : AFn := { np := 1, nt := 5, res := [.t 2], body :=
  (.seq (.region [⟨some 1, none, .p (.box 26 (.t 0))⟩,
    ⟨some 2, none, .p (.mv (.k (.c (C.bool false))))⟩] [1])
  (.seq (.region [⟨some 3, none, .h (.load 26 true (.t 1))⟩,
    ⟨some 4, none, .h (.call (.f 163) [.t 3])⟩,
    ⟨some 2, none, .p (.mv (.t 4))⟩] [2])
  .ret)) }
theorem a78_ok : okFn Try.prog 78 a78 = true := by kernel_rfl
/-- loop.example/g01215/impl.IsSorted -/
def a79 : AFn := { np := 1, nt := 9, res := [.t 2, .t 3], body :=
  (.seq (.region [⟨some 1, none, .p (.box 24 (.t 0))⟩,
    ⟨some 2, none, .p (.mv (.k (.c (C.bool false))))⟩,
    ⟨some 3, none, .p (.mv (.k (.c (C.bool false))))⟩] [1])
  (.seq (.seq (.region [⟨some 4, none, .h (.load 24 true (.t 1))⟩,
    ⟨some 5, none, .h (.call (.f 59) [.t 4])⟩,
    ⟨some 6, none, .p (.un .not (.t 5))⟩] [1, 6])
  (.cond (.t 6)
  (.seq (.region [⟨some 2, none, .p (.mv (.k (.c (C.bool false))))⟩,
    ⟨some 3, none, .p (.mv (.k (.c (C.bool false))))⟩] [2, 3])
  .ret)
  .skip))
  (.seq (.region [⟨some 7, none, .h (.load 24 true (.t 1))⟩,
    ⟨some 8, none, .h (.call (.f 169) [.t 7])⟩,
    ⟨some 2, none, .p (.mv (.t 8))⟩,
    ⟨some 3, none, .p (.mv (.k (.c (C.bool true))))⟩] [2, 3])
  .ret))) }
theorem a79_ok : okFn Try.prog 79 a79 = true := by kernel_rfl
/-- loop.example/g01215/impl.useful -/
def a98 : AFn := { np := 1, nt := 7, res := [.t 2], body :=
  (.seq (.region [⟨some 1, none, .p (.box 24 (.t 0))⟩,
    ⟨some 2, none, .p (.nilsl 2)⟩] [1])
  (.seq (.region [⟨some 3, none, .h (.load 24 true (.t 1))⟩,
    ⟨some 4, none, .h (.call (.f 185) [.t 3])⟩,
    ⟨some 5, none, .p (.mkfn 186 [.t 1])⟩,
    ⟨some 6, none, .h (.call (.f 152) [.t 4, .t 5])⟩,
    ⟨some 2, none, .p (.mv (.t 6))⟩] [2])
  .ret)) }
theorem a98_ok : okFn Try.prog 98 a98 = true := by kernel_rfl
def prA : Prog
  | 4 => some a4
  | 5 => some a5
  | 6 => some a6
  | 7 => some a7
  | 12 => some a12
  | 13 => some a13
  | 14 => some a14
  | 15 => some a15
  | 16 => some a16
  | 17 => some a17
  | 18 => some a18
  | 19 => some a19
  | 20 => some a20
  | 21 => some a21
  | 22 => some a22
  | 23 => some a23
  | 24 => some a24
  | 25 => some a25
  | 26 => some a26
  | 27 => some a27
  | 28 => some a28
  | 29 => some a29
  | 30 => some a30
  | 31 => some a31
  | 32 => some a32
  | 33 => some a33
  | 34 => some a34
  | 35 => some a35
  | 36 => some a36
  | 37 => some a37
  | 38 => some a38
  | 39 => some a39
  | 40 => some a40
  | 41 => some a41
  | 42 => some a42
  | 43 => some a43
  | 44 => some a44
  | 45 => some a45
  | 46 => some a46
  | 47 => some a47
  | 48 => some a48
  | 49 => some a49
  | 50 => some a50
  | 51 => some a51
  | 52 => some a52
  | 53 => some a53
  | 54 => some a54
  | 55 => some a55
  | 56 => some a56
  | 57 => some a57
  | 58 => some a58
  | 59 => some a59
  | 60 => some a60
  | 61 => some a61
  | 62 => some a62
  | 63 => some a63
  | 64 => some a64
  | 65 => some a65
  | 66 => some a66
  | 67 => some a67
  | 68 => some a68
  | 69 => some a69
  | 70 => some a70
  | 71 => some a71
  | 72 => some a72
  | 73 => some a73
  | 74 => some a74
  | 75 => some a75
  | 76 => some a76
  | 77 => some a77
  | 78 => some a78
  | 79 => some a79
  | 98 => some a98
  | _ => none
theorem prA_ok : ProgOK Try.prog prA := by
  intro f fn h
  unfold prA at h
  split at h
  · injection h with h; subst h; exact a4_ok
  · injection h with h; subst h; exact a5_ok
  · injection h with h; subst h; exact a6_ok
  · injection h with h; subst h; exact a7_ok
  · injection h with h; subst h; exact a12_ok
  · injection h with h; subst h; exact a13_ok
  · injection h with h; subst h; exact a14_ok
  · injection h with h; subst h; exact a15_ok
  · injection h with h; subst h; exact a16_ok
  · injection h with h; subst h; exact a17_ok
  · injection h with h; subst h; exact a18_ok
  · injection h with h; subst h; exact a19_ok
  · injection h with h; subst h; exact a20_ok
  · injection h with h; subst h; exact a21_ok
  · injection h with h; subst h; exact a22_ok
  · injection h with h; subst h; exact a23_ok
  · injection h with h; subst h; exact a24_ok
  · injection h with h; subst h; exact a25_ok
  · injection h with h; subst h; exact a26_ok
  · injection h with h; subst h; exact a27_ok
  · injection h with h; subst h; exact a28_ok
  · injection h with h; subst h; exact a29_ok
  · injection h with h; subst h; exact a30_ok
  · injection h with h; subst h; exact a31_ok
  · injection h with h; subst h; exact a32_ok
  · injection h with h; subst h; exact a33_ok
  · injection h with h; subst h; exact a34_ok
  · injection h with h; subst h; exact a35_ok
  · injection h with h; subst h; exact a36_ok
  · injection h with h; subst h; exact a37_ok
  · injection h with h; subst h; exact a38_ok
  · injection h with h; subst h; exact a39_ok
  · injection h with h; subst h; exact a40_ok
  · injection h with h; subst h; exact a41_ok
  · injection h with h; subst h; exact a42_ok
  · injection h with h; subst h; exact a43_ok
  · injection h with h; subst h; exact a44_ok
  · injection h with h; subst h; exact a45_ok
  · injection h with h; subst h; exact a46_ok
  · injection h with h; subst h; exact a47_ok
  · injection h with h; subst h; exact a48_ok
  · injection h with h; subst h; exact a49_ok
  · injection h with h; subst h; exact a50_ok
  · injection h with h; subst h; exact a51_ok
  · injection h with h; subst h; exact a52_ok
  · injection h with h; subst h; exact a53_ok
  · injection h with h; subst h; exact a54_ok
  · injection h with h; subst h; exact a55_ok
  · injection h with h; subst h; exact a56_ok
  · injection h with h; subst h; exact a57_ok
  · injection h with h; subst h; exact a58_ok
  · injection h with h; subst h; exact a59_ok
  · injection h with h; subst h; exact a60_ok
  · injection h with h; subst h; exact a61_ok
  · injection h with h; subst h; exact a62_ok
  · injection h with h; subst h; exact a63_ok
  · injection h with h; subst h; exact a64_ok
  · injection h with h; subst h; exact a65_ok
  · injection h with h; subst h; exact a66_ok
  · injection h with h; subst h; exact a67_ok
  · injection h with h; subst h; exact a68_ok
  · injection h with h; subst h; exact a69_ok
  · injection h with h; subst h; exact a70_ok
  · injection h with h; subst h; exact a71_ok
  · injection h with h; subst h; exact a72_ok
  · injection h with h; subst h; exact a73_ok
  · injection h with h; subst h; exact a74_ok
  · injection h with h; subst h; exact a75_ok
  · injection h with h; subst h; exact a76_ok
  · injection h with h; subst h; exact a77_ok
  · injection h with h; subst h; exact a78_ok
  · injection h with h; subst h; exact a79_ok
  · injection h with h; subst h; exact a98_ok
  · cases h
end Go.Proofs.Ytoaidbmkfdpagaa.AM
