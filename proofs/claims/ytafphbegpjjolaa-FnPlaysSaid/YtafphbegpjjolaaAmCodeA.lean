/- the functions' code in the abstract machine: printed by a program (wip/tools/genparts.py) out of the loaded program -/
import Derived.Test.YtafphbegpjjolaaAmD
import Derived.Test.YtafphbegpjjolaaProg
import Derived.KernelRfl
namespace Go.Proofs.Ytafphbegpjjolaa.AM
open Go
set_option maxRecDepth 100000
/-- loop.example/g01215/laws.FnPlays -/
def a3 : AFn := { np := 1, nt := 386, res := [.t 2], body :=
  (.seq (.region [⟨some 2, none, .p (.mv (.k (.c (C.bool false))))⟩] [0])
  (.seq (.seq (.region [⟨some 49, none, .p (.mv (.t 0))⟩,
    ⟨some 50, none, .h (.call (.f 5) [.t 49])⟩] [0, 50])
  (.cond (.t 50)
  (.seq (.region [⟨some 2, none, .p (.mv (.k (.c (C.bool true))))⟩] [2])
  .ret)
  .skip))
  (.seq (.region [⟨some 52, none, .p (.mv (.t 0))⟩,
    ⟨some 53, none, .h (.call (.f 6) [.t 52])⟩,
    ⟨some 51, none, .p (.mv (.t 53))⟩,
    ⟨some 54, none, .p (.ext (.t 51) 0)⟩,
    ⟨some 55, none, .p (.ext (.t 51) 1)⟩,
    ⟨some 3, none, .p (.alloc (List.replicate 24 (.k (C.int .i64 0))))⟩,
    ⟨none, none, .h (.store 24 (.t 3) (.t 54))⟩,
    ⟨some 4, none, .p (.mv (.t 55))⟩] [0, 3, 4])
  (.seq (.region [⟨some 57, none, .h (.load 24 true (.t 3))⟩,
    ⟨some 58, none, .p (.mv (.t 4))⟩,
    ⟨some 59, none, .h (.call (.f 7) [.t 57, .t 58])⟩,
    ⟨some 56, none, .p (.mv (.t 59))⟩,
    ⟨some 60, none, .p (.ext (.t 56) 0)⟩,
    ⟨some 61, none, .p (.ext (.t 56) 1)⟩,
    ⟨some 5, none, .p (.alloc [.k (C.int .i64 0), .k (C.int .i64 0)])⟩,
    ⟨none, none, .h (.store 2 (.t 5) (.t 60))⟩,
    ⟨some 6, none, .p (.mv (.t 61))⟩] [0, 3, 4, 5, 6])
  (.seq (.region [⟨some 63, none, .h (.load 24 true (.t 3))⟩,
    ⟨some 64, none, .p (.mv (.t 4))⟩,
    ⟨some 65, none, .h (.call (.f 8) [.t 63, .t 64])⟩,
    ⟨some 62, none, .p (.mv (.t 65))⟩,
    ⟨some 66, none, .p (.ext (.t 62) 0)⟩,
    ⟨some 67, none, .p (.ext (.t 62) 1)⟩,
    ⟨some 7, none, .p (.alloc [.k (C.int .i64 0), .k (C.int .i64 0)])⟩,
    ⟨none, none, .h (.store 2 (.t 7) (.t 66))⟩,
    ⟨some 8, none, .p (.mv (.t 67))⟩] [0, 3, 4, 5, 6, 7, 8])
  (.seq (.region [⟨some 69, none, .h (.load 24 true (.t 3))⟩,
    ⟨some 70, none, .p (.mv (.t 4))⟩,
    ⟨some 71, none, .h (.call (.f 9) [.t 69, .t 70])⟩,
    ⟨some 68, none, .p (.mv (.t 71))⟩,
    ⟨some 72, none, .p (.ext (.t 68) 0)⟩,
    ⟨some 73, none, .p (.ext (.t 68) 1)⟩,
    ⟨some 9, none, .p (.alloc [.k (C.int .i64 0), .k (C.int .i64 0)])⟩,
    ⟨none, none, .h (.store 2 (.t 9) (.t 72))⟩,
    ⟨some 10, none, .p (.mv (.t 73))⟩] [0, 3, 4, 5, 6, 7, 8, 9, 10])
  (.seq (.region [⟨some 75, none, .h (.load 24 true (.t 3))⟩,
    ⟨some 76, none, .p (.mv (.t 4))⟩,
    ⟨some 77, none, .h (.call (.f 10) [.t 75, .t 76])⟩,
    ⟨some 74, none, .p (.mv (.t 77))⟩,
    ⟨some 78, none, .p (.ext (.t 74) 0)⟩,
    ⟨some 79, none, .p (.ext (.t 74) 1)⟩,
    ⟨some 11, none, .p (.alloc [.k (C.int .i64 0), .k (C.int .i64 0)])⟩,
    ⟨none, none, .h (.store 2 (.t 11) (.t 78))⟩,
    ⟨some 12, none, .p (.mv (.t 79))⟩] [0, 3, 4, 5, 6, 7, 8, 9, 10, 11, 12])
  (.seq (.region [⟨some 81, none, .h (.load 24 true (.t 3))⟩,
    ⟨some 82, none, .p (.mv (.t 4))⟩,
    ⟨some 83, none, .h (.call (.f 11) [.t 81, .t 82])⟩,
    ⟨some 80, none, .p (.mv (.t 83))⟩,
    ⟨some 84, none, .p (.ext (.t 80) 0)⟩,
    ⟨some 85, none, .p (.ext (.t 80) 1)⟩,
    ⟨some 13, none, .p (.alloc [.k (C.int .i64 0), .k (C.int .i64 0)])⟩,
    ⟨none, none, .h (.store 2 (.t 13) (.t 84))⟩,
    ⟨some 14, none, .p (.mv (.t 85))⟩] [0, 3, 4, 5, 6, 7, 8, 9, 10, 11, 12, 13, 14])
  (.seq (.region [⟨some 87, none, .h (.load 24 true (.t 3))⟩,
    ⟨some 88, none, .p (.mv (.t 4))⟩,
    ⟨some 89, none, .h (.call (.f 12) [.t 87, .t 88])⟩,
    ⟨some 86, none, .p (.mv (.t 89))⟩,
    ⟨some 90, none, .p (.ext (.t 86) 0)⟩,
    ⟨some 91, none, .p (.ext (.t 86) 1)⟩,
    ⟨some 15, none, .p (.alloc [.k (C.int .i64 0), .k (C.int .i64 0)])⟩,
    ⟨none, none, .h (.store 2 (.t 15) (.t 90))⟩,
    ⟨some 16, none, .p (.mv (.t 91))⟩] [0, 3, 4, 5, 6, 7, 8, 9, 10, 11, 12, 13, 14, 15, 16])
  (.seq (.region [⟨some 93, none, .h (.load 24 true (.t 3))⟩,
    ⟨some 94, none, .p (.mv (.t 4))⟩,
    ⟨some 95, none, .h (.call (.f 13) [.t 93, .t 94])⟩,
    ⟨some 92, none, .p (.mv (.t 95))⟩,
    ⟨some 96, none, .p (.ext (.t 92) 0)⟩,
    ⟨some 97, none, .p (.ext (.t 92) 1)⟩,
    ⟨some 17, none, .p (.mv (.t 96))⟩,
    ⟨some 18, none, .p (.mv (.t 97))⟩] [0, 3, 4, 5, 6, 7, 8, 9, 10, 11, 12, 13, 14, 15, 16, 17, 18])
  (.seq (.region [⟨some 99, none, .h (.load 24 true (.t 3))⟩,
    ⟨some 100, none, .p (.mv (.t 4))⟩,
    ⟨some 101, none, .h (.call (.f 14) [.t 99, .t 100])⟩,
    ⟨some 98, none, .p (.mv (.t 101))⟩,
    ⟨some 102, none, .p (.ext (.t 98) 0)⟩,
    ⟨some 103, none, .p (.ext (.t 98) 1)⟩,
    ⟨some 19, none, .p (.mv (.t 102))⟩,
    ⟨some 20, none, .p (.mv (.t 103))⟩] [0, 3, 4, 5, 6, 7, 8, 9, 10, 11, 12, 13, 14, 15, 16, 17, 18, 19, 20])
  (.seq (.region [⟨some 105, none, .h (.load 24 true (.t 3))⟩,
    ⟨some 106, none, .h (.call (.f 15) [.t 105])⟩,
    ⟨some 104, none, .p (.mv (.t 106))⟩,
    ⟨some 107, none, .p (.ext (.t 104) 0)⟩,
    ⟨some 108, none, .p (.ext (.t 104) 1)⟩,
    ⟨some 21, none, .p (.mv (.t 107))⟩,
    ⟨some 22, none, .p (.mv (.t 108))⟩] [0, 3, 4, 5, 6, 7, 8, 9, 10, 11, 12, 13, 14, 15, 16, 17, 18, 19, 20, 21, 22])
  (.seq (.region [⟨some 110, none, .h (.load 24 true (.t 3))⟩,
    ⟨some 111, none, .h (.call (.f 16) [.t 110])⟩,
    ⟨some 109, none, .p (.mv (.t 111))⟩,
    ⟨some 112, none, .p (.ext (.t 109) 0)⟩,
    ⟨some 113, none, .p (.ext (.t 109) 1)⟩,
    ⟨some 23, none, .p (.mv (.t 112))⟩,
    ⟨some 24, none, .p (.mv (.t 113))⟩] [0, 3, 4, 5, 6, 7, 8, 9, 10, 11, 12, 13, 14, 15, 16, 17, 18, 19, 20, 21, 22, 23, 24])
  (.seq (.region [⟨some 115, none, .p (.mv (.t 0))⟩,
    ⟨some 116, none, .h (.call (.f 18) [.t 115, .k (.c (C.int .i64 1))])⟩,
    ⟨some 117, none, .h (.call (.f 17) [.t 116])⟩,
    ⟨some 114, none, .p (.mv (.t 117))⟩,
    ⟨some 118, none, .p (.ext (.t 114) 0)⟩,
    ⟨some 119, none, .p (.ext (.t 114) 1)⟩,
    ⟨some 25, none, .p (.alloc (List.replicate 24 (.k (C.int .i64 0))))⟩,
    ⟨none, none, .h (.store 24 (.t 25) (.t 118))⟩,
    ⟨some 26, none, .p (.mv (.t 119))⟩] [3, 4, 5, 6, 7, 8, 9, 10, 11, 12, 13, 14, 15, 16, 17, 18, 19, 20, 21, 22, 23, 24, 25, 26])
  (.seq (.region [⟨some 121, none, .h (.load 24 true (.t 25))⟩,
    ⟨some 122, none, .p (.mv (.t 26))⟩,
    ⟨some 123, none, .h (.call (.f 19) [.t 121, .t 122])⟩,
    ⟨some 120, none, .p (.mv (.t 123))⟩,
    ⟨some 124, none, .p (.ext (.t 120) 0)⟩,
    ⟨some 125, none, .p (.ext (.t 120) 1)⟩,
    ⟨some 126, none, .p (.ext (.t 120) 2)⟩,
    ⟨some 27, none, .p (.alloc [.k (C.int .i64 0), .k (C.int .i64 0)])⟩,
    ⟨some 28, none, .p (.alloc [.k (C.int .i64 0), .k (C.int .i64 0)])⟩,
    ⟨none, none, .h (.store 2 (.t 27) (.t 124))⟩,
    ⟨none, none, .h (.store 2 (.t 28) (.t 125))⟩,
    ⟨some 29, none, .p (.mv (.t 126))⟩] [3, 4, 5, 6, 7, 8, 9, 10, 11, 12, 13, 14, 15, 16, 17, 18, 19, 20, 21, 22, 23, 24, 25, 26, 27, 28, 29])
  (.seq (.region [⟨some 128, none, .h (.load 24 true (.t 25))⟩,
    ⟨some 129, none, .p (.mv (.t 26))⟩,
    ⟨some 130, none, .h (.call (.f 20) [.t 128, .t 129])⟩,
    ⟨some 127, none, .p (.mv (.t 130))⟩,
    ⟨some 131, none, .p (.ext (.t 127) 0)⟩,
    ⟨some 132, none, .p (.ext (.t 127) 1)⟩,
    ⟨some 133, none, .p (.ext (.t 127) 2)⟩,
    ⟨some 30, none, .p (.alloc [.k (C.int .i64 0), .k (C.int .i64 0)])⟩,
    ⟨some 31, none, .p (.alloc [.k (C.int .i64 0), .k (C.int .i64 0)])⟩,
    ⟨none, none, .h (.store 2 (.t 30) (.t 131))⟩,
    ⟨none, none, .h (.store 2 (.t 31) (.t 132))⟩,
    ⟨some 32, none, .p (.mv (.t 133))⟩] [3, 4, 5, 6, 7, 8, 9, 10, 11, 12, 13, 14, 15, 16, 17, 18, 19, 20, 21, 22, 23, 24, 25, 26, 27, 28, 29, 30, 31, 32])
  (.seq (.seq (.region [⟨some 134, none, .h (.load 2 true (.t 5))⟩,
    ⟨some 135, none, .h (.load 2 true (.t 7))⟩,
    ⟨some 136, none, .p (.eqv true [.int .i64, .int .i64] (.t 134) (.t 135))⟩,
    ⟨some 137, none, .p (.mv (.t 136))⟩,
    ⟨some 138, some (137, false), .p (.mv (.t 6))⟩,
    ⟨some 139, some (137, false), .p (.mv (.t 8))⟩,
    ⟨some 140, some (137, false), .p (.eqb true (.t 138) (.t 139))⟩,
    ⟨some 141, none, .p (.pick (.t 137) (.k (.c (C.bool true))) (.t 140))⟩,
    ⟨some 142, none, .p (.mv (.t 141))⟩,
    ⟨some 143, some (142, false), .h (.load 2 true (.t 9))⟩,
    ⟨some 144, some (142, false), .h (.load 2 true (.t 11))⟩,
    ⟨some 145, some (142, false), .p (.eqv true [.int .i64, .int .i64] (.t 143) (.t 144))⟩,
    ⟨some 146, none, .p (.pick (.t 142) (.k (.c (C.bool true))) (.t 145))⟩,
    ⟨some 147, none, .p (.mv (.t 146))⟩,
    ⟨some 148, some (147, false), .p (.mv (.t 10))⟩,
    ⟨some 149, some (147, false), .p (.mv (.t 12))⟩,
    ⟨some 150, some (147, false), .p (.eqb true (.t 148) (.t 149))⟩,
    ⟨some 151, none, .p (.pick (.t 147) (.k (.c (C.bool true))) (.t 150))⟩,
    ⟨some 152, none, .p (.mv (.t 151))⟩,
    ⟨some 153, some (152, false), .h (.load 2 true (.t 13))⟩,
    ⟨some 154, some (152, false), .h (.load 2 true (.t 15))⟩,
    ⟨some 155, some (152, false), .p (.eqv true [.int .i64, .int .i64] (.t 153) (.t 154))⟩,
    ⟨some 156, none, .p (.pick (.t 152) (.k (.c (C.bool true))) (.t 155))⟩,
    ⟨some 157, none, .p (.mv (.t 156))⟩,
    ⟨some 158, some (157, false), .p (.mv (.t 14))⟩,
    ⟨some 159, some (157, false), .p (.mv (.t 16))⟩,
    ⟨some 160, some (157, false), .p (.eqb true (.t 158) (.t 159))⟩,
    ⟨some 161, none, .p (.pick (.t 157) (.k (.c (C.bool true))) (.t 160))⟩,
    ⟨some 162, none, .p (.mv (.t 161))⟩,
    ⟨some 163, some (162, false), .p (.mv (.t 17))⟩,
    ⟨some 164, some (162, false), .p (.mv (.t 19))⟩,
    ⟨some 165, some (162, false), .p (.bin .neq (.t 163) (.t 164))⟩,
    ⟨some 166, none, .p (.pick (.t 162) (.k (.c (C.bool true))) (.t 165))⟩,
    ⟨some 167, none, .p (.mv (.t 166))⟩,
    ⟨some 168, some (167, false), .p (.mv (.t 18))⟩,
    ⟨some 169, some (167, false), .p (.mv (.t 20))⟩,
    ⟨some 170, some (167, false), .p (.eqb true (.t 168) (.t 169))⟩,
    ⟨some 171, none, .p (.pick (.t 167) (.k (.c (C.bool true))) (.t 170))⟩,
    ⟨some 172, none, .p (.mv (.t 171))⟩,
    ⟨some 173, some (172, false), .p (.mv (.t 21))⟩,
    ⟨some 174, some (172, false), .p (.mv (.t 23))⟩,
    ⟨some 175, some (172, false), .p (.bin .neq (.t 173) (.t 174))⟩,
    ⟨some 176, none, .p (.pick (.t 172) (.k (.c (C.bool true))) (.t 175))⟩,
    ⟨some 177, none, .p (.mv (.t 176))⟩,
    ⟨some 178, some (177, false), .p (.mv (.t 22))⟩,
    ⟨some 179, some (177, false), .p (.mv (.t 24))⟩,
    ⟨some 180, some (177, false), .p (.eqb true (.t 178) (.t 179))⟩,
    ⟨some 181, none, .p (.pick (.t 177) (.k (.c (C.bool true))) (.t 180))⟩,
    ⟨some 182, none, .p (.mv (.t 181))⟩,
    ⟨some 183, some (182, false), .h (.load 2 true (.t 27))⟩,
    ⟨some 184, some (182, false), .h (.load 2 true (.t 30))⟩,
    ⟨some 185, some (182, false), .p (.eqv true [.int .i64, .int .i64] (.t 183) (.t 184))⟩,
    ⟨some 186, none, .p (.pick (.t 182) (.k (.c (C.bool true))) (.t 185))⟩,
    ⟨some 187, none, .p (.mv (.t 186))⟩,
    ⟨some 188, some (187, false), .h (.load 2 true (.t 28))⟩,
    ⟨some 189, some (187, false), .h (.load 2 true (.t 31))⟩,
    ⟨some 190, some (187, false), .p (.eqv true [.int .i64, .int .i64] (.t 188) (.t 189))⟩,
    ⟨some 191, none, .p (.pick (.t 187) (.k (.c (C.bool true))) (.t 190))⟩,
    ⟨some 192, none, .p (.mv (.t 191))⟩,
    ⟨some 193, some (192, false), .p (.mv (.t 29))⟩,
    ⟨some 194, some (192, false), .p (.mv (.t 32))⟩,
    ⟨some 195, some (192, false), .p (.eqb true (.t 193) (.t 194))⟩,
    ⟨some 196, none, .p (.pick (.t 192) (.k (.c (C.bool true))) (.t 195))⟩,
    ⟨some 197, none, .p (.mv (.t 196))⟩,
    ⟨some 198, some (197, false), .p (.mv (.t 6))⟩,
    ⟨some 199, some (197, false), .p (.mv (.t 10))⟩,
    ⟨some 200, some (197, false), .p (.eqb true (.t 198) (.t 199))⟩,
    ⟨some 201, none, .p (.pick (.t 197) (.k (.c (C.bool true))) (.t 200))⟩,
    ⟨some 202, none, .p (.mv (.t 201))⟩,
    ⟨some 203, some (202, false), .p (.mv (.t 6))⟩,
    ⟨some 204, some (202, false), .p (.mv (.t 14))⟩,
    ⟨some 205, some (202, false), .p (.eqb true (.t 203) (.t 204))⟩,
    ⟨some 206, none, .p (.pick (.t 202) (.k (.c (C.bool true))) (.t 205))⟩,
    ⟨some 207, none, .p (.mv (.t 206))⟩,
    ⟨some 208, some (207, false), .p (.mv (.t 6))⟩,
    ⟨some 209, some (207, false), .p (.mv (.t 18))⟩,
    ⟨some 210, some (207, false), .p (.eqb true (.t 208) (.t 209))⟩,
    ⟨some 211, none, .p (.pick (.t 207) (.k (.c (C.bool true))) (.t 210))⟩,
    ⟨some 212, none, .p (.mv (.t 211))⟩,
    ⟨some 213, some (212, false), .p (.mv (.t 6))⟩,
    ⟨some 214, some (212, false), .p (.mv (.t 213))⟩,
    ⟨some 215, some (214, true), .p (.mv (.t 22))⟩,
    ⟨some 216, some (214, true), .p (.un .not (.t 215))⟩,
    ⟨some 217, some (212, false), .p (.pick (.t 214) (.t 216) (.k (.c (C.bool false))))⟩,
    ⟨some 218, none, .p (.pick (.t 212) (.k (.c (C.bool true))) (.t 217))⟩] [3, 4, 5, 6, 9, 13, 17, 21, 25, 26, 27, 28, 29, 218])
  (.cond (.t 218)
  (.seq (.region [⟨some 2, none, .p (.mv (.k (.c (C.bool false))))⟩] [2])
  .ret)
  .skip))
  (.seq (.seq (.region [⟨some 219, none, .p (.mv (.t 29))⟩] [3, 4, 5, 6, 9, 13, 17, 21, 25, 26, 27, 28, 219])
  (.cond (.t 219)
  (.seq (.region [⟨some 221, none, .h (.load 24 true (.t 25))⟩,
    ⟨some 222, none, .h (.call (.f 21) [.t 221])⟩,
    ⟨some 220, none, .p (.mv (.t 222))⟩,
    ⟨some 223, none, .p (.ext (.t 220) 0)⟩,
    ⟨some 224, none, .p (.ext (.t 220) 1)⟩,
    ⟨some 33, none, .p (.mv (.t 223))⟩,
    ⟨some 34, none, .p (.mv (.t 224))⟩] [3, 4, 5, 6, 9, 13, 17, 21, 25, 26, 27, 28, 33, 34])
  (.seq (.seq (.region [⟨some 225, none, .p (.mv (.t 34))⟩,
    ⟨some 226, none, .p (.un .not (.t 225))⟩,
    ⟨some 227, none, .p (.mv (.t 226))⟩,
    ⟨some 228, some (227, false), .p (.mv (.t 33))⟩,
    ⟨some 229, some (227, false), .h (.load 2 true (.t 27))⟩,
    ⟨some 230, some (227, false), .h (.call (.f 22) [.t 228, .t 229])⟩,
    ⟨some 231, some (227, false), .p (.un .not (.t 230))⟩,
    ⟨some 232, none, .p (.pick (.t 227) (.k (.c (C.bool true))) (.t 231))⟩] [3, 4, 5, 6, 9, 13, 17, 21, 25, 26, 27, 28, 33, 232])
  (.cond (.t 232)
  (.seq (.region [⟨some 2, none, .p (.mv (.k (.c (C.bool false))))⟩] [2])
  .ret)
  .skip))
  (.seq (.region [⟨some 35, none, .p (.mv (.k (.c (C.int .i64 0))))⟩] [3, 4, 5, 6, 9, 13, 17, 21, 25, 26, 27, 28, 33, 35])
  (.block 0 (.loop (.seq (.seq (.region [⟨some 233, none, .p (.mv (.t 35))⟩,
    ⟨some 234, none, .p (.mv (.t 33))⟩,
    ⟨some 235, none, .p (.len (.t 234))⟩,
    ⟨some 236, none, .p (.bin .lss (.t 233) (.t 235))⟩] [3, 4, 5, 6, 9, 13, 17, 21, 25, 26, 27, 28, 33, 35, 236])
  (.cond (.t 236)
  .skip
  (.exit 0)))
  (.seq (.block 1 (.seq (.regionD [⟨some 240, none, .h (.load 24 true (.t 25))⟩,
    ⟨some 241, none, .p (.mv (.t 33))⟩,
    ⟨some 242, none, .p (.mv (.t 35))⟩,
    ⟨some 243, none, .p (.ixS 2 (.t 241) (.t 242))⟩,
    ⟨some 244, none, .p (.ixA 2 1 (.t 243) (.k (.c (C.int .i64 0))))⟩,
    ⟨some 245, none, .h (.load 1 false (.t 244))⟩,
    ⟨some 246, none, .p (.mv (.t 33))⟩,
    ⟨some 247, none, .p (.mv (.t 35))⟩,
    ⟨some 248, none, .p (.ixS 2 (.t 246) (.t 247))⟩,
    ⟨some 249, none, .p (.ixA 2 1 (.t 248) (.k (.c (C.int .i64 1))))⟩,
    ⟨some 250, none, .h (.load 1 false (.t 249))⟩,
    ⟨some 251, none, .h (.call (.f 23) [.t 240, .t 245, .t 250])⟩,
    ⟨some 239, none, .p (.mv (.t 251))⟩,
    ⟨some 252, none, .p (.ext (.t 239) 0)⟩,
    ⟨some 253, none, .p (.ext (.t 239) 1)⟩,
    ⟨some 254, none, .p (.ext (.t 239) 2)⟩,
    ⟨some 36, none, .p (.alloc (List.replicate 24 (.k (C.int .i64 0))))⟩,
    ⟨none, none, .h (.store 24 (.t 36) (.t 252))⟩,
    ⟨some 37, none, .p (.mv (.t 253))⟩,
    ⟨some 38, none, .p (.mv (.t 254))⟩] [3, 4, 5, 6, 9, 13, 17, 21, 25, 26, 27, 28, 33, 35, 36, 38] [])
  (.seq (.region [⟨some 256, none, .h (.load 24 true (.t 36))⟩,
    ⟨some 257, none, .p (.mv (.t 26))⟩,
    ⟨some 258, none, .h (.call (.f 7) [.t 256, .t 257])⟩,
    ⟨some 255, none, .p (.mv (.t 258))⟩,
    ⟨some 259, none, .p (.ext (.t 255) 0)⟩,
    ⟨some 260, none, .p (.ext (.t 255) 1)⟩,
    ⟨some 39, none, .p (.alloc [.k (C.int .i64 0), .k (C.int .i64 0)])⟩,
    ⟨none, none, .h (.store 2 (.t 39) (.t 259))⟩,
    ⟨some 40, none, .p (.mv (.t 260))⟩] [3, 4, 5, 6, 9, 13, 17, 21, 25, 26, 27, 28, 33, 35, 38, 39, 40])
  (.seq (.regionD [⟨some 261, none, .p (.mv (.t 38))⟩,
    ⟨some 262, none, .p (.un .not (.t 261))⟩,
    ⟨some 263, none, .p (.mv (.t 262))⟩,
    ⟨some 264, some (263, false), .p (.mv (.t 40))⟩,
    ⟨some 265, some (263, false), .p (.un .not (.t 264))⟩,
    ⟨some 266, none, .p (.pick (.t 263) (.k (.c (C.bool true))) (.t 265))⟩,
    ⟨some 267, none, .p (.mv (.t 266))⟩,
    ⟨some 268, some (267, false), .h (.load 2 true (.t 28))⟩,
    ⟨some 269, some (267, false), .h (.load 2 true (.t 39))⟩,
    ⟨some 270, some (267, false), .h (.call (.f 24) [.t 268, .t 269])⟩,
    ⟨some 271, none, .p (.pick (.t 267) (.k (.c (C.bool true))) (.t 270))⟩,
    ⟨some 272, none, .p (.mv (.t 271))⟩,
    ⟨some 273, some (272, false), .p (.mv (.t 33))⟩,
    ⟨some 274, some (272, false), .p (.mv (.t 35))⟩,
    ⟨some 275, some (272, false), .p (.ixS 2 (.t 273) (.t 274))⟩,
    ⟨some 276, some (272, false), .h (.load 2 true (.t 275))⟩,
    ⟨some 277, some (272, false), .h (.load 2 true (.t 27))⟩,
    ⟨some 278, some (272, false), .p (.eqv false [.int .i64, .int .i64] (.t 276) (.t 277))⟩,
    ⟨some 279, some (272, false), .p (.mv (.t 278))⟩,
    ⟨some 280, some (279, true), .h (.load 2 true (.t 39))⟩,
    ⟨some 281, some (279, true), .h (.load 2 true (.t 28))⟩,
    ⟨some 282, some (279, true), .p (.eqv true [.int .i64, .int .i64] (.t 280) (.t 281))⟩,
    ⟨some 283, some (272, false), .p (.pick (.t 279) (.t 282) (.k (.c (C.bool false))))⟩,
    ⟨some 284, none, .p (.pick (.t 272) (.k (.c (C.bool true))) (.t 283))⟩] [3, 4, 5, 6, 9, 13, 17, 21, 25, 26, 27, 28, 33, 35, 284] [])
  (.cond (.t 284)
  (.seq (.region [⟨some 2, none, .p (.mv (.k (.c (C.bool false))))⟩] [2])
  .ret)
  .skip)))))
  (.region [⟨some 237, none, .p (.mv (.t 35))⟩,
    ⟨some 238, none, .p (.bin .add (.t 237) (.k (.c (C.int .i64 1))))⟩,
    ⟨some 35, none, .p (.mv (.t 238))⟩] [3, 4, 5, 6, 9, 13, 17, 21, 25, 26, 27, 28, 33, 35]))) [3, 4, 5, 6, 9, 13, 17, 21, 25, 26, 27, 28, 33, 35])))))
  .skip))
  (.seq (.seq (.region [⟨some 285, none, .p (.mv (.t 6))⟩,
    ⟨some 286, none, .p (.un .not (.t 285))⟩] [3, 4, 5, 9, 13, 17, 21, 286])
  (.cond (.t 286)
  (.seq (.region [⟨some 2, none, .p (.mv (.k (.c (C.bool true))))⟩] [2])
  .ret)
  .skip))
  (.seq (.seq (.region [⟨some 287, none, .p (.build [.k (C.int .i64 0), .k (C.int .i64 0)] [(0, 1, .k (.c (C.int .i64 1))), (1, 1, .k (.c (C.int .i64 1)))])⟩,
    ⟨some 288, none, .h (.load 2 true (.t 5))⟩,
    ⟨some 289, none, .h (.load 2 true (.t 9))⟩,
    ⟨some 290, none, .h (.call (.f 25) [.t 288, .t 289])⟩,
    ⟨some 291, none, .h (.call (.f 24) [.t 287, .t 290])⟩,
    ⟨some 292, none, .p (.mv (.t 291))⟩,
    ⟨some 293, some (292, false), .p (.mv (.t 21))⟩,
    ⟨some 294, some (292, false), .p (.build [.k (C.int .i64 0), .k (C.int .i64 0)] [(0, 1, .t 293), (1, 1, .k (.c (C.int .i64 1)))])⟩,
    ⟨some 295, some (292, false), .h (.load 2 true (.t 13))⟩,
    ⟨some 296, some (292, false), .h (.call (.f 24) [.t 294, .t 295])⟩,
    ⟨some 297, none, .p (.pick (.t 292) (.k (.c (C.bool true))) (.t 296))⟩,
    ⟨some 298, none, .p (.mv (.t 297))⟩,
    ⟨some 299, some (298, false), .p (.mv (.t 17))⟩,
    ⟨some 300, some (298, false), .p (.bin .lss (.t 299) (.k (.c (C.int .i64 1))))⟩,
    ⟨some 301, none, .p (.pick (.t 298) (.k (.c (C.bool true))) (.t 300))⟩] [3, 4, 5, 9, 17, 301])
  (.cond (.t 301)
  (.seq (.region [⟨some 2, none, .p (.mv (.k (.c (C.bool false))))⟩] [2])
  .ret)
  .skip))
  (.seq (.region [⟨some 303, none, .h (.load 24 true (.t 3))⟩,
    ⟨some 304, none, .h (.call (.f 21) [.t 303])⟩,
    ⟨some 302, none, .p (.mv (.t 304))⟩,
    ⟨some 305, none, .p (.ext (.t 302) 0)⟩,
    ⟨some 306, none, .p (.ext (.t 302) 1)⟩,
    ⟨some 41, none, .p (.mv (.t 305))⟩,
    ⟨some 42, none, .p (.mv (.t 306))⟩] [3, 4, 5, 9, 17, 41, 42])
  (.seq (.region [⟨some 308, none, .h (.load 24 true (.t 3))⟩,
    ⟨some 309, none, .h (.call (.f 26) [.t 308])⟩,
    ⟨some 307, none, .p (.mv (.t 309))⟩,
    ⟨some 310, none, .p (.ext (.t 307) 0)⟩,
    ⟨some 311, none, .p (.ext (.t 307) 1)⟩,
    ⟨some 43, none, .p (.mv (.t 310))⟩,
    ⟨some 44, none, .p (.mv (.t 311))⟩] [3, 4, 5, 9, 17, 41, 42, 43, 44])
  (.seq (.seq (.region [⟨some 312, none, .p (.mv (.t 42))⟩,
    ⟨some 313, none, .p (.un .not (.t 312))⟩,
    ⟨some 314, none, .p (.mv (.t 313))⟩,
    ⟨some 315, some (314, false), .p (.mv (.t 44))⟩,
    ⟨some 316, some (314, false), .p (.un .not (.t 315))⟩,
    ⟨some 317, none, .p (.pick (.t 314) (.k (.c (C.bool true))) (.t 316))⟩,
    ⟨some 318, none, .p (.mv (.t 317))⟩,
    ⟨some 319, some (318, false), .p (.mv (.t 4))⟩,
    ⟨some 320, some (318, false), .p (.bin .eql (.t 319) (.k (.c (C.int .i64 0))))⟩,
    ⟨some 321, some (318, false), .p (.mv (.t 320))⟩,
    ⟨some 322, some (321, true), .p (.mv (.t 17))⟩,
    ⟨some 323, some (321, true), .p (.bin .neq (.t 322) (.k (.c (C.int .i64 1))))⟩,
    ⟨some 324, some (321, true), .p (.mv (.t 323))⟩,
    ⟨some 325, some (324, false), .p (.ixA 2 1 (.t 5) (.k (.c (C.int .i64 0))))⟩,
    ⟨some 326, some (324, false), .h (.load 1 false (.t 325))⟩,
    ⟨some 327, some (324, false), .p (.bin .neq (.t 326) (.k (.c (C.int .i64 0))))⟩,
    ⟨some 328, some (324, false), .p (.mv (.t 327))⟩,
    ⟨some 329, some (328, true), .p (.mv (.t 43))⟩,
    ⟨some 330, some (328, true), .p (.un .not (.t 329))⟩,
    ⟨some 331, some (324, false), .p (.pick (.t 328) (.t 330) (.k (.c (C.bool false))))⟩,
    ⟨some 332, some (321, true), .p (.pick (.t 324) (.k (.c (C.bool true))) (.t 331))⟩,
    ⟨some 333, some (318, false), .p (.pick (.t 321) (.t 332) (.k (.c (C.bool false))))⟩,
    ⟨some 334, none, .p (.pick (.t 318) (.k (.c (C.bool true))) (.t 333))⟩,
    ⟨some 335, none, .p (.mv (.t 334))⟩,
    ⟨some 336, some (335, false), .p (.mv (.t 4))⟩,
    ⟨some 337, some (335, false), .p (.bin .eql (.t 336) (.k (.c (C.int .i64 1))))⟩,
    ⟨some 338, some (335, false), .p (.mv (.t 337))⟩,
    ⟨some 339, some (338, true), .p (.mv (.t 43))⟩,
    ⟨some 340, some (338, true), .p (.un .not (.t 339))⟩,
    ⟨some 341, some (335, false), .p (.pick (.t 338) (.t 340) (.k (.c (C.bool false))))⟩,
    ⟨some 342, some (335, false), .p (.mv (.t 341))⟩,
    ⟨some 343, some (342, true), .p (.mv (.t 41))⟩,
    ⟨some 344, some (342, true), .p (.len (.t 343))⟩,
    ⟨some 345, some (342, true), .p (.bin .gtr (.t 344) (.k (.c (C.int .i64 0))))⟩,
    ⟨some 346, some (335, false), .p (.pick (.t 342) (.t 345) (.k (.c (C.bool false))))⟩,
    ⟨some 347, some (335, false), .p (.mv (.t 346))⟩,
    ⟨some 348, some (347, true), .p (.mv (.t 17))⟩,
    ⟨some 349, some (347, true), .p (.mv (.t 41))⟩,
    ⟨some 350, some (347, true), .p (.len (.t 349))⟩,
    ⟨some 351, some (347, true), .p (.bin .gtr (.t 348) (.t 350))⟩,
    ⟨some 352, some (335, false), .p (.pick (.t 347) (.t 351) (.k (.c (C.bool false))))⟩,
    ⟨some 353, none, .p (.pick (.t 335) (.k (.c (C.bool true))) (.t 352))⟩] [3, 4, 5, 9, 353])
  (.cond (.t 353)
  (.seq (.region [⟨some 2, none, .p (.mv (.k (.c (C.bool false))))⟩] [2])
  .ret)
  .skip))
  (.seq (.seq (.region [⟨some 354, none, .p (.mv (.t 4))⟩,
    ⟨some 355, none, .p (.bin .gtr (.t 354) (.k (.c (C.int .i64 0))))⟩] [3, 4, 5, 9, 355])
  (.cond (.t 355)
  (.seq (.region [⟨some 357, none, .h (.load 24 true (.t 3))⟩,
    ⟨some 358, none, .p (.mv (.t 4))⟩,
    ⟨some 359, none, .p (.bin .sub (.t 358) (.k (.c (C.int .i64 1))))⟩,
    ⟨some 360, none, .h (.call (.f 7) [.t 357, .t 359])⟩,
    ⟨some 356, none, .p (.mv (.t 360))⟩,
    ⟨some 361, none, .p (.ext (.t 356) 0)⟩,
    ⟨some 362, none, .p (.ext (.t 356) 1)⟩,
    ⟨some 45, none, .p (.alloc [.k (C.int .i64 0), .k (C.int .i64 0)])⟩,
    ⟨none, none, .h (.store 2 (.t 45) (.t 361))⟩,
    ⟨some 46, none, .p (.mv (.t 362))⟩] [3, 4, 5, 9, 45, 46])
  (.seq (.region [⟨some 364, none, .h (.load 24 true (.t 3))⟩,
    ⟨some 365, none, .p (.mv (.t 4))⟩,
    ⟨some 366, none, .p (.bin .sub (.t 365) (.k (.c (C.int .i64 1))))⟩,
    ⟨some 367, none, .h (.call (.f 9) [.t 364, .t 366])⟩,
    ⟨some 363, none, .p (.mv (.t 367))⟩,
    ⟨some 368, none, .p (.ext (.t 363) 0)⟩,
    ⟨some 369, none, .p (.ext (.t 363) 1)⟩,
    ⟨some 47, none, .p (.alloc [.k (C.int .i64 0), .k (C.int .i64 0)])⟩,
    ⟨none, none, .h (.store 2 (.t 47) (.t 368))⟩,
    ⟨some 48, none, .p (.mv (.t 369))⟩] [5, 9, 45, 46, 47, 48])
  (.seq (.region [⟨some 370, none, .p (.mv (.t 46))⟩,
    ⟨some 371, none, .p (.mv (.t 370))⟩,
    ⟨some 372, some (371, true), .p (.mv (.t 48))⟩,
    ⟨some 373, none, .p (.pick (.t 371) (.t 372) (.k (.c (C.bool false))))⟩,
    ⟨some 374, none, .p (.mv (.t 373))⟩,
    ⟨some 375, some (374, true), .h (.load 2 true (.t 5))⟩,
    ⟨some 376, some (374, true), .h (.load 2 true (.t 45))⟩,
    ⟨some 377, some (374, true), .h (.call (.f 24) [.t 375, .t 376])⟩,
    ⟨some 378, some (374, true), .p (.un .not (.t 377))⟩,
    ⟨some 379, none, .p (.pick (.t 374) (.t 378) (.k (.c (C.bool false))))⟩,
    ⟨some 380, none, .p (.mv (.t 379))⟩,
    ⟨some 381, some (380, true), .h (.load 2 true (.t 9))⟩,
    ⟨some 382, some (380, true), .h (.load 2 true (.t 47))⟩,
    ⟨some 383, some (380, true), .h (.call (.f 24) [.t 381, .t 382])⟩,
    ⟨some 384, some (380, true), .p (.un .not (.t 383))⟩,
    ⟨some 385, none, .p (.pick (.t 380) (.t 384) (.k (.c (C.bool false))))⟩,
    ⟨some 2, none, .p (.mv (.t 385))⟩] [2])
  .ret)))
  .skip))
  (.seq (.region [⟨some 2, none, .p (.mv (.k (.c (C.bool true))))⟩] [2])
  .ret))))))))))))))))))))))))) }
theorem a3_ok : okFn Try.prog 3 a3 = true := by kernel_rfl
/-- loop.example/g01215/laws.FnExactCountEnds -/
def a4 : AFn := { np := 2, nt := 31, res := [.t 4], body :=
  (.seq (.region [⟨some 2, none, .p (.box 24 (.t 0))⟩,
    ⟨some 4, none, .p (.mv (.k (.c (C.bool false))))⟩] [1, 2])
  (.seq (.region [⟨some 10, none, .h (.load 24 true (.t 2))⟩,
    ⟨some 11, none, .h (.call (.f 27) [.t 10])⟩,
    ⟨some 12, none, .p (.mv (.t 1))⟩,
    ⟨some 13, none, .h (.call (.f 14) [.t 11, .t 12])⟩,
    ⟨some 9, none, .p (.mv (.t 13))⟩,
    ⟨some 14, none, .p (.ext (.t 9) 0)⟩,
    ⟨some 15, none, .p (.ext (.t 9) 1)⟩,
    ⟨some 5, none, .p (.mv (.t 14))⟩,
    ⟨some 6, none, .p (.mv (.t 15))⟩] [1, 2, 5, 6])
  (.seq (.region [⟨some 17, none, .h (.load 24 true (.t 2))⟩,
    ⟨some 18, none, .h (.call (.f 27) [.t 17])⟩,
    ⟨some 19, none, .p (.mv (.t 1))⟩,
    ⟨some 20, none, .h (.call (.f 13) [.t 18, .t 19])⟩,
    ⟨some 16, none, .p (.mv (.t 20))⟩,
    ⟨some 21, none, .p (.ext (.t 16) 0)⟩,
    ⟨some 22, none, .p (.ext (.t 16) 1)⟩,
    ⟨some 7, none, .p (.mv (.t 21))⟩,
    ⟨some 8, none, .p (.mv (.t 22))⟩] [5, 6, 7, 8])
  (.seq (.seq (.region [⟨some 23, none, .p (.mv (.t 7))⟩,
    ⟨some 24, none, .p (.mv (.t 5))⟩,
    ⟨some 25, none, .p (.bin .neq (.t 23) (.t 24))⟩,
    ⟨some 26, none, .p (.mv (.t 25))⟩,
    ⟨some 27, some (26, false), .p (.mv (.t 8))⟩,
    ⟨some 28, some (26, false), .p (.mv (.t 6))⟩,
    ⟨some 29, some (26, false), .p (.eqb true (.t 27) (.t 28))⟩,
    ⟨some 30, none, .p (.pick (.t 26) (.k (.c (C.bool true))) (.t 29))⟩] [30])
  (.cond (.t 30)
  (.seq (.region [⟨some 4, none, .p (.mv (.k (.c (C.bool false))))⟩] [4])
  .ret)
  .skip))
  (.seq (.region [⟨some 4, none, .p (.mv (.k (.c (C.bool true))))⟩] [4])
  .ret))))) }
theorem a4_ok : okFn Try.prog 4 a4 = true := by kernel_rfl
/-- loop.example/g01215/laws.vBig -/
def a5 : AFn := { np := 1, nt := 6, res := [.t 2], body :=
  (.seq (.region [⟨some 2, none, .p (.mv (.k (.c (C.bool false))))⟩] [0])
  (.seq (.region [⟨some 3, none, .p (.mv (.t 0))⟩,
    ⟨some 4, none, .p (.len (.t 3))⟩,
    ⟨some 5, none, .p (.bin .gtr (.t 4) (.k (.c (C.int .i64 65536))))⟩,
    ⟨some 2, none, .p (.mv (.t 5))⟩] [2])
  .ret)) }
theorem a5_ok : okFn Try.prog 5 a5 = true := by kernel_rfl
/-- loop.example/g01215/spec.DrawChanceSortedBy -/
def a6 : AFn := { np := 1, nt := 32, res := [.cell 2 24 true, .t 3], body :=
  (.seq (.region [⟨some 2, none, .p (.alloc (List.replicate 24 (.k (C.int .i64 0))))⟩,
    ⟨some 3, none, .p (.mv (.k (.c (C.int .i64 0))))⟩] [0, 2])
  (.seq (.region [⟨some 8, none, .p (.mv (.t 0))⟩,
    ⟨some 9, none, .p (.build [.sl 1, .k (C.int .i64 0), .k (C.int .u64 0)] [(0, 1, .t 8)])⟩,
    ⟨some 10, none, .p (.box 3 (.t 9))⟩,
    ⟨some 4, none, .p (.mv (.t 10))⟩] [0, 2, 4])
  (.seq (.seq (.region [⟨some 12, none, .p (.mv (.t 0))⟩,
    ⟨some 13, none, .h (.call (.f 29) [.t 12])⟩,
    ⟨some 14, none, .p (.ext (.t 13) 0)⟩,
    ⟨some 15, none, .p (.ext (.t 13) 1)⟩,
    ⟨some 16, none, .h (.call (.f 28) [.t 14, .t 15])⟩,
    ⟨some 11, none, .p (.mv (.t 16))⟩,
    ⟨some 17, none, .p (.ext (.t 11) 0)⟩,
    ⟨some 18, none, .p (.ext (.t 11) 1)⟩,
    ⟨some 19, none, .p (.ext (.t 11) 2)⟩,
    ⟨some 5, none, .p (.alloc (List.replicate 24 (.k (C.int .i64 0))))⟩,
    ⟨none, none, .h (.store 24 (.t 5) (.t 17))⟩,
    ⟨some 6, none, .p (.mv (.t 18))⟩,
    ⟨some 7, none, .p (.mv (.t 19))⟩] [2, 4, 5, 7])
  (.seq (.region [⟨some 20, none, .p (.mv (.t 7))⟩,
    ⟨some 21, none, .p (.mv (.t 20))⟩,
    ⟨some 22, some (21, true), .p (.mv (.t 4))⟩,
    ⟨some 23, some (21, true), .h (.call (.f 30) [.t 22, .k (.c (C.int .i64 2))])⟩,
    ⟨some 24, none, .p (.pick (.t 21) (.t 23) (.k (.c (C.bool false))))⟩] [2, 4, 5, 24])
  (.cond (.t 24)
  (.seq (.regionE [⟨some 25, none, .h (.load 24 true (.t 5))⟩,
    ⟨some 26, none, .p (.mv (.t 4))⟩,
    ⟨some 27, none, .h (.call (.f 31) [.t 26])⟩,
    ⟨none, none, .h (.store 24 (.t 2) (.t 25))⟩,
    ⟨some 3, none, .p (.mv (.t 27))⟩] [2, 3] [] [[], [], [2, 1000005]])
  .ret)
  .skip)))
  (.seq (.region [⟨some 28, none, .p (.mv (.t 4))⟩,
    ⟨some 29, none, .h (.call (.f 32) [.t 28])⟩,
    ⟨some 30, none, .p (.mv (.t 4))⟩,
    ⟨some 31, none, .h (.call (.f 31) [.t 30])⟩,
    ⟨none, none, .h (.store 24 (.t 2) (.t 29))⟩,
    ⟨some 3, none, .p (.mv (.t 31))⟩] [2, 3])
  .ret)))) }
theorem a6_ok : okFn Try.prog 6 a6 = true := by kernel_rfl
/-- loop.example/g01215/impl.ChanceSortedBy -/
def a7 : AFn := { np := 2, nt := 14, res := [.cell 4 2 true, .t 5], body :=
  (.seq (.region [⟨some 2, none, .p (.box 24 (.t 0))⟩,
    ⟨some 4, none, .p (.alloc [.k (C.int .i64 0), .k (C.int .i64 0)])⟩,
    ⟨some 5, none, .p (.mv (.k (.c (C.bool false))))⟩] [1, 2, 4])
  (.seq (.seq (.region [⟨some 6, none, .h (.load 24 true (.t 2))⟩,
    ⟨some 7, none, .p (.mv (.t 1))⟩,
    ⟨some 8, none, .h (.call (.f 33) [.t 6, .t 7, .k (.c (C.int .i64 2))])⟩,
    ⟨some 9, none, .p (.un .not (.t 8))⟩] [1, 2, 4, 9])
  (.cond (.t 9)
  (.seq (.region [⟨some 10, none, .p (.build [.k (C.int .i64 0), .k (C.int .i64 0)] [])⟩,
    ⟨none, none, .h (.store 2 (.t 4) (.t 10))⟩,
    ⟨some 5, none, .p (.mv (.k (.c (C.bool false))))⟩] [4, 5])
  .ret)
  .skip))
  (.seq (.region [⟨some 11, none, .h (.load 24 true (.t 2))⟩,
    ⟨some 12, none, .p (.mv (.t 1))⟩,
    ⟨some 13, none, .h (.call (.f 34) [.t 11, .t 12])⟩,
    ⟨none, none, .h (.store 2 (.t 4) (.t 13))⟩,
    ⟨some 5, none, .p (.mv (.k (.c (C.bool true))))⟩] [4, 5])
  .ret))) }
theorem a7_ok : okFn Try.prog 7 a7 = true := by kernel_rfl
/-- loop.example/g01215/spec.ChanceSortedBy -/
def a8 : AFn := { np := 2, nt := 14, res := [.cell 4 2 true, .t 5], body :=
  (.seq (.region [⟨some 2, none, .p (.box 24 (.t 0))⟩,
    ⟨some 4, none, .p (.alloc [.k (C.int .i64 0), .k (C.int .i64 0)])⟩,
    ⟨some 5, none, .p (.mv (.k (.c (C.bool false))))⟩] [1, 2, 4])
  (.seq (.seq (.region [⟨some 6, none, .h (.load 24 true (.t 2))⟩,
    ⟨some 7, none, .p (.mv (.t 1))⟩,
    ⟨some 8, none, .h (.call (.f 35) [.t 6, .t 7])⟩,
    ⟨some 9, none, .p (.un .not (.t 8))⟩] [1, 2, 4, 9])
  (.cond (.t 9)
  (.seq (.region [⟨some 10, none, .p (.build [.k (C.int .i64 0), .k (C.int .i64 0)] [])⟩,
    ⟨none, none, .h (.store 2 (.t 4) (.t 10))⟩,
    ⟨some 5, none, .p (.mv (.k (.c (C.bool false))))⟩] [4, 5])
  .ret)
  .skip))
  (.seq (.region [⟨some 11, none, .h (.load 24 true (.t 2))⟩,
    ⟨some 12, none, .p (.mv (.t 1))⟩,
    ⟨some 13, none, .h (.call (.f 36) [.t 11, .t 12, .k (.c (C.int .i64 1))])⟩,
    ⟨none, none, .h (.store 2 (.t 4) (.t 13))⟩,
    ⟨some 5, none, .p (.mv (.k (.c (C.bool true))))⟩] [4, 5])
  .ret))) }
theorem a8_ok : okFn Try.prog 8 a8 = true := by kernel_rfl
/-- loop.example/g01215/impl.ChanceStuckBy -/
def a9 : AFn := { np := 2, nt := 14, res := [.cell 4 2 true, .t 5], body :=
  (.seq (.region [⟨some 2, none, .p (.box 24 (.t 0))⟩,
    ⟨some 4, none, .p (.alloc [.k (C.int .i64 0), .k (C.int .i64 0)])⟩,
    ⟨some 5, none, .p (.mv (.k (.c (C.bool false))))⟩] [1, 2, 4])
  (.seq (.seq (.region [⟨some 6, none, .h (.load 24 true (.t 2))⟩,
    ⟨some 7, none, .p (.mv (.t 1))⟩,
    ⟨some 8, none, .h (.call (.f 33) [.t 6, .t 7, .k (.c (C.int .i64 2))])⟩,
    ⟨some 9, none, .p (.un .not (.t 8))⟩] [1, 2, 4, 9])
  (.cond (.t 9)
  (.seq (.region [⟨some 10, none, .p (.build [.k (C.int .i64 0), .k (C.int .i64 0)] [])⟩,
    ⟨none, none, .h (.store 2 (.t 4) (.t 10))⟩,
    ⟨some 5, none, .p (.mv (.k (.c (C.bool false))))⟩] [4, 5])
  .ret)
  .skip))
  (.seq (.region [⟨some 11, none, .h (.load 24 true (.t 2))⟩,
    ⟨some 12, none, .p (.mv (.t 1))⟩,
    ⟨some 13, none, .h (.call (.f 37) [.t 11, .t 12, .f 38])⟩,
    ⟨none, none, .h (.store 2 (.t 4) (.t 13))⟩,
    ⟨some 5, none, .p (.mv (.k (.c (C.bool true))))⟩] [4, 5])
  .ret))) }
theorem a9_ok : okFn Try.prog 9 a9 = true := by kernel_rfl
/-- loop.example/g01215/spec.ChanceStuckBy -/
def a10 : AFn := { np := 2, nt := 14, res := [.cell 4 2 true, .t 5], body :=
  (.seq (.region [⟨some 2, none, .p (.box 24 (.t 0))⟩,
    ⟨some 4, none, .p (.alloc [.k (C.int .i64 0), .k (C.int .i64 0)])⟩,
    ⟨some 5, none, .p (.mv (.k (.c (C.bool false))))⟩] [1, 2, 4])
  (.seq (.seq (.region [⟨some 6, none, .h (.load 24 true (.t 2))⟩,
    ⟨some 7, none, .p (.mv (.t 1))⟩,
    ⟨some 8, none, .h (.call (.f 35) [.t 6, .t 7])⟩,
    ⟨some 9, none, .p (.un .not (.t 8))⟩] [1, 2, 4, 9])
  (.cond (.t 9)
  (.seq (.region [⟨some 10, none, .p (.build [.k (C.int .i64 0), .k (C.int .i64 0)] [])⟩,
    ⟨none, none, .h (.store 2 (.t 4) (.t 10))⟩,
    ⟨some 5, none, .p (.mv (.k (.c (C.bool false))))⟩] [4, 5])
  .ret)
  .skip))
  (.seq (.region [⟨some 11, none, .h (.load 24 true (.t 2))⟩,
    ⟨some 12, none, .p (.mv (.t 1))⟩,
    ⟨some 13, none, .h (.call (.f 36) [.t 11, .t 12, .k (.c (C.int .i64 2))])⟩,
    ⟨none, none, .h (.store 2 (.t 4) (.t 13))⟩,
    ⟨some 5, none, .p (.mv (.k (.c (C.bool true))))⟩] [4, 5])
  .ret))) }
theorem a10_ok : okFn Try.prog 10 a10 = true := by kernel_rfl
/-- loop.example/g01215/impl.MeanRunsBehind -/
def a11 : AFn := { np := 2, nt := 14, res := [.cell 4 2 true, .t 5], body :=
  (.seq (.region [⟨some 2, none, .p (.box 24 (.t 0))⟩,
    ⟨some 4, none, .p (.alloc [.k (C.int .i64 0), .k (C.int .i64 0)])⟩,
    ⟨some 5, none, .p (.mv (.k (.c (C.bool false))))⟩] [1, 2, 4])
  (.seq (.seq (.region [⟨some 6, none, .h (.load 24 true (.t 2))⟩,
    ⟨some 7, none, .p (.mv (.t 1))⟩,
    ⟨some 8, none, .h (.call (.f 33) [.t 6, .t 7, .k (.c (C.int .i64 2))])⟩,
    ⟨some 9, none, .p (.un .not (.t 8))⟩] [1, 2, 4, 9])
  (.cond (.t 9)
  (.seq (.region [⟨some 10, none, .p (.build [.k (C.int .i64 0), .k (C.int .i64 0)] [])⟩,
    ⟨none, none, .h (.store 2 (.t 4) (.t 10))⟩,
    ⟨some 5, none, .p (.mv (.k (.c (C.bool false))))⟩] [4, 5])
  .ret)
  .skip))
  (.seq (.region [⟨some 11, none, .h (.load 24 true (.t 2))⟩,
    ⟨some 12, none, .p (.mv (.t 1))⟩,
    ⟨some 13, none, .h (.call (.f 37) [.t 11, .t 12, .f 40])⟩,
    ⟨none, none, .h (.store 2 (.t 4) (.t 13))⟩,
    ⟨some 5, none, .p (.mv (.k (.c (C.bool true))))⟩] [4, 5])
  .ret))) }
theorem a11_ok : okFn Try.prog 11 a11 = true := by kernel_rfl
/-- loop.example/g01215/spec.MeanRunsBehind -/
def a12 : AFn := { np := 2, nt := 14, res := [.cell 4 2 true, .t 5], body :=
  (.seq (.region [⟨some 2, none, .p (.box 24 (.t 0))⟩,
    ⟨some 4, none, .p (.alloc [.k (C.int .i64 0), .k (C.int .i64 0)])⟩,
    ⟨some 5, none, .p (.mv (.k (.c (C.bool false))))⟩] [1, 2, 4])
  (.seq (.seq (.region [⟨some 6, none, .h (.load 24 true (.t 2))⟩,
    ⟨some 7, none, .p (.mv (.t 1))⟩,
    ⟨some 8, none, .h (.call (.f 35) [.t 6, .t 7])⟩,
    ⟨some 9, none, .p (.un .not (.t 8))⟩] [1, 2, 4, 9])
  (.cond (.t 9)
  (.seq (.region [⟨some 10, none, .p (.build [.k (C.int .i64 0), .k (C.int .i64 0)] [])⟩,
    ⟨none, none, .h (.store 2 (.t 4) (.t 10))⟩,
    ⟨some 5, none, .p (.mv (.k (.c (C.bool false))))⟩] [4, 5])
  .ret)
  .skip))
  (.seq (.region [⟨some 11, none, .h (.load 24 true (.t 2))⟩,
    ⟨some 12, none, .p (.mv (.t 1))⟩,
    ⟨some 13, none, .h (.call (.f 36) [.t 11, .t 12, .k (.c (C.int .i64 3))])⟩,
    ⟨none, none, .h (.store 2 (.t 4) (.t 13))⟩,
    ⟨some 5, none, .p (.mv (.k (.c (C.bool true))))⟩] [4, 5])
  .ret))) }
theorem a12_ok : okFn Try.prog 12 a12 = true := by kernel_rfl
/-- loop.example/g01215/spec.CountEnds -/
def a14 : AFn := { np := 2, nt := 14, res := [.t 4, .t 5], body :=
  (.seq (.region [⟨some 2, none, .p (.box 24 (.t 0))⟩,
    ⟨some 4, none, .p (.mv (.k (.c (C.int .i64 0))))⟩,
    ⟨some 5, none, .p (.mv (.k (.c (C.bool false))))⟩] [1, 2])
  (.seq (.seq (.region [⟨some 6, none, .h (.load 24 true (.t 2))⟩,
    ⟨some 7, none, .p (.mv (.t 1))⟩,
    ⟨some 8, none, .h (.call (.f 35) [.t 6, .t 7])⟩,
    ⟨some 9, none, .p (.un .not (.t 8))⟩] [1, 2, 9])
  (.cond (.t 9)
  (.seq (.region [⟨some 4, none, .p (.mv (.k (.c (C.int .i64 0))))⟩,
    ⟨some 5, none, .p (.mv (.k (.c (C.bool false))))⟩] [4, 5])
  .ret)
  .skip))
  (.seq (.region [⟨some 10, none, .h (.load 24 true (.t 2))⟩,
    ⟨some 11, none, .p (.mv (.t 1))⟩,
    ⟨some 12, none, .h (.call (.f 44) [.t 10, .t 11])⟩,
    ⟨some 13, none, .p (.len (.t 12))⟩,
    ⟨some 4, none, .p (.mv (.t 13))⟩,
    ⟨some 5, none, .p (.mv (.k (.c (C.bool true))))⟩] [4, 5])
  .ret))) }
theorem a14_ok : okFn Try.prog 14 a14 = true := by kernel_rfl
/-- loop.example/g01215/impl.CountRuns -/
def a15 : AFn := { np := 1, nt := 9, res := [.t 2, .t 3], body :=
  (.seq (.region [⟨some 1, none, .p (.box 24 (.t 0))⟩,
    ⟨some 2, none, .p (.mv (.k (.c (C.int .i64 0))))⟩,
    ⟨some 3, none, .p (.mv (.k (.c (C.bool false))))⟩] [1])
  (.seq (.seq (.region [⟨some 4, none, .h (.load 24 true (.t 1))⟩,
    ⟨some 5, none, .h (.call (.f 45) [.t 4])⟩,
    ⟨some 6, none, .p (.un .not (.t 5))⟩] [1, 6])
  (.cond (.t 6)
  (.seq (.region [⟨some 2, none, .p (.mv (.k (.c (C.int .i64 0))))⟩,
    ⟨some 3, none, .p (.mv (.k (.c (C.bool false))))⟩] [2, 3])
  .ret)
  .skip))
  (.seq (.region [⟨some 7, none, .h (.load 24 true (.t 1))⟩,
    ⟨some 8, none, .h (.call (.f 40) [.t 7])⟩,
    ⟨some 2, none, .p (.mv (.t 8))⟩,
    ⟨some 3, none, .p (.mv (.k (.c (C.bool true))))⟩] [2, 3])
  .ret))) }
theorem a15_ok : okFn Try.prog 15 a15 = true := by kernel_rfl
/-- loop.example/g01215/spec.CountRuns -/
def a16 : AFn := { np := 1, nt := 9, res := [.t 2, .t 3], body :=
  (.seq (.region [⟨some 1, none, .p (.box 24 (.t 0))⟩,
    ⟨some 2, none, .p (.mv (.k (.c (C.int .i64 0))))⟩,
    ⟨some 3, none, .p (.mv (.k (.c (C.bool false))))⟩] [1])
  (.seq (.seq (.region [⟨some 4, none, .h (.load 24 true (.t 1))⟩,
    ⟨some 5, none, .h (.call (.f 46) [.t 4])⟩,
    ⟨some 6, none, .p (.un .not (.t 5))⟩] [1, 6])
  (.cond (.t 6)
  (.seq (.region [⟨some 2, none, .p (.mv (.k (.c (C.int .i64 0))))⟩,
    ⟨some 3, none, .p (.mv (.k (.c (C.bool false))))⟩] [2, 3])
  .ret)
  .skip))
  (.seq (.region [⟨some 7, none, .h (.load 24 true (.t 1))⟩,
    ⟨some 8, none, .h (.call (.f 47) [.t 7])⟩,
    ⟨some 2, none, .p (.mv (.t 8))⟩,
    ⟨some 3, none, .p (.mv (.k (.c (C.bool true))))⟩] [2, 3])
  .ret))) }
theorem a16_ok : okFn Try.prog 16 a16 = true := by kernel_rfl
/-- loop.example/g01215/spec.DrawBestChance -/
def a17 : AFn := { np := 1, nt := 24, res := [.cell 2 24 true, .t 3], body :=
  (.seq (.region [⟨some 2, none, .p (.alloc (List.replicate 24 (.k (C.int .i64 0))))⟩,
    ⟨some 3, none, .p (.mv (.k (.c (C.int .i64 0))))⟩] [0, 2])
  (.seq (.region [⟨some 7, none, .p (.mv (.t 0))⟩,
    ⟨some 8, none, .p (.build [.sl 1, .k (C.int .i64 0), .k (C.int .u64 0)] [(0, 1, .t 7)])⟩,
    ⟨some 9, none, .p (.box 3 (.t 8))⟩,
    ⟨some 4, none, .p (.mv (.t 9))⟩] [0, 2, 4])
  (.seq (.region [⟨some 11, none, .p (.mv (.t 0))⟩,
    ⟨some 12, none, .h (.call (.f 6) [.t 11])⟩,
    ⟨some 10, none, .p (.mv (.t 12))⟩,
    ⟨some 13, none, .p (.ext (.t 10) 0)⟩,
    ⟨some 14, none, .p (.ext (.t 10) 1)⟩,
    ⟨some 5, none, .p (.alloc (List.replicate 24 (.k (C.int .i64 0))))⟩,
    ⟨none, none, .h (.store 24 (.t 5) (.t 13))⟩,
    ⟨some 6, none, .p (.mv (.t 14))⟩] [2, 4, 5])
  (.seq (.regionE [⟨some 15, none, .h (.load 24 true (.t 5))⟩,
    ⟨some 16, none, .p (.mv (.t 4))⟩,
    ⟨some 17, none, .p (.mksl 1 5 [.k (C.int .i64 0)] [(0, 1, .k (.c (C.int .i64 1))), (1, 1, .k (.c (C.int .i64 0))), (2, 1, .k (.c (C.int .i64 1))), (3, 1, .k (.c (C.int .i64 2))), (4, 1, .k (.c (C.int .i64 (-1))))])⟩,
    ⟨some 18, none, .p (.mv (.t 4))⟩,
    ⟨some 19, none, .h (.call (.f 49) [.t 18, .k (.c (C.int .i64 24))])⟩,
    ⟨some 20, none, .p (.bin .quo (.t 19) (.k (.c (C.int .i64 11))))⟩,
    ⟨some 21, none, .p (.bin .add (.k (.c (C.int .i64 3))) (.t 20))⟩,
    ⟨some 22, none, .p (.slS 1 (.t 17) none (some (.t 21)))⟩,
    ⟨some 23, none, .h (.call (.f 48) [.t 16, .t 22])⟩,
    ⟨none, none, .h (.store 24 (.t 2) (.t 15))⟩,
    ⟨some 3, none, .p (.mv (.t 23))⟩] [2, 3] [] [[], [], [], [], [4, 1000005], [], [], [], [2, 4, 8, 1000005]])
  .ret)))) }
theorem a17_ok : okFn Try.prog 17 a17 = true := by kernel_rfl
/-- loop.example/g01215/laws.vCut -/
def a18 : AFn := { np := 2, nt := 20, res := [.t 4], body :=
  (.seq (.region [⟨some 4, none, .p (.nilsl 1)⟩] [0, 1])
  (.seq (.seq (.region [⟨some 5, none, .p (.mv (.t 1))⟩,
    ⟨some 6, none, .p (.mv (.t 0))⟩,
    ⟨some 7, none, .p (.len (.t 6))⟩,
    ⟨some 8, none, .p (.bin .gtr (.t 5) (.t 7))⟩] [0, 1, 8])
  (.cond (.t 8)
  (.region [⟨some 9, none, .p (.mv (.t 0))⟩,
    ⟨some 10, none, .p (.len (.t 9))⟩,
    ⟨some 1, none, .p (.mv (.t 10))⟩] [0, 1])
  .skip))
  (.seq (.region [⟨some 11, none, .p (.mksl 1 0 [.k (C.int .u8 0)] [])⟩,
    ⟨some 12, none, .p (.mv (.t 0))⟩,
    ⟨some 13, none, .p (.mv (.t 1))⟩,
    ⟨some 14, none, .p (.slS 1 (.t 12) (some (.t 13)) none)⟩,
    ⟨some 15, none, .h (.app 1 (.t 11) (.t 14))⟩,
    ⟨some 16, none, .p (.mv (.t 1))⟩,
    ⟨some 17, none, .p (.conv .u8 (.t 16))⟩,
    ⟨some 18, none, .p (.mksl 1 1 [.k (C.int .u8 0)] [(0, 1, .t 17)])⟩,
    ⟨some 19, none, .h (.app 1 (.t 15) (.t 18))⟩,
    ⟨some 4, none, .p (.mv (.t 19))⟩] [4])
  .ret))) }
theorem a18_ok : okFn Try.prog 18 a18 = true := by kernel_rfl
/-- loop.example/g01215/impl.BestChance -/
def a19 : AFn := { np := 2, nt := 60, res := [.cell 4 2 true, .cell 5 2 true, .t 6], body :=
  (.seq (.region [⟨some 2, none, .p (.box 24 (.t 0))⟩,
    ⟨some 4, none, .p (.alloc [.k (C.int .i64 0), .k (C.int .i64 0)])⟩,
    ⟨some 5, none, .p (.alloc [.k (C.int .i64 0), .k (C.int .i64 0)])⟩,
    ⟨some 6, none, .p (.mv (.k (.c (C.bool false))))⟩] [1, 2, 4, 5])
  (.seq (.seq (.region [⟨some 14, none, .h (.load 24 true (.t 2))⟩,
    ⟨some 15, none, .p (.mv (.t 1))⟩,
    ⟨some 16, none, .h (.call (.f 33) [.t 14, .t 15, .k (.c (C.int .i64 1))])⟩,
    ⟨some 17, none, .p (.un .not (.t 16))⟩,
    ⟨some 18, none, .p (.mv (.t 17))⟩,
    ⟨some 19, some (18, false), .h (.load 24 true (.t 2))⟩,
    ⟨some 20, some (18, false), .h (.call (.f 41) [.t 19])⟩,
    ⟨some 21, none, .p (.pick (.t 18) (.k (.c (C.bool true))) (.t 20))⟩] [1, 2, 4, 5, 21])
  (.cond (.t 21)
  (.seq (.region [⟨some 22, none, .p (.build [.k (C.int .i64 0), .k (C.int .i64 0)] [])⟩,
    ⟨some 23, none, .p (.build [.k (C.int .i64 0), .k (C.int .i64 0)] [])⟩,
    ⟨none, none, .h (.store 2 (.t 4) (.t 22))⟩,
    ⟨none, none, .h (.store 2 (.t 5) (.t 23))⟩,
    ⟨some 6, none, .p (.mv (.k (.c (C.bool false))))⟩] [4, 5, 6])
  .ret)
  .skip))
  (.seq (.region [⟨some 7, none, .p (.alloc [.k (C.int .i64 0), .k (C.int .i64 0)])⟩] [1, 2, 4, 5, 7])
  (.seq (.region [⟨some 24, none, .p (.build [.k (C.int .i64 0), .k (C.int .i64 0)] [(0, 1, .k (.c (C.int .i64 (-1)))), (1, 1, .k (.c (C.int .i64 1)))])⟩,
    ⟨some 8, none, .p (.alloc [.k (C.int .i64 0), .k (C.int .i64 0)])⟩,
    ⟨none, none, .h (.store 2 (.t 8) (.t 24))⟩] [1, 2, 4, 5, 7, 8])
  (.seq (.seq (.region [⟨some 25, none, .h (.load 24 true (.t 2))⟩,
    ⟨some 26, none, .h (.call (.f 42) [.t 25])⟩,
    ⟨some 27, none, .p (.len (.t 26))⟩,
    ⟨some 28, none, .p (.mv (.k (.c (C.int .i64 0))))⟩] [1, 2, 4, 5, 7, 8, 26, 27, 28])
  (.block 0 (.loop (.seq (.region [⟨some 29, none, .p (.bin .lss (.t 28) (.t 27))⟩] [1, 2, 4, 5, 7, 8, 26, 27, 28, 29])
  (.seq (.cond (.t 29)
  .skip
  (.exit 0))
  (.seq (.block 1 (.seq (.region [⟨some 30, none, .p (.ixS 2 (.t 26) (.t 28))⟩,
    ⟨some 31, none, .h (.load 2 true (.t 30))⟩,
    ⟨some 10, none, .p (.alloc [.k (C.int .i64 0), .k (C.int .i64 0)])⟩,
    ⟨none, none, .h (.store 2 (.t 10) (.t 31))⟩] [1, 2, 4, 5, 7, 8, 10, 26, 27, 28])
  (.seq (.region [⟨some 33, none, .h (.load 24 true (.t 2))⟩,
    ⟨some 34, none, .p (.ixA 2 1 (.t 10) (.k (.c (C.int .i64 0))))⟩,
    ⟨some 35, none, .h (.load 1 false (.t 34))⟩,
    ⟨some 36, none, .p (.ixA 2 1 (.t 10) (.k (.c (C.int .i64 1))))⟩,
    ⟨some 37, none, .h (.load 1 false (.t 36))⟩,
    ⟨some 38, none, .h (.call (.f 43) [.t 33, .t 35, .t 37])⟩,
    ⟨some 32, none, .p (.mv (.t 38))⟩,
    ⟨some 39, none, .p (.ext (.t 32) 0)⟩,
    ⟨some 40, none, .p (.ext (.t 32) 1)⟩,
    ⟨some 11, none, .p (.alloc (List.replicate 24 (.k (C.int .i64 0))))⟩,
    ⟨none, none, .h (.store 24 (.t 11) (.t 39))⟩,
    ⟨some 12, none, .p (.mv (.t 40))⟩] [1, 2, 4, 5, 7, 8, 10, 11, 26, 27, 28])
  (.seq (.region [⟨some 41, none, .h (.load 24 true (.t 11))⟩,
    ⟨some 42, none, .p (.mv (.t 1))⟩,
    ⟨some 43, none, .h (.call (.f 34) [.t 41, .t 42])⟩,
    ⟨some 13, none, .p (.alloc [.k (C.int .i64 0), .k (C.int .i64 0)])⟩,
    ⟨none, none, .h (.store 2 (.t 13) (.t 43))⟩] [1, 2, 4, 5, 7, 8, 10, 13, 26, 27, 28])
  (.seq (.region [⟨some 44, none, .p (.ixA 2 1 (.t 13) (.k (.c (C.int .i64 0))))⟩,
    ⟨some 45, none, .h (.load 1 false (.t 44))⟩,
    ⟨some 46, none, .p (.ixA 2 1 (.t 8) (.k (.c (C.int .i64 1))))⟩,
    ⟨some 47, none, .h (.load 1 false (.t 46))⟩,
    ⟨some 48, none, .p (.bin .mul (.t 45) (.t 47))⟩,
    ⟨some 49, none, .p (.ixA 2 1 (.t 8) (.k (.c (C.int .i64 0))))⟩,
    ⟨some 50, none, .h (.load 1 false (.t 49))⟩,
    ⟨some 51, none, .p (.ixA 2 1 (.t 13) (.k (.c (C.int .i64 1))))⟩,
    ⟨some 52, none, .h (.load 1 false (.t 51))⟩,
    ⟨some 53, none, .p (.bin .mul (.t 50) (.t 52))⟩,
    ⟨some 54, none, .p (.bin .gtr (.t 48) (.t 53))⟩] [1, 2, 4, 5, 7, 8, 10, 13, 26, 27, 28, 54])
  (.cond (.t 54)
  (.regionD [⟨some 55, none, .h (.load 2 true (.t 10))⟩,
    ⟨some 56, none, .h (.load 2 true (.t 13))⟩,
    ⟨none, none, .h (.store 2 (.t 7) (.t 55))⟩,
    ⟨none, none, .h (.store 2 (.t 8) (.t 56))⟩] [1, 2, 4, 5, 7, 8, 26, 27, 28] [(.t 13, .t 7)])
  .skip))))))
  (.region [⟨some 57, none, .p (.bin .add (.t 28) (.k (.c (C.int .i64 1))))⟩,
    ⟨some 28, none, .p (.mv (.t 57))⟩] [1, 2, 4, 5, 7, 8, 26, 27, 28])))) [1, 2, 4, 5, 7, 8, 26, 27, 28])))
  (.seq (.regionD [⟨some 58, none, .h (.load 2 true (.t 7))⟩,
    ⟨some 59, none, .h (.load 2 true (.t 8))⟩,
    ⟨none, none, .h (.store 2 (.t 4) (.t 58))⟩,
    ⟨none, none, .h (.store 2 (.t 5) (.t 59))⟩,
    ⟨some 6, none, .p (.mv (.k (.c (C.bool true))))⟩] [4, 5, 6] [(.t 8, .t 4)])
  .ret)))))) }
theorem a19_ok : okFn Try.prog 19 a19 = true := by kernel_rfl
/-- loop.example/g01215/spec.BestChance -/
def a20 : AFn := { np := 2, nt := 78, res := [.cell 4 2 true, .cell 5 2 true, .t 6], body :=
  (.seq (.region [⟨some 2, none, .p (.box 24 (.t 0))⟩,
    ⟨some 4, none, .p (.alloc [.k (C.int .i64 0), .k (C.int .i64 0)])⟩,
    ⟨some 5, none, .p (.alloc [.k (C.int .i64 0), .k (C.int .i64 0)])⟩,
    ⟨some 6, none, .p (.mv (.k (.c (C.bool false))))⟩] [1, 2, 4, 5])
  (.seq (.seq (.region [⟨some 14, none, .h (.load 24 true (.t 2))⟩,
    ⟨some 15, none, .h (.call (.f 46) [.t 14])⟩,
    ⟨some 16, none, .p (.un .not (.t 15))⟩,
    ⟨some 17, none, .p (.mv (.t 16))⟩,
    ⟨some 18, some (17, false), .p (.mv (.t 1))⟩,
    ⟨some 19, some (17, false), .h (.call (.f 50) [.t 18, .k (.c (C.int .i64 0)), .k (.c (C.int .i64 1))])⟩,
    ⟨some 20, some (17, false), .p (.un .not (.t 19))⟩,
    ⟨some 21, none, .p (.pick (.t 17) (.k (.c (C.bool true))) (.t 20))⟩,
    ⟨some 22, none, .p (.mv (.t 21))⟩,
    ⟨some 23, some (22, false), .h (.load 24 true (.t 2))⟩,
    ⟨some 24, some (22, false), .h (.call (.f 51) [.t 23])⟩,
    ⟨some 25, some (22, false), .p (.len (.t 24))⟩,
    ⟨some 26, some (22, false), .p (.bin .eql (.t 25) (.k (.c (C.int .i64 0))))⟩,
    ⟨some 27, none, .p (.pick (.t 22) (.k (.c (C.bool true))) (.t 26))⟩] [1, 2, 4, 5, 27])
  (.cond (.t 27)
  (.seq (.region [⟨some 28, none, .p (.build [.k (C.int .i64 0), .k (C.int .i64 0)] [])⟩,
    ⟨some 29, none, .p (.build [.k (C.int .i64 0), .k (C.int .i64 0)] [])⟩,
    ⟨none, none, .h (.store 2 (.t 4) (.t 28))⟩,
    ⟨none, none, .h (.store 2 (.t 5) (.t 29))⟩,
    ⟨some 6, none, .p (.mv (.k (.c (C.bool false))))⟩] [4, 5, 6])
  .ret)
  .skip))
  (.seq (.region [⟨some 30, none, .h (.load 24 true (.t 2))⟩,
    ⟨some 31, none, .h (.call (.f 51) [.t 30])⟩,
    ⟨some 7, none, .p (.mv (.t 31))⟩] [1, 2, 4, 5, 7])
  (.seq (.region [⟨some 32, none, .p (.mv (.t 7))⟩,
    ⟨some 33, none, .p (.ixS 2 (.t 32) (.k (.c (C.int .i64 0))))⟩,
    ⟨some 34, none, .h (.load 2 true (.t 33))⟩,
    ⟨some 35, none, .p (.build [.k (C.int .i64 0), .k (C.int .i64 0)] [(0, 1, .k (.c (C.int .i64 (-1)))), (1, 1, .k (.c (C.int .i64 1)))])⟩,
    ⟨some 8, none, .p (.alloc [.k (C.int .i64 0), .k (C.int .i64 0)])⟩,
    ⟨some 9, none, .p (.alloc [.k (C.int .i64 0), .k (C.int .i64 0)])⟩,
    ⟨none, none, .h (.store 2 (.t 8) (.t 34))⟩,
    ⟨none, none, .h (.store 2 (.t 9) (.t 35))⟩] [1, 2, 4, 5, 7, 8, 9])
  (.seq (.seq (.region [⟨some 10, none, .p (.mv (.k (.c (C.int .i64 0))))⟩] [1, 2, 4, 5, 7, 8, 9, 10])
  (.block 0 (.loop (.seq (.seq (.region [⟨some 36, none, .p (.mv (.t 10))⟩,
    ⟨some 37, none, .p (.mv (.t 7))⟩,
    ⟨some 38, none, .p (.len (.t 37))⟩,
    ⟨some 39, none, .p (.bin .lss (.t 36) (.t 38))⟩] [1, 2, 4, 5, 7, 8, 9, 10, 39])
  (.cond (.t 39)
  .skip
  (.exit 0)))
  (.seq (.block 1 (.seq (.regionD [⟨some 43, none, .h (.load 24 true (.t 2))⟩,
    ⟨some 44, none, .p (.mv (.t 7))⟩,
    ⟨some 45, none, .p (.mv (.t 10))⟩,
    ⟨some 46, none, .p (.ixS 2 (.t 44) (.t 45))⟩,
    ⟨some 47, none, .p (.ixA 2 1 (.t 46) (.k (.c (C.int .i64 0))))⟩,
    ⟨some 48, none, .h (.load 1 false (.t 47))⟩,
    ⟨some 49, none, .p (.mv (.t 7))⟩,
    ⟨some 50, none, .p (.mv (.t 10))⟩,
    ⟨some 51, none, .p (.ixS 2 (.t 49) (.t 50))⟩,
    ⟨some 52, none, .p (.ixA 2 1 (.t 51) (.k (.c (C.int .i64 1))))⟩,
    ⟨some 53, none, .h (.load 1 false (.t 52))⟩,
    ⟨some 54, none, .h (.call (.f 52) [.t 43, .t 48, .t 53])⟩,
    ⟨some 42, none, .p (.mv (.t 54))⟩,
    ⟨some 55, none, .p (.ext (.t 42) 0)⟩,
    ⟨some 56, none, .p (.ext (.t 42) 1)⟩,
    ⟨some 11, none, .p (.alloc (List.replicate 24 (.k (C.int .i64 0))))⟩,
    ⟨none, none, .h (.store 24 (.t 11) (.t 55))⟩,
    ⟨some 12, none, .p (.mv (.t 56))⟩] [1, 2, 4, 5, 7, 8, 9, 10, 11] [])
  (.seq (.region [⟨some 57, none, .h (.load 24 true (.t 11))⟩,
    ⟨some 58, none, .p (.mv (.t 1))⟩,
    ⟨some 59, none, .h (.call (.f 36) [.t 57, .t 58, .k (.c (C.int .i64 1))])⟩,
    ⟨some 13, none, .p (.alloc [.k (C.int .i64 0), .k (C.int .i64 0)])⟩,
    ⟨none, none, .h (.store 2 (.t 13) (.t 59))⟩] [1, 2, 4, 5, 7, 8, 9, 10, 13])
  (.seq (.region [⟨some 60, none, .p (.ixA 2 1 (.t 9) (.k (.c (C.int .i64 0))))⟩,
    ⟨some 61, none, .h (.load 1 false (.t 60))⟩,
    ⟨some 62, none, .p (.ixA 2 1 (.t 13) (.k (.c (C.int .i64 1))))⟩,
    ⟨some 63, none, .h (.load 1 false (.t 62))⟩,
    ⟨some 64, none, .p (.bin .mul (.t 61) (.t 63))⟩,
    ⟨some 65, none, .p (.ixA 2 1 (.t 13) (.k (.c (C.int .i64 0))))⟩,
    ⟨some 66, none, .h (.load 1 false (.t 65))⟩,
    ⟨some 67, none, .p (.ixA 2 1 (.t 9) (.k (.c (C.int .i64 1))))⟩,
    ⟨some 68, none, .h (.load 1 false (.t 67))⟩,
    ⟨some 69, none, .p (.bin .mul (.t 66) (.t 68))⟩,
    ⟨some 70, none, .p (.bin .lss (.t 64) (.t 69))⟩] [1, 2, 4, 5, 7, 8, 9, 10, 13, 70])
  (.cond (.t 70)
  (.seq (.region [⟨some 71, none, .p (.mv (.t 7))⟩,
    ⟨some 72, none, .p (.mv (.t 10))⟩,
    ⟨some 73, none, .p (.ixS 2 (.t 71) (.t 72))⟩,
    ⟨some 74, none, .h (.load 2 true (.t 73))⟩,
    ⟨none, none, .h (.store 2 (.t 8) (.t 74))⟩] [1, 2, 4, 5, 7, 8, 9, 10, 13])
  (.region [⟨some 75, none, .h (.load 2 true (.t 13))⟩,
    ⟨none, none, .h (.store 2 (.t 9) (.t 75))⟩] [1, 2, 4, 5, 7, 8, 9, 10]))
  .skip)))))
  (.region [⟨some 40, none, .p (.mv (.t 10))⟩,
    ⟨some 41, none, .p (.bin .add (.t 40) (.k (.c (C.int .i64 1))))⟩,
    ⟨some 10, none, .p (.mv (.t 41))⟩] [1, 2, 4, 5, 7, 8, 9, 10]))) [1, 2, 4, 5, 7, 8, 9, 10])))
  (.seq (.regionD [⟨some 76, none, .h (.load 2 true (.t 8))⟩,
    ⟨some 77, none, .h (.load 2 true (.t 9))⟩,
    ⟨none, none, .h (.store 2 (.t 4) (.t 76))⟩,
    ⟨none, none, .h (.store 2 (.t 5) (.t 77))⟩,
    ⟨some 6, none, .p (.mv (.k (.c (C.bool true))))⟩] [4, 5, 6] [(.t 9, .t 4)])
  .ret)))))) }
theorem a20_ok : okFn Try.prog 20 a20 = true := by kernel_rfl
/-- loop.example/g01215/impl.UsefulPours -/
def a21 : AFn := { np := 1, nt := 9, res := [.t 2, .t 3], body :=
  (.seq (.region [⟨some 1, none, .p (.box 24 (.t 0))⟩,
    ⟨some 2, none, .p (.nilsl 2)⟩,
    ⟨some 3, none, .p (.mv (.k (.c (C.bool false))))⟩] [1])
  (.seq (.seq (.region [⟨some 4, none, .h (.load 24 true (.t 1))⟩,
    ⟨some 5, none, .h (.call (.f 45) [.t 4])⟩,
    ⟨some 6, none, .p (.un .not (.t 5))⟩] [1, 6])
  (.cond (.t 6)
  (.seq (.region [⟨some 2, none, .p (.nilsl 2)⟩,
    ⟨some 3, none, .p (.mv (.k (.c (C.bool false))))⟩] [2, 3])
  .ret)
  .skip))
  (.seq (.region [⟨some 7, none, .h (.load 24 true (.t 1))⟩,
    ⟨some 8, none, .h (.call (.f 42) [.t 7])⟩,
    ⟨some 2, none, .p (.mv (.t 8))⟩,
    ⟨some 3, none, .p (.mv (.k (.c (C.bool true))))⟩] [2, 3])
  .ret))) }
theorem a21_ok : okFn Try.prog 21 a21 = true := by kernel_rfl
/-- loop.example/g01215/laws.vPour -/
def a22 : AFn := { np := 2, nt := 18, res := [.t 4], body :=
  (.seq (.region [⟨some 3, none, .p (.box 2 (.t 1))⟩,
    ⟨some 4, none, .p (.mv (.k (.c (C.bool false))))⟩] [0, 3])
  (.seq (.seq (.region [⟨some 5, none, .p (.mv (.k (.c (C.int .i64 0))))⟩] [0, 3, 5])
  (.block 0 (.loop (.seq (.seq (.region [⟨some 6, none, .p (.mv (.t 5))⟩,
    ⟨some 7, none, .p (.mv (.t 0))⟩,
    ⟨some 8, none, .p (.len (.t 7))⟩,
    ⟨some 9, none, .p (.bin .lss (.t 6) (.t 8))⟩] [0, 3, 5, 9])
  (.cond (.t 9)
  .skip
  (.exit 0)))
  (.seq (.block 1 (.seq (.regionD [⟨some 12, none, .p (.mv (.t 0))⟩,
    ⟨some 13, none, .p (.mv (.t 5))⟩,
    ⟨some 14, none, .p (.ixS 2 (.t 12) (.t 13))⟩,
    ⟨some 15, none, .h (.load 2 true (.t 14))⟩,
    ⟨some 16, none, .h (.load 2 true (.t 3))⟩,
    ⟨some 17, none, .p (.eqv false [.int .i64, .int .i64] (.t 15) (.t 16))⟩] [0, 3, 5, 17] [])
  (.cond (.t 17)
  (.seq (.region [⟨some 4, none, .p (.mv (.k (.c (C.bool true))))⟩] [4])
  .ret)
  .skip)))
  (.region [⟨some 10, none, .p (.mv (.t 5))⟩,
    ⟨some 11, none, .p (.bin .add (.t 10) (.k (.c (C.int .i64 1))))⟩,
    ⟨some 5, none, .p (.mv (.t 11))⟩] [0, 3, 5]))) [0, 3, 5])))
  (.seq (.region [⟨some 4, none, .p (.mv (.k (.c (C.bool false))))⟩] [4])
  .ret))) }
theorem a22_ok : okFn Try.prog 22 a22 = true := by kernel_rfl
/-- loop.example/g01215/impl.Pour -/
def a23 : AFn := { np := 3, nt := 34, res := [.cell 6 24 true, .t 7, .t 8], body :=
  (.seq (.region [⟨some 3, none, .p (.box 24 (.t 0))⟩,
    ⟨some 6, none, .p (.alloc (List.replicate 24 (.k (C.int .i64 0))))⟩,
    ⟨some 7, none, .p (.mv (.k (.c (C.int .i64 0))))⟩,
    ⟨some 8, none, .p (.mv (.k (.c (C.bool false))))⟩] [1, 2, 3, 6])
  (.seq (.seq (.region [⟨some 11, none, .h (.load 24 true (.t 3))⟩,
    ⟨some 12, none, .p (.mv (.t 1))⟩,
    ⟨some 13, none, .p (.mv (.t 2))⟩,
    ⟨some 14, none, .p (.mksl 1 2 [.k (C.int .i64 0)] [(0, 1, .t 12), (1, 1, .t 13)])⟩,
    ⟨some 15, none, .h (.call (.f 53) [.t 11, .t 14])⟩,
    ⟨some 16, none, .p (.un .not (.t 15))⟩,
    ⟨some 17, none, .p (.mv (.t 16))⟩,
    ⟨some 18, some (17, false), .h (.load 24 true (.t 3))⟩,
    ⟨some 19, some (17, false), .p (.mv (.t 1))⟩,
    ⟨some 20, some (17, false), .p (.mv (.t 2))⟩,
    ⟨some 21, some (17, false), .h (.call (.f 54) [.t 18, .t 19, .t 20])⟩,
    ⟨some 22, some (17, false), .p (.un .not (.t 21))⟩,
    ⟨some 23, none, .p (.pick (.t 17) (.k (.c (C.bool true))) (.t 22))⟩] [1, 2, 3, 6, 23])
  (.cond (.t 23)
  (.seq (.region [⟨some 24, none, .p (.build (List.replicate 24 (.k (C.int .i64 0))) [])⟩,
    ⟨none, none, .h (.store 24 (.t 6) (.t 24))⟩,
    ⟨some 7, none, .p (.mv (.k (.c (C.int .i64 0))))⟩,
    ⟨some 8, none, .p (.mv (.k (.c (C.bool false))))⟩] [6, 7, 8])
  .ret)
  .skip))
  (.seq (.region [⟨some 26, none, .h (.load 24 true (.t 3))⟩,
    ⟨some 27, none, .p (.mv (.t 1))⟩,
    ⟨some 28, none, .p (.mv (.t 2))⟩,
    ⟨some 29, none, .h (.call (.f 43) [.t 26, .t 27, .t 28])⟩,
    ⟨some 25, none, .p (.mv (.t 29))⟩,
    ⟨some 30, none, .p (.ext (.t 25) 0)⟩,
    ⟨some 31, none, .p (.ext (.t 25) 1)⟩,
    ⟨some 9, none, .p (.alloc (List.replicate 24 (.k (C.int .i64 0))))⟩,
    ⟨none, none, .h (.store 24 (.t 9) (.t 30))⟩,
    ⟨some 10, none, .p (.mv (.t 31))⟩] [6, 9, 10])
  (.seq (.region [⟨some 32, none, .h (.load 24 true (.t 9))⟩,
    ⟨some 33, none, .p (.mv (.t 10))⟩,
    ⟨none, none, .h (.store 24 (.t 6) (.t 32))⟩,
    ⟨some 7, none, .p (.mv (.t 33))⟩,
    ⟨some 8, none, .p (.mv (.k (.c (C.bool true))))⟩] [6, 7, 8])
  .ret)))) }
theorem a23_ok : okFn Try.prog 23 a23 = true := by kernel_rfl
/-- loop.example/g01215/laws.vLess -/
def a24 : AFn := { np := 2, nt := 16, res := [.t 4], body :=
  (.seq (.region [⟨some 2, none, .p (.box 2 (.t 0))⟩,
    ⟨some 3, none, .p (.box 2 (.t 1))⟩,
    ⟨some 4, none, .p (.mv (.k (.c (C.bool false))))⟩] [2, 3])
  (.seq (.region [⟨some 5, none, .p (.ixA 2 1 (.t 2) (.k (.c (C.int .i64 0))))⟩,
    ⟨some 6, none, .h (.load 1 false (.t 5))⟩,
    ⟨some 7, none, .p (.ixA 2 1 (.t 3) (.k (.c (C.int .i64 1))))⟩,
    ⟨some 8, none, .h (.load 1 false (.t 7))⟩,
    ⟨some 9, none, .p (.bin .mul (.t 6) (.t 8))⟩,
    ⟨some 10, none, .p (.ixA 2 1 (.t 3) (.k (.c (C.int .i64 0))))⟩,
    ⟨some 11, none, .h (.load 1 false (.t 10))⟩,
    ⟨some 12, none, .p (.ixA 2 1 (.t 2) (.k (.c (C.int .i64 1))))⟩,
    ⟨some 13, none, .h (.load 1 false (.t 12))⟩,
    ⟨some 14, none, .p (.bin .mul (.t 11) (.t 13))⟩,
    ⟨some 15, none, .p (.bin .lss (.t 9) (.t 14))⟩,
    ⟨some 4, none, .p (.mv (.t 15))⟩] [4])
  .ret)) }
theorem a24_ok : okFn Try.prog 24 a24 = true := by kernel_rfl
/-- loop.example/g01215/laws.vPlus -/
def a25 : AFn := { np := 2, nt := 56, res := [.cell 4 2 true], body :=
  (.seq (.region [⟨some 2, none, .p (.box 2 (.t 0))⟩,
    ⟨some 3, none, .p (.box 2 (.t 1))⟩,
    ⟨some 4, none, .p (.alloc [.k (C.int .i64 0), .k (C.int .i64 0)])⟩] [2, 3, 4])
  (.seq (.regionD [⟨some 9, none, .p (.ixA 2 1 (.t 2) (.k (.c (C.int .i64 1))))⟩,
    ⟨some 10, none, .h (.load 1 false (.t 9))⟩,
    ⟨some 11, none, .p (.ixA 2 1 (.t 3) (.k (.c (C.int .i64 1))))⟩,
    ⟨some 12, none, .h (.load 1 false (.t 11))⟩,
    ⟨some 5, none, .p (.mv (.t 10))⟩,
    ⟨some 6, none, .p (.mv (.t 12))⟩] [2, 3, 4, 5, 6] [])
  (.seq (.block 0 (.loop (.seq (.seq (.region [⟨some 13, none, .p (.mv (.t 6))⟩,
    ⟨some 14, none, .p (.bin .gtr (.t 13) (.k (.c (C.int .i64 0))))⟩] [2, 3, 4, 5, 6, 14])
  (.cond (.t 14)
  .skip
  (.exit 0)))
  (.block 1 (.regionD [⟨some 15, none, .p (.mv (.t 6))⟩,
    ⟨some 16, none, .p (.mv (.t 5))⟩,
    ⟨some 17, none, .p (.mv (.t 6))⟩,
    ⟨some 18, none, .p (.bin .rem (.t 16) (.t 17))⟩,
    ⟨some 5, none, .p (.mv (.t 15))⟩,
    ⟨some 6, none, .p (.mv (.t 18))⟩] [2, 3, 4, 5, 6] []))) [2, 3, 4, 5, 6]))
  (.seq (.regionD [⟨some 19, none, .p (.ixA 2 1 (.t 2) (.k (.c (C.int .i64 0))))⟩,
    ⟨some 20, none, .h (.load 1 false (.t 19))⟩,
    ⟨some 21, none, .p (.ixA 2 1 (.t 3) (.k (.c (C.int .i64 1))))⟩,
    ⟨some 22, none, .h (.load 1 false (.t 21))⟩,
    ⟨some 23, none, .p (.mv (.t 5))⟩,
    ⟨some 24, none, .p (.bin .quo (.t 22) (.t 23))⟩,
    ⟨some 25, none, .p (.bin .mul (.t 20) (.t 24))⟩,
    ⟨some 26, none, .p (.ixA 2 1 (.t 3) (.k (.c (C.int .i64 0))))⟩,
    ⟨some 27, none, .h (.load 1 false (.t 26))⟩,
    ⟨some 28, none, .p (.ixA 2 1 (.t 2) (.k (.c (C.int .i64 1))))⟩,
    ⟨some 29, none, .h (.load 1 false (.t 28))⟩,
    ⟨some 30, none, .p (.mv (.t 5))⟩,
    ⟨some 31, none, .p (.bin .quo (.t 29) (.t 30))⟩,
    ⟨some 32, none, .p (.bin .mul (.t 27) (.t 31))⟩,
    ⟨some 33, none, .p (.bin .add (.t 25) (.t 32))⟩,
    ⟨some 34, none, .p (.ixA 2 1 (.t 2) (.k (.c (C.int .i64 1))))⟩,
    ⟨some 35, none, .h (.load 1 false (.t 34))⟩,
    ⟨some 36, none, .p (.mv (.t 5))⟩,
    ⟨some 37, none, .p (.bin .quo (.t 35) (.t 36))⟩,
    ⟨some 38, none, .p (.ixA 2 1 (.t 3) (.k (.c (C.int .i64 1))))⟩,
    ⟨some 39, none, .h (.load 1 false (.t 38))⟩,
    ⟨some 40, none, .p (.bin .mul (.t 37) (.t 39))⟩,
    ⟨some 7, none, .p (.mv (.t 33))⟩,
    ⟨some 8, none, .p (.mv (.t 40))⟩] [4, 7, 8] [])
  (.seq (.region [⟨some 41, none, .p (.mv (.t 7))⟩,
    ⟨some 42, none, .p (.mv (.t 8))⟩,
    ⟨some 5, none, .p (.mv (.t 41))⟩,
    ⟨some 6, none, .p (.mv (.t 42))⟩] [4, 5, 6, 7, 8])
  (.seq (.block 2 (.loop (.seq (.seq (.region [⟨some 43, none, .p (.mv (.t 6))⟩,
    ⟨some 44, none, .p (.bin .gtr (.t 43) (.k (.c (C.int .i64 0))))⟩] [4, 5, 6, 7, 8, 44])
  (.cond (.t 44)
  .skip
  (.exit 2)))
  (.block 3 (.regionD [⟨some 45, none, .p (.mv (.t 6))⟩,
    ⟨some 46, none, .p (.mv (.t 5))⟩,
    ⟨some 47, none, .p (.mv (.t 6))⟩,
    ⟨some 48, none, .p (.bin .rem (.t 46) (.t 47))⟩,
    ⟨some 5, none, .p (.mv (.t 45))⟩,
    ⟨some 6, none, .p (.mv (.t 48))⟩] [4, 5, 6, 7, 8] []))) [4, 5, 6, 7, 8]))
  (.seq (.regionD [⟨some 49, none, .p (.mv (.t 7))⟩,
    ⟨some 50, none, .p (.mv (.t 5))⟩,
    ⟨some 51, none, .p (.bin .quo (.t 49) (.t 50))⟩,
    ⟨some 52, none, .p (.mv (.t 8))⟩,
    ⟨some 53, none, .p (.mv (.t 5))⟩,
    ⟨some 54, none, .p (.bin .quo (.t 52) (.t 53))⟩,
    ⟨some 55, none, .p (.build [.k (C.int .i64 0), .k (C.int .i64 0)] [(0, 1, .t 51), (1, 1, .t 54)])⟩,
    ⟨none, none, .h (.store 2 (.t 4) (.t 55))⟩] [4] [])
  .ret))))))) }
theorem a25_ok : okFn Try.prog 25 a25 = true := by kernel_rfl
/-- loop.example/g01215/impl.IsSorted -/
def a26 : AFn := { np := 1, nt := 9, res := [.t 2, .t 3], body :=
  (.seq (.region [⟨some 1, none, .p (.box 24 (.t 0))⟩,
    ⟨some 2, none, .p (.mv (.k (.c (C.bool false))))⟩,
    ⟨some 3, none, .p (.mv (.k (.c (C.bool false))))⟩] [1])
  (.seq (.seq (.region [⟨some 4, none, .h (.load 24 true (.t 1))⟩,
    ⟨some 5, none, .h (.call (.f 45) [.t 4])⟩,
    ⟨some 6, none, .p (.un .not (.t 5))⟩] [1, 6])
  (.cond (.t 6)
  (.seq (.region [⟨some 2, none, .p (.mv (.k (.c (C.bool false))))⟩,
    ⟨some 3, none, .p (.mv (.k (.c (C.bool false))))⟩] [2, 3])
  .ret)
  .skip))
  (.seq (.region [⟨some 7, none, .h (.load 24 true (.t 1))⟩,
    ⟨some 8, none, .h (.call (.f 55) [.t 7])⟩,
    ⟨some 2, none, .p (.mv (.t 8))⟩,
    ⟨some 3, none, .p (.mv (.k (.c (C.bool true))))⟩] [2, 3])
  .ret))) }
theorem a26_ok : okFn Try.prog 26 a26 = true := by kernel_rfl
/-- loop.example/g01215/laws.toRack -/
def a27 : AFn := { np := 1, nt := 9, res := [.cell 2 24 true], body :=
  (.seq (.region [⟨some 1, none, .p (.box 24 (.t 0))⟩,
    ⟨some 2, none, .p (.alloc (List.replicate 24 (.k (C.int .i64 0))))⟩] [1, 2])
  (.seq (.region [⟨some 3, none, .p (.alloc (List.replicate 24 (.k (C.int .i64 0))))⟩] [1, 2, 3])
  (.seq (.region [⟨some 4, none, .p (.fld 0 (.t 1))⟩,
    ⟨some 5, none, .h (.load 24 true (.t 4))⟩,
    ⟨some 6, none, .h (.call (.f 56) [.t 5])⟩,
    ⟨some 7, none, .p (.fld 0 (.t 3))⟩,
    ⟨none, none, .h (.store 24 (.t 7) (.t 6))⟩] [2, 3])
  (.seq (.region [⟨some 8, none, .h (.load 24 true (.t 3))⟩,
    ⟨none, none, .h (.store 24 (.t 2) (.t 8))⟩] [2])
  .ret)))) }
theorem a27_ok : okFn Try.prog 27 a27 = true := by kernel_rfl
/-- loop.example/g01215/spec.MixedBy -/
def a28 : AFn := { np := 2, nt := 73, res := [.cell 4 24 true, .t 5, .t 6], body :=
  (.seq (.region [⟨some 2, none, .p (.box 24 (.t 0))⟩,
    ⟨some 4, none, .p (.alloc (List.replicate 24 (.k (C.int .i64 0))))⟩,
    ⟨some 5, none, .p (.nilsl 2)⟩,
    ⟨some 6, none, .p (.mv (.k (.c (C.bool false))))⟩] [1, 2, 4])
  (.seq (.region [⟨some 12, none, .p (.mksl 2 0 [.k (C.int .i64 0), .k (C.int .i64 0)] [])⟩,
    ⟨some 7, none, .p (.mv (.t 12))⟩] [1, 2, 4, 7])
  (.seq (.seq (.region [⟨some 13, none, .h (.load 24 true (.t 2))⟩,
    ⟨some 14, none, .h (.call (.f 46) [.t 13])⟩,
    ⟨some 15, none, .p (.un .not (.t 14))⟩,
    ⟨some 16, none, .p (.mv (.t 15))⟩,
    ⟨some 17, some (16, false), .p (.mv (.t 1))⟩,
    ⟨some 18, some (16, false), .p (.len (.t 17))⟩,
    ⟨some 19, some (16, false), .p (.bin .gtr (.t 18) (.k (.c (C.int .i64 20))))⟩,
    ⟨some 20, none, .p (.pick (.t 16) (.k (.c (C.bool true))) (.t 19))⟩] [1, 2, 4, 7, 20])
  (.cond (.t 20)
  (.seq (.region [⟨some 21, none, .p (.build (List.replicate 24 (.k (C.int .i64 0))) [])⟩,
    ⟨some 22, none, .p (.mv (.t 7))⟩,
    ⟨none, none, .h (.store 24 (.t 4) (.t 21))⟩,
    ⟨some 5, none, .p (.mv (.t 22))⟩,
    ⟨some 6, none, .p (.mv (.k (.c (C.bool false))))⟩] [4, 5, 6])
  .ret)
  .skip))
  (.seq (.seq (.region [⟨some 8, none, .p (.mv (.k (.c (C.int .i64 0))))⟩] [1, 2, 4, 7, 8])
  (.block 0 (.loop (.seq (.seq (.region [⟨some 23, none, .p (.mv (.t 8))⟩,
    ⟨some 24, none, .p (.mv (.t 1))⟩,
    ⟨some 25, none, .p (.len (.t 24))⟩,
    ⟨some 26, none, .p (.bin .lss (.t 23) (.t 25))⟩] [1, 2, 4, 7, 8, 26])
  (.cond (.t 26)
  .skip
  (.exit 0)))
  (.seq (.block 1 (.seq (.region [⟨some 29, none, .p (.mv (.t 1))⟩,
    ⟨some 30, none, .p (.mv (.t 8))⟩,
    ⟨some 31, none, .p (.ixS 1 (.t 29) (.t 30))⟩,
    ⟨some 32, none, .h (.load 1 false (.t 31))⟩,
    ⟨some 33, none, .p (.bin .lss (.t 32) (.k (.c (C.int .i64 0))))⟩] [1, 2, 4, 7, 8, 33])
  (.cond (.t 33)
  (.seq (.region [⟨some 34, none, .p (.build (List.replicate 24 (.k (C.int .i64 0))) [])⟩,
    ⟨some 35, none, .p (.mksl 2 0 [.k (C.int .i64 0), .k (C.int .i64 0)] [])⟩,
    ⟨none, none, .h (.store 24 (.t 4) (.t 34))⟩,
    ⟨some 5, none, .p (.mv (.t 35))⟩,
    ⟨some 6, none, .p (.mv (.k (.c (C.bool false))))⟩] [4, 5, 6])
  .ret)
  .skip)))
  (.region [⟨some 27, none, .p (.mv (.t 8))⟩,
    ⟨some 28, none, .p (.bin .add (.t 27) (.k (.c (C.int .i64 1))))⟩,
    ⟨some 8, none, .p (.mv (.t 28))⟩] [1, 2, 4, 7, 8]))) [1, 2, 4, 7, 8])))
  (.seq (.seq (.region [⟨some 9, none, .p (.mv (.k (.c (C.int .i64 0))))⟩] [1, 2, 4, 7, 9])
  (.block 2 (.loop (.seq (.seq (.region [⟨some 36, none, .p (.mv (.t 9))⟩,
    ⟨some 37, none, .p (.mv (.t 1))⟩,
    ⟨some 38, none, .p (.len (.t 37))⟩,
    ⟨some 39, none, .p (.bin .lss (.t 36) (.t 38))⟩] [1, 2, 4, 7, 9, 39])
  (.cond (.t 39)
  .skip
  (.exit 2)))
  (.seq (.block 3 (.seq (.region [⟨some 42, none, .h (.load 24 true (.t 2))⟩,
    ⟨some 43, none, .h (.call (.f 57) [.t 42])⟩,
    ⟨some 10, none, .p (.mv (.t 43))⟩] [1, 2, 4, 7, 9, 10])
  (.seq (.seq (.region [⟨some 44, none, .p (.mv (.t 10))⟩,
    ⟨some 45, none, .p (.len (.t 44))⟩,
    ⟨some 46, none, .p (.bin .eql (.t 45) (.k (.c (C.int .i64 0))))⟩] [1, 2, 4, 7, 9, 10, 46])
  (.cond (.t 46)
  (.exit 2)
  .skip))
  (.seq (.region [⟨some 47, none, .p (.mv (.t 10))⟩,
    ⟨some 48, none, .p (.mv (.t 1))⟩,
    ⟨some 49, none, .p (.mv (.t 9))⟩,
    ⟨some 50, none, .p (.ixS 1 (.t 48) (.t 49))⟩,
    ⟨some 51, none, .h (.load 1 false (.t 50))⟩,
    ⟨some 52, none, .p (.mv (.t 10))⟩,
    ⟨some 53, none, .p (.len (.t 52))⟩,
    ⟨some 54, none, .p (.bin .rem (.t 51) (.t 53))⟩,
    ⟨some 55, none, .p (.ixS 3 (.t 47) (.t 54))⟩,
    ⟨some 56, none, .h (.load 3 true (.t 55))⟩,
    ⟨some 11, none, .p (.alloc [.k (C.int .i64 0), .k (C.int .i64 0), .k (C.int .i64 0)])⟩,
    ⟨none, none, .h (.store 3 (.t 11) (.t 56))⟩] [1, 2, 4, 7, 9, 11])
  (.seq (.region [⟨some 58, none, .h (.load 24 true (.t 2))⟩,
    ⟨some 59, none, .h (.load 3 true (.t 11))⟩,
    ⟨some 60, none, .h (.call (.f 58) [.t 58, .t 59])⟩,
    ⟨some 57, none, .p (.mv (.t 60))⟩,
    ⟨some 61, none, .p (.ext (.t 57) 0)⟩,
    ⟨some 62, none, .p (.ext (.t 57) 1)⟩,
    ⟨none, none, .h (.store 24 (.t 2) (.t 61))⟩] [1, 2, 4, 7, 9, 11])
  (.region [⟨some 63, none, .p (.fld 0 (.t 11))⟩,
    ⟨some 64, none, .h (.load 1 false (.t 63))⟩,
    ⟨some 65, none, .p (.fld 1 (.t 11))⟩,
    ⟨some 66, none, .h (.load 1 false (.t 65))⟩,
    ⟨some 67, none, .p (.build [.k (C.int .i64 0), .k (C.int .i64 0)] [(0, 1, .t 64), (1, 1, .t 66)])⟩,
    ⟨some 68, none, .p (.mksl 2 1 [.k (C.int .i64 0), .k (C.int .i64 0)] [(0, 2, .t 67)])⟩,
    ⟨some 69, none, .p (.mv (.t 7))⟩,
    ⟨some 70, none, .h (.app 2 (.t 68) (.t 69))⟩,
    ⟨some 7, none, .p (.mv (.t 70))⟩] [1, 2, 4, 7, 9]))))))
  (.region [⟨some 40, none, .p (.mv (.t 9))⟩,
    ⟨some 41, none, .p (.bin .add (.t 40) (.k (.c (C.int .i64 1))))⟩,
    ⟨some 9, none, .p (.mv (.t 41))⟩] [1, 2, 4, 7, 9]))) [1, 2, 4, 7, 9])))
  (.seq (.region [⟨some 71, none, .h (.load 24 true (.t 2))⟩,
    ⟨some 72, none, .p (.mv (.t 7))⟩,
    ⟨none, none, .h (.store 24 (.t 4) (.t 71))⟩,
    ⟨some 5, none, .p (.mv (.t 72))⟩,
    ⟨some 6, none, .p (.mv (.k (.c (C.bool true))))⟩] [4, 5, 6])
  .ret)))))) }
theorem a28_ok : okFn Try.prog 28 a28 = true := by kernel_rfl
/-- loop.example/g01215/spec.DrawMixedBy -/
def a29 : AFn := { np := 1, nt := 54, res := [.cell 2 24 true, .t 3], body :=
  (.seq (.region [⟨some 2, none, .p (.alloc (List.replicate 24 (.k (C.int .i64 0))))⟩,
    ⟨some 3, none, .p (.nilsl 1)⟩] [0, 2])
  (.seq (.region [⟨some 9, none, .p (.mv (.t 0))⟩,
    ⟨some 10, none, .p (.build [.sl 1, .k (C.int .i64 0), .k (C.int .u64 0)] [(0, 1, .t 9)])⟩,
    ⟨some 11, none, .p (.box 3 (.t 10))⟩,
    ⟨some 4, none, .p (.mv (.t 11))⟩] [0, 2, 4])
  (.seq (.region [⟨some 13, none, .p (.mv (.t 0))⟩,
    ⟨some 14, none, .h (.call (.f 60) [.t 13])⟩,
    ⟨some 15, none, .h (.call (.f 59) [.t 14])⟩,
    ⟨some 12, none, .p (.mv (.t 15))⟩,
    ⟨some 16, none, .p (.ext (.t 12) 0)⟩,
    ⟨some 17, none, .p (.ext (.t 12) 1)⟩,
    ⟨some 5, none, .p (.alloc (List.replicate 24 (.k (C.int .i64 0))))⟩,
    ⟨none, none, .h (.store 24 (.t 5) (.t 16))⟩,
    ⟨some 6, none, .p (.mv (.t 17))⟩] [2, 4, 5])
  (.seq (.seq (.region [⟨some 18, none, .p (.mv (.t 4))⟩,
    ⟨some 19, none, .h (.call (.f 30) [.t 18, .k (.c (C.int .i64 4))])⟩] [2, 4, 5, 19])
  (.cond (.t 19)
  (.region [⟨some 20, none, .p (.mv (.t 4))⟩,
    ⟨some 21, none, .h (.call (.f 61) [.t 20])⟩,
    ⟨none, none, .h (.store 24 (.t 5) (.t 21))⟩] [2, 4, 5])
  .skip))
  (.seq (.region [⟨some 22, none, .p (.mksl 1 0 [.k (C.int .i64 0)] [])⟩,
    ⟨some 7, none, .p (.mv (.t 22))⟩] [2, 4, 5, 7])
  (.seq (.seq (.region [⟨some 23, none, .p (.mv (.t 4))⟩,
    ⟨some 24, none, .p (.mksl 1 8 [.k (C.int .i64 0)] [(0, 1, .k (.c (C.int .i64 3))), (1, 1, .k (.c (C.int .i64 5))), (2, 1, .k (.c (C.int .i64 2))), (3, 1, .k (.c (C.int .i64 8))), (4, 1, .k (.c (C.int .i64 1))), (5, 1, .k (.c (C.int .i64 0))), (6, 1, .k (.c (C.int .i64 20))), (7, 1, .k (.c (C.int .i64 21)))])⟩,
    ⟨some 25, none, .p (.mv (.t 4))⟩,
    ⟨some 26, none, .h (.call (.f 49) [.t 25, .k (.c (C.int .i64 24))])⟩,
    ⟨some 27, none, .p (.bin .quo (.t 26) (.k (.c (C.int .i64 22))))⟩,
    ⟨some 28, none, .p (.bin .add (.k (.c (C.int .i64 7))) (.t 27))⟩,
    ⟨some 29, none, .p (.slS 1 (.t 24) none (some (.t 28)))⟩,
    ⟨some 30, none, .h (.call (.f 48) [.t 23, .t 29])⟩,
    ⟨some 8, none, .p (.mv (.t 30))⟩] [2, 4, 5, 7, 8])
  (.block 0 (.loop (.seq (.seq (.region [⟨some 31, none, .p (.mv (.t 8))⟩,
    ⟨some 32, none, .p (.bin .gtr (.t 31) (.k (.c (C.int .i64 0))))⟩] [2, 4, 5, 7, 8, 32])
  (.cond (.t 32)
  .skip
  (.exit 0)))
  (.seq (.block 1 (.region [⟨some 35, none, .p (.mv (.t 7))⟩,
    ⟨some 36, none, .p (.mv (.t 4))⟩,
    ⟨some 37, none, .h (.call (.f 49) [.t 36, .k (.c (C.int .i64 200))])⟩,
    ⟨some 38, none, .p (.mksl 1 1 [.k (C.int .i64 0)] [(0, 1, .t 37)])⟩,
    ⟨some 39, none, .h (.app 1 (.t 35) (.t 38))⟩,
    ⟨some 7, none, .p (.mv (.t 39))⟩] [2, 4, 5, 7, 8]))
  (.region [⟨some 33, none, .p (.mv (.t 8))⟩,
    ⟨some 34, none, .p (.bin .sub (.t 33) (.k (.c (C.int .i64 1))))⟩,
    ⟨some 8, none, .p (.mv (.t 34))⟩] [2, 4, 5, 7, 8]))) [2, 4, 5, 7, 8])))
  (.seq (.seq (.region [⟨some 40, none, .p (.mv (.t 7))⟩,
    ⟨some 41, none, .p (.len (.t 40))⟩,
    ⟨some 42, none, .p (.bin .gtr (.t 41) (.k (.c (C.int .i64 0))))⟩,
    ⟨some 43, none, .p (.mv (.t 42))⟩,
    ⟨some 44, some (43, true), .p (.mv (.t 4))⟩,
    ⟨some 45, some (43, true), .h (.call (.f 30) [.t 44, .k (.c (C.int .i64 24))])⟩,
    ⟨some 46, none, .p (.pick (.t 43) (.t 45) (.k (.c (C.bool false))))⟩] [2, 4, 5, 7, 46])
  (.cond (.t 46)
  (.region [⟨some 47, none, .p (.mv (.t 7))⟩,
    ⟨some 48, none, .p (.mv (.t 4))⟩,
    ⟨some 49, none, .p (.mksl 1 2 [.k (C.int .i64 0)] [(0, 1, .k (.c (C.int .i64 (-1)))), (1, 1, .k (.c (C.int .i64 4611686018427387904)))])⟩,
    ⟨some 50, none, .h (.call (.f 48) [.t 48, .t 49])⟩,
    ⟨some 51, none, .p (.ixS 1 (.t 47) (.k (.c (C.int .i64 0))))⟩,
    ⟨none, none, .h (.store 1 (.t 51) (.t 50))⟩] [2, 5, 7])
  .skip))
  (.seq (.region [⟨some 52, none, .h (.load 24 true (.t 5))⟩,
    ⟨some 53, none, .p (.mv (.t 7))⟩,
    ⟨none, none, .h (.store 24 (.t 2) (.t 52))⟩,
    ⟨some 3, none, .p (.mv (.t 53))⟩] [2, 3])
  .ret)))))))) }
theorem a29_ok : okFn Try.prog 29 a29 = true := by kernel_rfl
/-- (*loop.example/g01215/spec.l1Cur).one -/
def a30 : AFn := { np := 2, nt := 9, res := [.t 4], body :=
  (.seq (.region [⟨some 4, none, .p (.mv (.k (.c (C.bool false))))⟩] [0, 1])
  (.seq (.region [⟨some 5, none, .p (.mv (.t 0))⟩,
    ⟨some 6, none, .p (.mv (.t 1))⟩,
    ⟨some 7, none, .h (.call (.f 49) [.t 5, .t 6])⟩,
    ⟨some 8, none, .p (.bin .eql (.t 7) (.k (.c (C.int .i64 0))))⟩,
    ⟨some 4, none, .p (.mv (.t 8))⟩] [4])
  .ret)) }
theorem a30_ok : okFn Try.prog 30 a30 = true := by kernel_rfl
/-- (*loop.example/g01215/spec.l1Cur).pours9 -/
def a31 : AFn := { np := 1, nt := 11, res := [.t 2], body :=
  (.seq (.region [⟨some 2, none, .p (.mv (.k (.c (C.int .i64 0))))⟩] [0])
  (.seq (.region [⟨some 3, none, .p (.mv (.t 0))⟩,
    ⟨some 4, none, .p (.mksl 1 6 [.k (C.int .i64 0)] [(0, 1, .k (.c (C.int .i64 1))), (1, 1, .k (.c (C.int .i64 2))), (2, 1, .k (.c (C.int .i64 2))), (3, 1, .k (.c (C.int .i64 0))), (4, 1, .k (.c (C.int .i64 3))), (5, 1, .k (.c (C.int .i64 (-1))))])⟩,
    ⟨some 5, none, .p (.mv (.t 0))⟩,
    ⟨some 6, none, .h (.call (.f 49) [.t 5, .k (.c (C.int .i64 24))])⟩,
    ⟨some 7, none, .p (.bin .quo (.t 6) (.k (.c (C.int .i64 11))))⟩,
    ⟨some 8, none, .p (.bin .add (.k (.c (C.int .i64 4))) (.t 7))⟩,
    ⟨some 9, none, .p (.slS 1 (.t 4) none (some (.t 8)))⟩,
    ⟨some 10, none, .h (.call (.f 48) [.t 3, .t 9])⟩,
    ⟨some 2, none, .p (.mv (.t 10))⟩] [2])
  .ret)) }
theorem a31_ok : okFn Try.prog 31 a31 = true := by kernel_rfl
/-- (*loop.example/g01215/spec.l1Cur).small3 -/
def a32 : AFn := { np := 1, nt := 47, res := [.cell 2 24 true], body :=
  (.seq (.region [⟨some 2, none, .p (.alloc (List.replicate 24 (.k (C.int .i64 0))))⟩] [0, 2])
  (.seq (.region [⟨some 7, none, .p (.mv (.t 0))⟩,
    ⟨some 8, none, .h (.call (.f 61) [.t 7])⟩,
    ⟨some 3, none, .p (.alloc (List.replicate 24 (.k (C.int .i64 0))))⟩,
    ⟨none, none, .h (.store 24 (.t 3) (.t 8))⟩] [0, 2, 3])
  (.seq (.seq (.region [⟨some 9, none, .h (.load 24 true (.t 3))⟩,
    ⟨some 10, none, .h (.call (.f 46) [.t 9])⟩,
    ⟨some 11, none, .p (.un .not (.t 10))⟩,
    ⟨some 12, none, .p (.mv (.t 11))⟩,
    ⟨some 13, some (12, false), .p (.mv (.t 0))⟩,
    ⟨some 14, some (12, false), .h (.call (.f 30) [.t 13, .k (.c (C.int .i64 12))])⟩,
    ⟨some 15, none, .p (.pick (.t 12) (.k (.c (C.bool true))) (.t 14))⟩] [0, 2, 3, 15])
  (.cond (.t 15)
  (.seq (.region [⟨some 16, none, .h (.load 24 true (.t 3))⟩,
    ⟨none, none, .h (.store 24 (.t 2) (.t 16))⟩] [2])
  .ret)
  .skip))
  (.seq (.seq (.region [⟨some 17, none, .p (.mv (.t 0))⟩,
    ⟨some 18, none, .h (.call (.f 49) [.t 17, .k (.c (C.int .i64 5))])⟩,
    ⟨some 19, none, .p (.bin .add (.k (.c (C.int .i64 5))) (.t 18))⟩,
    ⟨some 4, none, .p (.mv (.k (.c (C.int .i64 0))))⟩,
    ⟨some 5, none, .p (.mv (.t 19))⟩] [2, 3, 4, 5])
  (.block 0 (.loop (.seq (.seq (.region [⟨some 20, none, .p (.mv (.t 4))⟩,
    ⟨some 21, none, .p (.bin .lss (.t 20) (.k (.c (C.int .i64 6))))⟩] [2, 3, 4, 5, 21])
  (.cond (.t 21)
  .skip
  (.exit 0)))
  (.seq (.block 1 (.seq (.region [⟨some 6, none, .p (.mv (.k (.c (C.int .i64 0))))⟩] [2, 3, 4, 5, 6])
  (.block 2 (.loop (.seq (.seq (.region [⟨some 24, none, .p (.mv (.t 6))⟩,
    ⟨some 25, none, .p (.bin .lss (.t 24) (.k (.c (C.int .i64 4))))⟩] [2, 3, 4, 5, 6, 25])
  (.cond (.t 25)
  .skip
  (.exit 2)))
  (.seq (.block 3 (.seq (.region [⟨some 28, none, .p (.mv (.t 5))⟩,
    ⟨some 29, none, .p (.bin .gtr (.t 28) (.k (.c (C.int .i64 0))))⟩,
    ⟨some 30, none, .p (.mv (.t 29))⟩,
    ⟨some 31, some (30, true), .p (.mv (.t 4))⟩,
    ⟨some 32, some (30, true), .p (.mv (.t 6))⟩,
    ⟨some 33, some (30, true), .p (.fld 0 (.t 3))⟩,
    ⟨some 34, some (30, true), .p (.ixA 6 4 (.t 33) (.t 31))⟩,
    ⟨some 35, some (30, true), .p (.ixA 4 1 (.t 34) (.t 32))⟩,
    ⟨some 36, some (30, true), .h (.load 1 false (.t 35))⟩,
    ⟨some 37, some (30, true), .p (.bin .gtr (.t 36) (.k (.c (C.int .i64 0))))⟩,
    ⟨some 38, none, .p (.pick (.t 30) (.t 37) (.k (.c (C.bool false))))⟩] [2, 3, 4, 5, 6, 38])
  (.cond (.t 38)
  (.region [⟨some 39, none, .p (.mv (.t 5))⟩,
    ⟨some 40, none, .p (.bin .sub (.t 39) (.k (.c (C.int .i64 1))))⟩,
    ⟨some 5, none, .p (.mv (.t 40))⟩] [2, 3, 4, 5, 6])
  (.region [⟨some 41, none, .p (.mv (.t 4))⟩,
    ⟨some 42, none, .p (.mv (.t 6))⟩,
    ⟨some 43, none, .p (.fld 0 (.t 3))⟩,
    ⟨some 44, none, .p (.ixA 6 4 (.t 43) (.t 41))⟩,
    ⟨some 45, none, .p (.ixA 4 1 (.t 44) (.t 42))⟩,
    ⟨none, none, .h (.store 1 (.t 45) (.k (.c (C.int .i64 0))))⟩] [2, 3, 4, 5, 6]))))
  (.region [⟨some 26, none, .p (.mv (.t 6))⟩,
    ⟨some 27, none, .p (.bin .add (.t 26) (.k (.c (C.int .i64 1))))⟩,
    ⟨some 6, none, .p (.mv (.t 27))⟩] [2, 3, 4, 5, 6]))) [2, 3, 4, 5, 6]))))
  (.region [⟨some 22, none, .p (.mv (.t 4))⟩,
    ⟨some 23, none, .p (.bin .add (.t 22) (.k (.c (C.int .i64 1))))⟩,
    ⟨some 4, none, .p (.mv (.t 23))⟩] [2, 3, 4, 5]))) [2, 3, 4, 5])))
  (.seq (.region [⟨some 46, none, .h (.load 24 true (.t 3))⟩,
    ⟨none, none, .h (.store 24 (.t 2) (.t 46))⟩] [2])
  .ret))))) }
theorem a32_ok : okFn Try.prog 32 a32 = true := by kernel_rfl
/-- loop.example/g01215/impl.isPlay -/
def a33 : AFn := { np := 3, nt := 14, res := [.t 6], body :=
  (.seq (.region [⟨some 3, none, .p (.box 24 (.t 0))⟩,
    ⟨some 6, none, .p (.mv (.k (.c (C.bool false))))⟩] [1, 2, 3])
  (.seq (.region [⟨some 7, none, .h (.load 24 true (.t 3))⟩,
    ⟨some 8, none, .h (.call (.f 45) [.t 7])⟩,
    ⟨some 9, none, .p (.mv (.t 8))⟩,
    ⟨some 10, some (9, true), .p (.mv (.t 1))⟩,
    ⟨some 11, some (9, true), .p (.mv (.t 2))⟩,
    ⟨some 12, some (9, true), .h (.call (.f 62) [.t 10, .k (.c (C.int .i64 0)), .t 11])⟩,
    ⟨some 13, none, .p (.pick (.t 9) (.t 12) (.k (.c (C.bool false))))⟩,
    ⟨some 6, none, .p (.mv (.t 13))⟩] [6])
  .ret)) }
theorem a33_ok : okFn Try.prog 33 a33 = true := by kernel_rfl
/-- loop.example/g01215/impl.chanceSorted -/
def a34 : AFn := { np := 2, nt := 8, res := [.cell 4 2 true], body :=
  (.seq (.region [⟨some 2, none, .p (.box 24 (.t 0))⟩,
    ⟨some 4, none, .p (.alloc [.k (C.int .i64 0), .k (C.int .i64 0)])⟩] [1, 2, 4])
  (.seq (.region [⟨some 5, none, .h (.load 24 true (.t 2))⟩,
    ⟨some 6, none, .p (.mv (.t 1))⟩,
    ⟨some 7, none, .h (.call (.f 37) [.t 5, .t 6, .f 63])⟩,
    ⟨none, none, .h (.store 2 (.t 4) (.t 7))⟩] [4])
  .ret)) }
theorem a34_ok : okFn Try.prog 34 a34 = true := by kernel_rfl
/-- loop.example/g01215/spec.l9Good -/
def a35 : AFn := { np := 2, nt := 11, res := [.t 4], body :=
  (.seq (.region [⟨some 2, none, .p (.box 24 (.t 0))⟩,
    ⟨some 4, none, .p (.mv (.k (.c (C.bool false))))⟩] [1, 2])
  (.seq (.region [⟨some 5, none, .h (.load 24 true (.t 2))⟩,
    ⟨some 6, none, .h (.call (.f 46) [.t 5])⟩,
    ⟨some 7, none, .p (.mv (.t 6))⟩,
    ⟨some 8, some (7, true), .p (.mv (.t 1))⟩,
    ⟨some 9, some (7, true), .h (.call (.f 50) [.t 8, .k (.c (C.int .i64 0)), .k (.c (C.int .i64 2))])⟩,
    ⟨some 10, none, .p (.pick (.t 7) (.t 9) (.k (.c (C.bool false))))⟩,
    ⟨some 4, none, .p (.mv (.t 10))⟩] [4])
  .ret)) }
theorem a35_ok : okFn Try.prog 35 a35 = true := by kernel_rfl
/-- loop.example/g01215/spec.l9Mean -/
def a36 : AFn := { np := 3, nt := 64, res := [.cell 6 2 true], body :=
  (.seq (.region [⟨some 3, none, .p (.box 24 (.t 0))⟩,
    ⟨some 6, none, .p (.alloc [.k (C.int .i64 0), .k (C.int .i64 0)])⟩] [1, 2, 3, 6])
  (.seq (.region [⟨some 13, none, .h (.load 24 true (.t 3))⟩,
    ⟨some 14, none, .h (.call (.f 51) [.t 13])⟩,
    ⟨some 7, none, .p (.mv (.t 14))⟩] [1, 2, 3, 6, 7])
  (.seq (.seq (.region [⟨some 15, none, .p (.mv (.t 1))⟩,
    ⟨some 16, none, .p (.bin .eql (.t 15) (.k (.c (C.int .i64 0))))⟩,
    ⟨some 17, none, .p (.mv (.t 16))⟩,
    ⟨some 18, some (17, false), .p (.mv (.t 7))⟩,
    ⟨some 19, some (17, false), .p (.len (.t 18))⟩,
    ⟨some 20, some (17, false), .p (.bin .eql (.t 19) (.k (.c (C.int .i64 0))))⟩,
    ⟨some 21, none, .p (.pick (.t 17) (.k (.c (C.bool true))) (.t 20))⟩] [1, 2, 3, 6, 7, 21])
  (.cond (.t 21)
  (.seq (.region [⟨some 22, none, .h (.load 24 true (.t 3))⟩,
    ⟨some 23, none, .p (.mv (.t 2))⟩,
    ⟨some 24, none, .h (.call (.f 64) [.t 22, .t 23])⟩,
    ⟨some 25, none, .p (.build [.k (C.int .i64 0), .k (C.int .i64 0)] [(0, 1, .t 24), (1, 1, .k (.c (C.int .i64 1)))])⟩,
    ⟨none, none, .h (.store 2 (.t 6) (.t 25))⟩] [6])
  .ret)
  .skip))
  (.seq (.region [⟨some 26, none, .p (.build [.k (C.int .i64 0), .k (C.int .i64 0)] [(0, 1, .k (.c (C.int .i64 0))), (1, 1, .k (.c (C.int .i64 1)))])⟩,
    ⟨some 8, none, .p (.alloc [.k (C.int .i64 0), .k (C.int .i64 0)])⟩,
    ⟨none, none, .h (.store 2 (.t 8) (.t 26))⟩] [1, 2, 3, 6, 7, 8])
  (.seq (.seq (.region [⟨some 9, none, .p (.mv (.k (.c (C.int .i64 0))))⟩] [1, 2, 3, 6, 7, 8, 9])
  (.block 0 (.loop (.seq (.seq (.region [⟨some 27, none, .p (.mv (.t 9))⟩,
    ⟨some 28, none, .p (.mv (.t 7))⟩,
    ⟨some 29, none, .p (.len (.t 28))⟩,
    ⟨some 30, none, .p (.bin .lss (.t 27) (.t 29))⟩] [1, 2, 3, 6, 7, 8, 9, 30])
  (.cond (.t 30)
  .skip
  (.exit 0)))
  (.seq (.block 1 (.seq (.regionD [⟨some 34, none, .h (.load 24 true (.t 3))⟩,
    ⟨some 35, none, .p (.mv (.t 7))⟩,
    ⟨some 36, none, .p (.mv (.t 9))⟩,
    ⟨some 37, none, .p (.ixS 2 (.t 35) (.t 36))⟩,
    ⟨some 38, none, .p (.ixA 2 1 (.t 37) (.k (.c (C.int .i64 0))))⟩,
    ⟨some 39, none, .h (.load 1 false (.t 38))⟩,
    ⟨some 40, none, .p (.mv (.t 7))⟩,
    ⟨some 41, none, .p (.mv (.t 9))⟩,
    ⟨some 42, none, .p (.ixS 2 (.t 40) (.t 41))⟩,
    ⟨some 43, none, .p (.ixA 2 1 (.t 42) (.k (.c (C.int .i64 1))))⟩,
    ⟨some 44, none, .h (.load 1 false (.t 43))⟩,
    ⟨some 45, none, .h (.call (.f 52) [.t 34, .t 39, .t 44])⟩,
    ⟨some 33, none, .p (.mv (.t 45))⟩,
    ⟨some 46, none, .p (.ext (.t 33) 0)⟩,
    ⟨some 47, none, .p (.ext (.t 33) 1)⟩,
    ⟨some 10, none, .p (.alloc (List.replicate 24 (.k (C.int .i64 0))))⟩,
    ⟨none, none, .h (.store 24 (.t 10) (.t 46))⟩,
    ⟨some 11, none, .p (.mv (.t 47))⟩] [1, 2, 3, 6, 7, 8, 9, 10] [])
  (.seq (.region [⟨some 48, none, .h (.load 24 true (.t 10))⟩,
    ⟨some 49, none, .p (.mv (.t 1))⟩,
    ⟨some 50, none, .p (.bin .sub (.t 49) (.k (.c (C.int .i64 1))))⟩,
    ⟨some 51, none, .p (.mv (.t 2))⟩,
    ⟨some 52, none, .h (.call (.f 36) [.t 48, .t 50, .t 51])⟩,
    ⟨some 12, none, .p (.alloc [.k (C.int .i64 0), .k (C.int .i64 0)])⟩,
    ⟨none, none, .h (.store 2 (.t 12) (.t 52))⟩] [1, 2, 3, 6, 7, 8, 9, 12])
  (.regionD [⟨some 53, none, .h (.load 2 true (.t 8))⟩,
    ⟨some 54, none, .p (.ixA 2 1 (.t 12) (.k (.c (C.int .i64 0))))⟩,
    ⟨some 55, none, .h (.load 1 false (.t 54))⟩,
    ⟨some 56, none, .p (.ixA 2 1 (.t 12) (.k (.c (C.int .i64 1))))⟩,
    ⟨some 57, none, .h (.load 1 false (.t 56))⟩,
    ⟨some 58, none, .p (.mv (.t 7))⟩,
    ⟨some 59, none, .p (.len (.t 58))⟩,
    ⟨some 60, none, .p (.bin .mul (.t 57) (.t 59))⟩,
    ⟨some 61, none, .h (.call (.f 66) [.t 55, .t 60])⟩,
    ⟨some 62, none, .h (.call (.f 65) [.t 53, .t 61])⟩,
    ⟨none, none, .h (.store 2 (.t 8) (.t 62))⟩] [1, 2, 3, 6, 7, 8, 9] []))))
  (.region [⟨some 31, none, .p (.mv (.t 9))⟩,
    ⟨some 32, none, .p (.bin .add (.t 31) (.k (.c (C.int .i64 1))))⟩,
    ⟨some 9, none, .p (.mv (.t 32))⟩] [1, 2, 3, 6, 7, 8, 9]))) [1, 2, 3, 6, 7, 8, 9])))
  (.seq (.region [⟨some 63, none, .h (.load 2 true (.t 8))⟩,
    ⟨none, none, .h (.store 2 (.t 6) (.t 63))⟩] [6])
  .ret)))))) }
theorem a36_ok : okFn Try.prog 36 a36 = true := by kernel_rfl
/-- loop.example/g01215/impl.mean -/
def a37 : AFn := { np := 3, nt := 59, res := [.cell 6 2 true], body :=
  (.seq (.region [⟨some 3, none, .p (.box 24 (.t 0))⟩,
    ⟨some 6, none, .p (.alloc [.k (C.int .i64 0), .k (C.int .i64 0)])⟩] [1, 2, 3, 6])
  (.seq (.seq (.region [⟨some 14, none, .p (.mv (.t 1))⟩,
    ⟨some 15, none, .p (.bin .eql (.t 14) (.k (.c (C.int .i64 0))))⟩,
    ⟨some 16, none, .p (.mv (.t 15))⟩,
    ⟨some 17, some (16, false), .h (.load 24 true (.t 3))⟩,
    ⟨some 18, some (16, false), .h (.call (.f 41) [.t 17])⟩,
    ⟨some 19, none, .p (.pick (.t 16) (.k (.c (C.bool true))) (.t 18))⟩] [1, 2, 3, 6, 19])
  (.cond (.t 19)
  (.seq (.region [⟨some 20, none, .p (.mv (.t 2))⟩,
    ⟨some 21, none, .h (.load 24 true (.t 3))⟩,
    ⟨some 22, none, .h (.call (.t 20) [.t 21])⟩,
    ⟨some 23, none, .p (.build [.k (C.int .i64 0), .k (C.int .i64 0)] [(0, 1, .t 22), (1, 1, .k (.c (C.int .i64 1)))])⟩,
    ⟨none, none, .h (.store 2 (.t 6) (.t 23))⟩] [6])
  .ret)
  .skip))
  (.seq (.region [⟨some 24, none, .h (.load 24 true (.t 3))⟩,
    ⟨some 25, none, .h (.call (.f 42) [.t 24])⟩,
    ⟨some 7, none, .p (.mv (.t 25))⟩] [1, 2, 3, 6, 7])
  (.seq (.region [⟨some 26, none, .p (.build [.k (C.int .i64 0), .k (C.int .i64 0)] [(0, 1, .k (.c (C.int .i64 0))), (1, 1, .k (.c (C.int .i64 1)))])⟩,
    ⟨some 8, none, .p (.alloc [.k (C.int .i64 0), .k (C.int .i64 0)])⟩,
    ⟨none, none, .h (.store 2 (.t 8) (.t 26))⟩] [1, 2, 3, 6, 7, 8])
  (.seq (.seq (.region [⟨some 27, none, .p (.mv (.t 7))⟩,
    ⟨some 28, none, .p (.len (.t 27))⟩,
    ⟨some 29, none, .p (.mv (.k (.c (C.int .i64 0))))⟩] [1, 2, 3, 6, 7, 8, 27, 28, 29])
  (.block 0 (.loop (.seq (.region [⟨some 30, none, .p (.bin .lss (.t 29) (.t 28))⟩] [1, 2, 3, 6, 7, 8, 27, 28, 29, 30])
  (.seq (.cond (.t 30)
  .skip
  (.exit 0))
  (.seq (.block 1 (.seq (.region [⟨some 31, none, .p (.ixS 2 (.t 27) (.t 29))⟩,
    ⟨some 32, none, .h (.load 2 true (.t 31))⟩,
    ⟨some 10, none, .p (.alloc [.k (C.int .i64 0), .k (C.int .i64 0)])⟩,
    ⟨none, none, .h (.store 2 (.t 10) (.t 32))⟩] [1, 2, 3, 6, 7, 8, 10, 27, 28, 29])
  (.seq (.region [⟨some 34, none, .h (.load 24 true (.t 3))⟩,
    ⟨some 35, none, .p (.ixA 2 1 (.t 10) (.k (.c (C.int .i64 0))))⟩,
    ⟨some 36, none, .h (.load 1 false (.t 35))⟩,
    ⟨some 37, none, .p (.ixA 2 1 (.t 10) (.k (.c (C.int .i64 1))))⟩,
    ⟨some 38, none, .h (.load 1 false (.t 37))⟩,
    ⟨some 39, none, .h (.call (.f 43) [.t 34, .t 36, .t 38])⟩,
    ⟨some 33, none, .p (.mv (.t 39))⟩,
    ⟨some 40, none, .p (.ext (.t 33) 0)⟩,
    ⟨some 41, none, .p (.ext (.t 33) 1)⟩,
    ⟨some 11, none, .p (.alloc (List.replicate 24 (.k (C.int .i64 0))))⟩,
    ⟨none, none, .h (.store 24 (.t 11) (.t 40))⟩,
    ⟨some 12, none, .p (.mv (.t 41))⟩] [1, 2, 3, 6, 7, 8, 11, 27, 28, 29])
  (.seq (.region [⟨some 42, none, .h (.load 24 true (.t 11))⟩,
    ⟨some 43, none, .p (.mv (.t 1))⟩,
    ⟨some 44, none, .p (.bin .sub (.t 43) (.k (.c (C.int .i64 1))))⟩,
    ⟨some 45, none, .p (.mv (.t 2))⟩,
    ⟨some 46, none, .h (.call (.f 37) [.t 42, .t 44, .t 45])⟩,
    ⟨some 13, none, .p (.alloc [.k (C.int .i64 0), .k (C.int .i64 0)])⟩,
    ⟨none, none, .h (.store 2 (.t 13) (.t 46))⟩] [1, 2, 3, 6, 7, 8, 13, 27, 28, 29])
  (.regionD [⟨some 47, none, .h (.load 2 true (.t 8))⟩,
    ⟨some 48, none, .p (.ixA 2 1 (.t 13) (.k (.c (C.int .i64 0))))⟩,
    ⟨some 49, none, .h (.load 1 false (.t 48))⟩,
    ⟨some 50, none, .p (.ixA 2 1 (.t 13) (.k (.c (C.int .i64 1))))⟩,
    ⟨some 51, none, .h (.load 1 false (.t 50))⟩,
    ⟨some 52, none, .p (.mv (.t 7))⟩,
    ⟨some 53, none, .p (.len (.t 52))⟩,
    ⟨some 54, none, .p (.bin .mul (.t 51) (.t 53))⟩,
    ⟨some 55, none, .h (.call (.f 68) [.t 49, .t 54])⟩,
    ⟨some 56, none, .h (.call (.f 67) [.t 47, .t 55])⟩,
    ⟨none, none, .h (.store 2 (.t 8) (.t 56))⟩] [1, 2, 3, 6, 7, 8, 27, 28, 29] [])))))
  (.region [⟨some 57, none, .p (.bin .add (.t 29) (.k (.c (C.int .i64 1))))⟩,
    ⟨some 29, none, .p (.mv (.t 57))⟩] [1, 2, 3, 6, 7, 8, 27, 28, 29])))) [1, 2, 3, 6, 7, 8, 27, 28, 29])))
  (.seq (.region [⟨some 58, none, .h (.load 2 true (.t 8))⟩,
    ⟨none, none, .h (.store 2 (.t 6) (.t 58))⟩] [6])
  .ret)))))) }
theorem a37_ok : okFn Try.prog 37 a37 = true := by kernel_rfl
/-- loop.example/g01215/impl.ChanceStuckBy$1 -/
def a38 : AFn := { np := 1, nt := 5, res := [.t 2], body :=
  (.seq (.region [⟨some 1, none, .p (.box 24 (.t 0))⟩,
    ⟨some 2, none, .p (.mv (.k (.c (C.int .i64 0))))⟩] [1])
  (.seq (.seq (.region [⟨some 3, none, .h (.load 24 true (.t 1))⟩,
    ⟨some 4, none, .h (.call (.f 39) [.t 3])⟩] [4])
  (.cond (.t 4)
  (.seq (.region [⟨some 2, none, .p (.mv (.k (.c (C.int .i64 1))))⟩] [2])
  .ret)
  .skip))
  (.seq (.region [⟨some 2, none, .p (.mv (.k (.c (C.int .i64 0))))⟩] [2])
  .ret))) }
theorem a38_ok : okFn Try.prog 38 a38 = true := by kernel_rfl
/-- loop.example/g01215/impl.isStuck -/
def a39 : AFn := { np := 1, nt := 12, res := [.t 2], body :=
  (.seq (.region [⟨some 1, none, .p (.box 24 (.t 0))⟩,
    ⟨some 2, none, .p (.mv (.k (.c (C.bool false))))⟩] [1])
  (.seq (.region [⟨some 3, none, .h (.load 24 true (.t 1))⟩,
    ⟨some 4, none, .h (.call (.f 55) [.t 3])⟩,
    ⟨some 5, none, .p (.un .not (.t 4))⟩,
    ⟨some 6, none, .p (.mv (.t 5))⟩,
    ⟨some 7, some (6, true), .h (.load 24 true (.t 1))⟩,
    ⟨some 8, some (6, true), .h (.call (.f 42) [.t 7])⟩,
    ⟨some 9, some (6, true), .p (.len (.t 8))⟩,
    ⟨some 10, some (6, true), .p (.bin .eql (.t 9) (.k (.c (C.int .i64 0))))⟩,
    ⟨some 11, none, .p (.pick (.t 6) (.t 10) (.k (.c (C.bool false))))⟩,
    ⟨some 2, none, .p (.mv (.t 11))⟩] [2])
  .ret)) }
theorem a39_ok : okFn Try.prog 39 a39 = true := by kernel_rfl
/-- loop.example/g01215/impl.countRuns -/
def a40 : AFn := { np := 1, nt := 18, res := [.t 2], body :=
  (.seq (.region [⟨some 1, none, .p (.box 24 (.t 0))⟩,
    ⟨some 2, none, .p (.mv (.k (.c (C.int .i64 0))))⟩] [1])
  (.seq (.region [⟨some 3, none, .p (.mv (.k (.c (C.int .i64 0))))⟩] [1, 3])
  (.seq (.seq (.region [⟨some 6, none, .p (.fld 0 (.t 1))⟩,
    ⟨some 7, none, .h (.load 24 true (.t 6))⟩,
    ⟨some 8, none, .p (.mv (.k (.c (C.int .i64 0))))⟩] [3, 7, 8])
  (.block 0 (.loop (.seq (.region [⟨some 9, none, .p (.bin .lss (.t 8) (.k (.c (C.int .i64 6))))⟩] [3, 7, 8, 9])
  (.seq (.cond (.t 9)
  .skip
  (.exit 0))
  (.seq (.block 1 (.seq (.region [⟨some 10, none, .p (.ixV 6 4 true (.t 7) (.t 8))⟩,
    ⟨some 5, none, .p (.alloc [.k (C.int .i64 0), .k (C.int .i64 0), .k (C.int .i64 0), .k (C.int .i64 0)])⟩,
    ⟨none, none, .h (.store 4 (.t 5) (.t 10))⟩] [3, 5, 7, 8])
  (.region [⟨some 11, none, .p (.mv (.t 3))⟩,
    ⟨some 12, none, .h (.load 4 true (.t 5))⟩,
    ⟨some 13, none, .h (.call (.f 69) [.t 12])⟩,
    ⟨some 14, none, .p (.len (.t 13))⟩,
    ⟨some 15, none, .p (.bin .add (.t 11) (.t 14))⟩,
    ⟨some 3, none, .p (.mv (.t 15))⟩] [3, 7, 8])))
  (.region [⟨some 16, none, .p (.bin .add (.t 8) (.k (.c (C.int .i64 1))))⟩,
    ⟨some 8, none, .p (.mv (.t 16))⟩] [3, 7, 8])))) [3, 7, 8])))
  (.seq (.region [⟨some 17, none, .p (.mv (.t 3))⟩,
    ⟨some 2, none, .p (.mv (.t 17))⟩] [2])
  .ret)))) }
theorem a40_ok : okFn Try.prog 40 a40 = true := by kernel_rfl
/-- loop.example/g01215/impl.isEnd -/
def a41 : AFn := { np := 1, nt := 11, res := [.t 2], body :=
  (.seq (.region [⟨some 1, none, .p (.box 24 (.t 0))⟩,
    ⟨some 2, none, .p (.mv (.k (.c (C.bool false))))⟩] [1])
  (.seq (.region [⟨some 3, none, .h (.load 24 true (.t 1))⟩,
    ⟨some 4, none, .h (.call (.f 55) [.t 3])⟩,
    ⟨some 5, none, .p (.mv (.t 4))⟩,
    ⟨some 6, some (5, false), .h (.load 24 true (.t 1))⟩,
    ⟨some 7, some (5, false), .h (.call (.f 42) [.t 6])⟩,
    ⟨some 8, some (5, false), .p (.len (.t 7))⟩,
    ⟨some 9, some (5, false), .p (.bin .eql (.t 8) (.k (.c (C.int .i64 0))))⟩,
    ⟨some 10, none, .p (.pick (.t 5) (.k (.c (C.bool true))) (.t 9))⟩,
    ⟨some 2, none, .p (.mv (.t 10))⟩] [2])
  .ret)) }
theorem a41_ok : okFn Try.prog 41 a41 = true := by kernel_rfl
/-- loop.example/g01215/impl.useful -/
def a42 : AFn := { np := 1, nt := 7, res := [.t 2], body :=
  (.seq (.region [⟨some 1, none, .p (.box 24 (.t 0))⟩,
    ⟨some 2, none, .p (.nilsl 2)⟩] [1])
  (.seq (.region [⟨some 3, none, .h (.load 24 true (.t 1))⟩,
    ⟨some 4, none, .h (.call (.f 71) [.t 3])⟩,
    ⟨some 5, none, .p (.mkfn 72 [.t 1])⟩,
    ⟨some 6, none, .h (.call (.f 70) [.t 4, .t 5])⟩,
    ⟨some 2, none, .p (.mv (.t 6))⟩] [2])
  .ret)) }
theorem a42_ok : okFn Try.prog 42 a42 = true := by kernel_rfl
/-- loop.example/g01215/impl.pour -/
def a43 : AFn := { np := 3, nt := 58, res := [.cell 6 24 true, .t 7], body :=
  (.seq (.region [⟨some 3, none, .p (.box 24 (.t 0))⟩,
    ⟨some 6, none, .p (.alloc (List.replicate 24 (.k (C.int .i64 0))))⟩,
    ⟨some 7, none, .p (.mv (.k (.c (C.int .i64 0))))⟩] [1, 2, 3, 6])
  (.seq (.region [⟨some 14, none, .p (.mv (.t 1))⟩,
    ⟨some 15, none, .p (.fld 0 (.t 3))⟩,
    ⟨some 16, none, .p (.ixA 6 4 (.t 15) (.t 14))⟩,
    ⟨some 17, none, .h (.load 4 true (.t 16))⟩,
    ⟨some 18, none, .h (.call (.f 74) [.t 17])⟩,
    ⟨some 13, none, .p (.mv (.t 18))⟩,
    ⟨some 19, none, .p (.ext (.t 13) 0)⟩,
    ⟨some 20, none, .p (.ext (.t 13) 1)⟩,
    ⟨some 8, none, .p (.mv (.t 19))⟩,
    ⟨some 9, none, .p (.mv (.t 20))⟩] [1, 2, 3, 6, 8, 9])
  (.seq (.regionD [⟨some 21, none, .p (.mv (.t 1))⟩,
    ⟨some 22, none, .p (.fld 0 (.t 3))⟩,
    ⟨some 23, none, .p (.ixA 6 4 (.t 22) (.t 21))⟩,
    ⟨some 24, none, .h (.load 4 true (.t 23))⟩,
    ⟨some 25, none, .h (.call (.f 75) [.t 24])⟩,
    ⟨some 26, none, .p (.mv (.t 2))⟩,
    ⟨some 27, none, .p (.fld 0 (.t 3))⟩,
    ⟨some 28, none, .p (.ixA 6 4 (.t 27) (.t 26))⟩,
    ⟨some 29, none, .h (.load 4 true (.t 28))⟩,
    ⟨some 30, none, .h (.call (.f 75) [.t 29])⟩,
    ⟨some 10, none, .p (.mv (.t 25))⟩,
    ⟨some 11, none, .p (.mv (.t 30))⟩] [1, 2, 3, 6, 8, 9, 10, 11] [])
  (.seq (.region [⟨some 31, none, .p (.mv (.t 9))⟩,
    ⟨some 32, none, .p (.mv (.t 11))⟩,
    ⟨some 33, none, .p (.bin .sub (.k (.c (C.int .i64 4))) (.t 32))⟩,
    ⟨some 34, none, .p (.mnmx false [.t 31, .t 33])⟩,
    ⟨some 9, none, .p (.mv (.t 34))⟩] [1, 2, 3, 6, 8, 9, 10, 11])
  (.seq (.seq (.region [⟨some 35, none, .p (.mv (.t 9))⟩,
    ⟨some 36, none, .p (.mv (.k (.c (C.int .i64 0))))⟩] [1, 2, 3, 6, 8, 9, 10, 11, 35, 36])
  (.block 0 (.loop (.seq (.region [⟨some 37, none, .p (.bin .lss (.t 36) (.t 35))⟩] [1, 2, 3, 6, 8, 9, 10, 11, 35, 36, 37])
  (.seq (.cond (.t 37)
  .skip
  (.exit 0))
  (.seq (.block 1 (.seq (.region [⟨some 38, none, .p (.mv (.t 36))⟩,
    ⟨some 12, none, .p (.mv (.t 38))⟩] [1, 2, 3, 6, 8, 9, 10, 11, 12, 35, 36])
  (.seq (.region [⟨some 39, none, .p (.mv (.t 1))⟩,
    ⟨some 40, none, .p (.mv (.t 10))⟩,
    ⟨some 41, none, .p (.bin .sub (.t 40) (.k (.c (C.int .i64 1))))⟩,
    ⟨some 42, none, .p (.mv (.t 12))⟩,
    ⟨some 43, none, .p (.bin .sub (.t 41) (.t 42))⟩,
    ⟨some 44, none, .p (.fld 0 (.t 3))⟩,
    ⟨some 45, none, .p (.ixA 6 4 (.t 44) (.t 39))⟩,
    ⟨some 46, none, .p (.ixA 4 1 (.t 45) (.t 43))⟩,
    ⟨none, none, .h (.store 1 (.t 46) (.k (.c (C.int .i64 0))))⟩] [1, 2, 3, 6, 8, 9, 10, 11, 12, 35, 36])
  (.region [⟨some 47, none, .p (.mv (.t 2))⟩,
    ⟨some 48, none, .p (.mv (.t 11))⟩,
    ⟨some 49, none, .p (.mv (.t 12))⟩,
    ⟨some 50, none, .p (.bin .add (.t 48) (.t 49))⟩,
    ⟨some 51, none, .p (.mv (.t 8))⟩,
    ⟨some 52, none, .p (.fld 0 (.t 3))⟩,
    ⟨some 53, none, .p (.ixA 6 4 (.t 52) (.t 47))⟩,
    ⟨some 54, none, .p (.ixA 4 1 (.t 53) (.t 50))⟩,
    ⟨none, none, .h (.store 1 (.t 54) (.t 51))⟩] [1, 2, 3, 6, 8, 9, 10, 11, 35, 36]))))
  (.region [⟨some 55, none, .p (.bin .add (.t 36) (.k (.c (C.int .i64 1))))⟩,
    ⟨some 36, none, .p (.mv (.t 55))⟩] [1, 2, 3, 6, 8, 9, 10, 11, 35, 36])))) [1, 2, 3, 6, 8, 9, 10, 11, 35, 36])))
  (.seq (.region [⟨some 56, none, .h (.load 24 true (.t 3))⟩,
    ⟨some 57, none, .p (.mv (.t 9))⟩,
    ⟨none, none, .h (.store 24 (.t 6) (.t 56))⟩,
    ⟨some 7, none, .p (.mv (.t 57))⟩] [6, 7])
  .ret)))))) }
theorem a43_ok : okFn Try.prog 43 a43 = true := by kernel_rfl
/-- loop.example/g01215/spec.l9Ends -/
def a44 : AFn := { np := 2, nt := 70, res := [.t 4], body :=
  (.seq (.region [⟨some 2, none, .p (.box 24 (.t 0))⟩,
    ⟨some 4, none, .p (.nilsl 24)⟩] [1, 2])
  (.seq (.region [⟨some 13, none, .h (.load 24 true (.t 2))⟩,
    ⟨some 14, none, .p (.mksl 24 1 (List.replicate 24 (.k (C.int .i64 0))) [(0, 24, .t 13)])⟩,
    ⟨some 5, none, .p (.mv (.t 14))⟩] [1, 5])
  (.seq (.seq (.region [⟨some 6, none, .p (.mv (.k (.c (C.int .i64 0))))⟩] [1, 5, 6])
  (.block 0 (.loop (.seq (.seq (.region [⟨some 15, none, .p (.mv (.t 6))⟩,
    ⟨some 16, none, .p (.mv (.t 1))⟩,
    ⟨some 17, none, .p (.bin .lss (.t 15) (.t 16))⟩] [1, 5, 6, 17])
  (.cond (.t 17)
  .skip
  (.exit 0)))
  (.seq (.block 1 (.seq (.region [⟨some 20, none, .p (.mksl 24 0 (List.replicate 24 (.k (C.int .i64 0))) [])⟩,
    ⟨some 7, none, .p (.mv (.t 20))⟩] [1, 5, 6, 7])
  (.seq (.seq (.region [⟨some 8, none, .p (.mv (.k (.c (C.int .i64 0))))⟩] [1, 5, 6, 7, 8])
  (.block 2 (.loop (.seq (.seq (.region [⟨some 21, none, .p (.mv (.t 8))⟩,
    ⟨some 22, none, .p (.mv (.t 5))⟩,
    ⟨some 23, none, .p (.len (.t 22))⟩,
    ⟨some 24, none, .p (.bin .lss (.t 21) (.t 23))⟩] [1, 5, 6, 7, 8, 24])
  (.cond (.t 24)
  .skip
  (.exit 2)))
  (.seq (.block 3 (.seq (.region [⟨some 27, none, .p (.mv (.t 5))⟩,
    ⟨some 28, none, .p (.mv (.t 8))⟩,
    ⟨some 29, none, .p (.ixS 24 (.t 27) (.t 28))⟩,
    ⟨some 30, none, .h (.load 24 true (.t 29))⟩,
    ⟨some 31, none, .h (.call (.f 51) [.t 30])⟩,
    ⟨some 9, none, .p (.mv (.t 31))⟩] [1, 5, 6, 7, 8, 9])
  (.seq (.seq (.region [⟨some 32, none, .p (.mv (.t 9))⟩,
    ⟨some 33, none, .p (.len (.t 32))⟩,
    ⟨some 34, none, .p (.bin .eql (.t 33) (.k (.c (C.int .i64 0))))⟩] [1, 5, 6, 7, 8, 9, 34])
  (.cond (.t 34)
  (.region [⟨some 35, none, .p (.mv (.t 7))⟩,
    ⟨some 36, none, .p (.mv (.t 5))⟩,
    ⟨some 37, none, .p (.mv (.t 8))⟩,
    ⟨some 38, none, .p (.ixS 24 (.t 36) (.t 37))⟩,
    ⟨some 39, none, .h (.load 24 true (.t 38))⟩,
    ⟨some 40, none, .h (.call (.f 76) [.t 35, .t 39])⟩,
    ⟨some 7, none, .p (.mv (.t 40))⟩] [1, 5, 6, 7, 8, 9])
  .skip))
  (.seq (.region [⟨some 10, none, .p (.mv (.k (.c (C.int .i64 0))))⟩] [1, 5, 6, 7, 8, 9, 10])
  (.block 4 (.loop (.seq (.seq (.region [⟨some 41, none, .p (.mv (.t 10))⟩,
    ⟨some 42, none, .p (.mv (.t 9))⟩,
    ⟨some 43, none, .p (.len (.t 42))⟩,
    ⟨some 44, none, .p (.bin .lss (.t 41) (.t 43))⟩] [1, 5, 6, 7, 8, 9, 10, 44])
  (.cond (.t 44)
  .skip
  (.exit 4)))
  (.seq (.block 5 (.seq (.regionD [⟨some 48, none, .p (.mv (.t 5))⟩,
    ⟨some 49, none, .p (.mv (.t 8))⟩,
    ⟨some 50, none, .p (.ixS 24 (.t 48) (.t 49))⟩,
    ⟨some 51, none, .h (.load 24 true (.t 50))⟩,
    ⟨some 52, none, .p (.mv (.t 9))⟩,
    ⟨some 53, none, .p (.mv (.t 10))⟩,
    ⟨some 54, none, .p (.ixS 2 (.t 52) (.t 53))⟩,
    ⟨some 55, none, .p (.ixA 2 1 (.t 54) (.k (.c (C.int .i64 0))))⟩,
    ⟨some 56, none, .h (.load 1 false (.t 55))⟩,
    ⟨some 57, none, .p (.mv (.t 9))⟩,
    ⟨some 58, none, .p (.mv (.t 10))⟩,
    ⟨some 59, none, .p (.ixS 2 (.t 57) (.t 58))⟩,
    ⟨some 60, none, .p (.ixA 2 1 (.t 59) (.k (.c (C.int .i64 1))))⟩,
    ⟨some 61, none, .h (.load 1 false (.t 60))⟩,
    ⟨some 62, none, .h (.call (.f 52) [.t 51, .t 56, .t 61])⟩,
    ⟨some 47, none, .p (.mv (.t 62))⟩,
    ⟨some 63, none, .p (.ext (.t 47) 0)⟩,
    ⟨some 64, none, .p (.ext (.t 47) 1)⟩,
    ⟨some 11, none, .p (.alloc (List.replicate 24 (.k (C.int .i64 0))))⟩,
    ⟨none, none, .h (.store 24 (.t 11) (.t 63))⟩,
    ⟨some 12, none, .p (.mv (.t 64))⟩] [1, 5, 6, 7, 8, 9, 10, 11] [])
  (.region [⟨some 65, none, .p (.mv (.t 7))⟩,
    ⟨some 66, none, .h (.load 24 true (.t 11))⟩,
    ⟨some 67, none, .h (.call (.f 76) [.t 65, .t 66])⟩,
    ⟨some 7, none, .p (.mv (.t 67))⟩] [1, 5, 6, 7, 8, 9, 10])))
  (.region [⟨some 45, none, .p (.mv (.t 10))⟩,
    ⟨some 46, none, .p (.bin .add (.t 45) (.k (.c (C.int .i64 1))))⟩,
    ⟨some 10, none, .p (.mv (.t 46))⟩] [1, 5, 6, 7, 8, 9, 10]))) [1, 5, 6, 7, 8, 9, 10]))))))
  (.region [⟨some 25, none, .p (.mv (.t 8))⟩,
    ⟨some 26, none, .p (.bin .add (.t 25) (.k (.c (C.int .i64 1))))⟩,
    ⟨some 8, none, .p (.mv (.t 26))⟩] [1, 5, 6, 7, 8]))) [1, 5, 6, 7, 8])))
  (.region [⟨some 68, none, .p (.mv (.t 7))⟩,
    ⟨some 5, none, .p (.mv (.t 68))⟩] [1, 5, 6]))))
  (.region [⟨some 18, none, .p (.mv (.t 6))⟩,
    ⟨some 19, none, .p (.bin .add (.t 18) (.k (.c (C.int .i64 1))))⟩,
    ⟨some 6, none, .p (.mv (.t 19))⟩] [1, 5, 6]))) [1, 5, 6])))
  (.seq (.region [⟨some 69, none, .p (.mv (.t 5))⟩,
    ⟨some 4, none, .p (.mv (.t 69))⟩] [4])
  .ret)))) }
theorem a44_ok : okFn Try.prog 44 a44 = true := by kernel_rfl
/-- loop.example/g01215/impl.IsRack -/
def a45 : AFn := { np := 1, nt := 6, res := [.t 2], body :=
  (.seq (.region [⟨some 1, none, .p (.box 24 (.t 0))⟩,
    ⟨some 2, none, .p (.mv (.k (.c (C.bool false))))⟩] [1])
  (.seq (.region [⟨some 3, none, .p (.fld 0 (.t 1))⟩,
    ⟨some 4, none, .h (.slA 6 4 (.t 3) none none)⟩,
    ⟨some 5, none, .h (.call (.f 77) [.t 4, .f 78])⟩,
    ⟨some 2, none, .p (.mv (.t 5))⟩] [2])
  .ret)) }
theorem a45_ok : okFn Try.prog 45 a45 = true := by kernel_rfl
/-- loop.example/g01215/spec.l2Rack -/
def a46 : AFn := { np := 1, nt := 44, res := [.t 2], body :=
  (.seq (.region [⟨some 1, none, .p (.box 24 (.t 0))⟩,
    ⟨some 2, none, .p (.mv (.k (.c (C.bool false))))⟩] [1])
  (.seq (.seq (.region [⟨some 3, none, .p (.mv (.k (.c (C.int .i64 0))))⟩] [1, 3])
  (.block 0 (.loop (.seq (.seq (.region [⟨some 5, none, .p (.mv (.t 3))⟩,
    ⟨some 6, none, .p (.bin .lss (.t 5) (.k (.c (C.int .i64 6))))⟩] [1, 3, 6])
  (.cond (.t 6)
  .skip
  (.exit 0)))
  (.seq (.block 1 (.seq (.region [⟨some 4, none, .p (.mv (.k (.c (C.int .i64 0))))⟩] [1, 3, 4])
  (.block 2 (.loop (.seq (.seq (.region [⟨some 9, none, .p (.mv (.t 4))⟩,
    ⟨some 10, none, .p (.bin .lss (.t 9) (.k (.c (C.int .i64 4))))⟩] [1, 3, 4, 10])
  (.cond (.t 10)
  .skip
  (.exit 2)))
  (.seq (.block 3 (.seq (.region [⟨some 13, none, .p (.mv (.t 3))⟩,
    ⟨some 14, none, .p (.mv (.t 4))⟩,
    ⟨some 15, none, .p (.fld 0 (.t 1))⟩,
    ⟨some 16, none, .p (.ixA 6 4 (.t 15) (.t 13))⟩,
    ⟨some 17, none, .p (.ixA 4 1 (.t 16) (.t 14))⟩,
    ⟨some 18, none, .h (.load 1 false (.t 17))⟩,
    ⟨some 19, none, .h (.call (.f 50) [.t 18, .k (.c (C.int .i64 0)), .k (.c (C.int .i64 5))])⟩,
    ⟨some 20, none, .p (.un .not (.t 19))⟩,
    ⟨some 21, none, .p (.mv (.t 20))⟩,
    ⟨some 22, some (21, false), .p (.mv (.t 4))⟩,
    ⟨some 23, some (21, false), .p (.bin .gtr (.t 22) (.k (.c (C.int .i64 0))))⟩,
    ⟨some 24, some (21, false), .p (.mv (.t 23))⟩,
    ⟨some 25, some (24, true), .p (.mv (.t 3))⟩,
    ⟨some 26, some (24, true), .p (.mv (.t 4))⟩,
    ⟨some 27, some (24, true), .p (.fld 0 (.t 1))⟩,
    ⟨some 28, some (24, true), .p (.ixA 6 4 (.t 27) (.t 25))⟩,
    ⟨some 29, some (24, true), .p (.ixA 4 1 (.t 28) (.t 26))⟩,
    ⟨some 30, some (24, true), .h (.load 1 false (.t 29))⟩,
    ⟨some 31, some (24, true), .p (.bin .gtr (.t 30) (.k (.c (C.int .i64 0))))⟩,
    ⟨some 32, some (21, false), .p (.pick (.t 24) (.t 31) (.k (.c (C.bool false))))⟩,
    ⟨some 33, some (21, false), .p (.mv (.t 32))⟩,
    ⟨some 34, some (33, true), .p (.mv (.t 3))⟩,
    ⟨some 35, some (33, true), .p (.mv (.t 4))⟩,
    ⟨some 36, some (33, true), .p (.bin .sub (.t 35) (.k (.c (C.int .i64 1))))⟩,
    ⟨some 37, some (33, true), .p (.fld 0 (.t 1))⟩,
    ⟨some 38, some (33, true), .p (.ixA 6 4 (.t 37) (.t 34))⟩,
    ⟨some 39, some (33, true), .p (.ixA 4 1 (.t 38) (.t 36))⟩,
    ⟨some 40, some (33, true), .h (.load 1 false (.t 39))⟩,
    ⟨some 41, some (33, true), .p (.bin .eql (.t 40) (.k (.c (C.int .i64 0))))⟩,
    ⟨some 42, some (21, false), .p (.pick (.t 33) (.t 41) (.k (.c (C.bool false))))⟩,
    ⟨some 43, none, .p (.pick (.t 21) (.k (.c (C.bool true))) (.t 42))⟩] [1, 3, 4, 43])
  (.cond (.t 43)
  (.seq (.region [⟨some 2, none, .p (.mv (.k (.c (C.bool false))))⟩] [2])
  .ret)
  .skip)))
  (.region [⟨some 11, none, .p (.mv (.t 4))⟩,
    ⟨some 12, none, .p (.bin .add (.t 11) (.k (.c (C.int .i64 1))))⟩,
    ⟨some 4, none, .p (.mv (.t 12))⟩] [1, 3, 4]))) [1, 3, 4]))))
  (.region [⟨some 7, none, .p (.mv (.t 3))⟩,
    ⟨some 8, none, .p (.bin .add (.t 7) (.k (.c (C.int .i64 1))))⟩,
    ⟨some 3, none, .p (.mv (.t 8))⟩] [1, 3]))) [1, 3])))
  (.seq (.region [⟨some 2, none, .p (.mv (.k (.c (C.bool true))))⟩] [2])
  .ret))) }
theorem a46_ok : okFn Try.prog 46 a46 = true := by kernel_rfl
/-- loop.example/g01215/spec.l6Runs -/
def a47 : AFn := { np := 1, nt := 18, res := [.t 2], body :=
  (.seq (.region [⟨some 1, none, .p (.box 24 (.t 0))⟩,
    ⟨some 2, none, .p (.mv (.k (.c (C.int .i64 0))))⟩] [1])
  (.seq (.region [⟨some 3, none, .p (.mv (.k (.c (C.int .i64 0))))⟩] [1, 3])
  (.seq (.seq (.region [⟨some 4, none, .p (.mv (.k (.c (C.int .i64 0))))⟩] [1, 3, 4])
  (.block 0 (.loop (.seq (.seq (.region [⟨some 5, none, .p (.mv (.t 4))⟩,
    ⟨some 6, none, .p (.bin .lss (.t 5) (.k (.c (C.int .i64 6))))⟩] [1, 3, 4, 6])
  (.cond (.t 6)
  .skip
  (.exit 0)))
  (.seq (.block 1 (.region [⟨some 9, none, .p (.mv (.t 3))⟩,
    ⟨some 10, none, .p (.mv (.t 4))⟩,
    ⟨some 11, none, .p (.fld 0 (.t 1))⟩,
    ⟨some 12, none, .p (.ixA 6 4 (.t 11) (.t 10))⟩,
    ⟨some 13, none, .h (.load 4 true (.t 12))⟩,
    ⟨some 14, none, .h (.call (.f 79) [.t 13])⟩,
    ⟨some 15, none, .p (.len (.t 14))⟩,
    ⟨some 16, none, .p (.bin .add (.t 9) (.t 15))⟩,
    ⟨some 3, none, .p (.mv (.t 16))⟩] [1, 3, 4]))
  (.region [⟨some 7, none, .p (.mv (.t 4))⟩,
    ⟨some 8, none, .p (.bin .add (.t 7) (.k (.c (C.int .i64 1))))⟩,
    ⟨some 4, none, .p (.mv (.t 8))⟩] [1, 3, 4]))) [1, 3, 4])))
  (.seq (.region [⟨some 17, none, .p (.mv (.t 3))⟩,
    ⟨some 2, none, .p (.mv (.t 17))⟩] [2])
  .ret)))) }
theorem a47_ok : okFn Try.prog 47 a47 = true := by kernel_rfl
/-- (*loop.example/g01215/spec.l1Cur).among -/
def a48 : AFn := { np := 2, nt := 12, res := [.t 4], body :=
  (.seq (.region [⟨some 4, none, .p (.mv (.k (.c (C.int .i64 0))))⟩] [0, 1])
  (.seq (.region [⟨some 5, none, .p (.mv (.t 1))⟩,
    ⟨some 6, none, .p (.mv (.t 0))⟩,
    ⟨some 7, none, .p (.mv (.t 1))⟩,
    ⟨some 8, none, .p (.len (.t 7))⟩,
    ⟨some 9, none, .h (.call (.f 49) [.t 6, .t 8])⟩,
    ⟨some 10, none, .p (.ixS 1 (.t 5) (.t 9))⟩,
    ⟨some 11, none, .h (.load 1 false (.t 10))⟩,
    ⟨some 4, none, .p (.mv (.t 11))⟩] [4])
  .ret)) }
theorem a48_ok : okFn Try.prog 48 a48 = true := by kernel_rfl
/-- (*loop.example/g01215/spec.l1Cur).pick -/
def a49 : AFn := { np := 2, nt := 20, res := [.t 4], body :=
  (.seq (.region [⟨some 4, none, .p (.mv (.k (.c (C.int .i64 0))))⟩] [0, 1])
  (.seq (.seq (.region [⟨some 6, none, .p (.mv (.t 1))⟩,
    ⟨some 7, none, .p (.bin .leq (.t 6) (.k (.c (C.int .i64 1))))⟩] [0, 1, 7])
  (.cond (.t 7)
  (.seq (.region [⟨some 4, none, .p (.mv (.k (.c (C.int .i64 0))))⟩] [4])
  .ret)
  .skip))
  (.seq (.region [⟨some 8, none, .p (.mv (.t 0))⟩,
    ⟨some 9, none, .h (.call (.f 80) [.t 8])⟩,
    ⟨some 5, none, .p (.mv (.t 9))⟩] [0, 1, 5])
  (.seq (.seq (.region [⟨some 10, none, .p (.mv (.t 1))⟩,
    ⟨some 11, none, .p (.bin .gtr (.t 10) (.k (.c (C.int .i64 200))))⟩] [0, 1, 5, 11])
  (.cond (.t 11)
  (.region [⟨some 12, none, .p (.mv (.t 5))⟩,
    ⟨some 13, none, .p (.bin .mul (.t 12) (.k (.c (C.int .i64 256))))⟩,
    ⟨some 14, none, .p (.mv (.t 0))⟩,
    ⟨some 15, none, .h (.call (.f 80) [.t 14])⟩,
    ⟨some 16, none, .p (.bin .add (.t 13) (.t 15))⟩,
    ⟨some 5, none, .p (.mv (.t 16))⟩] [1, 5])
  .skip))
  (.seq (.region [⟨some 17, none, .p (.mv (.t 5))⟩,
    ⟨some 18, none, .p (.mv (.t 1))⟩,
    ⟨some 19, none, .p (.bin .rem (.t 17) (.t 18))⟩,
    ⟨some 4, none, .p (.mv (.t 19))⟩] [4])
  .ret))))) }
theorem a49_ok : okFn Try.prog 49 a49 = true := by kernel_rfl
/-- loop.example/g01215/spec.l1In -/
def a50 : AFn := { np := 3, nt := 15, res := [.t 6], body :=
  (.seq (.region [⟨some 6, none, .p (.mv (.k (.c (C.bool false))))⟩] [0, 1, 2])
  (.seq (.region [⟨some 7, none, .p (.mv (.t 0))⟩,
    ⟨some 8, none, .p (.mv (.t 1))⟩,
    ⟨some 9, none, .p (.bin .geq (.t 7) (.t 8))⟩,
    ⟨some 10, none, .p (.mv (.t 9))⟩,
    ⟨some 11, some (10, true), .p (.mv (.t 0))⟩,
    ⟨some 12, some (10, true), .p (.mv (.t 2))⟩,
    ⟨some 13, some (10, true), .p (.bin .leq (.t 11) (.t 12))⟩,
    ⟨some 14, none, .p (.pick (.t 10) (.t 13) (.k (.c (C.bool false))))⟩,
    ⟨some 6, none, .p (.mv (.t 14))⟩] [6])
  .ret)) }
theorem a50_ok : okFn Try.prog 50 a50 = true := by kernel_rfl
/-- loop.example/g01215/spec.l9Moves -/
def a51 : AFn := { np := 1, nt := 8, res := [.t 2], body :=
  (.seq (.region [⟨some 1, none, .p (.box 24 (.t 0))⟩,
    ⟨some 2, none, .p (.nilsl 2)⟩] [1])
  (.seq (.seq (.region [⟨some 3, none, .h (.load 24 true (.t 1))⟩,
    ⟨some 4, none, .h (.call (.f 81) [.t 3])⟩] [1, 4])
  (.cond (.t 4)
  (.seq (.region [⟨some 5, none, .p (.mksl 2 0 [.k (C.int .i64 0), .k (C.int .i64 0)] [])⟩,
    ⟨some 2, none, .p (.mv (.t 5))⟩] [2])
  .ret)
  .skip))
  (.seq (.region [⟨some 6, none, .h (.load 24 true (.t 1))⟩,
    ⟨some 7, none, .h (.call (.f 82) [.t 6])⟩,
    ⟨some 2, none, .p (.mv (.t 7))⟩] [2])
  .ret))) }
theorem a51_ok : okFn Try.prog 51 a51 = true := by kernel_rfl
/-- loop.example/g01215/spec.l2Pour -/
def a52 : AFn := { np := 3, nt := 59, res := [.cell 6 24 true, .t 7], body :=
  (.seq (.region [⟨some 3, none, .p (.box 24 (.t 0))⟩,
    ⟨some 6, none, .p (.alloc (List.replicate 24 (.k (C.int .i64 0))))⟩,
    ⟨some 7, none, .p (.mv (.k (.c (C.int .i64 0))))⟩] [1, 2, 3, 6])
  (.seq (.region [⟨some 15, none, .p (.mv (.t 1))⟩,
    ⟨some 16, none, .p (.fld 0 (.t 3))⟩,
    ⟨some 17, none, .p (.ixA 6 4 (.t 16) (.t 15))⟩,
    ⟨some 18, none, .h (.load 4 true (.t 17))⟩,
    ⟨some 19, none, .h (.call (.f 83) [.t 18])⟩,
    ⟨some 14, none, .p (.mv (.t 19))⟩,
    ⟨some 20, none, .p (.ext (.t 14) 0)⟩,
    ⟨some 21, none, .p (.ext (.t 14) 1)⟩,
    ⟨some 8, none, .p (.mv (.t 20))⟩,
    ⟨some 9, none, .p (.mv (.t 21))⟩] [1, 2, 3, 6, 8, 9])
  (.seq (.regionD [⟨some 22, none, .p (.mv (.t 1))⟩,
    ⟨some 23, none, .p (.fld 0 (.t 3))⟩,
    ⟨some 24, none, .p (.ixA 6 4 (.t 23) (.t 22))⟩,
    ⟨some 25, none, .h (.load 4 true (.t 24))⟩,
    ⟨some 26, none, .h (.call (.f 84) [.t 25])⟩,
    ⟨some 27, none, .p (.mv (.t 2))⟩,
    ⟨some 28, none, .p (.fld 0 (.t 3))⟩,
    ⟨some 29, none, .p (.ixA 6 4 (.t 28) (.t 27))⟩,
    ⟨some 30, none, .h (.load 4 true (.t 29))⟩,
    ⟨some 31, none, .h (.call (.f 84) [.t 30])⟩,
    ⟨some 10, none, .p (.mv (.t 26))⟩,
    ⟨some 11, none, .p (.mv (.t 31))⟩] [1, 2, 3, 6, 8, 9, 10, 11] [])
  (.seq (.region [⟨some 32, none, .p (.mv (.t 9))⟩,
    ⟨some 33, none, .p (.mv (.t 11))⟩,
    ⟨some 34, none, .p (.bin .sub (.k (.c (C.int .i64 4))) (.t 33))⟩,
    ⟨some 35, none, .h (.call (.f 85) [.t 32, .t 34])⟩,
    ⟨some 12, none, .p (.mv (.t 35))⟩] [1, 2, 3, 6, 8, 10, 11, 12])
  (.seq (.seq (.region [⟨some 13, none, .p (.mv (.k (.c (C.int .i64 0))))⟩] [1, 2, 3, 6, 8, 10, 11, 12, 13])
  (.block 0 (.loop (.seq (.seq (.region [⟨some 36, none, .p (.mv (.t 13))⟩,
    ⟨some 37, none, .p (.mv (.t 12))⟩,
    ⟨some 38, none, .p (.bin .lss (.t 36) (.t 37))⟩] [1, 2, 3, 6, 8, 10, 11, 12, 13, 38])
  (.cond (.t 38)
  .skip
  (.exit 0)))
  (.seq (.block 1 (.seq (.region [⟨some 41, none, .p (.mv (.t 1))⟩,
    ⟨some 42, none, .p (.mv (.t 10))⟩,
    ⟨some 43, none, .p (.bin .sub (.t 42) (.k (.c (C.int .i64 1))))⟩,
    ⟨some 44, none, .p (.mv (.t 13))⟩,
    ⟨some 45, none, .p (.bin .sub (.t 43) (.t 44))⟩,
    ⟨some 46, none, .p (.fld 0 (.t 3))⟩,
    ⟨some 47, none, .p (.ixA 6 4 (.t 46) (.t 41))⟩,
    ⟨some 48, none, .p (.ixA 4 1 (.t 47) (.t 45))⟩,
    ⟨none, none, .h (.store 1 (.t 48) (.k (.c (C.int .i64 0))))⟩] [1, 2, 3, 6, 8, 10, 11, 12, 13])
  (.region [⟨some 49, none, .p (.mv (.t 2))⟩,
    ⟨some 50, none, .p (.mv (.t 11))⟩,
    ⟨some 51, none, .p (.mv (.t 13))⟩,
    ⟨some 52, none, .p (.bin .add (.t 50) (.t 51))⟩,
    ⟨some 53, none, .p (.mv (.t 8))⟩,
    ⟨some 54, none, .p (.fld 0 (.t 3))⟩,
    ⟨some 55, none, .p (.ixA 6 4 (.t 54) (.t 49))⟩,
    ⟨some 56, none, .p (.ixA 4 1 (.t 55) (.t 52))⟩,
    ⟨none, none, .h (.store 1 (.t 56) (.t 53))⟩] [1, 2, 3, 6, 8, 10, 11, 12, 13])))
  (.region [⟨some 39, none, .p (.mv (.t 13))⟩,
    ⟨some 40, none, .p (.bin .add (.t 39) (.k (.c (C.int .i64 1))))⟩,
    ⟨some 13, none, .p (.mv (.t 40))⟩] [1, 2, 3, 6, 8, 10, 11, 12, 13]))) [1, 2, 3, 6, 8, 10, 11, 12, 13])))
  (.seq (.region [⟨some 57, none, .h (.load 24 true (.t 3))⟩,
    ⟨some 58, none, .p (.mv (.t 12))⟩,
    ⟨none, none, .h (.store 24 (.t 6) (.t 57))⟩,
    ⟨some 7, none, .p (.mv (.t 58))⟩] [6, 7])
  .ret)))))) }
theorem a52_ok : okFn Try.prog 52 a52 = true := by kernel_rfl
/-- loop.example/g01215/impl.isAt -/
def a53 : AFn := { np := 2, nt := 11, res := [.t 4], body :=
  (.seq (.region [⟨some 2, none, .p (.box 24 (.t 0))⟩,
    ⟨some 4, none, .p (.mv (.k (.c (C.bool false))))⟩] [1, 2])
  (.seq (.region [⟨some 5, none, .h (.load 24 true (.t 2))⟩,
    ⟨some 6, none, .h (.call (.f 45) [.t 5])⟩,
    ⟨some 7, none, .p (.mv (.t 6))⟩,
    ⟨some 8, some (7, true), .p (.mv (.t 1))⟩,
    ⟨some 9, some (7, true), .h (.call (.f 86) [.t 8, .f 87])⟩,
    ⟨some 10, none, .p (.pick (.t 7) (.t 9) (.k (.c (C.bool false))))⟩,
    ⟨some 4, none, .p (.mv (.t 10))⟩] [4])
  .ret)) }
theorem a53_ok : okFn Try.prog 53 a53 = true := by kernel_rfl
/-- loop.example/g01215/impl.canPour -/
def a54 : AFn := { np := 3, nt := 51, res := [.t 6], body :=
  (.seq (.region [⟨some 3, none, .p (.box 24 (.t 0))⟩,
    ⟨some 6, none, .p (.mv (.k (.c (C.bool false))))⟩] [1, 2, 3])
  (.seq (.region [⟨some 12, none, .p (.mv (.t 1))⟩,
    ⟨some 13, none, .p (.fld 0 (.t 3))⟩,
    ⟨some 14, none, .p (.ixA 6 4 (.t 13) (.t 12))⟩,
    ⟨some 15, none, .h (.load 4 true (.t 14))⟩,
    ⟨some 16, none, .h (.call (.f 74) [.t 15])⟩,
    ⟨some 11, none, .p (.mv (.t 16))⟩,
    ⟨some 17, none, .p (.ext (.t 11) 0)⟩,
    ⟨some 18, none, .p (.ext (.t 11) 1)⟩,
    ⟨some 7, none, .p (.mv (.t 17))⟩,
    ⟨some 8, none, .p (.mv (.t 18))⟩] [1, 2, 3, 7])
  (.seq (.region [⟨some 20, none, .p (.mv (.t 2))⟩,
    ⟨some 21, none, .p (.fld 0 (.t 3))⟩,
    ⟨some 22, none, .p (.ixA 6 4 (.t 21) (.t 20))⟩,
    ⟨some 23, none, .h (.load 4 true (.t 22))⟩,
    ⟨some 24, none, .h (.call (.f 74) [.t 23])⟩,
    ⟨some 19, none, .p (.mv (.t 24))⟩,
    ⟨some 25, none, .p (.ext (.t 19) 0)⟩,
    ⟨some 26, none, .p (.ext (.t 19) 1)⟩,
    ⟨some 9, none, .p (.mv (.t 25))⟩,
    ⟨some 10, none, .p (.mv (.t 26))⟩] [1, 2, 3, 7, 9])
  (.seq (.region [⟨some 27, none, .p (.mv (.t 1))⟩,
    ⟨some 28, none, .p (.mv (.t 2))⟩,
    ⟨some 29, none, .p (.bin .neq (.t 27) (.t 28))⟩,
    ⟨some 30, none, .p (.mv (.t 29))⟩,
    ⟨some 31, some (30, true), .p (.mv (.t 7))⟩,
    ⟨some 32, some (30, true), .p (.bin .gtr (.t 31) (.k (.c (C.int .i64 0))))⟩,
    ⟨some 33, none, .p (.pick (.t 30) (.t 32) (.k (.c (C.bool false))))⟩,
    ⟨some 34, none, .p (.mv (.t 33))⟩,
    ⟨some 35, some (34, true), .p (.mv (.t 2))⟩,
    ⟨some 36, some (34, true), .p (.fld 0 (.t 3))⟩,
    ⟨some 37, some (34, true), .p (.ixA 6 4 (.t 36) (.t 35))⟩,
    ⟨some 38, some (34, true), .h (.load 4 true (.t 37))⟩,
    ⟨some 39, some (34, true), .h (.call (.f 75) [.t 38])⟩,
    ⟨some 40, some (34, true), .p (.bin .lss (.t 39) (.k (.c (C.int .i64 4))))⟩,
    ⟨some 41, none, .p (.pick (.t 34) (.t 40) (.k (.c (C.bool false))))⟩,
    ⟨some 42, none, .p (.mv (.t 41))⟩,
    ⟨some 43, some (42, true), .p (.mv (.t 9))⟩,
    ⟨some 44, some (42, true), .p (.bin .eql (.t 43) (.k (.c (C.int .i64 0))))⟩,
    ⟨some 45, some (42, true), .p (.mv (.t 44))⟩,
    ⟨some 46, some (45, false), .p (.mv (.t 9))⟩,
    ⟨some 47, some (45, false), .p (.mv (.t 7))⟩,
    ⟨some 48, some (45, false), .p (.bin .eql (.t 46) (.t 47))⟩,
    ⟨some 49, some (42, true), .p (.pick (.t 45) (.k (.c (C.bool true))) (.t 48))⟩,
    ⟨some 50, none, .p (.pick (.t 42) (.t 49) (.k (.c (C.bool false))))⟩,
    ⟨some 6, none, .p (.mv (.t 50))⟩] [6])
  .ret)))) }
theorem a54_ok : okFn Try.prog 54 a54 = true := by kernel_rfl
/-- loop.example/g01215/impl.isSorted -/
def a55 : AFn := { np := 1, nt := 34, res := [.t 2], body :=
  (.seq (.region [⟨some 1, none, .p (.box 24 (.t 0))⟩,
    ⟨some 2, none, .p (.mv (.k (.c (C.bool false))))⟩] [1])
  (.seq (.region [⟨some 3, none, .p (.alloc [.k (C.bool false), .k (C.bool false), .k (C.bool false), .k (C.bool false), .k (C.bool false), .k (C.bool false)])⟩] [1, 3])
  (.seq (.seq (.region [⟨some 7, none, .p (.fld 0 (.t 1))⟩,
    ⟨some 8, none, .h (.load 24 true (.t 7))⟩,
    ⟨some 9, none, .p (.mv (.k (.c (C.int .i64 0))))⟩] [3, 8, 9])
  (.block 0 (.loop (.seq (.region [⟨some 10, none, .p (.bin .lss (.t 9) (.k (.c (C.int .i64 6))))⟩] [3, 8, 9, 10])
  (.seq (.cond (.t 10)
  .skip
  (.exit 0))
  (.seq (.block 1 (.seq (.region [⟨some 11, none, .p (.ixV 6 4 true (.t 8) (.t 9))⟩,
    ⟨some 5, none, .p (.alloc [.k (C.int .i64 0), .k (C.int .i64 0), .k (C.int .i64 0), .k (C.int .i64 0)])⟩,
    ⟨none, none, .h (.store 4 (.t 5) (.t 11))⟩] [3, 5, 8, 9])
  (.seq (.region [⟨some 12, none, .h (.load 4 true (.t 5))⟩,
    ⟨some 13, none, .h (.call (.f 69) [.t 12])⟩,
    ⟨some 6, none, .p (.mv (.t 13))⟩] [3, 6, 8, 9])
  (.seq (.seq (.region [⟨some 14, none, .p (.mv (.t 6))⟩,
    ⟨some 15, none, .p (.len (.t 14))⟩,
    ⟨some 16, none, .p (.bin .eql (.t 15) (.k (.c (C.int .i64 0))))⟩] [3, 6, 8, 9, 16])
  (.cond (.t 16)
  (.exit 1)
  .skip))
  (.seq (.seq (.region [⟨some 17, none, .p (.mv (.t 6))⟩,
    ⟨some 18, none, .p (.len (.t 17))⟩,
    ⟨some 19, none, .p (.bin .gtr (.t 18) (.k (.c (C.int .i64 1))))⟩,
    ⟨some 20, none, .p (.mv (.t 19))⟩,
    ⟨some 21, some (20, false), .p (.mv (.t 6))⟩,
    ⟨some 22, some (20, false), .p (.ixS 2 (.t 21) (.k (.c (C.int .i64 0))))⟩,
    ⟨some 23, some (20, false), .p (.ixA 2 1 (.t 22) (.k (.c (C.int .i64 0))))⟩,
    ⟨some 24, some (20, false), .h (.load 1 false (.t 23))⟩,
    ⟨some 25, some (20, false), .p (.ixA 6 1 (.t 3) (.t 24))⟩,
    ⟨some 26, some (20, false), .h (.load 1 false (.t 25))⟩,
    ⟨some 27, none, .p (.pick (.t 20) (.k (.c (C.bool true))) (.t 26))⟩] [3, 6, 8, 9, 27])
  (.cond (.t 27)
  (.seq (.region [⟨some 2, none, .p (.mv (.k (.c (C.bool false))))⟩] [2])
  .ret)
  .skip))
  (.region [⟨some 28, none, .p (.mv (.t 6))⟩,
    ⟨some 29, none, .p (.ixS 2 (.t 28) (.k (.c (C.int .i64 0))))⟩,
    ⟨some 30, none, .p (.ixA 2 1 (.t 29) (.k (.c (C.int .i64 0))))⟩,
    ⟨some 31, none, .h (.load 1 false (.t 30))⟩,
    ⟨some 32, none, .p (.ixA 6 1 (.t 3) (.t 31))⟩,
    ⟨none, none, .h (.store 1 (.t 32) (.k (.c (C.bool true))))⟩] [3, 8, 9]))))))
  (.region [⟨some 33, none, .p (.bin .add (.t 9) (.k (.c (C.int .i64 1))))⟩,
    ⟨some 9, none, .p (.mv (.t 33))⟩] [3, 8, 9])))) [3, 8, 9])))
  (.seq (.region [⟨some 2, none, .p (.mv (.k (.c (C.bool true))))⟩] [2])
  .ret)))) }
theorem a55_ok : okFn Try.prog 55 a55 = true := by kernel_rfl
/-- loop.example/g01215/laws.toIntA4A6 -/
def a56 : AFn := { np := 1, nt := 16, res := [.cell 2 24 true], body :=
  (.seq (.region [⟨some 1, none, .p (.box 24 (.t 0))⟩,
    ⟨some 2, none, .p (.alloc (List.replicate 24 (.k (C.int .i64 0))))⟩] [1, 2])
  (.seq (.region [⟨some 3, none, .p (.alloc (List.replicate 24 (.k (C.int .i64 0))))⟩] [1, 2, 3])
  (.seq (.seq (.region [⟨some 4, none, .p (.mv (.k (.c (C.int .i64 0))))⟩] [1, 2, 3, 4])
  (.block 0 (.loop (.seq (.seq (.region [⟨some 5, none, .p (.mv (.t 4))⟩,
    ⟨some 6, none, .p (.bin .lss (.t 5) (.k (.c (C.int .i64 6))))⟩] [1, 2, 3, 4, 6])
  (.cond (.t 6)
  .skip
  (.exit 0)))
  (.seq (.block 1 (.region [⟨some 9, none, .p (.mv (.t 4))⟩,
    ⟨some 10, none, .p (.mv (.t 4))⟩,
    ⟨some 11, none, .p (.ixA 6 4 (.t 1) (.t 10))⟩,
    ⟨some 12, none, .h (.load 4 true (.t 11))⟩,
    ⟨some 13, none, .h (.call (.f 88) [.t 12])⟩,
    ⟨some 14, none, .p (.ixA 6 4 (.t 3) (.t 9))⟩,
    ⟨none, none, .h (.store 4 (.t 14) (.t 13))⟩] [1, 2, 3, 4]))
  (.region [⟨some 7, none, .p (.mv (.t 4))⟩,
    ⟨some 8, none, .p (.bin .add (.t 7) (.k (.c (C.int .i64 1))))⟩,
    ⟨some 4, none, .p (.mv (.t 8))⟩] [1, 2, 3, 4]))) [1, 2, 3, 4])))
  (.seq (.region [⟨some 15, none, .h (.load 24 true (.t 3))⟩,
    ⟨none, none, .h (.store 24 (.t 2) (.t 15))⟩] [2])
  .ret)))) }
theorem a56_ok : okFn Try.prog 56 a56 = true := by kernel_rfl
/-- loop.example/g01215/spec.l5Sources -/
def a57 : AFn := { np := 1, nt := 39, res := [.t 2], body :=
  (.seq (.region [⟨some 1, none, .p (.box 24 (.t 0))⟩,
    ⟨some 2, none, .p (.nilsl 3)⟩] [1])
  (.seq (.region [⟨some 10, none, .p (.mksl 3 0 [.k (C.int .i64 0), .k (C.int .i64 0), .k (C.int .i64 0)] [])⟩,
    ⟨some 3, none, .p (.mv (.t 10))⟩] [1, 3])
  (.seq (.seq (.region [⟨some 4, none, .p (.mv (.k (.c (C.int .i64 0))))⟩] [1, 3, 4])
  (.block 0 (.loop (.seq (.seq (.region [⟨some 11, none, .p (.mv (.t 4))⟩,
    ⟨some 12, none, .p (.bin .lss (.t 11) (.k (.c (C.int .i64 6))))⟩] [1, 3, 4, 12])
  (.cond (.t 12)
  .skip
  (.exit 0)))
  (.seq (.block 1 (.seq (.region [⟨some 5, none, .p (.mv (.k (.c (C.int .i64 0))))⟩] [1, 3, 4, 5])
  (.block 2 (.loop (.seq (.seq (.region [⟨some 15, none, .p (.mv (.t 5))⟩,
    ⟨some 16, none, .p (.bin .lss (.t 15) (.k (.c (C.int .i64 6))))⟩] [1, 3, 4, 5, 16])
  (.cond (.t 16)
  .skip
  (.exit 2)))
  (.seq (.block 3 (.seq (.region [⟨some 6, none, .p (.mv (.k (.c (C.int .i64 1))))⟩] [1, 3, 4, 5, 6])
  (.block 4 (.loop (.seq (.seq (.region [⟨some 19, none, .p (.mv (.t 6))⟩,
    ⟨some 20, none, .p (.bin .leq (.t 19) (.k (.c (C.int .i64 4))))⟩] [1, 3, 4, 5, 6, 20])
  (.cond (.t 20)
  .skip
  (.exit 4)))
  (.seq (.block 5 (.seq (.region [⟨some 23, none, .p (.mv (.t 4))⟩,
    ⟨some 24, none, .p (.mv (.t 5))⟩,
    ⟨some 25, none, .p (.mv (.t 6))⟩,
    ⟨some 26, none, .p (.build [.k (C.int .i64 0), .k (C.int .i64 0), .k (C.int .i64 0)] [(0, 1, .t 23), (1, 1, .t 24), (2, 1, .t 25)])⟩,
    ⟨some 7, none, .p (.alloc [.k (C.int .i64 0), .k (C.int .i64 0), .k (C.int .i64 0)])⟩,
    ⟨none, none, .h (.store 3 (.t 7) (.t 26))⟩] [1, 3, 4, 5, 6, 7])
  (.seq (.region [⟨some 28, none, .h (.load 24 true (.t 1))⟩,
    ⟨some 29, none, .h (.load 3 true (.t 7))⟩,
    ⟨some 30, none, .h (.call (.f 58) [.t 28, .t 29])⟩,
    ⟨some 27, none, .p (.mv (.t 30))⟩,
    ⟨some 31, none, .p (.ext (.t 27) 0)⟩,
    ⟨some 32, none, .p (.ext (.t 27) 1)⟩,
    ⟨some 8, none, .p (.alloc (List.replicate 24 (.k (C.int .i64 0))))⟩,
    ⟨none, none, .h (.store 24 (.t 8) (.t 31))⟩,
    ⟨some 9, none, .p (.mv (.t 32))⟩] [1, 3, 4, 5, 6, 7, 9])
  (.seq (.region [⟨some 33, none, .p (.mv (.t 9))⟩] [1, 3, 4, 5, 6, 7, 33])
  (.cond (.t 33)
  (.region [⟨some 34, none, .p (.mv (.t 3))⟩,
    ⟨some 35, none, .h (.load 3 true (.t 7))⟩,
    ⟨some 36, none, .p (.mksl 3 1 [.k (C.int .i64 0), .k (C.int .i64 0), .k (C.int .i64 0)] [(0, 3, .t 35)])⟩,
    ⟨some 37, none, .h (.app 3 (.t 34) (.t 36))⟩,
    ⟨some 3, none, .p (.mv (.t 37))⟩] [1, 3, 4, 5, 6])
  .skip)))))
  (.region [⟨some 21, none, .p (.mv (.t 6))⟩,
    ⟨some 22, none, .p (.bin .add (.t 21) (.k (.c (C.int .i64 1))))⟩,
    ⟨some 6, none, .p (.mv (.t 22))⟩] [1, 3, 4, 5, 6]))) [1, 3, 4, 5, 6]))))
  (.region [⟨some 17, none, .p (.mv (.t 5))⟩,
    ⟨some 18, none, .p (.bin .add (.t 17) (.k (.c (C.int .i64 1))))⟩,
    ⟨some 5, none, .p (.mv (.t 18))⟩] [1, 3, 4, 5]))) [1, 3, 4, 5]))))
  (.region [⟨some 13, none, .p (.mv (.t 4))⟩,
    ⟨some 14, none, .p (.bin .add (.t 13) (.k (.c (C.int .i64 1))))⟩,
    ⟨some 4, none, .p (.mv (.t 14))⟩] [1, 3, 4]))) [1, 3, 4])))
  (.seq (.region [⟨some 38, none, .p (.mv (.t 3))⟩,
    ⟨some 2, none, .p (.mv (.t 38))⟩] [2])
  .ret)))) }
theorem a57_ok : okFn Try.prog 57 a57 = true := by kernel_rfl
/-- loop.example/g01215/spec.l5Back -/
def a58 : AFn := { np := 2, nt := 115, res := [.cell 4 24 true, .t 5], body :=
  (.seq (.region [⟨some 2, none, .p (.box 24 (.t 0))⟩,
    ⟨some 3, none, .p (.box 3 (.t 1))⟩,
    ⟨some 4, none, .p (.alloc (List.replicate 24 (.k (C.int .i64 0))))⟩,
    ⟨some 5, none, .p (.mv (.k (.c (C.bool false))))⟩] [2, 3, 4])
  (.seq (.seq (.region [⟨some 14, none, .p (.fld 0 (.t 3))⟩,
    ⟨some 15, none, .h (.load 1 false (.t 14))⟩,
    ⟨some 16, none, .h (.call (.f 89) [.t 15])⟩,
    ⟨some 17, none, .p (.un .not (.t 16))⟩,
    ⟨some 18, none, .p (.mv (.t 17))⟩,
    ⟨some 19, some (18, false), .p (.fld 1 (.t 3))⟩,
    ⟨some 20, some (18, false), .h (.load 1 false (.t 19))⟩,
    ⟨some 21, some (18, false), .h (.call (.f 89) [.t 20])⟩,
    ⟨some 22, some (18, false), .p (.un .not (.t 21))⟩,
    ⟨some 23, none, .p (.pick (.t 18) (.k (.c (C.bool true))) (.t 22))⟩,
    ⟨some 24, none, .p (.mv (.t 23))⟩,
    ⟨some 25, some (24, false), .p (.fld 0 (.t 3))⟩,
    ⟨some 26, some (24, false), .h (.load 1 false (.t 25))⟩,
    ⟨some 27, some (24, false), .p (.fld 1 (.t 3))⟩,
    ⟨some 28, some (24, false), .h (.load 1 false (.t 27))⟩,
    ⟨some 29, some (24, false), .p (.bin .eql (.t 26) (.t 28))⟩,
    ⟨some 30, none, .p (.pick (.t 24) (.k (.c (C.bool true))) (.t 29))⟩] [2, 3, 4, 30])
  (.cond (.t 30)
  (.seq (.region [⟨some 31, none, .p (.build (List.replicate 24 (.k (C.int .i64 0))) [])⟩,
    ⟨none, none, .h (.store 24 (.t 4) (.t 31))⟩,
    ⟨some 5, none, .p (.mv (.k (.c (C.bool false))))⟩] [4, 5])
  .ret)
  .skip))
  (.seq (.region [⟨some 33, none, .p (.fld 1 (.t 3))⟩,
    ⟨some 34, none, .h (.load 1 false (.t 33))⟩,
    ⟨some 35, none, .p (.fld 0 (.t 2))⟩,
    ⟨some 36, none, .p (.ixA 6 4 (.t 35) (.t 34))⟩,
    ⟨some 37, none, .h (.load 4 true (.t 36))⟩,
    ⟨some 38, none, .h (.call (.f 83) [.t 37])⟩,
    ⟨some 32, none, .p (.mv (.t 38))⟩,
    ⟨some 39, none, .p (.ext (.t 32) 0)⟩,
    ⟨some 40, none, .p (.ext (.t 32) 1)⟩,
    ⟨some 6, none, .p (.mv (.t 39))⟩,
    ⟨some 7, none, .p (.mv (.t 40))⟩] [2, 3, 4, 6, 7])
  (.seq (.regionD [⟨some 41, none, .p (.fld 0 (.t 3))⟩,
    ⟨some 42, none, .h (.load 1 false (.t 41))⟩,
    ⟨some 43, none, .p (.fld 0 (.t 2))⟩,
    ⟨some 44, none, .p (.ixA 6 4 (.t 43) (.t 42))⟩,
    ⟨some 45, none, .h (.load 4 true (.t 44))⟩,
    ⟨some 46, none, .h (.call (.f 84) [.t 45])⟩,
    ⟨some 47, none, .p (.fld 1 (.t 3))⟩,
    ⟨some 48, none, .h (.load 1 false (.t 47))⟩,
    ⟨some 49, none, .p (.fld 0 (.t 2))⟩,
    ⟨some 50, none, .p (.ixA 6 4 (.t 49) (.t 48))⟩,
    ⟨some 51, none, .h (.load 4 true (.t 50))⟩,
    ⟨some 52, none, .h (.call (.f 84) [.t 51])⟩,
    ⟨some 8, none, .p (.mv (.t 46))⟩,
    ⟨some 9, none, .p (.mv (.t 52))⟩] [2, 3, 4, 6, 7, 8, 9] [])
  (.seq (.seq (.regionD [⟨some 53, none, .p (.fld 2 (.t 3))⟩,
    ⟨some 54, none, .h (.load 1 false (.t 53))⟩,
    ⟨some 55, none, .p (.mv (.t 7))⟩,
    ⟨some 56, none, .p (.mv (.t 8))⟩,
    ⟨some 57, none, .p (.bin .sub (.k (.c (C.int .i64 4))) (.t 56))⟩,
    ⟨some 58, none, .h (.call (.f 85) [.t 55, .t 57])⟩,
    ⟨some 59, none, .h (.call (.f 50) [.t 54, .k (.c (C.int .i64 1)), .t 58])⟩,
    ⟨some 60, none, .p (.un .not (.t 59))⟩] [2, 3, 4, 6, 8, 9, 60] [])
  (.cond (.t 60)
  (.seq (.region [⟨some 61, none, .p (.build (List.replicate 24 (.k (C.int .i64 0))) [])⟩,
    ⟨none, none, .h (.store 24 (.t 4) (.t 61))⟩,
    ⟨some 5, none, .p (.mv (.k (.c (C.bool false))))⟩] [4, 5])
  .ret)
  .skip))
  (.seq (.region [⟨some 62, none, .h (.load 24 true (.t 2))⟩,
    ⟨some 10, none, .p (.alloc (List.replicate 24 (.k (C.int .i64 0))))⟩,
    ⟨none, none, .h (.store 24 (.t 10) (.t 62))⟩] [2, 3, 4, 6, 8, 9, 10])
  (.seq (.seq (.region [⟨some 11, none, .p (.mv (.k (.c (C.int .i64 0))))⟩] [2, 3, 4, 6, 8, 9, 10, 11])
  (.block 0 (.loop (.seq (.seq (.region [⟨some 63, none, .p (.mv (.t 11))⟩,
    ⟨some 64, none, .p (.fld 2 (.t 3))⟩,
    ⟨some 65, none, .h (.load 1 false (.t 64))⟩,
    ⟨some 66, none, .p (.bin .lss (.t 63) (.t 65))⟩] [2, 3, 4, 6, 8, 9, 10, 11, 66])
  (.cond (.t 66)
  .skip
  (.exit 0)))
  (.seq (.block 1 (.seq (.region [⟨some 69, none, .p (.fld 1 (.t 3))⟩,
    ⟨some 70, none, .h (.load 1 false (.t 69))⟩,
    ⟨some 71, none, .p (.mv (.t 9))⟩,
    ⟨some 72, none, .p (.bin .sub (.t 71) (.k (.c (C.int .i64 1))))⟩,
    ⟨some 73, none, .p (.mv (.t 11))⟩,
    ⟨some 74, none, .p (.bin .sub (.t 72) (.t 73))⟩,
    ⟨some 75, none, .p (.fld 0 (.t 10))⟩,
    ⟨some 76, none, .p (.ixA 6 4 (.t 75) (.t 70))⟩,
    ⟨some 77, none, .p (.ixA 4 1 (.t 76) (.t 74))⟩,
    ⟨none, none, .h (.store 1 (.t 77) (.k (.c (C.int .i64 0))))⟩] [2, 3, 4, 6, 8, 9, 10, 11])
  (.region [⟨some 78, none, .p (.fld 0 (.t 3))⟩,
    ⟨some 79, none, .h (.load 1 false (.t 78))⟩,
    ⟨some 80, none, .p (.mv (.t 8))⟩,
    ⟨some 81, none, .p (.mv (.t 11))⟩,
    ⟨some 82, none, .p (.bin .add (.t 80) (.t 81))⟩,
    ⟨some 83, none, .p (.mv (.t 6))⟩,
    ⟨some 84, none, .p (.fld 0 (.t 10))⟩,
    ⟨some 85, none, .p (.ixA 6 4 (.t 84) (.t 79))⟩,
    ⟨some 86, none, .p (.ixA 4 1 (.t 85) (.t 82))⟩,
    ⟨none, none, .h (.store 1 (.t 86) (.t 83))⟩] [2, 3, 4, 6, 8, 9, 10, 11])))
  (.region [⟨some 67, none, .p (.mv (.t 11))⟩,
    ⟨some 68, none, .p (.bin .add (.t 67) (.k (.c (C.int .i64 1))))⟩,
    ⟨some 11, none, .p (.mv (.t 68))⟩] [2, 3, 4, 6, 8, 9, 10, 11]))) [2, 3, 4, 6, 8, 9, 10, 11])))
  (.seq (.seq (.region [⟨some 87, none, .h (.load 24 true (.t 10))⟩,
    ⟨some 88, none, .p (.fld 0 (.t 3))⟩,
    ⟨some 89, none, .h (.load 1 false (.t 88))⟩,
    ⟨some 90, none, .p (.fld 1 (.t 3))⟩,
    ⟨some 91, none, .h (.load 1 false (.t 90))⟩,
    ⟨some 92, none, .h (.call (.f 90) [.t 87, .t 89, .t 91])⟩,
    ⟨some 93, none, .p (.un .not (.t 92))⟩] [2, 3, 4, 10, 93])
  (.cond (.t 93)
  (.seq (.region [⟨some 94, none, .p (.build (List.replicate 24 (.k (C.int .i64 0))) [])⟩,
    ⟨none, none, .h (.store 24 (.t 4) (.t 94))⟩,
    ⟨some 5, none, .p (.mv (.k (.c (C.bool false))))⟩] [4, 5])
  .ret)
  .skip))
  (.seq (.region [⟨some 96, none, .h (.load 24 true (.t 10))⟩,
    ⟨some 97, none, .p (.fld 0 (.t 3))⟩,
    ⟨some 98, none, .h (.load 1 false (.t 97))⟩,
    ⟨some 99, none, .p (.fld 1 (.t 3))⟩,
    ⟨some 100, none, .h (.load 1 false (.t 99))⟩,
    ⟨some 101, none, .h (.call (.f 52) [.t 96, .t 98, .t 100])⟩,
    ⟨some 95, none, .p (.mv (.t 101))⟩,
    ⟨some 102, none, .p (.ext (.t 95) 0)⟩,
    ⟨some 103, none, .p (.ext (.t 95) 1)⟩,
    ⟨some 12, none, .p (.alloc (List.replicate 24 (.k (C.int .i64 0))))⟩,
    ⟨none, none, .h (.store 24 (.t 12) (.t 102))⟩,
    ⟨some 13, none, .p (.mv (.t 103))⟩] [2, 3, 4, 10, 12, 13])
  (.seq (.seq (.region [⟨some 104, none, .h (.load 24 true (.t 12))⟩,
    ⟨some 105, none, .h (.load 24 true (.t 2))⟩,
    ⟨some 106, none, .p (.eqv true (List.replicate 24 (.int .i64)) (.t 104) (.t 105))⟩,
    ⟨some 107, none, .p (.mv (.t 106))⟩,
    ⟨some 108, some (107, false), .p (.mv (.t 13))⟩,
    ⟨some 109, some (107, false), .p (.fld 2 (.t 3))⟩,
    ⟨some 110, some (107, false), .h (.load 1 false (.t 109))⟩,
    ⟨some 111, some (107, false), .p (.bin .neq (.t 108) (.t 110))⟩,
    ⟨some 112, none, .p (.pick (.t 107) (.k (.c (C.bool true))) (.t 111))⟩] [4, 10, 112])
  (.cond (.t 112)
  (.seq (.region [⟨some 113, none, .p (.build (List.replicate 24 (.k (C.int .i64 0))) [])⟩,
    ⟨none, none, .h (.store 24 (.t 4) (.t 113))⟩,
    ⟨some 5, none, .p (.mv (.k (.c (C.bool false))))⟩] [4, 5])
  .ret)
  .skip))
  (.seq (.region [⟨some 114, none, .h (.load 24 true (.t 10))⟩,
    ⟨none, none, .h (.store 24 (.t 4) (.t 114))⟩,
    ⟨some 5, none, .p (.mv (.k (.c (C.bool true))))⟩] [4, 5])
  .ret))))))))))) }
theorem a58_ok : okFn Try.prog 58 a58 = true := by kernel_rfl
/-- loop.example/g01215/spec.PlainRack -/
def a59 : AFn := { np := 1, nt := 43, res := [.cell 2 24 true, .t 3], body :=
  (.seq (.region [⟨some 1, none, .p (.box 6 (.t 0))⟩,
    ⟨some 2, none, .p (.alloc (List.replicate 24 (.k (C.int .i64 0))))⟩,
    ⟨some 3, none, .p (.mv (.k (.c (C.bool false))))⟩] [1, 2])
  (.seq (.region [⟨some 8, none, .p (.build (List.replicate 24 (.k (C.int .i64 0))) [])⟩,
    ⟨some 4, none, .p (.alloc (List.replicate 24 (.k (C.int .i64 0))))⟩,
    ⟨none, none, .h (.store 24 (.t 4) (.t 8))⟩,
    ⟨some 5, none, .p (.mv (.k (.c (C.int .i64 0))))⟩] [1, 2, 4, 5])
  (.seq (.seq (.region [⟨some 9, none, .p (.ixA 6 1 (.t 1) (.k (.c (C.int .i64 0))))⟩,
    ⟨some 10, none, .h (.load 1 false (.t 9))⟩,
    ⟨some 11, none, .p (.bin .neq (.t 10) (.k (.c (C.int .i64 0))))⟩] [1, 2, 4, 5, 11])
  (.cond (.t 11)
  (.seq (.region [⟨some 12, none, .p (.build (List.replicate 24 (.k (C.int .i64 0))) [])⟩,
    ⟨none, none, .h (.store 24 (.t 2) (.t 12))⟩,
    ⟨some 3, none, .p (.mv (.k (.c (C.bool false))))⟩] [2, 3])
  .ret)
  .skip))
  (.seq (.seq (.region [⟨some 6, none, .p (.mv (.k (.c (C.int .i64 1))))⟩] [1, 2, 4, 5, 6])
  (.block 0 (.loop (.seq (.seq (.region [⟨some 13, none, .p (.mv (.t 6))⟩,
    ⟨some 14, none, .p (.bin .leq (.t 13) (.k (.c (C.int .i64 5))))⟩] [1, 2, 4, 5, 6, 14])
  (.cond (.t 14)
  .skip
  (.exit 0)))
  (.seq (.block 1 (.seq (.seq (.region [⟨some 17, none, .p (.mv (.t 6))⟩,
    ⟨some 18, none, .p (.ixA 6 1 (.t 1) (.t 17))⟩,
    ⟨some 19, none, .h (.load 1 false (.t 18))⟩,
    ⟨some 20, none, .h (.call (.f 50) [.t 19, .k (.c (C.int .i64 0)), .k (.c (C.int .i64 4))])⟩,
    ⟨some 21, none, .p (.un .not (.t 20))⟩] [1, 2, 4, 5, 6, 21])
  (.cond (.t 21)
  (.seq (.region [⟨some 22, none, .p (.build (List.replicate 24 (.k (C.int .i64 0))) [])⟩,
    ⟨none, none, .h (.store 24 (.t 2) (.t 22))⟩,
    ⟨some 3, none, .p (.mv (.k (.c (C.bool false))))⟩] [2, 3])
  .ret)
  .skip))
  (.seq (.seq (.region [⟨some 7, none, .p (.mv (.k (.c (C.int .i64 0))))⟩] [1, 2, 4, 5, 6, 7])
  (.block 2 (.loop (.seq (.seq (.region [⟨some 23, none, .p (.mv (.t 7))⟩,
    ⟨some 24, none, .p (.mv (.t 6))⟩,
    ⟨some 25, none, .p (.ixA 6 1 (.t 1) (.t 24))⟩,
    ⟨some 26, none, .h (.load 1 false (.t 25))⟩,
    ⟨some 27, none, .p (.bin .lss (.t 23) (.t 26))⟩] [1, 2, 4, 5, 6, 7, 27])
  (.cond (.t 27)
  .skip
  (.exit 2)))
  (.seq (.block 3 (.region [⟨some 30, none, .p (.mv (.t 5))⟩,
    ⟨some 31, none, .p (.mv (.t 7))⟩,
    ⟨some 32, none, .p (.mv (.t 6))⟩,
    ⟨some 33, none, .p (.fld 0 (.t 4))⟩,
    ⟨some 34, none, .p (.ixA 6 4 (.t 33) (.t 30))⟩,
    ⟨some 35, none, .p (.ixA 4 1 (.t 34) (.t 31))⟩,
    ⟨none, none, .h (.store 1 (.t 35) (.t 32))⟩] [1, 2, 4, 5, 6, 7]))
  (.region [⟨some 28, none, .p (.mv (.t 7))⟩,
    ⟨some 29, none, .p (.bin .add (.t 28) (.k (.c (C.int .i64 1))))⟩,
    ⟨some 7, none, .p (.mv (.t 29))⟩] [1, 2, 4, 5, 6, 7]))) [1, 2, 4, 5, 6, 7])))
  (.seq (.region [⟨some 36, none, .p (.mv (.t 6))⟩,
    ⟨some 37, none, .p (.ixA 6 1 (.t 1) (.t 36))⟩,
    ⟨some 38, none, .h (.load 1 false (.t 37))⟩,
    ⟨some 39, none, .p (.bin .gtr (.t 38) (.k (.c (C.int .i64 0))))⟩] [1, 2, 4, 5, 6, 39])
  (.cond (.t 39)
  (.region [⟨some 40, none, .p (.mv (.t 5))⟩,
    ⟨some 41, none, .p (.bin .add (.t 40) (.k (.c (C.int .i64 1))))⟩,
    ⟨some 5, none, .p (.mv (.t 41))⟩] [1, 2, 4, 5, 6])
  .skip)))))
  (.region [⟨some 15, none, .p (.mv (.t 6))⟩,
    ⟨some 16, none, .p (.bin .add (.t 15) (.k (.c (C.int .i64 1))))⟩,
    ⟨some 6, none, .p (.mv (.t 16))⟩] [1, 2, 4, 5, 6]))) [1, 2, 4, 5, 6])))
  (.seq (.region [⟨some 42, none, .h (.load 24 true (.t 4))⟩,
    ⟨none, none, .h (.store 24 (.t 2) (.t 42))⟩,
    ⟨some 3, none, .p (.mv (.k (.c (C.bool true))))⟩] [2, 3])
  .ret))))) }
theorem a59_ok : okFn Try.prog 59 a59 = true := by kernel_rfl
/-- loop.example/g01215/spec.DrawPlainRack -/
def a60 : AFn := { np := 1, nt := 28, res := [.cell 2 6 true], body :=
  (.seq (.region [⟨some 2, none, .p (.alloc [.k (C.int .i64 0), .k (C.int .i64 0), .k (C.int .i64 0), .k (C.int .i64 0), .k (C.int .i64 0), .k (C.int .i64 0)])⟩] [0, 2])
  (.seq (.region [⟨some 6, none, .p (.mv (.t 0))⟩,
    ⟨some 7, none, .p (.build [.sl 1, .k (C.int .i64 0), .k (C.int .u64 0)] [(0, 1, .t 6)])⟩,
    ⟨some 8, none, .p (.box 3 (.t 7))⟩,
    ⟨some 3, none, .p (.mv (.t 8))⟩] [2, 3])
  (.seq (.region [⟨some 9, none, .p (.build [.k (C.int .i64 0), .k (C.int .i64 0), .k (C.int .i64 0), .k (C.int .i64 0), .k (C.int .i64 0), .k (C.int .i64 0)] [])⟩,
    ⟨some 4, none, .p (.alloc [.k (C.int .i64 0), .k (C.int .i64 0), .k (C.int .i64 0), .k (C.int .i64 0), .k (C.int .i64 0), .k (C.int .i64 0)])⟩,
    ⟨none, none, .h (.store 6 (.t 4) (.t 9))⟩] [2, 3, 4])
  (.seq (.seq (.region [⟨some 5, none, .p (.mv (.k (.c (C.int .i64 1))))⟩] [2, 3, 4, 5])
  (.block 0 (.loop (.seq (.seq (.region [⟨some 10, none, .p (.mv (.t 5))⟩,
    ⟨some 11, none, .p (.bin .leq (.t 10) (.k (.c (C.int .i64 5))))⟩] [2, 3, 4, 5, 11])
  (.cond (.t 11)
  .skip
  (.exit 0)))
  (.seq (.block 1 (.region [⟨some 14, none, .p (.mv (.t 5))⟩,
    ⟨some 15, none, .p (.mv (.t 3))⟩,
    ⟨some 16, none, .p (.mksl 1 6 [.k (C.int .i64 0)] [(0, 1, .k (.c (C.int .i64 4))), (1, 1, .k (.c (C.int .i64 3))), (2, 1, .k (.c (C.int .i64 2))), (3, 1, .k (.c (C.int .i64 0))), (4, 1, .k (.c (C.int .i64 4))), (5, 1, .k (.c (C.int .i64 1)))])⟩,
    ⟨some 17, none, .h (.call (.f 48) [.t 15, .t 16])⟩,
    ⟨some 18, none, .p (.ixA 6 1 (.t 4) (.t 14))⟩,
    ⟨none, none, .h (.store 1 (.t 18) (.t 17))⟩] [2, 3, 4, 5]))
  (.region [⟨some 12, none, .p (.mv (.t 5))⟩,
    ⟨some 13, none, .p (.bin .add (.t 12) (.k (.c (C.int .i64 1))))⟩,
    ⟨some 5, none, .p (.mv (.t 13))⟩] [2, 3, 4, 5]))) [2, 3, 4, 5])))
  (.seq (.seq (.region [⟨some 19, none, .p (.mv (.t 3))⟩,
    ⟨some 20, none, .h (.call (.f 30) [.t 19, .k (.c (C.int .i64 24))])⟩] [2, 3, 4, 20])
  (.cond (.t 20)
  (.region [⟨some 21, none, .p (.mv (.t 3))⟩,
    ⟨some 22, none, .h (.call (.f 49) [.t 21, .k (.c (C.int .i64 6))])⟩,
    ⟨some 23, none, .p (.mv (.t 3))⟩,
    ⟨some 24, none, .p (.mksl 1 4 [.k (C.int .i64 0)] [(0, 1, .k (.c (C.int .i64 (-1)))), (1, 1, .k (.c (C.int .i64 5))), (2, 1, .k (.c (C.int .i64 1))), (3, 1, .k (.c (C.int .i64 4611686018427387904)))])⟩,
    ⟨some 25, none, .h (.call (.f 48) [.t 23, .t 24])⟩,
    ⟨some 26, none, .p (.ixA 6 1 (.t 4) (.t 22))⟩,
    ⟨none, none, .h (.store 1 (.t 26) (.t 25))⟩] [2, 4])
  .skip))
  (.seq (.region [⟨some 27, none, .h (.load 6 true (.t 4))⟩,
    ⟨none, none, .h (.store 6 (.t 2) (.t 27))⟩] [2])
  .ret)))))) }
theorem a60_ok : okFn Try.prog 60 a60 = true := by kernel_rfl
/-- (*loop.example/g01215/spec.l1Cur).rack -/
def a61 : AFn := { np := 1, nt := 128, res := [.cell 2 24 true], body :=
  (.seq (.region [⟨some 2, none, .p (.alloc (List.replicate 24 (.k (C.int .i64 0))))⟩] [0, 2])
  (.seq (.region [⟨some 14, none, .p (.build (List.replicate 24 (.k (C.int .i64 0))) [])⟩,
    ⟨some 15, none, .p (.mv (.t 0))⟩,
    ⟨some 16, none, .p (.mksl 1 6 [.k (C.int .i64 0)] [(0, 1, .k (.c (C.int .i64 2))), (1, 1, .k (.c (C.int .i64 3))), (2, 1, .k (.c (C.int .i64 2))), (3, 1, .k (.c (C.int .i64 4))), (4, 1, .k (.c (C.int .i64 5))), (5, 1, .k (.c (C.int .i64 1)))])⟩,
    ⟨some 17, none, .h (.call (.f 48) [.t 15, .t 16])⟩,
    ⟨some 18, none, .p (.mv (.t 0))⟩,
    ⟨some 19, none, .p (.mksl 1 5 [.k (C.int .i64 0)] [(0, 1, .k (.c (C.int .i64 3))), (1, 1, .k (.c (C.int .i64 4))), (2, 1, .k (.c (C.int .i64 2))), (3, 1, .k (.c (C.int .i64 5))), (4, 1, .k (.c (C.int .i64 6)))])⟩,
    ⟨some 20, none, .h (.call (.f 48) [.t 18, .t 19])⟩,
    ⟨some 3, none, .p (.alloc (List.replicate 24 (.k (C.int .i64 0))))⟩,
    ⟨none, none, .h (.store 24 (.t 3) (.t 14))⟩,
    ⟨some 4, none, .p (.mv (.t 17))⟩,
    ⟨some 5, none, .p (.mv (.t 20))⟩] [0, 2, 3, 4, 5])
  (.seq (.seq (.region [⟨some 6, none, .p (.mv (.k (.c (C.int .i64 0))))⟩] [0, 2, 3, 4, 5, 6])
  (.block 0 (.loop (.seq (.seq (.region [⟨some 21, none, .p (.mv (.t 6))⟩,
    ⟨some 22, none, .p (.mv (.t 5))⟩,
    ⟨some 23, none, .p (.bin .lss (.t 21) (.t 22))⟩] [0, 2, 3, 4, 5, 6, 23])
  (.cond (.t 23)
  .skip
  (.exit 0)))
  (.seq (.block 1 (.seq (.region [⟨some 7, none, .p (.mv (.k (.c (C.int .i64 0))))⟩] [0, 2, 3, 4, 5, 6, 7])
  (.block 2 (.loop (.seq (.seq (.region [⟨some 26, none, .p (.mv (.t 7))⟩,
    ⟨some 27, none, .p (.mv (.t 0))⟩,
    ⟨some 28, none, .p (.mksl 1 6 [.k (C.int .i64 0)] [(0, 1, .k (.c (C.int .i64 4))), (1, 1, .k (.c (C.int .i64 3))), (2, 1, .k (.c (C.int .i64 4))), (3, 1, .k (.c (C.int .i64 2))), (4, 1, .k (.c (C.int .i64 1))), (5, 1, .k (.c (C.int .i64 0)))])⟩,
    ⟨some 29, none, .h (.call (.f 48) [.t 27, .t 28])⟩,
    ⟨some 30, none, .p (.bin .lss (.t 26) (.t 29))⟩] [0, 2, 3, 4, 5, 6, 7, 30])
  (.cond (.t 30)
  .skip
  (.exit 2)))
  (.seq (.block 3 (.seq (.regionE [⟨some 33, none, .p (.mv (.t 6))⟩,
    ⟨some 34, none, .p (.mv (.t 7))⟩,
    ⟨some 35, none, .p (.mv (.t 0))⟩,
    ⟨some 36, none, .p (.mv (.t 4))⟩,
    ⟨some 37, none, .h (.call (.f 49) [.t 35, .t 36])⟩,
    ⟨some 38, none, .p (.bin .add (.k (.c (C.int .i64 1))) (.t 37))⟩,
    ⟨some 39, none, .p (.fld 0 (.t 3))⟩,
    ⟨some 40, none, .p (.ixA 6 4 (.t 39) (.t 33))⟩,
    ⟨some 41, none, .p (.ixA 4 1 (.t 40) (.t 34))⟩,
    ⟨none, none, .h (.store 1 (.t 41) (.t 38))⟩] [0, 2, 3, 4, 5, 6, 7] [] [[], [], [], [], [4]])
  (.seq (.region [⟨some 42, none, .p (.mv (.t 7))⟩,
    ⟨some 43, none, .p (.bin .gtr (.t 42) (.k (.c (C.int .i64 0))))⟩,
    ⟨some 44, none, .p (.mv (.t 43))⟩,
    ⟨some 45, some (44, true), .p (.mv (.t 0))⟩,
    ⟨some 46, some (44, true), .h (.call (.f 30) [.t 45, .k (.c (C.int .i64 3))])⟩,
    ⟨some 47, none, .p (.pick (.t 44) (.t 46) (.k (.c (C.bool false))))⟩] [0, 2, 3, 4, 5, 6, 7, 47])
  (.cond (.t 47)
  (.regionD [⟨some 48, none, .p (.mv (.t 6))⟩,
    ⟨some 49, none, .p (.mv (.t 7))⟩,
    ⟨some 50, none, .p (.mv (.t 6))⟩,
    ⟨some 51, none, .p (.mv (.t 7))⟩,
    ⟨some 52, none, .p (.bin .sub (.t 51) (.k (.c (C.int .i64 1))))⟩,
    ⟨some 53, none, .p (.fld 0 (.t 3))⟩,
    ⟨some 54, none, .p (.ixA 6 4 (.t 53) (.t 50))⟩,
    ⟨some 55, none, .p (.ixA 4 1 (.t 54) (.t 52))⟩,
    ⟨some 56, none, .h (.load 1 false (.t 55))⟩,
    ⟨some 57, none, .p (.fld 0 (.t 3))⟩,
    ⟨some 58, none, .p (.ixA 6 4 (.t 57) (.t 48))⟩,
    ⟨some 59, none, .p (.ixA 4 1 (.t 58) (.t 49))⟩,
    ⟨none, none, .h (.store 1 (.t 59) (.t 56))⟩] [0, 2, 3, 4, 5, 6, 7] [])
  .skip))))
  (.region [⟨some 31, none, .p (.mv (.t 7))⟩,
    ⟨some 32, none, .p (.bin .add (.t 31) (.k (.c (C.int .i64 1))))⟩,
    ⟨some 7, none, .p (.mv (.t 32))⟩] [0, 2, 3, 4, 5, 6, 7]))) [0, 2, 3, 4, 5, 6, 7]))))
  (.region [⟨some 24, none, .p (.mv (.t 6))⟩,
    ⟨some 25, none, .p (.bin .add (.t 24) (.k (.c (C.int .i64 1))))⟩,
    ⟨some 6, none, .p (.mv (.t 25))⟩] [0, 2, 3, 4, 5, 6]))) [0, 2, 3, 4, 5, 6])))
  (.seq (.seq (.region [⟨some 8, none, .p (.mv (.k (.c (C.int .i64 0))))⟩] [0, 2, 3, 8])
  (.block 4 (.loop (.seq (.seq (.region [⟨some 60, none, .p (.mv (.t 8))⟩,
    ⟨some 61, none, .p (.bin .lss (.t 60) (.k (.c (C.int .i64 6))))⟩] [0, 2, 3, 8, 61])
  (.cond (.t 61)
  .skip
  (.exit 4)))
  (.seq (.block 5 (.seq (.region [⟨some 9, none, .p (.mv (.k (.c (C.int .i64 1))))⟩] [0, 2, 3, 8, 9])
  (.block 6 (.loop (.seq (.seq (.region [⟨some 64, none, .p (.mv (.t 9))⟩,
    ⟨some 65, none, .p (.bin .lss (.t 64) (.k (.c (C.int .i64 4))))⟩] [0, 2, 3, 8, 9, 65])
  (.cond (.t 65)
  .skip
  (.exit 6)))
  (.seq (.block 7 (.seq (.region [⟨some 68, none, .p (.mv (.t 8))⟩,
    ⟨some 69, none, .p (.mv (.t 9))⟩,
    ⟨some 70, none, .p (.bin .sub (.t 69) (.k (.c (C.int .i64 1))))⟩,
    ⟨some 71, none, .p (.fld 0 (.t 3))⟩,
    ⟨some 72, none, .p (.ixA 6 4 (.t 71) (.t 68))⟩,
    ⟨some 73, none, .p (.ixA 4 1 (.t 72) (.t 70))⟩,
    ⟨some 74, none, .h (.load 1 false (.t 73))⟩,
    ⟨some 75, none, .p (.bin .eql (.t 74) (.k (.c (C.int .i64 0))))⟩] [0, 2, 3, 8, 9, 75])
  (.cond (.t 75)
  (.region [⟨some 76, none, .p (.mv (.t 8))⟩,
    ⟨some 77, none, .p (.mv (.t 9))⟩,
    ⟨some 78, none, .p (.fld 0 (.t 3))⟩,
    ⟨some 79, none, .p (.ixA 6 4 (.t 78) (.t 76))⟩,
    ⟨some 80, none, .p (.ixA 4 1 (.t 79) (.t 77))⟩,
    ⟨none, none, .h (.store 1 (.t 80) (.k (.c (C.int .i64 0))))⟩] [0, 2, 3, 8, 9])
  .skip)))
  (.region [⟨some 66, none, .p (.mv (.t 9))⟩,
    ⟨some 67, none, .p (.bin .add (.t 66) (.k (.c (C.int .i64 1))))⟩,
    ⟨some 9, none, .p (.mv (.t 67))⟩] [0, 2, 3, 8, 9]))) [0, 2, 3, 8, 9]))))
  (.region [⟨some 62, none, .p (.mv (.t 8))⟩,
    ⟨some 63, none, .p (.bin .add (.t 62) (.k (.c (C.int .i64 1))))⟩,
    ⟨some 8, none, .p (.mv (.t 63))⟩] [0, 2, 3, 8]))) [0, 2, 3, 8])))
  (.seq (.seq (.region [⟨some 81, none, .p (.mv (.t 0))⟩,
    ⟨some 82, none, .h (.call (.f 30) [.t 81, .k (.c (C.int .i64 3))])⟩] [0, 2, 3, 82])
  (.cond (.t 82)
  (.seq (.region [⟨some 83, none, .p (.mv (.t 0))⟩,
    ⟨some 84, none, .h (.call (.f 49) [.t 83, .k (.c (C.int .i64 6))])⟩,
    ⟨some 85, none, .p (.mv (.t 0))⟩,
    ⟨some 86, none, .h (.call (.f 49) [.t 85, .k (.c (C.int .i64 6))])⟩,
    ⟨some 10, none, .p (.mv (.t 84))⟩,
    ⟨some 11, none, .p (.mv (.t 86))⟩] [0, 2, 3, 10, 11])
  (.seq (.regionD [⟨some 87, none, .p (.mv (.t 10))⟩,
    ⟨some 88, none, .p (.fld 0 (.t 3))⟩,
    ⟨some 89, none, .p (.ixA 6 4 (.t 88) (.t 87))⟩,
    ⟨some 90, none, .h (.load 4 true (.t 89))⟩,
    ⟨some 91, none, .p (.mv (.t 11))⟩,
    ⟨some 92, none, .p (.fld 0 (.t 3))⟩,
    ⟨some 93, none, .p (.ixA 6 4 (.t 92) (.t 91))⟩,
    ⟨some 94, none, .h (.load 4 true (.t 93))⟩,
    ⟨some 12, none, .p (.alloc [.k (C.int .i64 0), .k (C.int .i64 0), .k (C.int .i64 0), .k (C.int .i64 0)])⟩,
    ⟨some 13, none, .p (.alloc [.k (C.int .i64 0), .k (C.int .i64 0), .k (C.int .i64 0), .k (C.int .i64 0)])⟩,
    ⟨none, none, .h (.store 4 (.t 12) (.t 90))⟩,
    ⟨none, none, .h (.store 4 (.t 13) (.t 94))⟩] [0, 2, 3, 10, 11, 12, 13] [(.t 93, .t 12)])
  (.seq (.region [⟨some 95, none, .p (.mv (.t 10))⟩,
    ⟨some 96, none, .h (.load 4 true (.t 13))⟩,
    ⟨some 97, none, .p (.fld 0 (.t 3))⟩,
    ⟨some 98, none, .p (.ixA 6 4 (.t 97) (.t 95))⟩,
    ⟨none, none, .h (.store 4 (.t 98) (.t 96))⟩] [0, 2, 3, 11, 12])
  (.region [⟨some 99, none, .p (.mv (.t 11))⟩,
    ⟨some 100, none, .h (.load 4 true (.t 12))⟩,
    ⟨some 101, none, .p (.fld 0 (.t 3))⟩,
    ⟨some 102, none, .p (.ixA 6 4 (.t 101) (.t 99))⟩,
    ⟨none, none, .h (.store 4 (.t 102) (.t 100))⟩] [0, 2, 3]))))
  .skip))
  (.seq (.seq (.region [⟨some 103, none, .p (.mv (.t 0))⟩,
    ⟨some 104, none, .h (.call (.f 49) [.t 103, .k (.c (C.int .i64 40))])⟩] [0, 2, 3, 104])
  (.block 8 (.seq (.region [⟨some 106, none, .p (.bin .eql (.t 104) (.k (.c (C.int .i64 0))))⟩,
    ⟨some 105, none, .p (.mv (.t 106))⟩] [0, 2, 3, 104, 105])
  (.cond (.t 105)
  (.regionE [⟨some 107, none, .p (.mv (.t 0))⟩,
    ⟨some 108, none, .h (.call (.f 49) [.t 107, .k (.c (C.int .i64 6))])⟩,
    ⟨some 109, none, .p (.mv (.t 0))⟩,
    ⟨some 110, none, .h (.call (.f 49) [.t 109, .k (.c (C.int .i64 4))])⟩,
    ⟨some 111, none, .p (.mv (.t 0))⟩,
    ⟨some 112, none, .p (.mksl 1 3 [.k (C.int .i64 0)] [(0, 1, .k (.c (C.int .i64 (-1)))), (1, 1, .k (.c (C.int .i64 6))), (2, 1, .k (.c (C.int .i64 4611686018427387904)))])⟩,
    ⟨some 113, none, .h (.call (.f 48) [.t 111, .t 112])⟩,
    ⟨some 114, none, .p (.fld 0 (.t 3))⟩,
    ⟨some 115, none, .p (.ixA 6 4 (.t 114) (.t 108))⟩,
    ⟨some 116, none, .p (.ixA 4 1 (.t 115) (.t 110))⟩,
    ⟨none, none, .h (.store 1 (.t 116) (.t 113))⟩] [2, 3] [] [[], [1], [], [1, 3], [], [], [1, 3, 5, 6]])
  (.seq (.region [⟨some 118, none, .p (.bin .eql (.t 104) (.k (.c (C.int .i64 1))))⟩,
    ⟨some 117, none, .p (.mv (.t 118))⟩] [0, 2, 3, 104, 117])
  (.cond (.t 117)
  (.region [⟨some 119, none, .p (.mv (.t 0))⟩,
    ⟨some 120, none, .h (.call (.f 49) [.t 119, .k (.c (C.int .i64 6))])⟩,
    ⟨some 121, none, .p (.build [.k (C.int .i64 0), .k (C.int .i64 0), .k (C.int .i64 0), .k (C.int .i64 0)] [(0, 1, .k (.c (C.int .i64 0))), (1, 1, .k (.c (C.int .i64 1))), (2, 1, .k (.c (C.int .i64 0))), (3, 1, .k (.c (C.int .i64 0)))])⟩,
    ⟨some 122, none, .p (.fld 0 (.t 3))⟩,
    ⟨some 123, none, .p (.ixA 6 4 (.t 122) (.t 120))⟩,
    ⟨none, none, .h (.store 4 (.t 123) (.t 121))⟩] [2, 3])
  (.seq (.region [⟨some 125, none, .p (.bin .eql (.t 104) (.k (.c (C.int .i64 2))))⟩,
    ⟨some 124, none, .p (.mv (.t 125))⟩] [2, 3, 124])
  (.cond (.t 124)
  (.seq (.region [⟨some 126, none, .p (.build (List.replicate 24 (.k (C.int .i64 0))) [])⟩,
    ⟨none, none, .h (.store 24 (.t 2) (.t 126))⟩] [2])
  .ret)
  .skip))))))))
  (.seq (.region [⟨some 127, none, .h (.load 24 true (.t 3))⟩,
    ⟨none, none, .h (.store 24 (.t 2) (.t 127))⟩] [2])
  .ret))))))) }
theorem a61_ok : okFn Try.prog 61 a61 = true := by kernel_rfl
/-- loop.example/g01215/impl.within -/
def a62 : AFn := { np := 3, nt := 15, res := [.t 6], body :=
  (.seq (.region [⟨some 6, none, .p (.mv (.k (.c (C.bool false))))⟩] [0, 1, 2])
  (.seq (.region [⟨some 7, none, .p (.mv (.t 1))⟩,
    ⟨some 8, none, .p (.mv (.t 0))⟩,
    ⟨some 9, none, .p (.bin .leq (.t 7) (.t 8))⟩,
    ⟨some 10, none, .p (.mv (.t 9))⟩,
    ⟨some 11, some (10, true), .p (.mv (.t 0))⟩,
    ⟨some 12, some (10, true), .p (.mv (.t 2))⟩,
    ⟨some 13, some (10, true), .p (.bin .leq (.t 11) (.t 12))⟩,
    ⟨some 14, none, .p (.pick (.t 10) (.t 13) (.k (.c (C.bool false))))⟩,
    ⟨some 6, none, .p (.mv (.t 14))⟩] [6])
  .ret)) }
theorem a62_ok : okFn Try.prog 62 a62 = true := by kernel_rfl
/-- loop.example/g01215/impl.chanceSorted$1 -/
def a63 : AFn := { np := 1, nt := 5, res := [.t 2], body :=
  (.seq (.region [⟨some 1, none, .p (.box 24 (.t 0))⟩,
    ⟨some 2, none, .p (.mv (.k (.c (C.int .i64 0))))⟩] [1])
  (.seq (.seq (.region [⟨some 3, none, .h (.load 24 true (.t 1))⟩,
    ⟨some 4, none, .h (.call (.f 55) [.t 3])⟩] [4])
  (.cond (.t 4)
  (.seq (.region [⟨some 2, none, .p (.mv (.k (.c (C.int .i64 1))))⟩] [2])
  .ret)
  .skip))
  (.seq (.region [⟨some 2, none, .p (.mv (.k (.c (C.int .i64 0))))⟩] [2])
  .ret))) }
theorem a63_ok : okFn Try.prog 63 a63 = true := by kernel_rfl
/-- loop.example/g01215/spec.l9Worth -/
def a64 : AFn := { np := 2, nt := 30, res := [.t 4], body :=
  (.seq (.region [⟨some 2, none, .p (.box 24 (.t 0))⟩,
    ⟨some 4, none, .p (.mv (.k (.c (C.int .i64 0))))⟩] [1, 2])
  (.seq (.block 0 (.seq (.region [⟨some 6, none, .p (.mv (.t 1))⟩,
    ⟨some 7, none, .p (.bin .eql (.t 6) (.k (.c (C.int .i64 3))))⟩,
    ⟨some 5, none, .p (.mv (.t 7))⟩] [1, 2, 5])
  (.cond (.t 5)
  (.seq (.region [⟨some 8, none, .h (.load 24 true (.t 2))⟩,
    ⟨some 9, none, .h (.call (.f 47) [.t 8])⟩,
    ⟨some 4, none, .p (.mv (.t 9))⟩] [4])
  .ret)
  (.seq (.seq (.region [⟨some 11, none, .p (.mv (.t 1))⟩,
    ⟨some 12, none, .p (.bin .eql (.t 11) (.k (.c (C.int .i64 1))))⟩,
    ⟨some 13, none, .p (.mv (.t 12))⟩,
    ⟨some 14, some (13, true), .h (.load 24 true (.t 2))⟩,
    ⟨some 15, some (13, true), .h (.call (.f 81) [.t 14])⟩,
    ⟨some 16, none, .p (.pick (.t 13) (.t 15) (.k (.c (C.bool false))))⟩,
    ⟨some 10, none, .p (.mv (.t 16))⟩] [1, 2, 10])
  (.cond (.t 10)
  .skip
  (.region [⟨some 17, none, .p (.mv (.t 1))⟩,
    ⟨some 18, none, .p (.bin .eql (.t 17) (.k (.c (C.int .i64 2))))⟩,
    ⟨some 19, none, .p (.mv (.t 18))⟩,
    ⟨some 20, some (19, true), .h (.load 24 true (.t 2))⟩,
    ⟨some 21, some (19, true), .h (.call (.f 81) [.t 20])⟩,
    ⟨some 22, some (19, true), .p (.un .not (.t 21))⟩,
    ⟨some 23, none, .p (.pick (.t 19) (.t 22) (.k (.c (C.bool false))))⟩,
    ⟨some 24, none, .p (.mv (.t 23))⟩,
    ⟨some 25, some (24, true), .h (.load 24 true (.t 2))⟩,
    ⟨some 26, some (24, true), .h (.call (.f 82) [.t 25])⟩,
    ⟨some 27, some (24, true), .p (.len (.t 26))⟩,
    ⟨some 28, some (24, true), .p (.bin .eql (.t 27) (.k (.c (C.int .i64 0))))⟩,
    ⟨some 29, none, .p (.pick (.t 24) (.t 28) (.k (.c (C.bool false))))⟩,
    ⟨some 10, none, .p (.mv (.t 29))⟩] [10])))
  (.cond (.t 10)
  (.seq (.region [⟨some 4, none, .p (.mv (.k (.c (C.int .i64 1))))⟩] [4])
  .ret)
  .skip)))))
  (.seq (.region [⟨some 4, none, .p (.mv (.k (.c (C.int .i64 0))))⟩] [4])
  .ret))) }
theorem a64_ok : okFn Try.prog 64 a64 = true := by kernel_rfl
/-- loop.example/g01215/spec.l7Plus -/
def a65 : AFn := { np := 2, nt := 22, res := [.cell 4 2 true], body :=
  (.seq (.region [⟨some 2, none, .p (.box 2 (.t 0))⟩,
    ⟨some 3, none, .p (.box 2 (.t 1))⟩,
    ⟨some 4, none, .p (.alloc [.k (C.int .i64 0), .k (C.int .i64 0)])⟩] [2, 3, 4])
  (.seq (.region [⟨some 5, none, .p (.ixA 2 1 (.t 2) (.k (.c (C.int .i64 0))))⟩,
    ⟨some 6, none, .h (.load 1 false (.t 5))⟩,
    ⟨some 7, none, .p (.ixA 2 1 (.t 3) (.k (.c (C.int .i64 1))))⟩,
    ⟨some 8, none, .h (.load 1 false (.t 7))⟩,
    ⟨some 9, none, .p (.bin .mul (.t 6) (.t 8))⟩,
    ⟨some 10, none, .p (.ixA 2 1 (.t 3) (.k (.c (C.int .i64 0))))⟩,
    ⟨some 11, none, .h (.load 1 false (.t 10))⟩,
    ⟨some 12, none, .p (.ixA 2 1 (.t 2) (.k (.c (C.int .i64 1))))⟩,
    ⟨some 13, none, .h (.load 1 false (.t 12))⟩,
    ⟨some 14, none, .p (.bin .mul (.t 11) (.t 13))⟩,
    ⟨some 15, none, .p (.bin .add (.t 9) (.t 14))⟩,
    ⟨some 16, none, .p (.ixA 2 1 (.t 2) (.k (.c (C.int .i64 1))))⟩,
    ⟨some 17, none, .h (.load 1 false (.t 16))⟩,
    ⟨some 18, none, .p (.ixA 2 1 (.t 3) (.k (.c (C.int .i64 1))))⟩,
    ⟨some 19, none, .h (.load 1 false (.t 18))⟩,
    ⟨some 20, none, .p (.bin .mul (.t 17) (.t 19))⟩,
    ⟨some 21, none, .h (.call (.f 66) [.t 15, .t 20])⟩,
    ⟨none, none, .h (.store 2 (.t 4) (.t 21))⟩] [4])
  .ret)) }
theorem a65_ok : okFn Try.prog 65 a65 = true := by kernel_rfl
/-- loop.example/g01215/spec.l7Cut -/
def a66 : AFn := { np := 2, nt := 24, res := [.cell 4 2 true], body :=
  (.seq (.region [⟨some 4, none, .p (.alloc [.k (C.int .i64 0), .k (C.int .i64 0)])⟩] [0, 1, 4])
  (.seq (.region [⟨some 7, none, .p (.mv (.t 0))⟩,
    ⟨some 8, none, .p (.mv (.t 1))⟩,
    ⟨some 5, none, .p (.mv (.t 7))⟩,
    ⟨some 6, none, .p (.mv (.t 8))⟩] [0, 1, 4, 5, 6])
  (.seq (.block 0 (.loop (.seq (.seq (.region [⟨some 9, none, .p (.mv (.t 6))⟩,
    ⟨some 10, none, .p (.bin .gtr (.t 9) (.k (.c (C.int .i64 0))))⟩] [0, 1, 4, 5, 6, 10])
  (.cond (.t 10)
  .skip
  (.exit 0)))
  (.block 1 (.regionD [⟨some 11, none, .p (.mv (.t 6))⟩,
    ⟨some 12, none, .p (.mv (.t 5))⟩,
    ⟨some 13, none, .p (.mv (.t 6))⟩,
    ⟨some 14, none, .p (.bin .rem (.t 12) (.t 13))⟩,
    ⟨some 5, none, .p (.mv (.t 11))⟩,
    ⟨some 6, none, .p (.mv (.t 14))⟩] [0, 1, 4, 5, 6] []))) [0, 1, 4, 5, 6]))
  (.seq (.regionD [⟨some 15, none, .p (.mv (.t 0))⟩,
    ⟨some 16, none, .p (.mv (.t 5))⟩,
    ⟨some 17, none, .h (.call (.f 91) [.t 16, .k (.c (C.int .i64 1))])⟩,
    ⟨some 18, none, .p (.bin .quo (.t 15) (.t 17))⟩,
    ⟨some 19, none, .p (.mv (.t 1))⟩,
    ⟨some 20, none, .p (.mv (.t 5))⟩,
    ⟨some 21, none, .h (.call (.f 91) [.t 20, .k (.c (C.int .i64 1))])⟩,
    ⟨some 22, none, .p (.bin .quo (.t 19) (.t 21))⟩,
    ⟨some 23, none, .p (.build [.k (C.int .i64 0), .k (C.int .i64 0)] [(0, 1, .t 18), (1, 1, .t 22)])⟩,
    ⟨none, none, .h (.store 2 (.t 4) (.t 23))⟩] [4] [])
  .ret)))) }
theorem a66_ok : okFn Try.prog 66 a66 = true := by kernel_rfl
/-- loop.example/g01215/impl.plus -/
def a67 : AFn := { np := 2, nt := 22, res := [.cell 4 2 true], body :=
  (.seq (.region [⟨some 2, none, .p (.box 2 (.t 0))⟩,
    ⟨some 3, none, .p (.box 2 (.t 1))⟩,
    ⟨some 4, none, .p (.alloc [.k (C.int .i64 0), .k (C.int .i64 0)])⟩] [2, 3, 4])
  (.seq (.region [⟨some 5, none, .p (.ixA 2 1 (.t 2) (.k (.c (C.int .i64 0))))⟩,
    ⟨some 6, none, .h (.load 1 false (.t 5))⟩,
    ⟨some 7, none, .p (.ixA 2 1 (.t 3) (.k (.c (C.int .i64 1))))⟩,
    ⟨some 8, none, .h (.load 1 false (.t 7))⟩,
    ⟨some 9, none, .p (.bin .mul (.t 6) (.t 8))⟩,
    ⟨some 10, none, .p (.ixA 2 1 (.t 3) (.k (.c (C.int .i64 0))))⟩,
    ⟨some 11, none, .h (.load 1 false (.t 10))⟩,
    ⟨some 12, none, .p (.ixA 2 1 (.t 2) (.k (.c (C.int .i64 1))))⟩,
    ⟨some 13, none, .h (.load 1 false (.t 12))⟩,
    ⟨some 14, none, .p (.bin .mul (.t 11) (.t 13))⟩,
    ⟨some 15, none, .p (.bin .add (.t 9) (.t 14))⟩,
    ⟨some 16, none, .p (.ixA 2 1 (.t 2) (.k (.c (C.int .i64 1))))⟩,
    ⟨some 17, none, .h (.load 1 false (.t 16))⟩,
    ⟨some 18, none, .p (.ixA 2 1 (.t 3) (.k (.c (C.int .i64 1))))⟩,
    ⟨some 19, none, .h (.load 1 false (.t 18))⟩,
    ⟨some 20, none, .p (.bin .mul (.t 17) (.t 19))⟩,
    ⟨some 21, none, .h (.call (.f 68) [.t 15, .t 20])⟩,
    ⟨none, none, .h (.store 2 (.t 4) (.t 21))⟩] [4])
  .ret)) }
theorem a67_ok : okFn Try.prog 67 a67 = true := by kernel_rfl
/-- loop.example/g01215/impl.fraction -/
def a68 : AFn := { np := 2, nt := 16, res := [.cell 4 2 true], body :=
  (.seq (.region [⟨some 4, none, .p (.alloc [.k (C.int .i64 0), .k (C.int .i64 0)])⟩] [0, 1, 4])
  (.seq (.region [⟨some 6, none, .p (.mv (.t 0))⟩,
    ⟨some 7, none, .p (.mv (.t 1))⟩,
    ⟨some 8, none, .h (.call (.f 92) [.t 6, .t 7])⟩,
    ⟨some 5, none, .p (.mv (.t 8))⟩] [0, 1, 4, 5])
  (.seq (.regionD [⟨some 9, none, .p (.mv (.t 0))⟩,
    ⟨some 10, none, .p (.mv (.t 5))⟩,
    ⟨some 11, none, .p (.bin .quo (.t 9) (.t 10))⟩,
    ⟨some 12, none, .p (.mv (.t 1))⟩,
    ⟨some 13, none, .p (.mv (.t 5))⟩,
    ⟨some 14, none, .p (.bin .quo (.t 12) (.t 13))⟩,
    ⟨some 15, none, .p (.build [.k (C.int .i64 0), .k (C.int .i64 0)] [(0, 1, .t 11), (1, 1, .t 14)])⟩,
    ⟨none, none, .h (.store 2 (.t 4) (.t 15))⟩] [4] [])
  .ret))) }
theorem a68_ok : okFn Try.prog 68 a68 = true := by kernel_rfl
/-- loop.example/g01215/impl.runs -/
def a69 : AFn := { np := 1, nt := 45, res := [.t 2], body :=
  (.seq (.region [⟨some 1, none, .p (.box 4 (.t 0))⟩,
    ⟨some 2, none, .p (.nilsl 2)⟩] [1])
  (.seq (.region [⟨some 3, none, .p (.nilsl 2)⟩] [1, 3])
  (.seq (.seq (.region [⟨some 7, none, .h (.load 4 true (.t 1))⟩,
    ⟨some 8, none, .h (.call (.f 75) [.t 7])⟩,
    ⟨some 9, none, .h (.slA 4 1 (.t 1) none (some (.t 8)))⟩,
    ⟨some 10, none, .p (.len (.t 9))⟩,
    ⟨some 11, none, .p (.mv (.k (.c (C.int .i64 0))))⟩] [3, 9, 10, 11])
  (.block 0 (.loop (.seq (.region [⟨some 12, none, .p (.bin .lss (.t 11) (.t 10))⟩] [3, 9, 10, 11, 12])
  (.seq (.cond (.t 12)
  .skip
  (.exit 0))
  (.seq (.block 1 (.seq (.region [⟨some 13, none, .p (.ixS 1 (.t 9) (.t 11))⟩,
    ⟨some 14, none, .h (.load 1 false (.t 13))⟩,
    ⟨some 5, none, .p (.mv (.t 14))⟩] [3, 5, 9, 10, 11])
  (.seq (.region [⟨some 15, none, .p (.mv (.t 3))⟩,
    ⟨some 16, none, .p (.len (.t 15))⟩,
    ⟨some 6, none, .p (.mv (.t 16))⟩] [3, 5, 6, 9, 10, 11])
  (.seq (.region [⟨some 17, none, .p (.mv (.t 6))⟩,
    ⟨some 18, none, .p (.bin .gtr (.t 17) (.k (.c (C.int .i64 0))))⟩,
    ⟨some 19, none, .p (.mv (.t 18))⟩,
    ⟨some 20, some (19, true), .p (.mv (.t 3))⟩,
    ⟨some 21, some (19, true), .p (.mv (.t 6))⟩,
    ⟨some 22, some (19, true), .p (.bin .sub (.t 21) (.k (.c (C.int .i64 1))))⟩,
    ⟨some 23, some (19, true), .p (.ixS 2 (.t 20) (.t 22))⟩,
    ⟨some 24, some (19, true), .p (.ixA 2 1 (.t 23) (.k (.c (C.int .i64 0))))⟩,
    ⟨some 25, some (19, true), .h (.load 1 false (.t 24))⟩,
    ⟨some 26, some (19, true), .p (.mv (.t 5))⟩,
    ⟨some 27, some (19, true), .p (.bin .eql (.t 25) (.t 26))⟩,
    ⟨some 28, none, .p (.pick (.t 19) (.t 27) (.k (.c (C.bool false))))⟩] [3, 5, 6, 9, 10, 11, 28])
  (.cond (.t 28)
  (.regionD [⟨some 29, none, .p (.mv (.t 3))⟩,
    ⟨some 30, none, .p (.mv (.t 6))⟩,
    ⟨some 31, none, .p (.bin .sub (.t 30) (.k (.c (C.int .i64 1))))⟩,
    ⟨some 32, none, .p (.ixS 2 (.t 29) (.t 31))⟩,
    ⟨some 33, none, .p (.ixA 2 1 (.t 32) (.k (.c (C.int .i64 1))))⟩,
    ⟨some 34, none, .h (.load 1 false (.t 33))⟩,
    ⟨some 35, none, .p (.bin .add (.t 34) (.k (.c (C.int .i64 1))))⟩,
    ⟨some 36, none, .p (.ixS 2 (.t 29) (.t 31))⟩,
    ⟨some 37, none, .p (.ixA 2 1 (.t 36) (.k (.c (C.int .i64 1))))⟩,
    ⟨none, none, .h (.store 1 (.t 37) (.t 35))⟩] [3, 9, 10, 11] [])
  (.region [⟨some 38, none, .p (.mv (.t 3))⟩,
    ⟨some 39, none, .p (.mv (.t 5))⟩,
    ⟨some 40, none, .p (.build [.k (C.int .i64 0), .k (C.int .i64 0)] [(0, 1, .t 39), (1, 1, .k (.c (C.int .i64 1)))])⟩,
    ⟨some 41, none, .p (.mksl 2 1 [.k (C.int .i64 0), .k (C.int .i64 0)] [(0, 2, .t 40)])⟩,
    ⟨some 42, none, .h (.app 2 (.t 38) (.t 41))⟩,
    ⟨some 3, none, .p (.mv (.t 42))⟩] [3, 9, 10, 11]))))))
  (.region [⟨some 43, none, .p (.bin .add (.t 11) (.k (.c (C.int .i64 1))))⟩,
    ⟨some 11, none, .p (.mv (.t 43))⟩] [3, 9, 10, 11])))) [3, 9, 10, 11])))
  (.seq (.region [⟨some 44, none, .p (.mv (.t 3))⟩,
    ⟨some 2, none, .p (.mv (.t 44))⟩] [2])
  .ret)))) }
theorem a69_ok : okFn Try.prog 69 a69 = true := by kernel_rfl
/-- slices.DeleteFunc[[][2]int,[2]int] -/
def a70 : AFn := { np := 2, nt := 42, res := [.t 4], body :=
  (.seq (.region [⟨some 4, none, .p (.nilsl 2)⟩] [0, 1])
  (.seq (.region [⟨some 8, none, .p (.mv (.t 0))⟩,
    ⟨some 9, none, .p (.mv (.t 1))⟩,
    ⟨some 10, none, .h (.call (.f 93) [.t 8, .t 9])⟩,
    ⟨some 5, none, .p (.mv (.t 10))⟩] [0, 1, 5])
  (.seq (.seq (.region [⟨some 11, none, .p (.mv (.t 5))⟩,
    ⟨some 12, none, .p (.bin .eql (.t 11) (.k (.c (C.int .i64 (-1)))))⟩] [0, 1, 5, 12])
  (.cond (.t 12)
  (.seq (.region [⟨some 13, none, .p (.mv (.t 0))⟩,
    ⟨some 4, none, .p (.mv (.t 13))⟩] [4])
  .ret)
  .skip))
  (.seq (.seq (.region [⟨some 14, none, .p (.mv (.t 5))⟩,
    ⟨some 15, none, .p (.bin .add (.t 14) (.k (.c (C.int .i64 1))))⟩,
    ⟨some 6, none, .p (.mv (.t 15))⟩] [0, 1, 5, 6])
  (.block 0 (.loop (.seq (.seq (.region [⟨some 16, none, .p (.mv (.t 6))⟩,
    ⟨some 17, none, .p (.mv (.t 0))⟩,
    ⟨some 18, none, .p (.len (.t 17))⟩,
    ⟨some 19, none, .p (.bin .lss (.t 16) (.t 18))⟩] [0, 1, 5, 6, 19])
  (.cond (.t 19)
  .skip
  (.exit 0)))
  (.seq (.block 1 (.seq (.region [⟨some 22, none, .p (.mv (.t 0))⟩,
    ⟨some 23, none, .p (.mv (.t 6))⟩,
    ⟨some 24, none, .p (.ixS 2 (.t 22) (.t 23))⟩,
    ⟨some 25, none, .h (.load 2 true (.t 24))⟩,
    ⟨some 7, none, .p (.alloc [.k (C.int .i64 0), .k (C.int .i64 0)])⟩,
    ⟨none, none, .h (.store 2 (.t 7) (.t 25))⟩] [0, 1, 5, 6, 7])
  (.seq (.region [⟨some 26, none, .p (.mv (.t 1))⟩,
    ⟨some 27, none, .h (.load 2 true (.t 7))⟩,
    ⟨some 28, none, .h (.call (.t 26) [.t 27])⟩,
    ⟨some 29, none, .p (.un .not (.t 28))⟩] [0, 1, 5, 6, 7, 29])
  (.cond (.t 29)
  (.seq (.region [⟨some 30, none, .p (.mv (.t 0))⟩,
    ⟨some 31, none, .p (.mv (.t 5))⟩,
    ⟨some 32, none, .h (.load 2 true (.t 7))⟩,
    ⟨some 33, none, .p (.ixS 2 (.t 30) (.t 31))⟩,
    ⟨none, none, .h (.store 2 (.t 33) (.t 32))⟩] [0, 1, 5, 6])
  (.region [⟨some 34, none, .p (.mv (.t 5))⟩,
    ⟨some 35, none, .p (.bin .add (.t 34) (.k (.c (C.int .i64 1))))⟩,
    ⟨some 5, none, .p (.mv (.t 35))⟩] [0, 1, 5, 6]))
  .skip))))
  (.region [⟨some 20, none, .p (.mv (.t 6))⟩,
    ⟨some 21, none, .p (.bin .add (.t 20) (.k (.c (C.int .i64 1))))⟩,
    ⟨some 6, none, .p (.mv (.t 21))⟩] [0, 1, 5, 6]))) [0, 1, 5, 6])))
  (.seq (.region [⟨some 36, none, .p (.mv (.t 0))⟩,
    ⟨some 37, none, .p (.mv (.t 5))⟩,
    ⟨some 38, none, .p (.slS 2 (.t 36) (some (.t 37)) none)⟩,
    ⟨none, none, .h (.clr 2 [.k (C.int .i64 0), .k (C.int .i64 0)] (.t 38))⟩] [0, 5])
  (.seq (.region [⟨some 39, none, .p (.mv (.t 0))⟩,
    ⟨some 40, none, .p (.mv (.t 5))⟩,
    ⟨some 41, none, .p (.slS 2 (.t 39) none (some (.t 40)))⟩,
    ⟨some 4, none, .p (.mv (.t 41))⟩] [4])
  .ret)))))) }
theorem a70_ok : okFn Try.prog 70 a70 = true := by kernel_rfl
/-- loop.example/g01215/impl.pours -/
def a71 : AFn := { np := 1, nt := 25, res := [.t 2], body :=
  (.seq (.region [⟨some 1, none, .p (.box 24 (.t 0))⟩,
    ⟨some 2, none, .p (.nilsl 2)⟩] [1])
  (.seq (.region [⟨some 3, none, .p (.nilsl 2)⟩] [1, 3])
  (.seq (.seq (.region [⟨some 6, none, .p (.mv (.k (.c (C.int .i64 0))))⟩] [1, 3, 6])
  (.block 0 (.loop (.seq (.region [⟨some 7, none, .p (.bin .lss (.t 6) (.k (.c (C.int .i64 6))))⟩] [1, 3, 6, 7])
  (.seq (.cond (.t 7)
  .skip
  (.exit 0))
  (.seq (.block 1 (.seq (.region [⟨some 8, none, .p (.mv (.t 6))⟩,
    ⟨some 4, none, .p (.mv (.t 8))⟩] [1, 3, 4, 6])
  (.seq (.region [⟨some 9, none, .p (.mv (.k (.c (C.int .i64 0))))⟩] [1, 3, 4, 6, 9])
  (.block 2 (.loop (.seq (.region [⟨some 10, none, .p (.bin .lss (.t 9) (.k (.c (C.int .i64 6))))⟩] [1, 3, 4, 6, 9, 10])
  (.seq (.cond (.t 10)
  .skip
  (.exit 2))
  (.seq (.block 3 (.seq (.region [⟨some 11, none, .p (.mv (.t 9))⟩,
    ⟨some 5, none, .p (.mv (.t 11))⟩] [1, 3, 4, 5, 6, 9])
  (.seq (.region [⟨some 12, none, .h (.load 24 true (.t 1))⟩,
    ⟨some 13, none, .p (.mv (.t 4))⟩,
    ⟨some 14, none, .p (.mv (.t 5))⟩,
    ⟨some 15, none, .h (.call (.f 54) [.t 12, .t 13, .t 14])⟩] [1, 3, 4, 5, 6, 9, 15])
  (.cond (.t 15)
  (.region [⟨some 16, none, .p (.mv (.t 3))⟩,
    ⟨some 17, none, .p (.mv (.t 4))⟩,
    ⟨some 18, none, .p (.mv (.t 5))⟩,
    ⟨some 19, none, .p (.build [.k (C.int .i64 0), .k (C.int .i64 0)] [(0, 1, .t 17), (1, 1, .t 18)])⟩,
    ⟨some 20, none, .p (.mksl 2 1 [.k (C.int .i64 0), .k (C.int .i64 0)] [(0, 2, .t 19)])⟩,
    ⟨some 21, none, .h (.app 2 (.t 16) (.t 20))⟩,
    ⟨some 3, none, .p (.mv (.t 21))⟩] [1, 3, 4, 6, 9])
  .skip))))
  (.region [⟨some 22, none, .p (.bin .add (.t 9) (.k (.c (C.int .i64 1))))⟩,
    ⟨some 9, none, .p (.mv (.t 22))⟩] [1, 3, 4, 6, 9])))) [1, 3, 4, 6, 9])))))
  (.region [⟨some 23, none, .p (.bin .add (.t 6) (.k (.c (C.int .i64 1))))⟩,
    ⟨some 6, none, .p (.mv (.t 23))⟩] [1, 3, 6])))) [1, 3, 6])))
  (.seq (.region [⟨some 24, none, .p (.mv (.t 3))⟩,
    ⟨some 2, none, .p (.mv (.t 24))⟩] [2])
  .ret)))) }
theorem a71_ok : okFn Try.prog 71 a71 = true := by kernel_rfl
/-- loop.example/g01215/impl.useful$1 -/
def a72 : AFn := { np := 2, nt := 7, res := [.t 3], body :=
  (.seq (.region [⟨some 2, none, .p (.box 2 (.t 0))⟩,
    ⟨some 3, none, .p (.mv (.k (.c (C.bool false))))⟩] [1, 2])
  (.seq (.region [⟨some 4, none, .h (.load 24 true (.t 1))⟩,
    ⟨some 5, none, .h (.load 2 true (.t 2))⟩,
    ⟨some 6, none, .h (.call (.f 73) [.t 4, .t 5])⟩,
    ⟨some 3, none, .p (.mv (.t 6))⟩] [3])
  .ret)) }
theorem a72_ok : okFn Try.prog 72 a72 = true := by kernel_rfl
/-- loop.example/g01215/impl.isIdle -/
def a73 : AFn := { np := 2, nt := 22, res := [.t 4], body :=
  (.seq (.region [⟨some 2, none, .p (.box 24 (.t 0))⟩,
    ⟨some 3, none, .p (.box 2 (.t 1))⟩,
    ⟨some 4, none, .p (.mv (.k (.c (C.bool false))))⟩] [2, 3])
  (.seq (.region [⟨some 5, none, .p (.ixA 2 1 (.t 3) (.k (.c (C.int .i64 0))))⟩,
    ⟨some 6, none, .h (.load 1 false (.t 5))⟩,
    ⟨some 7, none, .p (.fld 0 (.t 2))⟩,
    ⟨some 8, none, .p (.ixA 6 4 (.t 7) (.t 6))⟩,
    ⟨some 9, none, .h (.load 4 true (.t 8))⟩,
    ⟨some 10, none, .h (.call (.f 69) [.t 9])⟩,
    ⟨some 11, none, .p (.len (.t 10))⟩,
    ⟨some 12, none, .p (.bin .eql (.t 11) (.k (.c (C.int .i64 1))))⟩,
    ⟨some 13, none, .p (.mv (.t 12))⟩,
    ⟨some 14, some (13, true), .p (.ixA 2 1 (.t 3) (.k (.c (C.int .i64 1))))⟩,
    ⟨some 15, some (13, true), .h (.load 1 false (.t 14))⟩,
    ⟨some 16, some (13, true), .p (.fld 0 (.t 2))⟩,
    ⟨some 17, some (13, true), .p (.ixA 6 4 (.t 16) (.t 15))⟩,
    ⟨some 18, some (13, true), .h (.load 4 true (.t 17))⟩,
    ⟨some 19, some (13, true), .h (.call (.f 75) [.t 18])⟩,
    ⟨some 20, some (13, true), .p (.bin .eql (.t 19) (.k (.c (C.int .i64 0))))⟩,
    ⟨some 21, none, .p (.pick (.t 13) (.t 20) (.k (.c (C.bool false))))⟩,
    ⟨some 4, none, .p (.mv (.t 21))⟩] [4])
  .ret)) }
theorem a73_ok : okFn Try.prog 73 a73 = true := by kernel_rfl
/-- loop.example/g01215/impl.top -/
def a74 : AFn := { np := 1, nt := 21, res := [.t 2, .t 3], body :=
  (.seq (.region [⟨some 1, none, .p (.box 4 (.t 0))⟩,
    ⟨some 2, none, .p (.mv (.k (.c (C.int .i64 0))))⟩,
    ⟨some 3, none, .p (.mv (.k (.c (C.int .i64 0))))⟩] [1])
  (.seq (.region [⟨some 6, none, .h (.load 4 true (.t 1))⟩,
    ⟨some 7, none, .h (.call (.f 69) [.t 6])⟩,
    ⟨some 4, none, .p (.mv (.t 7))⟩] [4])
  (.seq (.seq (.region [⟨some 8, none, .p (.mv (.t 4))⟩,
    ⟨some 9, none, .p (.len (.t 8))⟩,
    ⟨some 10, none, .p (.bin .eql (.t 9) (.k (.c (C.int .i64 0))))⟩] [4, 10])
  (.cond (.t 10)
  (.seq (.region [⟨some 2, none, .p (.mv (.k (.c (C.int .i64 0))))⟩,
    ⟨some 3, none, .p (.mv (.k (.c (C.int .i64 0))))⟩] [2, 3])
  .ret)
  .skip))
  (.seq (.region [⟨some 11, none, .p (.mv (.t 4))⟩,
    ⟨some 12, none, .p (.mv (.t 4))⟩,
    ⟨some 13, none, .p (.len (.t 12))⟩,
    ⟨some 14, none, .p (.bin .sub (.t 13) (.k (.c (C.int .i64 1))))⟩,
    ⟨some 15, none, .p (.ixS 2 (.t 11) (.t 14))⟩,
    ⟨some 16, none, .h (.load 2 true (.t 15))⟩,
    ⟨some 5, none, .p (.alloc [.k (C.int .i64 0), .k (C.int .i64 0)])⟩,
    ⟨none, none, .h (.store 2 (.t 5) (.t 16))⟩] [5])
  (.seq (.regionD [⟨some 17, none, .p (.ixA 2 1 (.t 5) (.k (.c (C.int .i64 0))))⟩,
    ⟨some 18, none, .h (.load 1 false (.t 17))⟩,
    ⟨some 19, none, .p (.ixA 2 1 (.t 5) (.k (.c (C.int .i64 1))))⟩,
    ⟨some 20, none, .h (.load 1 false (.t 19))⟩,
    ⟨some 2, none, .p (.mv (.t 18))⟩,
    ⟨some 3, none, .p (.mv (.t 20))⟩] [2, 3] [])
  .ret))))) }
theorem a74_ok : okFn Try.prog 74 a74 = true := by kernel_rfl
/-- loop.example/g01215/impl.layers -/
def a75 : AFn := { np := 1, nt := 9, res := [.t 2], body :=
  (.seq (.region [⟨some 1, none, .p (.box 4 (.t 0))⟩,
    ⟨some 2, none, .p (.mv (.k (.c (C.int .i64 0))))⟩] [1])
  (.seq (.region [⟨some 4, none, .h (.slA 4 1 (.t 1) none none)⟩,
    ⟨some 5, none, .h (.call (.f 94) [.t 4, .k (.c (C.int .i64 0))])⟩,
    ⟨some 3, none, .p (.mv (.t 5))⟩] [3])
  (.seq (.seq (.region [⟨some 6, none, .p (.mv (.t 3))⟩,
    ⟨some 7, none, .p (.bin .lss (.t 6) (.k (.c (C.int .i64 0))))⟩] [3, 7])
  (.cond (.t 7)
  (.seq (.region [⟨some 2, none, .p (.mv (.k (.c (C.int .i64 4))))⟩] [2])
  .ret)
  .skip))
  (.seq (.region [⟨some 8, none, .p (.mv (.t 3))⟩,
    ⟨some 2, none, .p (.mv (.t 8))⟩] [2])
  .ret)))) }
theorem a75_ok : okFn Try.prog 75 a75 = true := by kernel_rfl
/-- loop.example/g01215/spec.l5Put -/
def a76 : AFn := { np := 2, nt := 45, res := [.t 4], body :=
  (.seq (.region [⟨some 3, none, .p (.box 24 (.t 1))⟩,
    ⟨some 4, none, .p (.nilsl 24)⟩] [0, 3])
  (.seq (.region [⟨some 5, none, .p (.mv (.k (.c (C.int .i64 0))))⟩] [0, 3, 5])
  (.seq (.block 0 (.loop (.seq (.seq (.regionD [⟨some 6, none, .p (.mv (.t 5))⟩,
    ⟨some 7, none, .p (.mv (.t 0))⟩,
    ⟨some 8, none, .p (.len (.t 7))⟩,
    ⟨some 9, none, .p (.bin .lss (.t 6) (.t 8))⟩,
    ⟨some 10, none, .p (.mv (.t 9))⟩,
    ⟨some 11, some (10, true), .p (.mv (.t 0))⟩,
    ⟨some 12, some (10, true), .p (.mv (.t 5))⟩,
    ⟨some 13, some (10, true), .p (.ixS 24 (.t 11) (.t 12))⟩,
    ⟨some 14, some (10, true), .h (.load 24 true (.t 13))⟩,
    ⟨some 15, some (10, true), .h (.load 24 true (.t 3))⟩,
    ⟨some 16, some (10, true), .h (.call (.f 95) [.t 14, .t 15])⟩,
    ⟨some 17, none, .p (.pick (.t 10) (.t 16) (.k (.c (C.bool false))))⟩] [0, 3, 5, 17] [])
  (.cond (.t 17)
  .skip
  (.exit 0)))
  (.block 1 (.region [⟨some 18, none, .p (.mv (.t 5))⟩,
    ⟨some 19, none, .p (.bin .add (.t 18) (.k (.c (C.int .i64 1))))⟩,
    ⟨some 5, none, .p (.mv (.t 19))⟩] [0, 3, 5]))) [0, 3, 5]))
  (.seq (.seq (.regionD [⟨some 20, none, .p (.mv (.t 5))⟩,
    ⟨some 21, none, .p (.mv (.t 0))⟩,
    ⟨some 22, none, .p (.len (.t 21))⟩,
    ⟨some 23, none, .p (.bin .lss (.t 20) (.t 22))⟩,
    ⟨some 24, none, .p (.mv (.t 23))⟩,
    ⟨some 25, some (24, true), .p (.mv (.t 0))⟩,
    ⟨some 26, some (24, true), .p (.mv (.t 5))⟩,
    ⟨some 27, some (24, true), .p (.ixS 24 (.t 25) (.t 26))⟩,
    ⟨some 28, some (24, true), .h (.load 24 true (.t 27))⟩,
    ⟨some 29, some (24, true), .h (.load 24 true (.t 3))⟩,
    ⟨some 30, some (24, true), .p (.eqv false (List.replicate 24 (.int .i64)) (.t 28) (.t 29))⟩,
    ⟨some 31, none, .p (.pick (.t 24) (.t 30) (.k (.c (C.bool false))))⟩] [0, 3, 5, 31] [])
  (.cond (.t 31)
  (.seq (.region [⟨some 32, none, .p (.mv (.t 0))⟩,
    ⟨some 4, none, .p (.mv (.t 32))⟩] [4])
  .ret)
  .skip))
  (.seq (.regionE [⟨some 33, none, .p (.mksl 24 0 (List.replicate 24 (.k (C.int .i64 0))) [])⟩,
    ⟨some 34, none, .p (.mv (.t 0))⟩,
    ⟨some 35, none, .p (.mv (.t 5))⟩,
    ⟨some 36, none, .p (.slS 24 (.t 34) none (some (.t 35)))⟩,
    ⟨some 37, none, .h (.app 24 (.t 33) (.t 36))⟩,
    ⟨some 38, none, .h (.load 24 true (.t 3))⟩,
    ⟨some 39, none, .p (.mksl 24 1 (List.replicate 24 (.k (C.int .i64 0))) [(0, 24, .t 38)])⟩,
    ⟨some 40, none, .h (.app 24 (.t 37) (.t 39))⟩,
    ⟨some 41, none, .p (.mv (.t 0))⟩,
    ⟨some 42, none, .p (.mv (.t 5))⟩,
    ⟨some 43, none, .p (.slS 24 (.t 41) (some (.t 42)) none)⟩,
    ⟨some 44, none, .h (.app 24 (.t 40) (.t 43))⟩,
    ⟨some 4, none, .p (.mv (.t 44))⟩] [4] [(.t 33, .t 3)] [[], [], [], [], [0], [], [], [0, 4, 6], [], [], [], [0, 4, 6, 7]])
  .ret))))) }
theorem a76_ok : okFn Try.prog 76 a76 = true := by kernel_rfl
/-- loop.example/g01215/impl.areAll[[4]int] -/
def a77 : AFn := { np := 2, nt := 9, res := [.t 4], body :=
  (.seq (.region [⟨some 3, none, .p (.box 1 (.t 1))⟩,
    ⟨some 4, none, .p (.mv (.k (.c (C.bool false))))⟩] [0, 3])
  (.seq (.region [⟨some 5, none, .p (.mv (.t 0))⟩,
    ⟨some 6, none, .p (.mkfn 97 [.t 3])⟩,
    ⟨some 7, none, .h (.call (.f 96) [.t 5, .t 6])⟩,
    ⟨some 8, none, .p (.un .not (.t 7))⟩,
    ⟨some 4, none, .p (.mv (.t 8))⟩] [4])
  .ret)) }
theorem a77_ok : okFn Try.prog 77 a77 = true := by kernel_rfl
/-- loop.example/g01215/impl.isTube -/
def a78 : AFn := { np := 1, nt := 14, res := [.t 2], body :=
  (.seq (.region [⟨some 1, none, .p (.box 4 (.t 0))⟩,
    ⟨some 2, none, .p (.mv (.k (.c (C.bool false))))⟩] [1])
  (.seq (.region [⟨some 4, none, .h (.load 4 true (.t 1))⟩,
    ⟨some 5, none, .h (.call (.f 75) [.t 4])⟩,
    ⟨some 3, none, .p (.mv (.t 5))⟩] [1, 3])
  (.seq (.region [⟨some 6, none, .p (.mv (.t 3))⟩,
    ⟨some 7, none, .h (.slA 4 1 (.t 1) none (some (.t 6)))⟩,
    ⟨some 8, none, .h (.call (.f 86) [.t 7, .f 98])⟩,
    ⟨some 9, none, .p (.mv (.t 8))⟩,
    ⟨some 10, some (9, true), .p (.mv (.t 3))⟩,
    ⟨some 11, some (9, true), .h (.slA 4 1 (.t 1) (some (.t 10)) none)⟩,
    ⟨some 12, some (9, true), .h (.call (.f 86) [.t 11, .f 99])⟩,
    ⟨some 13, none, .p (.pick (.t 9) (.t 12) (.k (.c (C.bool false))))⟩,
    ⟨some 2, none, .p (.mv (.t 13))⟩] [2])
  .ret))) }
theorem a78_ok : okFn Try.prog 78 a78 = true := by kernel_rfl
/-- loop.example/g01215/spec.l2Runs -/
def a79 : AFn := { np := 1, nt := 42, res := [.t 2], body :=
  (.seq (.region [⟨some 1, none, .p (.box 4 (.t 0))⟩,
    ⟨some 2, none, .p (.nilsl 2)⟩] [1])
  (.seq (.region [⟨some 5, none, .p (.mksl 2 0 [.k (C.int .i64 0), .k (C.int .i64 0)] [])⟩,
    ⟨some 3, none, .p (.mv (.t 5))⟩] [1, 3])
  (.seq (.seq (.region [⟨some 4, none, .p (.mv (.k (.c (C.int .i64 0))))⟩] [1, 3, 4])
  (.block 0 (.loop (.seq (.seq (.region [⟨some 6, none, .p (.mv (.t 4))⟩,
    ⟨some 7, none, .h (.load 4 true (.t 1))⟩,
    ⟨some 8, none, .h (.call (.f 84) [.t 7])⟩,
    ⟨some 9, none, .p (.bin .lss (.t 6) (.t 8))⟩] [1, 3, 4, 9])
  (.cond (.t 9)
  .skip
  (.exit 0)))
  (.seq (.block 1 (.seq (.regionD [⟨some 12, none, .p (.mv (.t 4))⟩,
    ⟨some 13, none, .p (.bin .gtr (.t 12) (.k (.c (C.int .i64 0))))⟩,
    ⟨some 14, none, .p (.mv (.t 13))⟩,
    ⟨some 15, some (14, true), .p (.mv (.t 4))⟩,
    ⟨some 16, some (14, true), .p (.ixA 4 1 (.t 1) (.t 15))⟩,
    ⟨some 17, some (14, true), .h (.load 1 false (.t 16))⟩,
    ⟨some 18, some (14, true), .p (.mv (.t 4))⟩,
    ⟨some 19, some (14, true), .p (.bin .sub (.t 18) (.k (.c (C.int .i64 1))))⟩,
    ⟨some 20, some (14, true), .p (.ixA 4 1 (.t 1) (.t 19))⟩,
    ⟨some 21, some (14, true), .h (.load 1 false (.t 20))⟩,
    ⟨some 22, some (14, true), .p (.bin .eql (.t 17) (.t 21))⟩,
    ⟨some 23, none, .p (.pick (.t 14) (.t 22) (.k (.c (C.bool false))))⟩] [1, 3, 4, 23] [])
  (.cond (.t 23)
  (.regionD [⟨some 24, none, .p (.mv (.t 3))⟩,
    ⟨some 25, none, .p (.mv (.t 3))⟩,
    ⟨some 26, none, .p (.len (.t 25))⟩,
    ⟨some 27, none, .p (.bin .sub (.t 26) (.k (.c (C.int .i64 1))))⟩,
    ⟨some 28, none, .p (.ixS 2 (.t 24) (.t 27))⟩,
    ⟨some 29, none, .p (.ixA 2 1 (.t 28) (.k (.c (C.int .i64 1))))⟩,
    ⟨some 30, none, .h (.load 1 false (.t 29))⟩,
    ⟨some 31, none, .p (.bin .add (.t 30) (.k (.c (C.int .i64 1))))⟩,
    ⟨some 32, none, .p (.ixS 2 (.t 24) (.t 27))⟩,
    ⟨some 33, none, .p (.ixA 2 1 (.t 32) (.k (.c (C.int .i64 1))))⟩,
    ⟨none, none, .h (.store 1 (.t 33) (.t 31))⟩] [1, 3, 4] [])
  (.region [⟨some 34, none, .p (.mv (.t 3))⟩,
    ⟨some 35, none, .p (.mv (.t 4))⟩,
    ⟨some 36, none, .p (.ixA 4 1 (.t 1) (.t 35))⟩,
    ⟨some 37, none, .h (.load 1 false (.t 36))⟩,
    ⟨some 38, none, .p (.build [.k (C.int .i64 0), .k (C.int .i64 0)] [(0, 1, .t 37), (1, 1, .k (.c (C.int .i64 1)))])⟩,
    ⟨some 39, none, .p (.mksl 2 1 [.k (C.int .i64 0), .k (C.int .i64 0)] [(0, 2, .t 38)])⟩,
    ⟨some 40, none, .h (.app 2 (.t 34) (.t 39))⟩,
    ⟨some 3, none, .p (.mv (.t 40))⟩] [1, 3, 4]))))
  (.region [⟨some 10, none, .p (.mv (.t 4))⟩,
    ⟨some 11, none, .p (.bin .add (.t 10) (.k (.c (C.int .i64 1))))⟩,
    ⟨some 4, none, .p (.mv (.t 11))⟩] [1, 3, 4]))) [1, 3, 4])))
  (.seq (.region [⟨some 41, none, .p (.mv (.t 3))⟩,
    ⟨some 2, none, .p (.mv (.t 41))⟩] [2])
  .ret)))) }
theorem a79_ok : okFn Try.prog 79 a79 = true := by kernel_rfl
/-- (*loop.example/g01215/spec.l1Cur).next -/
def a80 : AFn := { np := 1, nt := 62, res := [.t 2], body :=
  (.seq (.region [⟨some 2, none, .p (.mv (.k (.c (C.int .i64 0))))⟩] [0])
  (.seq (.region [⟨some 3, none, .p (.mv (.k (.c (C.int .i64 0))))⟩] [0, 3])
  (.seq (.seq (.regionD [⟨some 4, none, .p (.mv (.t 0))⟩,
    ⟨some 5, none, .p (.nn (.t 4))⟩,
    ⟨some 6, none, .p (.fld 1 (.t 5))⟩,
    ⟨some 7, none, .h (.load 1 false (.t 6))⟩,
    ⟨some 8, none, .p (.mv (.t 0))⟩,
    ⟨some 9, none, .p (.nn (.t 8))⟩,
    ⟨some 10, none, .p (.fld 0 (.t 9))⟩,
    ⟨some 11, none, .h (.load 1 false (.t 10))⟩,
    ⟨some 12, none, .p (.len (.t 11))⟩,
    ⟨some 13, none, .p (.bin .lss (.t 7) (.t 12))⟩] [0, 3, 13] [])
  (.cond (.t 13)
  (.regionD [⟨some 14, none, .p (.mv (.t 0))⟩,
    ⟨some 15, none, .p (.nn (.t 14))⟩,
    ⟨some 16, none, .p (.fld 0 (.t 15))⟩,
    ⟨some 17, none, .h (.load 1 false (.t 16))⟩,
    ⟨some 18, none, .p (.mv (.t 0))⟩,
    ⟨some 19, none, .p (.nn (.t 18))⟩,
    ⟨some 20, none, .p (.fld 1 (.t 19))⟩,
    ⟨some 21, none, .h (.load 1 false (.t 20))⟩,
    ⟨some 22, none, .p (.ixS 1 (.t 17) (.t 21))⟩,
    ⟨some 23, none, .h (.load 1 false (.t 22))⟩,
    ⟨some 24, none, .p (.conv .i64 (.t 23))⟩,
    ⟨some 3, none, .p (.mv (.t 24))⟩] [0, 3] [])
  .skip))
  (.seq (.region [⟨some 25, none, .p (.mv (.t 0))⟩,
    ⟨some 26, none, .p (.nn (.t 25))⟩,
    ⟨some 27, none, .p (.fld 1 (.t 26))⟩,
    ⟨some 28, none, .h (.load 1 false (.t 27))⟩,
    ⟨some 29, none, .p (.bin .add (.t 28) (.k (.c (C.int .i64 1))))⟩,
    ⟨some 30, none, .p (.nn (.t 25))⟩,
    ⟨some 31, none, .p (.fld 1 (.t 30))⟩,
    ⟨none, none, .h (.store 1 (.t 31) (.t 29))⟩] [0, 3])
  (.seq (.region [⟨some 32, none, .p (.mv (.t 0))⟩,
    ⟨some 33, none, .p (.mv (.t 0))⟩,
    ⟨some 34, none, .p (.nn (.t 33))⟩,
    ⟨some 35, none, .p (.fld 2 (.t 34))⟩,
    ⟨some 36, none, .h (.load 1 false (.t 35))⟩,
    ⟨some 37, none, .p (.bin .mul (.t 36) (.k (.c (C.int .u64 6364136223846793005))))⟩,
    ⟨some 38, none, .p (.mv (.t 3))⟩,
    ⟨some 39, none, .p (.conv .u64 (.t 38))⟩,
    ⟨some 40, none, .p (.bin .add (.t 37) (.t 39))⟩,
    ⟨some 41, none, .p (.bin .add (.t 40) (.k (.c (C.int .u64 462197))))⟩,
    ⟨some 42, none, .p (.nn (.t 32))⟩,
    ⟨some 43, none, .p (.fld 2 (.t 42))⟩,
    ⟨none, none, .h (.store 1 (.t 43) (.t 41))⟩] [0, 3])
  (.seq (.seq (.regionD [⟨some 44, none, .p (.mv (.t 0))⟩,
    ⟨some 45, none, .p (.nn (.t 44))⟩,
    ⟨some 46, none, .p (.fld 1 (.t 45))⟩,
    ⟨some 47, none, .h (.load 1 false (.t 46))⟩,
    ⟨some 48, none, .p (.mv (.t 0))⟩,
    ⟨some 49, none, .p (.nn (.t 48))⟩,
    ⟨some 50, none, .p (.fld 0 (.t 49))⟩,
    ⟨some 51, none, .h (.load 1 false (.t 50))⟩,
    ⟨some 52, none, .p (.len (.t 51))⟩,
    ⟨some 53, none, .p (.bin .leq (.t 47) (.t 52))⟩] [0, 3, 53] [])
  (.cond (.t 53)
  (.seq (.region [⟨some 54, none, .p (.mv (.t 3))⟩,
    ⟨some 2, none, .p (.mv (.t 54))⟩] [2])
  .ret)
  .skip))
  (.seq (.region [⟨some 55, none, .p (.mv (.t 0))⟩,
    ⟨some 56, none, .p (.nn (.t 55))⟩,
    ⟨some 57, none, .p (.fld 2 (.t 56))⟩,
    ⟨some 58, none, .h (.load 1 false (.t 57))⟩,
    ⟨some 59, none, .p (.bin .shr (.t 58) (.k (.c (C.int .u64 40))))⟩,
    ⟨some 60, none, .p (.bin .and (.t 59) (.k (.c (C.int .u64 255))))⟩,
    ⟨some 61, none, .p (.conv .i64 (.t 60))⟩,
    ⟨some 2, none, .p (.mv (.t 61))⟩] [2])
  .ret))))))) }
theorem a80_ok : okFn Try.prog 80 a80 = true := by kernel_rfl
/-- loop.example/g01215/spec.l2Sorted -/
def a81 : AFn := { np := 1, nt := 42, res := [.t 2], body :=
  (.seq (.region [⟨some 1, none, .p (.box 24 (.t 0))⟩,
    ⟨some 2, none, .p (.mv (.k (.c (C.bool false))))⟩] [1])
  (.seq (.region [⟨some 6, none, .p (.mksl 1 0 [.k (C.int .i64 0)] [])⟩,
    ⟨some 3, none, .p (.mv (.t 6))⟩] [1, 3])
  (.seq (.seq (.region [⟨some 4, none, .p (.mv (.k (.c (C.int .i64 0))))⟩] [1, 3, 4])
  (.block 0 (.loop (.seq (.seq (.region [⟨some 7, none, .p (.mv (.t 4))⟩,
    ⟨some 8, none, .p (.bin .lss (.t 7) (.k (.c (C.int .i64 6))))⟩] [1, 3, 4, 8])
  (.cond (.t 8)
  .skip
  (.exit 0)))
  (.seq (.block 1 (.seq (.region [⟨some 11, none, .p (.mv (.t 4))⟩,
    ⟨some 12, none, .p (.fld 0 (.t 1))⟩,
    ⟨some 13, none, .p (.ixA 6 4 (.t 12) (.t 11))⟩,
    ⟨some 14, none, .h (.load 4 true (.t 13))⟩,
    ⟨some 15, none, .h (.call (.f 79) [.t 14])⟩,
    ⟨some 5, none, .p (.mv (.t 15))⟩] [1, 3, 4, 5])
  (.seq (.seq (.region [⟨some 16, none, .p (.mv (.t 5))⟩,
    ⟨some 17, none, .p (.len (.t 16))⟩,
    ⟨some 18, none, .p (.bin .gtr (.t 17) (.k (.c (C.int .i64 1))))⟩,
    ⟨some 19, none, .p (.mv (.t 18))⟩,
    ⟨some 20, some (19, false), .p (.mv (.t 5))⟩,
    ⟨some 21, some (19, false), .p (.len (.t 20))⟩,
    ⟨some 22, some (19, false), .p (.bin .eql (.t 21) (.k (.c (C.int .i64 1))))⟩,
    ⟨some 23, some (19, false), .p (.mv (.t 22))⟩,
    ⟨some 24, some (23, true), .p (.mv (.t 3))⟩,
    ⟨some 25, some (23, true), .p (.mv (.t 5))⟩,
    ⟨some 26, some (23, true), .p (.ixS 2 (.t 25) (.k (.c (C.int .i64 0))))⟩,
    ⟨some 27, some (23, true), .p (.ixA 2 1 (.t 26) (.k (.c (C.int .i64 0))))⟩,
    ⟨some 28, some (23, true), .h (.load 1 false (.t 27))⟩,
    ⟨some 29, some (23, true), .h (.call (.f 100) [.t 24, .t 28])⟩,
    ⟨some 30, some (19, false), .p (.pick (.t 23) (.t 29) (.k (.c (C.bool false))))⟩,
    ⟨some 31, none, .p (.pick (.t 19) (.k (.c (C.bool true))) (.t 30))⟩] [1, 3, 4, 5, 31])
  (.cond (.t 31)
  (.seq (.region [⟨some 2, none, .p (.mv (.k (.c (C.bool false))))⟩] [2])
  .ret)
  .skip))
  (.seq (.region [⟨some 32, none, .p (.mv (.t 5))⟩,
    ⟨some 33, none, .p (.len (.t 32))⟩,
    ⟨some 34, none, .p (.bin .eql (.t 33) (.k (.c (C.int .i64 1))))⟩] [1, 3, 4, 5, 34])
  (.cond (.t 34)
  (.region [⟨some 35, none, .p (.mv (.t 3))⟩,
    ⟨some 36, none, .p (.mv (.t 5))⟩,
    ⟨some 37, none, .p (.ixS 2 (.t 36) (.k (.c (C.int .i64 0))))⟩,
    ⟨some 38, none, .p (.ixA 2 1 (.t 37) (.k (.c (C.int .i64 0))))⟩,
    ⟨some 39, none, .h (.load 1 false (.t 38))⟩,
    ⟨some 40, none, .p (.mksl 1 1 [.k (C.int .i64 0)] [(0, 1, .t 39)])⟩,
    ⟨some 41, none, .h (.app 1 (.t 35) (.t 40))⟩,
    ⟨some 3, none, .p (.mv (.t 41))⟩] [1, 3, 4])
  .skip)))))
  (.region [⟨some 9, none, .p (.mv (.t 4))⟩,
    ⟨some 10, none, .p (.bin .add (.t 9) (.k (.c (C.int .i64 1))))⟩,
    ⟨some 4, none, .p (.mv (.t 10))⟩] [1, 3, 4]))) [1, 3, 4])))
  (.seq (.region [⟨some 2, none, .p (.mv (.k (.c (C.bool true))))⟩] [2])
  .ret)))) }
theorem a81_ok : okFn Try.prog 81 a81 = true := by kernel_rfl
/-- loop.example/g01215/spec.l2Useful -/
def a82 : AFn := { np := 1, nt := 36, res := [.t 2], body :=
  (.seq (.region [⟨some 1, none, .p (.box 24 (.t 0))⟩,
    ⟨some 2, none, .p (.nilsl 2)⟩] [1])
  (.seq (.region [⟨some 6, none, .p (.mksl 2 0 [.k (C.int .i64 0), .k (C.int .i64 0)] [])⟩,
    ⟨some 7, none, .h (.load 24 true (.t 1))⟩,
    ⟨some 8, none, .h (.call (.f 101) [.t 7])⟩,
    ⟨some 3, none, .p (.mv (.t 6))⟩,
    ⟨some 4, none, .p (.mv (.t 8))⟩] [1, 3, 4])
  (.seq (.seq (.region [⟨some 5, none, .p (.mv (.k (.c (C.int .i64 0))))⟩] [1, 3, 4, 5])
  (.block 0 (.loop (.seq (.seq (.region [⟨some 9, none, .p (.mv (.t 5))⟩,
    ⟨some 10, none, .p (.mv (.t 4))⟩,
    ⟨some 11, none, .p (.len (.t 10))⟩,
    ⟨some 12, none, .p (.bin .lss (.t 9) (.t 11))⟩] [1, 3, 4, 5, 12])
  (.cond (.t 12)
  .skip
  (.exit 0)))
  (.seq (.block 1 (.seq (.regionD [⟨some 15, none, .h (.load 24 true (.t 1))⟩,
    ⟨some 16, none, .p (.mv (.t 4))⟩,
    ⟨some 17, none, .p (.mv (.t 5))⟩,
    ⟨some 18, none, .p (.ixS 2 (.t 16) (.t 17))⟩,
    ⟨some 19, none, .p (.ixA 2 1 (.t 18) (.k (.c (C.int .i64 0))))⟩,
    ⟨some 20, none, .h (.load 1 false (.t 19))⟩,
    ⟨some 21, none, .p (.mv (.t 4))⟩,
    ⟨some 22, none, .p (.mv (.t 5))⟩,
    ⟨some 23, none, .p (.ixS 2 (.t 21) (.t 22))⟩,
    ⟨some 24, none, .p (.ixA 2 1 (.t 23) (.k (.c (C.int .i64 1))))⟩,
    ⟨some 25, none, .h (.load 1 false (.t 24))⟩,
    ⟨some 26, none, .h (.call (.f 102) [.t 15, .t 20, .t 25])⟩,
    ⟨some 27, none, .p (.un .not (.t 26))⟩] [1, 3, 4, 5, 27] [])
  (.cond (.t 27)
  (.region [⟨some 28, none, .p (.mv (.t 3))⟩,
    ⟨some 29, none, .p (.mv (.t 4))⟩,
    ⟨some 30, none, .p (.mv (.t 5))⟩,
    ⟨some 31, none, .p (.ixS 2 (.t 29) (.t 30))⟩,
    ⟨some 32, none, .h (.load 2 true (.t 31))⟩,
    ⟨some 33, none, .p (.mksl 2 1 [.k (C.int .i64 0), .k (C.int .i64 0)] [(0, 2, .t 32)])⟩,
    ⟨some 34, none, .h (.app 2 (.t 28) (.t 33))⟩,
    ⟨some 3, none, .p (.mv (.t 34))⟩] [1, 3, 4, 5])
  .skip)))
  (.region [⟨some 13, none, .p (.mv (.t 5))⟩,
    ⟨some 14, none, .p (.bin .add (.t 13) (.k (.c (C.int .i64 1))))⟩,
    ⟨some 5, none, .p (.mv (.t 14))⟩] [1, 3, 4, 5]))) [1, 3, 4, 5])))
  (.seq (.region [⟨some 35, none, .p (.mv (.t 3))⟩,
    ⟨some 2, none, .p (.mv (.t 35))⟩] [2])
  .ret)))) }
theorem a82_ok : okFn Try.prog 82 a82 = true := by kernel_rfl
/-- loop.example/g01215/spec.l2Top -/
def a83 : AFn := { np := 1, nt := 33, res := [.t 2, .t 3], body :=
  (.seq (.region [⟨some 1, none, .p (.box 4 (.t 0))⟩,
    ⟨some 2, none, .p (.mv (.k (.c (C.int .i64 0))))⟩,
    ⟨some 3, none, .p (.mv (.k (.c (C.int .i64 0))))⟩] [1])
  (.seq (.region [⟨some 6, none, .h (.load 4 true (.t 1))⟩,
    ⟨some 7, none, .h (.call (.f 84) [.t 6])⟩,
    ⟨some 4, none, .p (.mv (.t 7))⟩] [1, 4])
  (.seq (.seq (.region [⟨some 8, none, .p (.mv (.t 4))⟩,
    ⟨some 9, none, .p (.bin .eql (.t 8) (.k (.c (C.int .i64 0))))⟩] [1, 4, 9])
  (.cond (.t 9)
  (.seq (.region [⟨some 2, none, .p (.mv (.k (.c (C.int .i64 0))))⟩,
    ⟨some 3, none, .p (.mv (.k (.c (C.int .i64 0))))⟩] [2, 3])
  .ret)
  .skip))
  (.seq (.region [⟨some 5, none, .p (.mv (.k (.c (C.int .i64 0))))⟩] [1, 4, 5])
  (.seq (.block 0 (.loop (.seq (.seq (.regionD [⟨some 10, none, .p (.mv (.t 5))⟩,
    ⟨some 11, none, .p (.mv (.t 4))⟩,
    ⟨some 12, none, .p (.bin .lss (.t 10) (.t 11))⟩,
    ⟨some 13, none, .p (.mv (.t 12))⟩,
    ⟨some 14, some (13, true), .p (.mv (.t 4))⟩,
    ⟨some 15, some (13, true), .p (.bin .sub (.t 14) (.k (.c (C.int .i64 1))))⟩,
    ⟨some 16, some (13, true), .p (.mv (.t 5))⟩,
    ⟨some 17, some (13, true), .p (.bin .sub (.t 15) (.t 16))⟩,
    ⟨some 18, some (13, true), .p (.ixA 4 1 (.t 1) (.t 17))⟩,
    ⟨some 19, some (13, true), .h (.load 1 false (.t 18))⟩,
    ⟨some 20, some (13, true), .p (.mv (.t 4))⟩,
    ⟨some 21, some (13, true), .p (.bin .sub (.t 20) (.k (.c (C.int .i64 1))))⟩,
    ⟨some 22, some (13, true), .p (.ixA 4 1 (.t 1) (.t 21))⟩,
    ⟨some 23, some (13, true), .h (.load 1 false (.t 22))⟩,
    ⟨some 24, some (13, true), .p (.bin .eql (.t 19) (.t 23))⟩,
    ⟨some 25, none, .p (.pick (.t 13) (.t 24) (.k (.c (C.bool false))))⟩] [1, 4, 5, 25] [])
  (.cond (.t 25)
  .skip
  (.exit 0)))
  (.block 1 (.region [⟨some 26, none, .p (.mv (.t 5))⟩,
    ⟨some 27, none, .p (.bin .add (.t 26) (.k (.c (C.int .i64 1))))⟩,
    ⟨some 5, none, .p (.mv (.t 27))⟩] [1, 4, 5]))) [1, 4, 5]))
  (.seq (.region [⟨some 28, none, .p (.mv (.t 4))⟩,
    ⟨some 29, none, .p (.bin .sub (.t 28) (.k (.c (C.int .i64 1))))⟩,
    ⟨some 30, none, .p (.ixA 4 1 (.t 1) (.t 29))⟩,
    ⟨some 31, none, .h (.load 1 false (.t 30))⟩,
    ⟨some 32, none, .p (.mv (.t 5))⟩,
    ⟨some 2, none, .p (.mv (.t 31))⟩,
    ⟨some 3, none, .p (.mv (.t 32))⟩] [2, 3])
  .ret)))))) }
theorem a83_ok : okFn Try.prog 83 a83 = true := by kernel_rfl
/-- loop.example/g01215/spec.l2Many -/
def a84 : AFn := { np := 1, nt := 16, res := [.t 2], body :=
  (.seq (.region [⟨some 1, none, .p (.box 4 (.t 0))⟩,
    ⟨some 2, none, .p (.mv (.k (.c (C.int .i64 0))))⟩] [1])
  (.seq (.region [⟨some 3, none, .p (.mv (.k (.c (C.int .i64 0))))⟩] [1, 3])
  (.seq (.seq (.region [⟨some 4, none, .p (.mv (.k (.c (C.int .i64 0))))⟩] [1, 3, 4])
  (.block 0 (.loop (.seq (.seq (.region [⟨some 5, none, .p (.mv (.t 4))⟩,
    ⟨some 6, none, .p (.bin .lss (.t 5) (.k (.c (C.int .i64 4))))⟩] [1, 3, 4, 6])
  (.cond (.t 6)
  .skip
  (.exit 0)))
  (.seq (.block 1 (.seq (.region [⟨some 9, none, .p (.mv (.t 4))⟩,
    ⟨some 10, none, .p (.ixA 4 1 (.t 1) (.t 9))⟩,
    ⟨some 11, none, .h (.load 1 false (.t 10))⟩,
    ⟨some 12, none, .p (.bin .gtr (.t 11) (.k (.c (C.int .i64 0))))⟩] [1, 3, 4, 12])
  (.cond (.t 12)
  (.region [⟨some 13, none, .p (.mv (.t 3))⟩,
    ⟨some 14, none, .p (.bin .add (.t 13) (.k (.c (C.int .i64 1))))⟩,
    ⟨some 3, none, .p (.mv (.t 14))⟩] [1, 3, 4])
  .skip)))
  (.region [⟨some 7, none, .p (.mv (.t 4))⟩,
    ⟨some 8, none, .p (.bin .add (.t 7) (.k (.c (C.int .i64 1))))⟩,
    ⟨some 4, none, .p (.mv (.t 8))⟩] [1, 3, 4]))) [1, 3, 4])))
  (.seq (.region [⟨some 15, none, .p (.mv (.t 3))⟩,
    ⟨some 2, none, .p (.mv (.t 15))⟩] [2])
  .ret)))) }
theorem a84_ok : okFn Try.prog 84 a84 = true := by kernel_rfl
/-- loop.example/g01215/spec.l1Least -/
def a85 : AFn := { np := 2, nt := 10, res := [.t 4], body :=
  (.seq (.region [⟨some 4, none, .p (.mv (.k (.c (C.int .i64 0))))⟩] [0, 1])
  (.seq (.seq (.region [⟨some 5, none, .p (.mv (.t 0))⟩,
    ⟨some 6, none, .p (.mv (.t 1))⟩,
    ⟨some 7, none, .p (.bin .lss (.t 5) (.t 6))⟩] [0, 1, 7])
  (.cond (.t 7)
  (.seq (.region [⟨some 8, none, .p (.mv (.t 0))⟩,
    ⟨some 4, none, .p (.mv (.t 8))⟩] [4])
  .ret)
  .skip))
  (.seq (.region [⟨some 9, none, .p (.mv (.t 1))⟩,
    ⟨some 4, none, .p (.mv (.t 9))⟩] [4])
  .ret))) }
theorem a85_ok : okFn Try.prog 85 a85 = true := by kernel_rfl
/-- loop.example/g01215/impl.areAll[int] -/
def a86 : AFn := { np := 2, nt := 9, res := [.t 4], body :=
  (.seq (.region [⟨some 3, none, .p (.box 1 (.t 1))⟩,
    ⟨some 4, none, .p (.mv (.k (.c (C.bool false))))⟩] [0, 3])
  (.seq (.region [⟨some 5, none, .p (.mv (.t 0))⟩,
    ⟨some 6, none, .p (.mkfn 104 [.t 3])⟩,
    ⟨some 7, none, .h (.call (.f 103) [.t 5, .t 6])⟩,
    ⟨some 8, none, .p (.un .not (.t 7))⟩,
    ⟨some 4, none, .p (.mv (.t 8))⟩] [4])
  .ret)) }
theorem a86_ok : okFn Try.prog 86 a86 = true := by kernel_rfl
/-- loop.example/g01215/impl.isPlace -/
def a87 : AFn := { np := 1, nt := 5, res := [.t 2], body :=
  (.seq (.region [⟨some 2, none, .p (.mv (.k (.c (C.bool false))))⟩] [0])
  (.seq (.region [⟨some 3, none, .p (.mv (.t 0))⟩,
    ⟨some 4, none, .h (.call (.f 62) [.t 3, .k (.c (C.int .i64 0)), .k (.c (C.int .i64 5))])⟩,
    ⟨some 2, none, .p (.mv (.t 4))⟩] [2])
  .ret)) }
theorem a87_ok : okFn Try.prog 87 a87 = true := by kernel_rfl
/-- loop.example/g01215/laws.toIntA4 -/
def a88 : AFn := { np := 1, nt := 15, res := [.cell 2 4 true], body :=
  (.seq (.region [⟨some 1, none, .p (.box 4 (.t 0))⟩,
    ⟨some 2, none, .p (.alloc [.k (C.int .i64 0), .k (C.int .i64 0), .k (C.int .i64 0), .k (C.int .i64 0)])⟩] [1, 2])
  (.seq (.region [⟨some 3, none, .p (.alloc [.k (C.int .i64 0), .k (C.int .i64 0), .k (C.int .i64 0), .k (C.int .i64 0)])⟩] [1, 2, 3])
  (.seq (.seq (.region [⟨some 4, none, .p (.mv (.k (.c (C.int .i64 0))))⟩] [1, 2, 3, 4])
  (.block 0 (.loop (.seq (.seq (.region [⟨some 5, none, .p (.mv (.t 4))⟩,
    ⟨some 6, none, .p (.bin .lss (.t 5) (.k (.c (C.int .i64 4))))⟩] [1, 2, 3, 4, 6])
  (.cond (.t 6)
  .skip
  (.exit 0)))
  (.seq (.block 1 (.region [⟨some 9, none, .p (.mv (.t 4))⟩,
    ⟨some 10, none, .p (.mv (.t 4))⟩,
    ⟨some 11, none, .p (.ixA 4 1 (.t 1) (.t 10))⟩,
    ⟨some 12, none, .h (.load 1 false (.t 11))⟩,
    ⟨some 13, none, .p (.ixA 4 1 (.t 3) (.t 9))⟩,
    ⟨none, none, .h (.store 1 (.t 13) (.t 12))⟩] [1, 2, 3, 4]))
  (.region [⟨some 7, none, .p (.mv (.t 4))⟩,
    ⟨some 8, none, .p (.bin .add (.t 7) (.k (.c (C.int .i64 1))))⟩,
    ⟨some 4, none, .p (.mv (.t 8))⟩] [1, 2, 3, 4]))) [1, 2, 3, 4])))
  (.seq (.region [⟨some 14, none, .h (.load 4 true (.t 3))⟩,
    ⟨none, none, .h (.store 4 (.t 2) (.t 14))⟩] [2])
  .ret)))) }
theorem a88_ok : okFn Try.prog 88 a88 = true := by kernel_rfl
/-- loop.example/g01215/spec.l2Place -/
def a89 : AFn := { np := 1, nt := 5, res := [.t 2], body :=
  (.seq (.region [⟨some 2, none, .p (.mv (.k (.c (C.bool false))))⟩] [0])
  (.seq (.region [⟨some 3, none, .p (.mv (.t 0))⟩,
    ⟨some 4, none, .h (.call (.f 50) [.t 3, .k (.c (C.int .i64 0)), .k (.c (C.int .i64 5))])⟩,
    ⟨some 2, none, .p (.mv (.t 4))⟩] [2])
  .ret)) }
theorem a89_ok : okFn Try.prog 89 a89 = true := by kernel_rfl
/-- loop.example/g01215/spec.l2Can -/
def a90 : AFn := { np := 3, nt := 51, res := [.t 6], body :=
  (.seq (.region [⟨some 3, none, .p (.box 24 (.t 0))⟩,
    ⟨some 6, none, .p (.mv (.k (.c (C.bool false))))⟩] [1, 2, 3])
  (.seq (.region [⟨some 12, none, .p (.mv (.t 1))⟩,
    ⟨some 13, none, .p (.fld 0 (.t 3))⟩,
    ⟨some 14, none, .p (.ixA 6 4 (.t 13) (.t 12))⟩,
    ⟨some 15, none, .h (.load 4 true (.t 14))⟩,
    ⟨some 16, none, .h (.call (.f 83) [.t 15])⟩,
    ⟨some 11, none, .p (.mv (.t 16))⟩,
    ⟨some 17, none, .p (.ext (.t 11) 0)⟩,
    ⟨some 18, none, .p (.ext (.t 11) 1)⟩,
    ⟨some 7, none, .p (.mv (.t 17))⟩,
    ⟨some 8, none, .p (.mv (.t 18))⟩] [1, 2, 3, 7, 8])
  (.seq (.region [⟨some 20, none, .p (.mv (.t 2))⟩,
    ⟨some 21, none, .p (.fld 0 (.t 3))⟩,
    ⟨some 22, none, .p (.ixA 6 4 (.t 21) (.t 20))⟩,
    ⟨some 23, none, .h (.load 4 true (.t 22))⟩,
    ⟨some 24, none, .h (.call (.f 83) [.t 23])⟩,
    ⟨some 19, none, .p (.mv (.t 24))⟩,
    ⟨some 25, none, .p (.ext (.t 19) 0)⟩,
    ⟨some 26, none, .p (.ext (.t 19) 1)⟩,
    ⟨some 9, none, .p (.mv (.t 25))⟩,
    ⟨some 10, none, .p (.mv (.t 26))⟩] [1, 2, 3, 7, 8, 9])
  (.seq (.region [⟨some 27, none, .p (.mv (.t 1))⟩,
    ⟨some 28, none, .p (.mv (.t 2))⟩,
    ⟨some 29, none, .p (.bin .neq (.t 27) (.t 28))⟩,
    ⟨some 30, none, .p (.mv (.t 29))⟩,
    ⟨some 31, some (30, true), .p (.mv (.t 8))⟩,
    ⟨some 32, some (30, true), .p (.bin .gtr (.t 31) (.k (.c (C.int .i64 0))))⟩,
    ⟨some 33, none, .p (.pick (.t 30) (.t 32) (.k (.c (C.bool false))))⟩,
    ⟨some 34, none, .p (.mv (.t 33))⟩,
    ⟨some 35, some (34, true), .p (.mv (.t 2))⟩,
    ⟨some 36, some (34, true), .p (.fld 0 (.t 3))⟩,
    ⟨some 37, some (34, true), .p (.ixA 6 4 (.t 36) (.t 35))⟩,
    ⟨some 38, some (34, true), .h (.load 4 true (.t 37))⟩,
    ⟨some 39, some (34, true), .h (.call (.f 84) [.t 38])⟩,
    ⟨some 40, some (34, true), .p (.bin .lss (.t 39) (.k (.c (C.int .i64 4))))⟩,
    ⟨some 41, none, .p (.pick (.t 34) (.t 40) (.k (.c (C.bool false))))⟩,
    ⟨some 42, none, .p (.mv (.t 41))⟩,
    ⟨some 43, some (42, true), .p (.mv (.t 9))⟩,
    ⟨some 44, some (42, true), .p (.bin .eql (.t 43) (.k (.c (C.int .i64 0))))⟩,
    ⟨some 45, some (42, true), .p (.mv (.t 44))⟩,
    ⟨some 46, some (45, false), .p (.mv (.t 9))⟩,
    ⟨some 47, some (45, false), .p (.mv (.t 7))⟩,
    ⟨some 48, some (45, false), .p (.bin .eql (.t 46) (.t 47))⟩,
    ⟨some 49, some (42, true), .p (.pick (.t 45) (.k (.c (C.bool true))) (.t 48))⟩,
    ⟨some 50, none, .p (.pick (.t 42) (.t 49) (.k (.c (C.bool false))))⟩,
    ⟨some 6, none, .p (.mv (.t 50))⟩] [6])
  .ret)))) }
theorem a90_ok : okFn Try.prog 90 a90 = true := by kernel_rfl
/-- loop.example/g01215/spec.l1Most -/
def a91 : AFn := { np := 2, nt := 10, res := [.t 4], body :=
  (.seq (.region [⟨some 4, none, .p (.mv (.k (.c (C.int .i64 0))))⟩] [0, 1])
  (.seq (.seq (.region [⟨some 5, none, .p (.mv (.t 0))⟩,
    ⟨some 6, none, .p (.mv (.t 1))⟩,
    ⟨some 7, none, .p (.bin .gtr (.t 5) (.t 6))⟩] [0, 1, 7])
  (.cond (.t 7)
  (.seq (.region [⟨some 8, none, .p (.mv (.t 0))⟩,
    ⟨some 4, none, .p (.mv (.t 8))⟩] [4])
  .ret)
  .skip))
  (.seq (.region [⟨some 9, none, .p (.mv (.t 1))⟩,
    ⟨some 4, none, .p (.mv (.t 9))⟩] [4])
  .ret))) }
theorem a91_ok : okFn Try.prog 91 a91 = true := by kernel_rfl
/-- loop.example/g01215/impl.divisor -/
def a92 : AFn := { np := 2, nt := 12, res := [.t 4], body :=
  (.seq (.region [⟨some 4, none, .p (.mv (.k (.c (C.int .i64 0))))⟩] [0, 1])
  (.seq (.block 0 (.loop (.seq (.seq (.region [⟨some 5, none, .p (.mv (.t 1))⟩,
    ⟨some 6, none, .p (.bin .neq (.t 5) (.k (.c (C.int .i64 0))))⟩] [0, 1, 6])
  (.cond (.t 6)
  .skip
  (.exit 0)))
  (.block 1 (.regionD [⟨some 7, none, .p (.mv (.t 1))⟩,
    ⟨some 8, none, .p (.mv (.t 0))⟩,
    ⟨some 9, none, .p (.mv (.t 1))⟩,
    ⟨some 10, none, .p (.bin .rem (.t 8) (.t 9))⟩,
    ⟨some 0, none, .p (.mv (.t 7))⟩,
    ⟨some 1, none, .p (.mv (.t 10))⟩] [0, 1] []))) [0, 1]))
  (.seq (.region [⟨some 11, none, .p (.mv (.t 0))⟩,
    ⟨some 4, none, .p (.mv (.t 11))⟩] [4])
  .ret))) }
theorem a92_ok : okFn Try.prog 92 a92 = true := by kernel_rfl
/-- slices.IndexFunc[[][2]int,[2]int] -/
def a93 : AFn := { np := 2, nt := 19, res := [.t 4], body :=
  (.seq (.region [⟨some 4, none, .p (.mv (.k (.c (C.int .i64 0))))⟩] [0, 1])
  (.seq (.seq (.region [⟨some 6, none, .p (.mv (.t 0))⟩,
    ⟨some 7, none, .p (.len (.t 6))⟩,
    ⟨some 8, none, .p (.mv (.k (.c (C.int .i64 0))))⟩] [0, 1, 7, 8])
  (.block 0 (.loop (.seq (.region [⟨some 9, none, .p (.bin .lss (.t 8) (.t 7))⟩] [0, 1, 7, 8, 9])
  (.seq (.cond (.t 9)
  .skip
  (.exit 0))
  (.seq (.block 1 (.seq (.region [⟨some 10, none, .p (.mv (.t 8))⟩,
    ⟨some 5, none, .p (.mv (.t 10))⟩] [0, 1, 5, 7, 8])
  (.seq (.region [⟨some 11, none, .p (.mv (.t 1))⟩,
    ⟨some 12, none, .p (.mv (.t 0))⟩,
    ⟨some 13, none, .p (.mv (.t 5))⟩,
    ⟨some 14, none, .p (.ixS 2 (.t 12) (.t 13))⟩,
    ⟨some 15, none, .h (.load 2 true (.t 14))⟩,
    ⟨some 16, none, .h (.call (.t 11) [.t 15])⟩] [0, 1, 5, 7, 8, 16])
  (.cond (.t 16)
  (.seq (.region [⟨some 17, none, .p (.mv (.t 5))⟩,
    ⟨some 4, none, .p (.mv (.t 17))⟩] [4])
  .ret)
  .skip))))
  (.region [⟨some 18, none, .p (.bin .add (.t 8) (.k (.c (C.int .i64 1))))⟩,
    ⟨some 8, none, .p (.mv (.t 18))⟩] [0, 1, 7, 8])))) [0, 1, 7, 8])))
  (.seq (.region [⟨some 4, none, .p (.mv (.k (.c (C.int .i64 (-1)))))⟩] [4])
  .ret))) }
theorem a93_ok : okFn Try.prog 93 a93 = true := by kernel_rfl
/-- slices.Index[[]int,int] -/
def a94 : AFn := { np := 2, nt := 19, res := [.t 4], body :=
  (.seq (.region [⟨some 4, none, .p (.mv (.k (.c (C.int .i64 0))))⟩] [0, 1])
  (.seq (.seq (.region [⟨some 6, none, .p (.mv (.t 0))⟩,
    ⟨some 7, none, .p (.len (.t 6))⟩,
    ⟨some 8, none, .p (.mv (.k (.c (C.int .i64 0))))⟩] [0, 1, 7, 8])
  (.block 0 (.loop (.seq (.region [⟨some 9, none, .p (.bin .lss (.t 8) (.t 7))⟩] [0, 1, 7, 8, 9])
  (.seq (.cond (.t 9)
  .skip
  (.exit 0))
  (.seq (.block 1 (.seq (.region [⟨some 10, none, .p (.mv (.t 8))⟩,
    ⟨some 5, none, .p (.mv (.t 10))⟩] [0, 1, 5, 7, 8])
  (.seq (.region [⟨some 11, none, .p (.mv (.t 1))⟩,
    ⟨some 12, none, .p (.mv (.t 0))⟩,
    ⟨some 13, none, .p (.mv (.t 5))⟩,
    ⟨some 14, none, .p (.ixS 1 (.t 12) (.t 13))⟩,
    ⟨some 15, none, .h (.load 1 false (.t 14))⟩,
    ⟨some 16, none, .p (.bin .eql (.t 11) (.t 15))⟩] [0, 1, 5, 7, 8, 16])
  (.cond (.t 16)
  (.seq (.region [⟨some 17, none, .p (.mv (.t 5))⟩,
    ⟨some 4, none, .p (.mv (.t 17))⟩] [4])
  .ret)
  .skip))))
  (.region [⟨some 18, none, .p (.bin .add (.t 8) (.k (.c (C.int .i64 1))))⟩,
    ⟨some 8, none, .p (.mv (.t 18))⟩] [0, 1, 7, 8])))) [0, 1, 7, 8])))
  (.seq (.region [⟨some 4, none, .p (.mv (.k (.c (C.int .i64 (-1)))))⟩] [4])
  .ret))) }
theorem a94_ok : okFn Try.prog 94 a94 = true := by kernel_rfl
/-- loop.example/g01215/spec.l2Before -/
def a95 : AFn := { np := 2, nt := 41, res := [.t 4], body :=
  (.seq (.region [⟨some 2, none, .p (.box 24 (.t 0))⟩,
    ⟨some 3, none, .p (.box 24 (.t 1))⟩,
    ⟨some 4, none, .p (.mv (.k (.c (C.bool false))))⟩] [2, 3])
  (.seq (.seq (.region [⟨some 5, none, .p (.mv (.k (.c (C.int .i64 0))))⟩] [2, 3, 5])
  (.block 0 (.loop (.seq (.seq (.region [⟨some 7, none, .p (.mv (.t 5))⟩,
    ⟨some 8, none, .p (.bin .lss (.t 7) (.k (.c (C.int .i64 6))))⟩] [2, 3, 5, 8])
  (.cond (.t 8)
  .skip
  (.exit 0)))
  (.seq (.block 1 (.seq (.region [⟨some 6, none, .p (.mv (.k (.c (C.int .i64 0))))⟩] [2, 3, 5, 6])
  (.block 2 (.loop (.seq (.seq (.region [⟨some 11, none, .p (.mv (.t 6))⟩,
    ⟨some 12, none, .p (.bin .lss (.t 11) (.k (.c (C.int .i64 4))))⟩] [2, 3, 5, 6, 12])
  (.cond (.t 12)
  .skip
  (.exit 2)))
  (.seq (.block 3 (.seq (.regionD [⟨some 15, none, .p (.mv (.t 5))⟩,
    ⟨some 16, none, .p (.mv (.t 6))⟩,
    ⟨some 17, none, .p (.fld 0 (.t 2))⟩,
    ⟨some 18, none, .p (.ixA 6 4 (.t 17) (.t 15))⟩,
    ⟨some 19, none, .p (.ixA 4 1 (.t 18) (.t 16))⟩,
    ⟨some 20, none, .h (.load 1 false (.t 19))⟩,
    ⟨some 21, none, .p (.mv (.t 5))⟩,
    ⟨some 22, none, .p (.mv (.t 6))⟩,
    ⟨some 23, none, .p (.fld 0 (.t 3))⟩,
    ⟨some 24, none, .p (.ixA 6 4 (.t 23) (.t 21))⟩,
    ⟨some 25, none, .p (.ixA 4 1 (.t 24) (.t 22))⟩,
    ⟨some 26, none, .h (.load 1 false (.t 25))⟩,
    ⟨some 27, none, .p (.bin .neq (.t 20) (.t 26))⟩] [2, 3, 5, 6, 27] [])
  (.cond (.t 27)
  (.seq (.regionD [⟨some 28, none, .p (.mv (.t 5))⟩,
    ⟨some 29, none, .p (.mv (.t 6))⟩,
    ⟨some 30, none, .p (.fld 0 (.t 2))⟩,
    ⟨some 31, none, .p (.ixA 6 4 (.t 30) (.t 28))⟩,
    ⟨some 32, none, .p (.ixA 4 1 (.t 31) (.t 29))⟩,
    ⟨some 33, none, .h (.load 1 false (.t 32))⟩,
    ⟨some 34, none, .p (.mv (.t 5))⟩,
    ⟨some 35, none, .p (.mv (.t 6))⟩,
    ⟨some 36, none, .p (.fld 0 (.t 3))⟩,
    ⟨some 37, none, .p (.ixA 6 4 (.t 36) (.t 34))⟩,
    ⟨some 38, none, .p (.ixA 4 1 (.t 37) (.t 35))⟩,
    ⟨some 39, none, .h (.load 1 false (.t 38))⟩,
    ⟨some 40, none, .p (.bin .lss (.t 33) (.t 39))⟩,
    ⟨some 4, none, .p (.mv (.t 40))⟩] [4] [])
  .ret)
  .skip)))
  (.region [⟨some 13, none, .p (.mv (.t 6))⟩,
    ⟨some 14, none, .p (.bin .add (.t 13) (.k (.c (C.int .i64 1))))⟩,
    ⟨some 6, none, .p (.mv (.t 14))⟩] [2, 3, 5, 6]))) [2, 3, 5, 6]))))
  (.region [⟨some 9, none, .p (.mv (.t 5))⟩,
    ⟨some 10, none, .p (.bin .add (.t 9) (.k (.c (C.int .i64 1))))⟩,
    ⟨some 5, none, .p (.mv (.t 10))⟩] [2, 3, 5]))) [2, 3, 5])))
  (.seq (.region [⟨some 4, none, .p (.mv (.k (.c (C.bool false))))⟩] [4])
  .ret))) }
theorem a95_ok : okFn Try.prog 95 a95 = true := by kernel_rfl
/-- slices.ContainsFunc[[][4]int,[4]int] -/
def a96 : AFn := { np := 2, nt := 9, res := [.t 4], body :=
  (.seq (.region [⟨some 4, none, .p (.mv (.k (.c (C.bool false))))⟩] [0, 1])
  (.seq (.region [⟨some 5, none, .p (.mv (.t 0))⟩,
    ⟨some 6, none, .p (.mv (.t 1))⟩,
    ⟨some 7, none, .h (.call (.f 105) [.t 5, .t 6])⟩,
    ⟨some 8, none, .p (.bin .geq (.t 7) (.k (.c (C.int .i64 0))))⟩,
    ⟨some 4, none, .p (.mv (.t 8))⟩] [4])
  .ret)) }
theorem a96_ok : okFn Try.prog 96 a96 = true := by kernel_rfl
/-- loop.example/g01215/impl.areAll[[4]int]$1 -/
def a97 : AFn := { np := 2, nt := 8, res := [.t 3], body :=
  (.seq (.region [⟨some 2, none, .p (.box 4 (.t 0))⟩,
    ⟨some 3, none, .p (.mv (.k (.c (C.bool false))))⟩] [1, 2])
  (.seq (.region [⟨some 4, none, .h (.load 1 false (.t 1))⟩,
    ⟨some 5, none, .h (.load 4 true (.t 2))⟩,
    ⟨some 6, none, .h (.call (.t 4) [.t 5])⟩,
    ⟨some 7, none, .p (.un .not (.t 6))⟩,
    ⟨some 3, none, .p (.mv (.t 7))⟩] [3])
  .ret)) }
theorem a97_ok : okFn Try.prog 97 a97 = true := by kernel_rfl
/-- loop.example/g01215/impl.isColor -/
def a98 : AFn := { np := 1, nt := 5, res := [.t 2], body :=
  (.seq (.region [⟨some 2, none, .p (.mv (.k (.c (C.bool false))))⟩] [0])
  (.seq (.region [⟨some 3, none, .p (.mv (.t 0))⟩,
    ⟨some 4, none, .h (.call (.f 62) [.t 3, .k (.c (C.int .i64 1)), .k (.c (C.int .i64 5))])⟩,
    ⟨some 2, none, .p (.mv (.t 4))⟩] [2])
  .ret)) }
theorem a98_ok : okFn Try.prog 98 a98 = true := by kernel_rfl
/-- loop.example/g01215/impl.isTube$1 -/
def a99 : AFn := { np := 1, nt := 5, res := [.t 2], body :=
  (.seq (.region [⟨some 2, none, .p (.mv (.k (.c (C.bool false))))⟩] [0])
  (.seq (.region [⟨some 3, none, .p (.mv (.t 0))⟩,
    ⟨some 4, none, .p (.bin .eql (.t 3) (.k (.c (C.int .i64 0))))⟩,
    ⟨some 2, none, .p (.mv (.t 4))⟩] [2])
  .ret)) }
theorem a99_ok : okFn Try.prog 99 a99 = true := by kernel_rfl
/-- loop.example/g01215/spec.l1Has -/
def a100 : AFn := { np := 2, nt := 18, res := [.t 4], body :=
  (.seq (.region [⟨some 4, none, .p (.mv (.k (.c (C.bool false))))⟩] [0, 1])
  (.seq (.seq (.region [⟨some 5, none, .p (.mv (.k (.c (C.int .i64 0))))⟩] [0, 1, 5])
  (.block 0 (.loop (.seq (.seq (.region [⟨some 6, none, .p (.mv (.t 5))⟩,
    ⟨some 7, none, .p (.mv (.t 0))⟩,
    ⟨some 8, none, .p (.len (.t 7))⟩,
    ⟨some 9, none, .p (.bin .lss (.t 6) (.t 8))⟩] [0, 1, 5, 9])
  (.cond (.t 9)
  .skip
  (.exit 0)))
  (.seq (.block 1 (.seq (.region [⟨some 12, none, .p (.mv (.t 0))⟩,
    ⟨some 13, none, .p (.mv (.t 5))⟩,
    ⟨some 14, none, .p (.ixS 1 (.t 12) (.t 13))⟩,
    ⟨some 15, none, .h (.load 1 false (.t 14))⟩,
    ⟨some 16, none, .p (.mv (.t 1))⟩,
    ⟨some 17, none, .p (.bin .eql (.t 15) (.t 16))⟩] [0, 1, 5, 17])
  (.cond (.t 17)
  (.seq (.region [⟨some 4, none, .p (.mv (.k (.c (C.bool true))))⟩] [4])
  .ret)
  .skip)))
  (.region [⟨some 10, none, .p (.mv (.t 5))⟩,
    ⟨some 11, none, .p (.bin .add (.t 10) (.k (.c (C.int .i64 1))))⟩,
    ⟨some 5, none, .p (.mv (.t 11))⟩] [0, 1, 5]))) [0, 1, 5])))
  (.seq (.region [⟨some 4, none, .p (.mv (.k (.c (C.bool false))))⟩] [4])
  .ret))) }
theorem a100_ok : okFn Try.prog 100 a100 = true := by kernel_rfl
/-- loop.example/g01215/spec.l2Pours -/
def a101 : AFn := { np := 1, nt := 26, res := [.t 2], body :=
  (.seq (.region [⟨some 1, none, .p (.box 24 (.t 0))⟩,
    ⟨some 2, none, .p (.nilsl 2)⟩] [1])
  (.seq (.region [⟨some 6, none, .p (.mksl 2 0 [.k (C.int .i64 0), .k (C.int .i64 0)] [])⟩,
    ⟨some 3, none, .p (.mv (.t 6))⟩] [1, 3])
  (.seq (.seq (.region [⟨some 4, none, .p (.mv (.k (.c (C.int .i64 0))))⟩] [1, 3, 4])
  (.block 0 (.loop (.seq (.seq (.region [⟨some 7, none, .p (.mv (.t 4))⟩,
    ⟨some 8, none, .p (.bin .lss (.t 7) (.k (.c (C.int .i64 6))))⟩] [1, 3, 4, 8])
  (.cond (.t 8)
  .skip
  (.exit 0)))
  (.seq (.block 1 (.seq (.region [⟨some 5, none, .p (.mv (.k (.c (C.int .i64 0))))⟩] [1, 3, 4, 5])
  (.block 2 (.loop (.seq (.seq (.region [⟨some 11, none, .p (.mv (.t 5))⟩,
    ⟨some 12, none, .p (.bin .lss (.t 11) (.k (.c (C.int .i64 6))))⟩] [1, 3, 4, 5, 12])
  (.cond (.t 12)
  .skip
  (.exit 2)))
  (.seq (.block 3 (.seq (.region [⟨some 15, none, .h (.load 24 true (.t 1))⟩,
    ⟨some 16, none, .p (.mv (.t 4))⟩,
    ⟨some 17, none, .p (.mv (.t 5))⟩,
    ⟨some 18, none, .h (.call (.f 90) [.t 15, .t 16, .t 17])⟩] [1, 3, 4, 5, 18])
  (.cond (.t 18)
  (.region [⟨some 19, none, .p (.mv (.t 3))⟩,
    ⟨some 20, none, .p (.mv (.t 4))⟩,
    ⟨some 21, none, .p (.mv (.t 5))⟩,
    ⟨some 22, none, .p (.build [.k (C.int .i64 0), .k (C.int .i64 0)] [(0, 1, .t 20), (1, 1, .t 21)])⟩,
    ⟨some 23, none, .p (.mksl 2 1 [.k (C.int .i64 0), .k (C.int .i64 0)] [(0, 2, .t 22)])⟩,
    ⟨some 24, none, .h (.app 2 (.t 19) (.t 23))⟩,
    ⟨some 3, none, .p (.mv (.t 24))⟩] [1, 3, 4, 5])
  .skip)))
  (.region [⟨some 13, none, .p (.mv (.t 5))⟩,
    ⟨some 14, none, .p (.bin .add (.t 13) (.k (.c (C.int .i64 1))))⟩,
    ⟨some 5, none, .p (.mv (.t 14))⟩] [1, 3, 4, 5]))) [1, 3, 4, 5]))))
  (.region [⟨some 9, none, .p (.mv (.t 4))⟩,
    ⟨some 10, none, .p (.bin .add (.t 9) (.k (.c (C.int .i64 1))))⟩,
    ⟨some 4, none, .p (.mv (.t 10))⟩] [1, 3, 4]))) [1, 3, 4])))
  (.seq (.region [⟨some 25, none, .p (.mv (.t 3))⟩,
    ⟨some 2, none, .p (.mv (.t 25))⟩] [2])
  .ret)))) }
theorem a101_ok : okFn Try.prog 101 a101 = true := by kernel_rfl
/-- loop.example/g01215/spec.l2Idle -/
def a102 : AFn := { np := 3, nt := 22, res := [.t 6], body :=
  (.seq (.region [⟨some 3, none, .p (.box 24 (.t 0))⟩,
    ⟨some 6, none, .p (.mv (.k (.c (C.bool false))))⟩] [1, 2, 3])
  (.seq (.region [⟨some 7, none, .p (.mv (.t 1))⟩,
    ⟨some 8, none, .p (.fld 0 (.t 3))⟩,
    ⟨some 9, none, .p (.ixA 6 4 (.t 8) (.t 7))⟩,
    ⟨some 10, none, .h (.load 4 true (.t 9))⟩,
    ⟨some 11, none, .h (.call (.f 79) [.t 10])⟩,
    ⟨some 12, none, .p (.len (.t 11))⟩,
    ⟨some 13, none, .p (.bin .eql (.t 12) (.k (.c (C.int .i64 1))))⟩,
    ⟨some 14, none, .p (.mv (.t 13))⟩,
    ⟨some 15, some (14, true), .p (.mv (.t 2))⟩,
    ⟨some 16, some (14, true), .p (.fld 0 (.t 3))⟩,
    ⟨some 17, some (14, true), .p (.ixA 6 4 (.t 16) (.t 15))⟩,
    ⟨some 18, some (14, true), .h (.load 4 true (.t 17))⟩,
    ⟨some 19, some (14, true), .h (.call (.f 84) [.t 18])⟩,
    ⟨some 20, some (14, true), .p (.bin .eql (.t 19) (.k (.c (C.int .i64 0))))⟩,
    ⟨some 21, none, .p (.pick (.t 14) (.t 20) (.k (.c (C.bool false))))⟩,
    ⟨some 6, none, .p (.mv (.t 21))⟩] [6])
  .ret)) }
theorem a102_ok : okFn Try.prog 102 a102 = true := by kernel_rfl
/-- slices.ContainsFunc[[]int,int] -/
def a103 : AFn := { np := 2, nt := 9, res := [.t 4], body :=
  (.seq (.region [⟨some 4, none, .p (.mv (.k (.c (C.bool false))))⟩] [0, 1])
  (.seq (.region [⟨some 5, none, .p (.mv (.t 0))⟩,
    ⟨some 6, none, .p (.mv (.t 1))⟩,
    ⟨some 7, none, .h (.call (.f 106) [.t 5, .t 6])⟩,
    ⟨some 8, none, .p (.bin .geq (.t 7) (.k (.c (C.int .i64 0))))⟩,
    ⟨some 4, none, .p (.mv (.t 8))⟩] [4])
  .ret)) }
theorem a103_ok : okFn Try.prog 103 a103 = true := by kernel_rfl
/-- loop.example/g01215/impl.areAll[int]$1 -/
def a104 : AFn := { np := 2, nt := 8, res := [.t 3], body :=
  (.seq (.region [⟨some 3, none, .p (.mv (.k (.c (C.bool false))))⟩] [0, 1])
  (.seq (.region [⟨some 4, none, .h (.load 1 false (.t 1))⟩,
    ⟨some 5, none, .p (.mv (.t 0))⟩,
    ⟨some 6, none, .h (.call (.t 4) [.t 5])⟩,
    ⟨some 7, none, .p (.un .not (.t 6))⟩,
    ⟨some 3, none, .p (.mv (.t 7))⟩] [3])
  .ret)) }
theorem a104_ok : okFn Try.prog 104 a104 = true := by kernel_rfl
/-- slices.IndexFunc[[][4]int,[4]int] -/
def a105 : AFn := { np := 2, nt := 19, res := [.t 4], body :=
  (.seq (.region [⟨some 4, none, .p (.mv (.k (.c (C.int .i64 0))))⟩] [0, 1])
  (.seq (.seq (.region [⟨some 6, none, .p (.mv (.t 0))⟩,
    ⟨some 7, none, .p (.len (.t 6))⟩,
    ⟨some 8, none, .p (.mv (.k (.c (C.int .i64 0))))⟩] [0, 1, 7, 8])
  (.block 0 (.loop (.seq (.region [⟨some 9, none, .p (.bin .lss (.t 8) (.t 7))⟩] [0, 1, 7, 8, 9])
  (.seq (.cond (.t 9)
  .skip
  (.exit 0))
  (.seq (.block 1 (.seq (.region [⟨some 10, none, .p (.mv (.t 8))⟩,
    ⟨some 5, none, .p (.mv (.t 10))⟩] [0, 1, 5, 7, 8])
  (.seq (.region [⟨some 11, none, .p (.mv (.t 1))⟩,
    ⟨some 12, none, .p (.mv (.t 0))⟩,
    ⟨some 13, none, .p (.mv (.t 5))⟩,
    ⟨some 14, none, .p (.ixS 4 (.t 12) (.t 13))⟩,
    ⟨some 15, none, .h (.load 4 true (.t 14))⟩,
    ⟨some 16, none, .h (.call (.t 11) [.t 15])⟩] [0, 1, 5, 7, 8, 16])
  (.cond (.t 16)
  (.seq (.region [⟨some 17, none, .p (.mv (.t 5))⟩,
    ⟨some 4, none, .p (.mv (.t 17))⟩] [4])
  .ret)
  .skip))))
  (.region [⟨some 18, none, .p (.bin .add (.t 8) (.k (.c (C.int .i64 1))))⟩,
    ⟨some 8, none, .p (.mv (.t 18))⟩] [0, 1, 7, 8])))) [0, 1, 7, 8])))
  (.seq (.region [⟨some 4, none, .p (.mv (.k (.c (C.int .i64 (-1)))))⟩] [4])
  .ret))) }
theorem a105_ok : okFn Try.prog 105 a105 = true := by kernel_rfl
/-- slices.IndexFunc[[]int,int] -/
def a106 : AFn := { np := 2, nt := 19, res := [.t 4], body :=
  (.seq (.region [⟨some 4, none, .p (.mv (.k (.c (C.int .i64 0))))⟩] [0, 1])
  (.seq (.seq (.region [⟨some 6, none, .p (.mv (.t 0))⟩,
    ⟨some 7, none, .p (.len (.t 6))⟩,
    ⟨some 8, none, .p (.mv (.k (.c (C.int .i64 0))))⟩] [0, 1, 7, 8])
  (.block 0 (.loop (.seq (.region [⟨some 9, none, .p (.bin .lss (.t 8) (.t 7))⟩] [0, 1, 7, 8, 9])
  (.seq (.cond (.t 9)
  .skip
  (.exit 0))
  (.seq (.block 1 (.seq (.region [⟨some 10, none, .p (.mv (.t 8))⟩,
    ⟨some 5, none, .p (.mv (.t 10))⟩] [0, 1, 5, 7, 8])
  (.seq (.region [⟨some 11, none, .p (.mv (.t 1))⟩,
    ⟨some 12, none, .p (.mv (.t 0))⟩,
    ⟨some 13, none, .p (.mv (.t 5))⟩,
    ⟨some 14, none, .p (.ixS 1 (.t 12) (.t 13))⟩,
    ⟨some 15, none, .h (.load 1 false (.t 14))⟩,
    ⟨some 16, none, .h (.call (.t 11) [.t 15])⟩] [0, 1, 5, 7, 8, 16])
  (.cond (.t 16)
  (.seq (.region [⟨some 17, none, .p (.mv (.t 5))⟩,
    ⟨some 4, none, .p (.mv (.t 17))⟩] [4])
  .ret)
  .skip))))
  (.region [⟨some 18, none, .p (.bin .add (.t 8) (.k (.c (C.int .i64 1))))⟩,
    ⟨some 8, none, .p (.mv (.t 18))⟩] [0, 1, 7, 8])))) [0, 1, 7, 8])))
  (.seq (.region [⟨some 4, none, .p (.mv (.k (.c (C.int .i64 (-1)))))⟩] [4])
  .ret))) }
theorem a106_ok : okFn Try.prog 106 a106 = true := by kernel_rfl
def prA : Prog
  | 3 => some a3
  | 4 => some a4
  | 5 => some a5
  | 6 => some a6
  | 7 => some a7
  | 8 => some a8
  | 9 => some a9
  | 10 => some a10
  | 11 => some a11
  | 12 => some a12
  | 14 => some a14
  | 15 => some a15
  | 16 => some a16
  | 17 => some a17
  | 18 => some a18
  | 19 => some a19
  | 20 => some a20
  | 21 => some a21
  | 22 => some a22
  | 23 => some a23
  | 24 => some a24
  | 25 => some a25
  | 26 => some a26
  | 27 => some a27
  | 28 => some a28
  | 29 => some a29
  | 30 => some a30
  | 31 => some a31
  | 32 => some a32
  | 33 => some a33
  | 34 => some a34
  | 35 => some a35
  | 36 => some a36
  | 37 => some a37
  | 38 => some a38
  | 39 => some a39
  | 40 => some a40
  | 41 => some a41
  | 42 => some a42
  | 43 => some a43
  | 44 => some a44
  | 45 => some a45
  | 46 => some a46
  | 47 => some a47
  | 48 => some a48
  | 49 => some a49
  | 50 => some a50
  | 51 => some a51
  | 52 => some a52
  | 53 => some a53
  | 54 => some a54
  | 55 => some a55
  | 56 => some a56
  | 57 => some a57
  | 58 => some a58
  | 59 => some a59
  | 60 => some a60
  | 61 => some a61
  | 62 => some a62
  | 63 => some a63
  | 64 => some a64
  | 65 => some a65
  | 66 => some a66
  | 67 => some a67
  | 68 => some a68
  | 69 => some a69
  | 70 => some a70
  | 71 => some a71
  | 72 => some a72
  | 73 => some a73
  | 74 => some a74
  | 75 => some a75
  | 76 => some a76
  | 77 => some a77
  | 78 => some a78
  | 79 => some a79
  | 80 => some a80
  | 81 => some a81
  | 82 => some a82
  | 83 => some a83
  | 84 => some a84
  | 85 => some a85
  | 86 => some a86
  | 87 => some a87
  | 88 => some a88
  | 89 => some a89
  | 90 => some a90
  | 91 => some a91
  | 92 => some a92
  | 93 => some a93
  | 94 => some a94
  | 95 => some a95
  | 96 => some a96
  | 97 => some a97
  | 98 => some a98
  | 99 => some a99
  | 100 => some a100
  | 101 => some a101
  | 102 => some a102
  | 103 => some a103
  | 104 => some a104
  | 105 => some a105
  | 106 => some a106
  | _ => none
theorem prA_ok : ProgOK Try.prog prA := by
  intro f fn h
  unfold prA at h
  split at h
  · injection h with h; subst h; exact a3_ok
  · injection h with h; subst h; exact a4_ok
  · injection h with h; subst h; exact a5_ok
  · injection h with h; subst h; exact a6_ok
  · injection h with h; subst h; exact a7_ok
  · injection h with h; subst h; exact a8_ok
  · injection h with h; subst h; exact a9_ok
  · injection h with h; subst h; exact a10_ok
  · injection h with h; subst h; exact a11_ok
  · injection h with h; subst h; exact a12_ok
  · injection h with h; subst h; exact a14_ok
  · injection h with h; subst h; exact a15_ok
  · injection h with h; subst h; exact a16_ok
  · injection h with h; subst h; exact a17_ok
  · injection h with h; subst h; exact a18_ok
  · injection h with h; subst h; exact a19_ok
  · injection h with h; subst h; exact a20_ok
  · injection h with h; subst h; exact a21_ok
  · injection h with h; subst h; exact a22_ok
  · injection h with h; subst h; exact a23_ok
  · injection h with h; subst h; exact a24_ok
  · injection h with h; subst h; exact a25_ok
  · injection h with h; subst h; exact a26_ok
  · injection h with h; subst h; exact a27_ok
  · injection h with h; subst h; exact a28_ok
  · injection h with h; subst h; exact a29_ok
  · injection h with h; subst h; exact a30_ok
  · injection h with h; subst h; exact a31_ok
  · injection h with h; subst h; exact a32_ok
  · injection h with h; subst h; exact a33_ok
  · injection h with h; subst h; exact a34_ok
  · injection h with h; subst h; exact a35_ok
  · injection h with h; subst h; exact a36_ok
  · injection h with h; subst h; exact a37_ok
  · injection h with h; subst h; exact a38_ok
  · injection h with h; subst h; exact a39_ok
  · injection h with h; subst h; exact a40_ok
  · injection h with h; subst h; exact a41_ok
  · injection h with h; subst h; exact a42_ok
  · injection h with h; subst h; exact a43_ok
  · injection h with h; subst h; exact a44_ok
  · injection h with h; subst h; exact a45_ok
  · injection h with h; subst h; exact a46_ok
  · injection h with h; subst h; exact a47_ok
  · injection h with h; subst h; exact a48_ok
  · injection h with h; subst h; exact a49_ok
  · injection h with h; subst h; exact a50_ok
  · injection h with h; subst h; exact a51_ok
  · injection h with h; subst h; exact a52_ok
  · injection h with h; subst h; exact a53_ok
  · injection h with h; subst h; exact a54_ok
  · injection h with h; subst h; exact a55_ok
  · injection h with h; subst h; exact a56_ok
  · injection h with h; subst h; exact a57_ok
  · injection h with h; subst h; exact a58_ok
  · injection h with h; subst h; exact a59_ok
  · injection h with h; subst h; exact a60_ok
  · injection h with h; subst h; exact a61_ok
  · injection h with h; subst h; exact a62_ok
  · injection h with h; subst h; exact a63_ok
  · injection h with h; subst h; exact a64_ok
  · injection h with h; subst h; exact a65_ok
  · injection h with h; subst h; exact a66_ok
  · injection h with h; subst h; exact a67_ok
  · injection h with h; subst h; exact a68_ok
  · injection h with h; subst h; exact a69_ok
  · injection h with h; subst h; exact a70_ok
  · injection h with h; subst h; exact a71_ok
  · injection h with h; subst h; exact a72_ok
  · injection h with h; subst h; exact a73_ok
  · injection h with h; subst h; exact a74_ok
  · injection h with h; subst h; exact a75_ok
  · injection h with h; subst h; exact a76_ok
  · injection h with h; subst h; exact a77_ok
  · injection h with h; subst h; exact a78_ok
  · injection h with h; subst h; exact a79_ok
  · injection h with h; subst h; exact a80_ok
  · injection h with h; subst h; exact a81_ok
  · injection h with h; subst h; exact a82_ok
  · injection h with h; subst h; exact a83_ok
  · injection h with h; subst h; exact a84_ok
  · injection h with h; subst h; exact a85_ok
  · injection h with h; subst h; exact a86_ok
  · injection h with h; subst h; exact a87_ok
  · injection h with h; subst h; exact a88_ok
  · injection h with h; subst h; exact a89_ok
  · injection h with h; subst h; exact a90_ok
  · injection h with h; subst h; exact a91_ok
  · injection h with h; subst h; exact a92_ok
  · injection h with h; subst h; exact a93_ok
  · injection h with h; subst h; exact a94_ok
  · injection h with h; subst h; exact a95_ok
  · injection h with h; subst h; exact a96_ok
  · injection h with h; subst h; exact a97_ok
  · injection h with h; subst h; exact a98_ok
  · injection h with h; subst h; exact a99_ok
  · injection h with h; subst h; exact a100_ok
  · injection h with h; subst h; exact a101_ok
  · injection h with h; subst h; exact a102_ok
  · injection h with h; subst h; exact a103_ok
  · injection h with h; subst h; exact a104_ok
  · injection h with h; subst h; exact a105_ok
  · injection h with h; subst h; exact a106_ok
  · cases h
end Go.Proofs.Ytafphbegpjjolaa.AM
