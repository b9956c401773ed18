/- the functions' code in the abstract machine: printed by a program (wip/tools/genparts.py) out of the loaded program -/
import Derived.Test.YtgpafbbnobanbaaGreatDoorAmD
import Derived.Test.YtgpafbbnobanbaaGreatDoorProg
import Derived.KernelRfl
namespace Go.Proofs.YtgpafbbnobanbaaGreatDoor.AM
open Go
set_option maxRecDepth 100000
/-- loop.example/g01215/laws.FnConsoleWords -/
def a3 : AFn := { np := 1, nt := 160, res := [.t 2], body :=
 (.seq (.region [⟨some 2, none, .p (.mv (.k (.c (C.bool false))))⟩] [0])
 (.seq (.seq (.region [⟨some 32, none, .p (.mv (.t 0))⟩,⟨some 33, none, .h (.call (.f 4) [.t 32])⟩] [0, 33])
 (.cond (.t 33)
 (.seq (.region [⟨some 2, none, .p (.mv (.k (.c (C.bool true))))⟩] [2])
  .ret)
  .skip))
 (.seq (.region [⟨some 34, none, .p (.mv (.t 0))⟩,⟨some 35, none, .h (.call (.f 5) [.t 34])⟩,⟨some 3, none, .p (.alloc (List.replicate 26 (.k (C.int .i64 0))))⟩,⟨none, none, .h (.store 26 (.t 3) (.t 35))⟩] [3])
 (.seq (.region [⟨some 37, none, .h (.load 26 true (.t 3))⟩,⟨some 38, none, .h (.call (.f 6) [.t 37])⟩,⟨some 36, none, .p (.mv (.t 38))⟩,⟨some 39, none, .p (.ext (.t 36) 0)⟩,⟨some 40, none, .p (.ext (.t 36) 1)⟩,⟨some 4, none, .p (.alloc [.k (C.int .i64 0), .k (C.int .i64 0), .k (C.int .i64 0), .k (C.int .i64 0), .k (C.int .i64 0), .k (C.int .i64 0), .k (C.int .i64 0), .k (C.int .i64 0), .k (C.int .i64 0), .k (C.int .i64 0), .k (C.int .i64 0), .k (C.int .i64 0), .k (C.int .i64 0), .k (C.int .i64 0), .k (C.int .i64 0), .k (C.int .i64 0), .k (C.int .i64 0), .k (C.int .i64 0), .k (C.int .i64 0), .k (C.int .i64 0), .k (C.int .i64 0), .k (C.int .i64 0), .k (C.int .i64 0), .k (C.int .i64 0), .k (C.int .i64 0), .k (C.int .i64 0), .k (C.str []), .k (C.str []), .k (C.int .i64 0)])⟩,⟨none, none, .h (.store 29 (.t 4) (.t 39))⟩,⟨some 5, none, .p (.mv (.t 40))⟩] [3, 4, 5])
 (.seq (.seq (.region [⟨some 41, none, .p (.mv (.t 5))⟩,⟨some 42, none, .p (.un .not (.t 41))⟩] [3, 4, 42])
 (.cond (.t 42)
 (.seq (.region [⟨some 43, none, .h (.load 26 true (.t 3))⟩,⟨some 44, none, .h (.call (.f 7) [.t 43])⟩,⟨some 45, none, .p (.un .not (.t 44))⟩,⟨some 2, none, .p (.mv (.t 45))⟩] [2])
  .ret)
  .skip))
 (.seq (.region [⟨some 47, none, .h (.load 29 true (.t 4))⟩,⟨some 48, none, .h (.call (.f 8) [.t 47, .k (.c (C.str [114, 97, 99, 107]))])⟩,⟨some 46, none, .p (.mv (.t 48))⟩,⟨some 49, none, .p (.ext (.t 46) 0)⟩,⟨some 50, none, .p (.ext (.t 46) 1)⟩,⟨some 6, none, .p (.alloc [.k (C.int .i64 0), .k (C.int .i64 0), .k (C.int .i64 0), .k (C.int .i64 0), .k (C.int .i64 0), .k (C.int .i64 0), .k (C.int .i64 0), .k (C.int .i64 0), .k (C.int .i64 0), .k (C.int .i64 0), .k (C.int .i64 0), .k (C.int .i64 0), .k (C.int .i64 0), .k (C.int .i64 0), .k (C.int .i64 0), .k (C.int .i64 0), .k (C.int .i64 0), .k (C.int .i64 0), .k (C.int .i64 0), .k (C.int .i64 0), .k (C.int .i64 0), .k (C.int .i64 0), .k (C.int .i64 0), .k (C.int .i64 0), .k (C.int .i64 0), .k (C.int .i64 0), .k (C.str []), .k (C.str []), .k (C.int .i64 0)])⟩,⟨none, none, .h (.store 29 (.t 6) (.t 49))⟩,⟨some 7, none, .p (.mv (.t 50))⟩] [3, 4, 7])
 (.seq (.region [⟨some 52, none, .h (.load 29 true (.t 4))⟩,⟨some 53, none, .h (.call (.f 8) [.t 52, .k (.c (C.str [117, 115, 101, 102, 117, 108]))])⟩,⟨some 51, none, .p (.mv (.t 53))⟩,⟨some 54, none, .p (.ext (.t 51) 0)⟩,⟨some 55, none, .p (.ext (.t 51) 1)⟩,⟨some 8, none, .p (.alloc [.k (C.int .i64 0), .k (C.int .i64 0), .k (C.int .i64 0), .k (C.int .i64 0), .k (C.int .i64 0), .k (C.int .i64 0), .k (C.int .i64 0), .k (C.int .i64 0), .k (C.int .i64 0), .k (C.int .i64 0), .k (C.int .i64 0), .k (C.int .i64 0), .k (C.int .i64 0), .k (C.int .i64 0), .k (C.int .i64 0), .k (C.int .i64 0), .k (C.int .i64 0), .k (C.int .i64 0), .k (C.int .i64 0), .k (C.int .i64 0), .k (C.int .i64 0), .k (C.int .i64 0), .k (C.int .i64 0), .k (C.int .i64 0), .k (C.int .i64 0), .k (C.int .i64 0), .k (C.str []), .k (C.str []), .k (C.int .i64 0)])⟩,⟨none, none, .h (.store 29 (.t 8) (.t 54))⟩,⟨some 9, none, .p (.mv (.t 55))⟩] [3, 4, 7, 9])
 (.seq (.region [⟨some 57, none, .h (.load 29 true (.t 4))⟩,⟨some 58, none, .h (.call (.f 8) [.t 57, .k (.c (C.str [102, 101, 119, 101, 115, 116]))])⟩,⟨some 56, none, .p (.mv (.t 58))⟩,⟨some 59, none, .p (.ext (.t 56) 0)⟩,⟨some 60, none, .p (.ext (.t 56) 1)⟩,⟨some 10, none, .p (.alloc [.k (C.int .i64 0), .k (C.int .i64 0), .k (C.int .i64 0), .k (C.int .i64 0), .k (C.int .i64 0), .k (C.int .i64 0), .k (C.int .i64 0), .k (C.int .i64 0), .k (C.int .i64 0), .k (C.int .i64 0), .k (C.int .i64 0), .k (C.int .i64 0), .k (C.int .i64 0), .k (C.int .i64 0), .k (C.int .i64 0), .k (C.int .i64 0), .k (C.int .i64 0), .k (C.int .i64 0), .k (C.int .i64 0), .k (C.int .i64 0), .k (C.int .i64 0), .k (C.int .i64 0), .k (C.int .i64 0), .k (C.int .i64 0), .k (C.int .i64 0), .k (C.int .i64 0), .k (C.str []), .k (C.str []), .k (C.int .i64 0)])⟩,⟨none, none, .h (.store 29 (.t 10) (.t 59))⟩,⟨some 11, none, .p (.mv (.t 60))⟩] [3, 4, 7, 9, 11])
 (.seq (.region [⟨some 62, none, .h (.load 29 true (.t 4))⟩,⟨some 63, none, .h (.call (.f 8) [.t 62, .k (.c (C.str [119, 97, 121]))])⟩,⟨some 61, none, .p (.mv (.t 63))⟩,⟨some 64, none, .p (.ext (.t 61) 0)⟩,⟨some 65, none, .p (.ext (.t 61) 1)⟩,⟨some 12, none, .p (.alloc [.k (C.int .i64 0), .k (C.int .i64 0), .k (C.int .i64 0), .k (C.int .i64 0), .k (C.int .i64 0), .k (C.int .i64 0), .k (C.int .i64 0), .k (C.int .i64 0), .k (C.int .i64 0), .k (C.int .i64 0), .k (C.int .i64 0), .k (C.int .i64 0), .k (C.int .i64 0), .k (C.int .i64 0), .k (C.int .i64 0), .k (C.int .i64 0), .k (C.int .i64 0), .k (C.int .i64 0), .k (C.int .i64 0), .k (C.int .i64 0), .k (C.int .i64 0), .k (C.int .i64 0), .k (C.int .i64 0), .k (C.int .i64 0), .k (C.int .i64 0), .k (C.int .i64 0), .k (C.str []), .k (C.str []), .k (C.int .i64 0)])⟩,⟨none, none, .h (.store 29 (.t 12) (.t 64))⟩,⟨some 13, none, .p (.mv (.t 65))⟩] [3, 4, 7, 9, 11, 13])
 (.seq (.region [⟨some 67, none, .h (.load 29 true (.t 4))⟩,⟨some 68, none, .h (.call (.f 8) [.t 67, .k (.c (C.str [99, 101, 114, 116, 97, 105, 110]))])⟩,⟨some 66, none, .p (.mv (.t 68))⟩,⟨some 69, none, .p (.ext (.t 66) 0)⟩,⟨some 70, none, .p (.ext (.t 66) 1)⟩,⟨some 14, none, .p (.alloc [.k (C.int .i64 0), .k (C.int .i64 0), .k (C.int .i64 0), .k (C.int .i64 0), .k (C.int .i64 0), .k (C.int .i64 0), .k (C.int .i64 0), .k (C.int .i64 0), .k (C.int .i64 0), .k (C.int .i64 0), .k (C.int .i64 0), .k (C.int .i64 0), .k (C.int .i64 0), .k (C.int .i64 0), .k (C.int .i64 0), .k (C.int .i64 0), .k (C.int .i64 0), .k (C.int .i64 0), .k (C.int .i64 0), .k (C.int .i64 0), .k (C.int .i64 0), .k (C.int .i64 0), .k (C.int .i64 0), .k (C.int .i64 0), .k (C.int .i64 0), .k (C.int .i64 0), .k (C.str []), .k (C.str []), .k (C.int .i64 0)])⟩,⟨none, none, .h (.store 29 (.t 14) (.t 69))⟩,⟨some 15, none, .p (.mv (.t 70))⟩] [3, 4, 7, 9, 11, 13, 15])
 (.seq (.region [⟨some 72, none, .h (.load 29 true (.t 4))⟩,⟨some 73, none, .h (.call (.f 8) [.t 72, .k (.c (C.str [108, 101, 102, 116]))])⟩,⟨some 71, none, .p (.mv (.t 73))⟩,⟨some 74, none, .p (.ext (.t 71) 0)⟩,⟨some 75, none, .p (.ext (.t 71) 1)⟩,⟨some 16, none, .p (.alloc [.k (C.int .i64 0), .k (C.int .i64 0), .k (C.int .i64 0), .k (C.int .i64 0), .k (C.int .i64 0), .k (C.int .i64 0), .k (C.int .i64 0), .k (C.int .i64 0), .k (C.int .i64 0), .k (C.int .i64 0), .k (C.int .i64 0), .k (C.int .i64 0), .k (C.int .i64 0), .k (C.int .i64 0), .k (C.int .i64 0), .k (C.int .i64 0), .k (C.int .i64 0), .k (C.int .i64 0), .k (C.int .i64 0), .k (C.int .i64 0), .k (C.int .i64 0), .k (C.int .i64 0), .k (C.int .i64 0), .k (C.int .i64 0), .k (C.int .i64 0), .k (C.int .i64 0), .k (C.str []), .k (C.str []), .k (C.int .i64 0)])⟩,⟨none, none, .h (.store 29 (.t 16) (.t 74))⟩,⟨some 17, none, .p (.mv (.t 75))⟩] [3, 7, 9, 11, 13, 15, 17])
 (.seq (.region [⟨some 77, none, .p (.fld 0 (.t 3))⟩,⟨some 78, none, .h (.load 24 true (.t 77))⟩,⟨some 79, none, .h (.call (.f 9) [.t 78])⟩,⟨some 76, none, .p (.mv (.t 79))⟩,⟨some 80, none, .p (.ext (.t 76) 0)⟩,⟨some 81, none, .p (.ext (.t 76) 1)⟩,⟨some 18, none, .p (.mv (.t 80))⟩,⟨some 19, none, .p (.mv (.t 81))⟩] [3, 7, 9, 11, 13, 15, 17, 18, 19])
 (.seq (.region [⟨some 83, none, .p (.fld 0 (.t 3))⟩,⟨some 84, none, .h (.load 24 true (.t 83))⟩,⟨some 85, none, .h (.call (.f 10) [.t 84])⟩,⟨some 82, none, .p (.mv (.t 85))⟩,⟨some 86, none, .p (.ext (.t 82) 0)⟩,⟨some 87, none, .p (.ext (.t 82) 1)⟩,⟨some 20, none, .p (.mv (.t 86))⟩,⟨some 21, none, .p (.mv (.t 87))⟩] [3, 7, 9, 11, 13, 15, 17, 18, 19, 20, 21])
 (.seq (.region [⟨some 89, none, .p (.fld 0 (.t 3))⟩,⟨some 90, none, .h (.load 24 true (.t 89))⟩,⟨some 91, none, .h (.call (.f 11) [.t 90])⟩,⟨some 88, none, .p (.mv (.t 91))⟩,⟨some 92, none, .p (.ext (.t 88) 0)⟩,⟨some 93, none, .p (.ext (.t 88) 1)⟩,⟨some 22, none, .p (.mv (.t 92))⟩,⟨some 23, none, .p (.mv (.t 93))⟩] [3, 7, 9, 11, 13, 15, 17, 18, 19, 20, 21, 22, 23])
 (.seq (.region [⟨some 95, none, .p (.fld 0 (.t 3))⟩,⟨some 96, none, .h (.load 24 true (.t 95))⟩,⟨some 97, none, .h (.call (.f 12) [.t 96])⟩,⟨some 94, none, .p (.mv (.t 97))⟩,⟨some 98, none, .p (.ext (.t 94) 0)⟩,⟨some 99, none, .p (.ext (.t 94) 1)⟩,⟨some 24, none, .p (.mv (.t 98))⟩,⟨some 25, none, .p (.mv (.t 99))⟩] [3, 7, 9, 11, 13, 15, 17, 18, 19, 20, 21, 22, 23, 24, 25])
 (.seq (.region [⟨some 101, none, .p (.fld 0 (.t 3))⟩,⟨some 102, none, .h (.load 24 true (.t 101))⟩,⟨some 103, none, .h (.call (.f 13) [.t 102])⟩,⟨some 100, none, .p (.mv (.t 103))⟩,⟨some 104, none, .p (.ext (.t 100) 0)⟩,⟨some 105, none, .p (.ext (.t 100) 1)⟩,⟨some 26, none, .p (.alloc (List.replicate 18 (.k (C.int .i64 0))))⟩,⟨none, none, .h (.store 18 (.t 26) (.t 104))⟩,⟨some 27, none, .p (.mv (.t 105))⟩] [3, 7, 9, 11, 13, 15, 17, 18, 19, 20, 21, 22, 23, 24, 25, 26, 27])
 (.seq (.region [⟨some 107, none, .h (.load 18 true (.t 26))⟩,⟨some 108, none, .h (.call (.f 14) [.t 107])⟩,⟨some 106, none, .p (.mv (.t 108))⟩,⟨some 109, none, .p (.ext (.t 106) 0)⟩,⟨some 110, none, .p (.ext (.t 106) 1)⟩,⟨some 28, none, .p (.mv (.t 109))⟩,⟨some 29, none, .p (.mv (.t 110))⟩] [3, 7, 9, 11, 13, 15, 17, 18, 19, 20, 21, 22, 23, 24, 25, 27, 28, 29])
 (.seq (.region [⟨some 112, none, .h (.load 26 true (.t 3))⟩,⟨some 113, none, .h (.call (.f 15) [.t 112])⟩,⟨some 111, none, .p (.mv (.t 113))⟩,⟨some 114, none, .p (.ext (.t 111) 0)⟩,⟨some 115, none, .p (.ext (.t 111) 1)⟩,⟨some 30, none, .p (.mv (.t 114))⟩,⟨some 31, none, .p (.mv (.t 115))⟩] [7, 9, 11, 13, 15, 17, 18, 19, 20, 21, 22, 23, 24, 25, 27, 28, 29, 30, 31])
 (.seq (.seq (.region [⟨some 116, none, .p (.mv (.t 19))⟩,⟨some 117, none, .p (.un .not (.t 116))⟩,⟨some 118, none, .p (.mv (.t 117))⟩,⟨some 119, some (118, false), .p (.mv (.t 27))⟩,⟨some 120, some (118, false), .p (.un .not (.t 119))⟩,⟨some 121, none, .p (.pick (.t 118) (.k (.c (C.bool true))) (.t 120))⟩,⟨some 122, none, .p (.mv (.t 121))⟩,⟨some 123, some (122, false), .p (.mv (.t 7))⟩,⟨some 124, some (122, false), .p (.mv (.t 18))⟩,⟨some 125, some (122, false), .p (.bin .neq (.t 123) (.t 124))⟩,⟨some 126, none, .p (.pick (.t 122) (.k (.c (C.bool true))) (.t 125))⟩,⟨some 127, none, .p (.mv (.t 126))⟩,⟨some 128, some (127, false), .p (.mv (.t 9))⟩,⟨some 129, some (127, false), .p (.mv (.t 20))⟩,⟨some 130, some (127, false), .p (.mv (.t 21))⟩,⟨some 131, some (127, false), .h (.call (.f 16) [.t 129, .t 130])⟩,⟨some 132, some (127, false), .p (.bin .neq (.t 128) (.t 131))⟩,⟨some 133, none, .p (.pick (.t 127) (.k (.c (C.bool true))) (.t 132))⟩,⟨some 134, none, .p (.mv (.t 133))⟩,⟨some 135, some (134, false), .p (.mv (.t 11))⟩,⟨some 136, some (134, false), .p (.mv (.t 22))⟩,⟨some 137, some (134, false), .p (.mv (.t 23))⟩,⟨some 138, some (134, false), .h (.call (.f 17) [.t 136, .t 137])⟩,⟨some 139, some (134, false), .p (.bin .neq (.t 135) (.t 138))⟩,⟨some 140, none, .p (.pick (.t 134) (.k (.c (C.bool true))) (.t 139))⟩,⟨some 141, none, .p (.mv (.t 140))⟩,⟨some 142, some (141, false), .p (.mv (.t 13))⟩,⟨some 143, some (141, false), .p (.mv (.t 24))⟩,⟨some 144, some (141, false), .p (.mv (.t 25))⟩,⟨some 145, some (141, false), .h (.call (.f 16) [.t 143, .t 144])⟩,⟨some 146, some (141, false), .p (.bin .neq (.t 142) (.t 145))⟩,⟨some 147, none, .p (.pick (.t 141) (.k (.c (C.bool true))) (.t 146))⟩,⟨some 148, none, .p (.mv (.t 147))⟩,⟨some 149, some (148, false), .p (.mv (.t 15))⟩,⟨some 150, some (148, false), .p (.mv (.t 28))⟩,⟨some 151, some (148, false), .p (.mv (.t 29))⟩,⟨some 152, some (148, false), .h (.call (.f 16) [.t 150, .t 151])⟩,⟨some 153, some (148, false), .p (.bin .neq (.t 149) (.t 152))⟩,⟨some 154, none, .p (.pick (.t 148) (.k (.c (C.bool true))) (.t 153))⟩] [17, 30, 31, 154])
 (.cond (.t 154)
 (.seq (.region [⟨some 2, none, .p (.mv (.k (.c (C.bool false))))⟩] [2])
  .ret)
  .skip))
 (.seq (.region [⟨some 155, none, .p (.mv (.t 17))⟩,⟨some 156, none, .p (.mv (.t 30))⟩,⟨some 157, none, .p (.mv (.t 31))⟩,⟨some 158, none, .h (.call (.f 17) [.t 156, .t 157])⟩,⟨some 159, none, .p (.bin .eql (.t 155) (.t 158))⟩,⟨some 2, none, .p (.mv (.t 159))⟩] [2])
  .ret)))))))))))))))))))) }
theorem a3_ok : okFn Tryz.prog 3 a3 = true := by kernel_rfl
/-- loop.example/g01215/laws.vBig -/
def a4 : AFn := { np := 1, nt := 6, res := [.t 2], body :=
 (.seq (.region [⟨some 2, none, .p (.mv (.k (.c (C.bool false))))⟩] [0])
 (.seq (.region [⟨some 3, none, .p (.mv (.t 0))⟩,⟨some 4, none, .p (.len (.t 3))⟩,⟨some 5, none, .p (.bin .gtr (.t 4) (.k (.c (C.int .i64 65536))))⟩,⟨some 2, none, .p (.mv (.t 5))⟩] [2])
  .ret)) }
theorem a4_ok : okFn Tryz.prog 4 a4 = true := by kernel_rfl
/-- loop.example/g01215/spec.DrawIsBar -/
def a5 : AFn := { np := 1, nt := 9, res := [.cell 2 26 true], body :=
 (.seq (.region [⟨some 2, none, .p (.alloc (List.replicate 26 (.k (C.int .i64 0))))⟩] [0, 2])
 (.seq (.region [⟨some 4, none, .p (.mv (.t 0))⟩,⟨some 5, none, .p (.build [.sl 1, .k (C.int .i64 0), .k (C.int .u64 0)] [(0, 1, .t 4)])⟩,⟨some 6, none, .p (.box 3 (.t 5))⟩,⟨some 3, none, .p (.mv (.t 6))⟩] [2, 3])
 (.seq (.region [⟨some 7, none, .p (.mv (.t 3))⟩,⟨some 8, none, .h (.call (.f 18) [.t 7])⟩,⟨none, none, .h (.store 26 (.t 2) (.t 8))⟩] [2])
  .ret))) }
theorem a5_ok : okFn Tryz.prog 5 a5 = true := by kernel_rfl
/-- loop.example/g01215/impl.NewConsole -/
def a6 : AFn := { np := 1, nt := 10, res := [.cell 2 29 true, .t 3], body :=
 (.seq (.region [⟨some 1, none, .p (.box 26 (.t 0))⟩,⟨some 2, none, .p (.alloc [.k (C.int .i64 0), .k (C.int .i64 0), .k (C.int .i64 0), .k (C.int .i64 0), .k (C.int .i64 0), .k (C.int .i64 0), .k (C.int .i64 0), .k (C.int .i64 0), .k (C.int .i64 0), .k (C.int .i64 0), .k (C.int .i64 0), .k (C.int .i64 0), .k (C.int .i64 0), .k (C.int .i64 0), .k (C.int .i64 0), .k (C.int .i64 0), .k (C.int .i64 0), .k (C.int .i64 0), .k (C.int .i64 0), .k (C.int .i64 0), .k (C.int .i64 0), .k (C.int .i64 0), .k (C.int .i64 0), .k (C.int .i64 0), .k (C.int .i64 0), .k (C.int .i64 0), .k (C.str []), .k (C.str []), .k (C.int .i64 0)])⟩,⟨some 3, none, .p (.mv (.k (.c (C.bool false))))⟩] [1, 2])
 (.seq (.seq (.region [⟨some 4, none, .h (.load 26 true (.t 1))⟩,⟨some 5, none, .h (.call (.f 19) [.t 4])⟩,⟨some 6, none, .p (.un .not (.t 5))⟩] [1, 2, 6])
 (.cond (.t 6)
 (.seq (.region [⟨some 7, none, .p (.build [.k (C.int .i64 0), .k (C.int .i64 0), .k (C.int .i64 0), .k (C.int .i64 0), .k (C.int .i64 0), .k (C.int .i64 0), .k (C.int .i64 0), .k (C.int .i64 0), .k (C.int .i64 0), .k (C.int .i64 0), .k (C.int .i64 0), .k (C.int .i64 0), .k (C.int .i64 0), .k (C.int .i64 0), .k (C.int .i64 0), .k (C.int .i64 0), .k (C.int .i64 0), .k (C.int .i64 0), .k (C.int .i64 0), .k (C.int .i64 0), .k (C.int .i64 0), .k (C.int .i64 0), .k (C.int .i64 0), .k (C.int .i64 0), .k (C.int .i64 0), .k (C.int .i64 0), .k (C.str []), .k (C.str []), .k (C.int .i64 0)] [])⟩,⟨none, none, .h (.store 29 (.t 2) (.t 7))⟩,⟨some 3, none, .p (.mv (.k (.c (C.bool false))))⟩] [2, 3])
  .ret)
  .skip))
 (.seq (.region [⟨some 8, none, .h (.load 26 true (.t 1))⟩,⟨some 9, none, .p (.build [.k (C.int .i64 0), .k (C.int .i64 0), .k (C.int .i64 0), .k (C.int .i64 0), .k (C.int .i64 0), .k (C.int .i64 0), .k (C.int .i64 0), .k (C.int .i64 0), .k (C.int .i64 0), .k (C.int .i64 0), .k (C.int .i64 0), .k (C.int .i64 0), .k (C.int .i64 0), .k (C.int .i64 0), .k (C.int .i64 0), .k (C.int .i64 0), .k (C.int .i64 0), .k (C.int .i64 0), .k (C.int .i64 0), .k (C.int .i64 0), .k (C.int .i64 0), .k (C.int .i64 0), .k (C.int .i64 0), .k (C.int .i64 0), .k (C.int .i64 0), .k (C.int .i64 0), .k (C.str []), .k (C.str []), .k (C.int .i64 0)] [(0, 26, .t 8)])⟩,⟨none, none, .h (.store 29 (.t 2) (.t 9))⟩,⟨some 3, none, .p (.mv (.k (.c (C.bool true))))⟩] [2, 3])
  .ret))) }
theorem a6_ok : okFn Tryz.prog 6 a6 = true := by kernel_rfl
/-- loop.example/g01215/spec.IsBar -/
def a7 : AFn := { np := 1, nt := 5, res := [.t 2], body :=
 (.seq (.region [⟨some 1, none, .p (.box 26 (.t 0))⟩,⟨some 2, none, .p (.mv (.k (.c (C.bool false))))⟩] [1])
 (.seq (.region [⟨some 3, none, .h (.load 26 true (.t 1))⟩,⟨some 4, none, .h (.call (.f 20) [.t 3])⟩,⟨some 2, none, .p (.mv (.t 4))⟩] [2])
  .ret)) }
theorem a7_ok : okFn Tryz.prog 7 a7 = true := by kernel_rfl
/-- loop.example/g01215/impl.ExecuteCommand -/
def a8 : AFn := { np := 2, nt := 46, res := [.cell 4 29 true, .t 5], body :=
 (.seq (.region [⟨some 2, none, .p (.box 29 (.t 0))⟩,⟨some 4, none, .p (.alloc [.k (C.int .i64 0), .k (C.int .i64 0), .k (C.int .i64 0), .k (C.int .i64 0), .k (C.int .i64 0), .k (C.int .i64 0), .k (C.int .i64 0), .k (C.int .i64 0), .k (C.int .i64 0), .k (C.int .i64 0), .k (C.int .i64 0), .k (C.int .i64 0), .k (C.int .i64 0), .k (C.int .i64 0), .k (C.int .i64 0), .k (C.int .i64 0), .k (C.int .i64 0), .k (C.int .i64 0), .k (C.int .i64 0), .k (C.int .i64 0), .k (C.int .i64 0), .k (C.int .i64 0), .k (C.int .i64 0), .k (C.int .i64 0), .k (C.int .i64 0), .k (C.int .i64 0), .k (C.str []), .k (C.str []), .k (C.int .i64 0)])⟩,⟨some 5, none, .p (.mv (.k (.c (C.str []))))⟩] [1, 2, 4])
 (.seq (.block 0 (.seq (.region [⟨some 11, none, .h (.load 29 true (.t 2))⟩,⟨some 12, none, .h (.call (.f 21) [.t 11])⟩,⟨some 13, none, .p (.un .not (.t 12))⟩,⟨some 10, none, .p (.mv (.t 13))⟩] [1, 2, 4, 10])
 (.cond (.t 10)
 (.seq (.region [⟨some 14, none, .h (.load 29 true (.t 2))⟩,⟨none, none, .h (.store 29 (.t 4) (.t 14))⟩,⟨some 5, none, .p (.mv (.k (.c (C.str [110, 111]))))⟩] [4, 5])
  .ret)
 (.seq (.region [⟨some 16, none, .p (.mv (.t 1))⟩,⟨some 17, none, .h (.call (.f 22) [.t 16])⟩,⟨some 18, none, .p (.un .not (.t 17))⟩,⟨some 15, none, .p (.mv (.t 18))⟩] [1, 2, 4, 15])
 (.cond (.t 15)
 (.seq (.region [⟨some 19, none, .h (.load 29 true (.t 2))⟩,⟨none, none, .h (.store 29 (.t 4) (.t 19))⟩,⟨some 5, none, .p (.mv (.k (.c (C.str [98, 97, 100]))))⟩] [4, 5])
  .ret)
 (.seq (.region [⟨some 21, none, .p (.fld 26 (.t 2))⟩,⟨some 22, none, .p (.fld 2 (.t 21))⟩,⟨some 23, none, .h (.load 1 false (.t 22))⟩,⟨some 24, none, .p (.bin .eql (.t 23) (.k (.c (C.int .i64 60))))⟩,⟨some 20, none, .p (.mv (.t 24))⟩] [1, 2, 4, 20])
 (.cond (.t 20)
 (.seq (.region [⟨some 25, none, .h (.load 29 true (.t 2))⟩,⟨none, none, .h (.store 29 (.t 4) (.t 25))⟩,⟨some 5, none, .p (.mv (.k (.c (C.str [102, 117, 108, 108]))))⟩] [4, 5])
  .ret)
  .skip)))))))
 (.seq (.region [⟨some 27, none, .p (.fld 0 (.t 2))⟩,⟨some 28, none, .h (.load 26 true (.t 27))⟩,⟨some 29, none, .p (.mv (.t 1))⟩,⟨some 30, none, .h (.call (.f 23) [.t 28, .t 29])⟩,⟨some 26, none, .p (.mv (.t 30))⟩,⟨some 31, none, .p (.ext (.t 26) 0)⟩,⟨some 32, none, .p (.ext (.t 26) 1)⟩,⟨some 6, none, .p (.alloc (List.replicate 26 (.k (C.int .i64 0))))⟩,⟨none, none, .h (.store 26 (.t 6) (.t 31))⟩,⟨some 7, none, .p (.mv (.t 32))⟩] [1, 2, 4, 6, 7])
 (.seq (.region [⟨some 34, none, .p (.fld 26 (.t 2))⟩,⟨some 35, none, .h (.load 3 true (.t 34))⟩,⟨some 36, none, .p (.mv (.t 1))⟩,⟨some 37, none, .p (.mv (.t 7))⟩,⟨some 38, none, .p (.build [.k (C.str []), .k (C.str [])] [(0, 1, .t 36), (1, 1, .t 37)])⟩,⟨some 39, none, .h (.call (.f 24) [.t 35, .t 38])⟩,⟨some 33, none, .p (.mv (.t 39))⟩,⟨some 40, none, .p (.ext (.t 33) 0)⟩,⟨some 41, none, .p (.ext (.t 33) 1)⟩,⟨some 8, none, .p (.alloc [.k (C.str []), .k (C.str []), .k (C.int .i64 0)])⟩,⟨none, none, .h (.store 3 (.t 8) (.t 40))⟩,⟨some 9, none, .p (.mv (.t 41))⟩] [4, 6, 7, 8])
 (.seq (.region [⟨some 42, none, .h (.load 26 true (.t 6))⟩,⟨some 43, none, .h (.load 3 true (.t 8))⟩,⟨some 44, none, .p (.build [.k (C.int .i64 0), .k (C.int .i64 0), .k (C.int .i64 0), .k (C.int .i64 0), .k (C.int .i64 0), .k (C.int .i64 0), .k (C.int .i64 0), .k (C.int .i64 0), .k (C.int .i64 0), .k (C.int .i64 0), .k (C.int .i64 0), .k (C.int .i64 0), .k (C.int .i64 0), .k (C.int .i64 0), .k (C.int .i64 0), .k (C.int .i64 0), .k (C.int .i64 0), .k (C.int .i64 0), .k (C.int .i64 0), .k (C.int .i64 0), .k (C.int .i64 0), .k (C.int .i64 0), .k (C.int .i64 0), .k (C.int .i64 0), .k (C.int .i64 0), .k (C.int .i64 0), .k (C.str []), .k (C.str []), .k (C.int .i64 0)] [(0, 26, .t 42), (26, 3, .t 43)])⟩,⟨some 45, none, .p (.mv (.t 7))⟩,⟨none, none, .h (.store 29 (.t 4) (.t 44))⟩,⟨some 5, none, .p (.mv (.t 45))⟩] [4, 5])
  .ret))))) }
theorem a8_ok : okFn Tryz.prog 8 a8 = true := by kernel_rfl
/-- loop.example/g01215/impl.RackText -/
def a9 : AFn := { np := 1, nt := 9, res := [.t 2, .t 3], body :=
 (.seq (.region [⟨some 1, none, .p (.box 24 (.t 0))⟩,⟨some 2, none, .p (.mv (.k (.c (C.str []))))⟩,⟨some 3, none, .p (.mv (.k (.c (C.bool false))))⟩] [1])
 (.seq (.seq (.region [⟨some 4, none, .h (.load 24 true (.t 1))⟩,⟨some 5, none, .h (.call (.f 25) [.t 4])⟩,⟨some 6, none, .p (.un .not (.t 5))⟩] [1, 6])
 (.cond (.t 6)
 (.seq (.region [⟨some 2, none, .p (.mv (.k (.c (C.str []))))⟩,⟨some 3, none, .p (.mv (.k (.c (C.bool false))))⟩] [2, 3])
  .ret)
  .skip))
 (.seq (.region [⟨some 7, none, .h (.load 24 true (.t 1))⟩,⟨some 8, none, .h (.call (.f 26) [.t 7])⟩,⟨some 2, none, .p (.mv (.t 8))⟩,⟨some 3, none, .p (.mv (.k (.c (C.bool true))))⟩] [2, 3])
  .ret))) }
theorem a9_ok : okFn Tryz.prog 9 a9 = true := by kernel_rfl
/-- loop.example/g01215/impl.UsefulPours -/
def a10 : AFn := { np := 1, nt := 9, res := [.t 2, .t 3], body :=
 (.seq (.region [⟨some 1, none, .p (.box 24 (.t 0))⟩,⟨some 2, none, .p (.nilsl 2)⟩,⟨some 3, none, .p (.mv (.k (.c (C.bool false))))⟩] [1])
 (.seq (.seq (.region [⟨some 4, none, .h (.load 24 true (.t 1))⟩,⟨some 5, none, .h (.call (.f 25) [.t 4])⟩,⟨some 6, none, .p (.un .not (.t 5))⟩] [1, 6])
 (.cond (.t 6)
 (.seq (.region [⟨some 2, none, .p (.nilsl 2)⟩,⟨some 3, none, .p (.mv (.k (.c (C.bool false))))⟩] [2, 3])
  .ret)
  .skip))
 (.seq (.region [⟨some 7, none, .h (.load 24 true (.t 1))⟩,⟨some 8, none, .h (.call (.f 27) [.t 7])⟩,⟨some 2, none, .p (.mv (.t 8))⟩,⟨some 3, none, .p (.mv (.k (.c (C.bool true))))⟩] [2, 3])
  .ret))) }
theorem a10_ok : okFn Tryz.prog 10 a10 = true := by kernel_rfl
/-- loop.example/g01215/impl.FewestPours -/
def a11 : AFn := { np := 1, nt := 20, res := [.t 2, .t 3], body :=
 (.seq (.region [⟨some 1, none, .p (.box 24 (.t 0))⟩,⟨some 2, none, .p (.mv (.k (.c (C.int .i64 0))))⟩,⟨some 3, none, .p (.mv (.k (.c (C.bool false))))⟩] [1])
 (.seq (.region [⟨some 7, none, .h (.load 24 true (.t 1))⟩,⟨some 8, none, .h (.call (.f 28) [.t 7])⟩,⟨some 6, none, .p (.mv (.t 8))⟩,⟨some 9, none, .p (.ext (.t 6) 0)⟩,⟨some 10, none, .p (.ext (.t 6) 1)⟩,⟨some 4, none, .p (.mv (.t 9))⟩,⟨some 5, none, .p (.mv (.t 10))⟩] [4, 5])
 (.seq (.seq (.region [⟨some 11, none, .p (.mv (.t 5))⟩,⟨some 12, none, .p (.un .not (.t 11))⟩] [4, 12])
 (.cond (.t 12)
 (.seq (.region [⟨some 2, none, .p (.mv (.k (.c (C.int .i64 0))))⟩,⟨some 3, none, .p (.mv (.k (.c (C.bool false))))⟩] [2, 3])
  .ret)
  .skip))
 (.seq (.region [⟨some 13, none, .p (.mv (.t 4))⟩,⟨some 14, none, .p (.nn (.t 13))⟩,⟨some 15, none, .p (.fld 0 (.t 14))⟩,⟨some 16, none, .h (.load 1 false (.t 15))⟩,⟨some 17, none, .p (.nn (.t 16))⟩,⟨some 18, none, .p (.fld 2 (.t 17))⟩,⟨some 19, none, .h (.load 1 false (.t 18))⟩,⟨some 2, none, .p (.mv (.t 19))⟩,⟨some 3, none, .p (.mv (.k (.c (C.bool true))))⟩] [2, 3])
  .ret)))) }
theorem a11_ok : okFn Tryz.prog 11 a11 = true := by kernel_rfl
/-- loop.example/g01215/impl.FirstWay -/
def a12 : AFn := { np := 1, nt := 47, res := [.t 2, .t 3], body :=
 (.seq (.region [⟨some 1, none, .p (.box 24 (.t 0))⟩,⟨some 2, none, .p (.nilsl 2)⟩,⟨some 3, none, .p (.mv (.k (.c (C.bool false))))⟩] [1])
 (.seq (.region [⟨some 10, none, .h (.load 24 true (.t 1))⟩,⟨some 11, none, .h (.call (.f 28) [.t 10])⟩,⟨some 9, none, .p (.mv (.t 11))⟩,⟨some 12, none, .p (.ext (.t 9) 0)⟩,⟨some 13, none, .p (.ext (.t 9) 1)⟩,⟨some 4, none, .p (.mv (.t 12))⟩,⟨some 5, none, .p (.mv (.t 13))⟩] [1, 4, 5])
 (.seq (.seq (.region [⟨some 14, none, .p (.mv (.t 5))⟩,⟨some 15, none, .p (.un .not (.t 14))⟩] [1, 4, 15])
 (.cond (.t 15)
 (.seq (.region [⟨some 2, none, .p (.nilsl 2)⟩,⟨some 3, none, .p (.mv (.k (.c (C.bool false))))⟩] [2, 3])
  .ret)
  .skip))
 (.seq (.region [⟨some 6, none, .p (.nilsl 2)⟩] [1, 4, 6])
 (.seq (.seq (.region [⟨some 16, none, .p (.mv (.t 4))⟩,⟨some 17, none, .p (.nn (.t 16))⟩,⟨some 18, none, .p (.fld 0 (.t 17))⟩,⟨some 19, none, .h (.load 1 false (.t 18))⟩,⟨some 20, none, .p (.nn (.t 19))⟩,⟨some 21, none, .p (.fld 2 (.t 20))⟩,⟨some 22, none, .h (.load 1 false (.t 21))⟩,⟨some 23, none, .p (.mv (.k (.c (C.int .i64 0))))⟩] [1, 4, 6, 22, 23])
 (.block 0 (.loop (.seq (.region [⟨some 24, none, .p (.bin .lss (.t 23) (.t 22))⟩] [1, 4, 6, 22, 23, 24])
 (.seq (.cond (.t 24)
  .skip
 (.exit 0))
 (.seq (.block 1 (.seq (.region [⟨some 25, none, .p (.mv (.t 23))⟩,⟨some 7, none, .p (.mv (.t 25))⟩] [1, 4, 6, 7, 22, 23])
 (.seq (.region [⟨some 26, none, .p (.mv (.t 4))⟩,⟨some 27, none, .h (.load 24 true (.t 1))⟩,⟨some 28, none, .p (.mv (.t 7))⟩,⟨some 29, none, .h (.call (.f 29) [.t 26, .t 27, .t 28])⟩,⟨some 30, none, .p (.ixS 2 (.t 29) (.k (.c (C.int .i64 0))))⟩,⟨some 31, none, .h (.load 2 true (.t 30))⟩,⟨some 8, none, .p (.alloc [.k (C.int .i64 0), .k (C.int .i64 0)])⟩,⟨none, none, .h (.store 2 (.t 8) (.t 31))⟩] [1, 4, 6, 8, 22, 23])
 (.seq (.region [⟨some 32, none, .p (.mv (.t 6))⟩,⟨some 33, none, .h (.load 2 true (.t 8))⟩,⟨some 34, none, .p (.mksl 2 1 [.k (C.int .i64 0), .k (C.int .i64 0)] [(0, 2, .t 33)])⟩,⟨some 35, none, .h (.app 2 (.t 32) (.t 34))⟩,⟨some 6, none, .p (.mv (.t 35))⟩] [1, 4, 6, 8, 22, 23])
 (.region [⟨some 37, none, .h (.load 24 true (.t 1))⟩,⟨some 38, none, .p (.ixA 2 1 (.t 8) (.k (.c (C.int .i64 0))))⟩,⟨some 39, none, .h (.load 1 false (.t 38))⟩,⟨some 40, none, .p (.ixA 2 1 (.t 8) (.k (.c (C.int .i64 1))))⟩,⟨some 41, none, .h (.load 1 false (.t 40))⟩,⟨some 42, none, .h (.call (.f 30) [.t 37, .t 39, .t 41])⟩,⟨some 36, none, .p (.mv (.t 42))⟩,⟨some 43, none, .p (.ext (.t 36) 0)⟩,⟨some 44, none, .p (.ext (.t 36) 1)⟩,⟨none, none, .h (.store 24 (.t 1) (.t 43))⟩] [1, 4, 6, 22, 23])))))
 (.region [⟨some 45, none, .p (.bin .add (.t 23) (.k (.c (C.int .i64 1))))⟩,⟨some 23, none, .p (.mv (.t 45))⟩] [1, 4, 6, 22, 23])))) [1, 4, 6, 22, 23])))
 (.seq (.region [⟨some 46, none, .p (.mv (.t 6))⟩,⟨some 2, none, .p (.mv (.t 46))⟩,⟨some 3, none, .p (.mv (.k (.c (C.bool true))))⟩] [2, 3])
  .ret)))))) }
theorem a12_ok : okFn Tryz.prog 12 a12 = true := by kernel_rfl
/-- loop.example/g01215/impl.ViewOf -/
def a13 : AFn := { np := 1, nt := 10, res := [.cell 2 18 true, .t 3], body :=
 (.seq (.region [⟨some 1, none, .p (.box 24 (.t 0))⟩,⟨some 2, none, .p (.alloc (List.replicate 18 (.k (C.int .i64 0))))⟩,⟨some 3, none, .p (.mv (.k (.c (C.bool false))))⟩] [1, 2])
 (.seq (.seq (.region [⟨some 4, none, .h (.load 24 true (.t 1))⟩,⟨some 5, none, .h (.call (.f 25) [.t 4])⟩,⟨some 6, none, .p (.un .not (.t 5))⟩] [1, 2, 6])
 (.cond (.t 6)
 (.seq (.region [⟨some 7, none, .p (.build (List.replicate 18 (.k (C.int .i64 0))) [])⟩,⟨none, none, .h (.store 18 (.t 2) (.t 7))⟩,⟨some 3, none, .p (.mv (.k (.c (C.bool false))))⟩] [2, 3])
  .ret)
  .skip))
 (.seq (.region [⟨some 8, none, .h (.load 24 true (.t 1))⟩,⟨some 9, none, .h (.call (.f 31) [.t 8])⟩,⟨none, none, .h (.store 18 (.t 2) (.t 9))⟩,⟨some 3, none, .p (.mv (.k (.c (C.bool true))))⟩] [2, 3])
  .ret))) }
theorem a13_ok : okFn Tryz.prog 13 a13 = true := by kernel_rfl
/-- loop.example/g01215/impl.CertainPours -/
def a14 : AFn := { np := 1, nt := 35, res := [.t 2, .t 3], body :=
 (.seq (.region [⟨some 1, none, .p (.box 18 (.t 0))⟩,⟨some 2, none, .p (.nilsl 2)⟩,⟨some 3, none, .p (.mv (.k (.c (C.bool false))))⟩] [1])
 (.seq (.seq (.region [⟨some 7, none, .h (.load 18 true (.t 1))⟩,⟨some 8, none, .h (.call (.f 32) [.t 7])⟩,⟨some 9, none, .p (.un .not (.t 8))⟩] [1, 9])
 (.cond (.t 9)
 (.seq (.region [⟨some 2, none, .p (.nilsl 2)⟩,⟨some 3, none, .p (.mv (.k (.c (C.bool false))))⟩] [2, 3])
  .ret)
  .skip))
 (.seq (.region [⟨some 4, none, .p (.nilsl 2)⟩] [1, 4])
 (.seq (.seq (.region [⟨some 10, none, .p (.mv (.k (.c (C.int .i64 0))))⟩] [1, 4, 10])
 (.block 0 (.loop (.seq (.region [⟨some 11, none, .p (.bin .lss (.t 10) (.k (.c (C.int .i64 6))))⟩] [1, 4, 10, 11])
 (.seq (.cond (.t 11)
  .skip
 (.exit 0))
 (.seq (.block 1 (.seq (.region [⟨some 12, none, .p (.mv (.t 10))⟩,⟨some 5, none, .p (.mv (.t 12))⟩] [1, 4, 5, 10])
 (.seq (.region [⟨some 13, none, .p (.mv (.k (.c (C.int .i64 0))))⟩] [1, 4, 5, 10, 13])
 (.block 2 (.loop (.seq (.region [⟨some 14, none, .p (.bin .lss (.t 13) (.k (.c (C.int .i64 6))))⟩] [1, 4, 5, 10, 13, 14])
 (.seq (.cond (.t 14)
  .skip
 (.exit 2))
 (.seq (.block 3 (.seq (.region [⟨some 15, none, .p (.mv (.t 13))⟩,⟨some 6, none, .p (.mv (.t 15))⟩] [1, 4, 5, 6, 10, 13])
 (.seq (.region [⟨some 16, none, .h (.load 18 true (.t 1))⟩,⟨some 17, none, .p (.mv (.t 5))⟩,⟨some 18, none, .p (.mv (.t 6))⟩,⟨some 19, none, .h (.call (.f 33) [.t 16, .t 17, .t 18])⟩,⟨some 20, none, .p (.mv (.t 19))⟩,⟨some 21, some (20, true), .h (.load 18 true (.t 1))⟩,⟨some 22, some (20, true), .p (.mv (.t 5))⟩,⟨some 23, some (20, true), .p (.mv (.t 6))⟩,⟨some 24, some (20, true), .h (.call (.f 34) [.t 21, .t 22, .t 23])⟩,⟨some 25, none, .p (.pick (.t 20) (.t 24) (.k (.c (C.bool false))))⟩] [1, 4, 5, 6, 10, 13, 25])
 (.cond (.t 25)
 (.region [⟨some 26, none, .p (.mv (.t 4))⟩,⟨some 27, none, .p (.mv (.t 5))⟩,⟨some 28, none, .p (.mv (.t 6))⟩,⟨some 29, none, .p (.build [.k (C.int .i64 0), .k (C.int .i64 0)] [(0, 1, .t 27), (1, 1, .t 28)])⟩,⟨some 30, none, .p (.mksl 2 1 [.k (C.int .i64 0), .k (C.int .i64 0)] [(0, 2, .t 29)])⟩,⟨some 31, none, .h (.app 2 (.t 26) (.t 30))⟩,⟨some 4, none, .p (.mv (.t 31))⟩] [1, 4, 5, 10, 13])
  .skip))))
 (.region [⟨some 32, none, .p (.bin .add (.t 13) (.k (.c (C.int .i64 1))))⟩,⟨some 13, none, .p (.mv (.t 32))⟩] [1, 4, 5, 10, 13])))) [1, 4, 5, 10, 13])))))
 (.region [⟨some 33, none, .p (.bin .add (.t 10) (.k (.c (C.int .i64 1))))⟩,⟨some 10, none, .p (.mv (.t 33))⟩] [1, 4, 10])))) [1, 4, 10])))
 (.seq (.region [⟨some 34, none, .p (.mv (.t 4))⟩,⟨some 2, none, .p (.mv (.t 34))⟩,⟨some 3, none, .p (.mv (.k (.c (C.bool true))))⟩] [2, 3])
  .ret))))) }
theorem a14_ok : okFn Tryz.prog 14 a14 = true := by kernel_rfl
/-- loop.example/g01215/impl.RunsLeft -/
def a15 : AFn := { np := 1, nt := 12, res := [.t 2, .t 3], body :=
 (.seq (.region [⟨some 1, none, .p (.box 26 (.t 0))⟩,⟨some 2, none, .p (.mv (.k (.c (C.int .i64 0))))⟩,⟨some 3, none, .p (.mv (.k (.c (C.bool false))))⟩] [1])
 (.seq (.seq (.region [⟨some 4, none, .h (.load 26 true (.t 1))⟩,⟨some 5, none, .h (.call (.f 19) [.t 4])⟩,⟨some 6, none, .p (.un .not (.t 5))⟩] [1, 6])
 (.cond (.t 6)
 (.seq (.region [⟨some 2, none, .p (.mv (.k (.c (C.int .i64 0))))⟩,⟨some 3, none, .p (.mv (.k (.c (C.bool false))))⟩] [2, 3])
  .ret)
  .skip))
 (.seq (.region [⟨some 7, none, .p (.fld 0 (.t 1))⟩,⟨some 8, none, .h (.load 24 true (.t 7))⟩,⟨some 9, none, .h (.call (.f 35) [.t 8])⟩,⟨some 10, none, .p (.ext (.t 9) 0)⟩,⟨some 11, none, .p (.ext (.t 9) 1)⟩,⟨some 2, none, .p (.mv (.t 10))⟩,⟨some 3, none, .p (.mv (.t 11))⟩] [2, 3])
  .ret))) }
theorem a15_ok : okFn Tryz.prog 15 a15 = true := by kernel_rfl
/-- loop.example/g01215/laws.vPourText -/
def a16 : AFn := { np := 2, nt := 44, res := [.t 4], body :=
 (.seq (.region [⟨some 4, none, .p (.mv (.k (.c (C.str []))))⟩] [0, 1])
 (.seq (.seq (.region [⟨some 9, none, .p (.mv (.t 1))⟩,⟨some 10, none, .p (.un .not (.t 9))⟩] [0, 10])
 (.cond (.t 10)
 (.seq (.region [⟨some 4, none, .p (.mv (.k (.c (C.str [63]))))⟩] [4])
  .ret)
  .skip))
 (.seq (.region [⟨some 11, none, .p (.mksl 1 0 [.k (C.str [])] [])⟩,⟨some 5, none, .p (.mv (.t 11))⟩] [0, 5])
 (.seq (.seq (.region [⟨some 6, none, .p (.mv (.k (.c (C.int .i64 0))))⟩] [0, 5, 6])
 (.block 0 (.loop (.seq (.seq (.region [⟨some 12, none, .p (.mv (.t 6))⟩,⟨some 13, none, .p (.mv (.t 0))⟩,⟨some 14, none, .p (.len (.t 13))⟩,⟨some 15, none, .p (.bin .lss (.t 12) (.t 14))⟩] [0, 5, 6, 15])
 (.cond (.t 15)
  .skip
 (.exit 0)))
 (.seq (.block 1 (.regionD [⟨some 18, none, .p (.mv (.t 5))⟩,⟨some 19, none, .p (.mv (.t 0))⟩,⟨some 20, none, .p (.mv (.t 6))⟩,⟨some 21, none, .p (.ixS 2 (.t 19) (.t 20))⟩,⟨some 22, none, .p (.ixA 2 1 (.t 21) (.k (.c (C.int .i64 0))))⟩,⟨some 23, none, .h (.load 1 false (.t 22))⟩,⟨some 24, none, .h (.call (.f 17) [.t 23, .k (.c (C.bool true))])⟩,⟨some 25, none, .p (.bin .add (.t 24) (.k (.c (C.str [62]))))⟩,⟨some 26, none, .p (.mv (.t 0))⟩,⟨some 27, none, .p (.mv (.t 6))⟩,⟨some 28, none, .p (.ixS 2 (.t 26) (.t 27))⟩,⟨some 29, none, .p (.ixA 2 1 (.t 28) (.k (.c (C.int .i64 1))))⟩,⟨some 30, none, .h (.load 1 false (.t 29))⟩,⟨some 31, none, .h (.call (.f 17) [.t 30, .k (.c (C.bool true))])⟩,⟨some 32, none, .p (.bin .add (.t 25) (.t 31))⟩,⟨some 33, none, .p (.mksl 1 1 [.k (C.str [])] [(0, 1, .t 32)])⟩,⟨some 34, none, .h (.app 1 (.t 18) (.t 33))⟩,⟨some 5, none, .p (.mv (.t 34))⟩] [0, 5, 6] []))
 (.region [⟨some 16, none, .p (.mv (.t 6))⟩,⟨some 17, none, .p (.bin .add (.t 16) (.k (.c (C.int .i64 1))))⟩,⟨some 6, none, .p (.mv (.t 17))⟩] [0, 5, 6]))) [0, 5, 6])))
 (.seq (.seq (.region [⟨some 35, none, .p (.mv (.t 5))⟩,⟨some 36, none, .p (.len (.t 35))⟩,⟨some 37, none, .p (.bin .eql (.t 36) (.k (.c (C.int .i64 0))))⟩] [5, 37])
 (.cond (.t 37)
 (.seq (.region [⟨some 4, none, .p (.mv (.k (.c (C.str [110, 111, 110, 101]))))⟩] [4])
  .ret)
  .skip))
 (.seq (.region [⟨some 39, none, .p (.mv (.t 5))⟩,⟨some 40, none, .h (.call (.f 36) [.t 39, .k (.c (C.str [32]))])⟩,⟨some 38, none, .p (.mv (.t 40))⟩,⟨some 41, none, .p (.ext (.t 38) 0)⟩,⟨some 42, none, .p (.ext (.t 38) 1)⟩,⟨some 7, none, .p (.mv (.t 41))⟩,⟨some 8, none, .p (.mv (.t 42))⟩] [7])
 (.seq (.region [⟨some 43, none, .p (.mv (.t 7))⟩,⟨some 4, none, .p (.mv (.t 43))⟩] [4])
  .ret))))))) }
theorem a16_ok : okFn Tryz.prog 16 a16 = true := by kernel_rfl
/-- loop.example/g01215/laws.vWord -/
def a17 : AFn := { np := 2, nt := 15, res := [.t 4], body :=
 (.seq (.region [⟨some 4, none, .p (.mv (.k (.c (C.str []))))⟩] [0, 1])
 (.seq (.seq (.region [⟨some 7, none, .p (.mv (.t 1))⟩,⟨some 8, none, .p (.un .not (.t 7))⟩] [0, 8])
 (.cond (.t 8)
 (.seq (.region [⟨some 4, none, .p (.mv (.k (.c (C.str [63]))))⟩] [4])
  .ret)
  .skip))
 (.seq (.region [⟨some 10, none, .p (.mv (.t 0))⟩,⟨some 11, none, .h (.call (.f 37) [.t 10])⟩,⟨some 9, none, .p (.mv (.t 11))⟩,⟨some 12, none, .p (.ext (.t 9) 0)⟩,⟨some 13, none, .p (.ext (.t 9) 1)⟩,⟨some 5, none, .p (.mv (.t 12))⟩,⟨some 6, none, .p (.mv (.t 13))⟩] [5])
 (.seq (.region [⟨some 14, none, .p (.mv (.t 5))⟩,⟨some 4, none, .p (.mv (.t 14))⟩] [4])
  .ret)))) }
theorem a17_ok : okFn Tryz.prog 17 a17 = true := by kernel_rfl
/-- (*loop.example/g01215/spec.l1Cur).bar -/
def a18 : AFn := { np := 1, nt := 57, res := [.cell 2 26 true], body :=
 (.seq (.region [⟨some 2, none, .p (.alloc (List.replicate 26 (.k (C.int .i64 0))))⟩] [0, 2])
 (.seq (.region [⟨some 9, none, .p (.mv (.t 0))⟩,⟨some 10, none, .h (.call (.f 39) [.t 9])⟩,⟨some 11, none, .h (.call (.f 38) [.t 10])⟩,⟨some 8, none, .p (.mv (.t 11))⟩,⟨some 12, none, .p (.ext (.t 8) 0)⟩,⟨some 13, none, .p (.ext (.t 8) 1)⟩,⟨some 3, none, .p (.alloc (List.replicate 26 (.k (C.int .i64 0))))⟩,⟨none, none, .h (.store 26 (.t 3) (.t 12))⟩,⟨some 4, none, .p (.mv (.t 13))⟩] [0, 2, 3, 4])
 (.seq (.seq (.region [⟨some 14, none, .p (.mv (.t 0))⟩,⟨some 15, none, .h (.call (.f 40) [.t 14, .k (.c (C.int .i64 6))])⟩,⟨some 5, none, .p (.mv (.t 15))⟩] [0, 2, 3, 4, 5])
 (.block 0 (.loop (.seq (.seq (.region [⟨some 16, none, .p (.mv (.t 5))⟩,⟨some 17, none, .p (.bin .gtr (.t 16) (.k (.c (C.int .i64 0))))⟩,⟨some 18, none, .p (.mv (.t 17))⟩,⟨some 19, some (18, true), .p (.mv (.t 4))⟩,⟨some 20, none, .p (.pick (.t 18) (.t 19) (.k (.c (C.bool false))))⟩] [0, 2, 3, 4, 5, 20])
 (.cond (.t 20)
  .skip
 (.exit 0)))
 (.seq (.block 1 (.seq (.regionE [⟨some 24, none, .h (.load 26 true (.t 3))⟩,⟨some 25, none, .p (.mv (.t 0))⟩,⟨some 26, none, .p (.fld 0 (.t 3))⟩,⟨some 27, none, .h (.load 24 true (.t 26))⟩,⟨some 28, none, .h (.call (.f 42) [.t 25, .t 27])⟩,⟨some 29, none, .h (.call (.f 41) [.t 24, .t 28])⟩,⟨some 23, none, .p (.mv (.t 29))⟩,⟨some 30, none, .p (.ext (.t 23) 0)⟩,⟨some 31, none, .p (.ext (.t 23) 1)⟩,⟨some 6, none, .p (.alloc (List.replicate 26 (.k (C.int .i64 0))))⟩,⟨none, none, .h (.store 26 (.t 6) (.t 30))⟩,⟨some 7, none, .p (.mv (.t 31))⟩] [0, 2, 3, 4, 5, 6, 7] [] [[], [], [], [], [4, 1000003], [4]])
 (.seq (.region [⟨some 32, none, .p (.mv (.t 7))⟩] [0, 2, 3, 4, 5, 6, 32])
 (.cond (.t 32)
 (.region [⟨some 33, none, .h (.load 26 true (.t 6))⟩,⟨none, none, .h (.store 26 (.t 3) (.t 33))⟩] [0, 2, 3, 4, 5])
  .skip))))
 (.region [⟨some 21, none, .p (.mv (.t 5))⟩,⟨some 22, none, .p (.bin .sub (.t 21) (.k (.c (C.int .i64 1))))⟩,⟨some 5, none, .p (.mv (.t 22))⟩] [0, 2, 3, 4, 5]))) [0, 2, 3, 4, 5])))
 (.seq (.seq (.region [⟨some 34, none, .p (.mv (.t 0))⟩,⟨some 35, none, .h (.call (.f 40) [.t 34, .k (.c (C.int .i64 48))])⟩] [0, 2, 3, 35])
 (.block 2 (.seq (.region [⟨some 37, none, .p (.bin .eql (.t 35) (.k (.c (C.int .i64 0))))⟩,⟨some 36, none, .p (.mv (.t 37))⟩] [0, 2, 3, 35, 36])
 (.cond (.t 36)
 (.region [⟨some 38, none, .p (.mv (.t 0))⟩,⟨some 39, none, .p (.mksl 1 3 [.k (C.int .i64 0)] [(0, 1, .k (.c (C.int .i64 (-1)))), (1, 1, .k (.c (C.int .i64 1000))), (2, 1, .k (.c (C.int .i64 1001)))])⟩,⟨some 40, none, .h (.call (.f 43) [.t 38, .t 39])⟩,⟨some 41, none, .p (.fld 25 (.t 3))⟩,⟨none, none, .h (.store 1 (.t 41) (.t 40))⟩] [2, 3])
 (.seq (.region [⟨some 43, none, .p (.bin .eql (.t 35) (.k (.c (C.int .i64 1))))⟩,⟨some 42, none, .p (.mv (.t 43))⟩] [0, 2, 3, 35, 42])
 (.cond (.t 42)
 (.region [⟨some 44, none, .p (.mv (.t 0))⟩,⟨some 45, none, .p (.mksl 1 4 [.k (C.int .i64 0)] [(0, 1, .k (.c (C.int .i64 (-1)))), (1, 1, .k (.c (C.int .i64 9999))), (2, 1, .k (.c (C.int .i64 10000))), (3, 1, .k (.c (C.int .i64 1)))])⟩,⟨some 46, none, .h (.call (.f 43) [.t 44, .t 45])⟩,⟨some 47, none, .p (.fld 24 (.t 3))⟩,⟨none, none, .h (.store 1 (.t 47) (.t 46))⟩] [2, 3])
 (.seq (.region [⟨some 49, none, .p (.bin .eql (.t 35) (.k (.c (C.int .i64 2))))⟩,⟨some 48, none, .p (.mv (.t 49))⟩] [0, 2, 3, 48])
 (.cond (.t 48)
 (.region [⟨some 50, none, .p (.mv (.t 0))⟩,⟨some 51, none, .h (.call (.f 40) [.t 50, .k (.c (C.int .i64 6))])⟩,⟨some 52, none, .p (.build [.k (C.int .i64 0), .k (C.int .i64 0), .k (C.int .i64 0), .k (C.int .i64 0)] [(0, 1, .k (.c (C.int .i64 0))), (1, 1, .k (.c (C.int .i64 0))), (2, 1, .k (.c (C.int .i64 1))), (3, 1, .k (.c (C.int .i64 0)))])⟩,⟨some 53, none, .p (.fld 0 (.t 3))⟩,⟨some 54, none, .p (.fld 0 (.t 53))⟩,⟨some 55, none, .p (.ixA 6 4 (.t 54) (.t 51))⟩,⟨none, none, .h (.store 4 (.t 55) (.t 52))⟩] [2, 3])
  .skip))))))))
 (.seq (.region [⟨some 56, none, .h (.load 26 true (.t 3))⟩,⟨none, none, .h (.store 26 (.t 2) (.t 56))⟩] [2])
  .ret))))) }
theorem a18_ok : okFn Tryz.prog 18 a18 = true := by kernel_rfl
/-- loop.example/g01215/impl.IsBar -/
def a19 : AFn := { np := 1, nt := 16, res := [.t 2], body :=
 (.seq (.region [⟨some 1, none, .p (.box 26 (.t 0))⟩,⟨some 2, none, .p (.mv (.k (.c (C.bool false))))⟩] [1])
 (.seq (.region [⟨some 3, none, .p (.fld 0 (.t 1))⟩,⟨some 4, none, .h (.load 24 true (.t 3))⟩,⟨some 5, none, .h (.call (.f 25) [.t 4])⟩,⟨some 6, none, .p (.mv (.t 5))⟩,⟨some 7, some (6, true), .p (.fld 24 (.t 1))⟩,⟨some 8, some (6, true), .h (.load 1 false (.t 7))⟩,⟨some 9, some (6, true), .h (.call (.f 44) [.t 8, .k (.c (C.int .i64 0)), .k (.c (C.int .i64 9999))])⟩,⟨some 10, none, .p (.pick (.t 6) (.t 9) (.k (.c (C.bool false))))⟩,⟨some 11, none, .p (.mv (.t 10))⟩,⟨some 12, some (11, true), .p (.fld 25 (.t 1))⟩,⟨some 13, some (11, true), .h (.load 1 false (.t 12))⟩,⟨some 14, some (11, true), .h (.call (.f 44) [.t 13, .k (.c (C.int .i64 0)), .k (.c (C.int .i64 1000))])⟩,⟨some 15, none, .p (.pick (.t 11) (.t 14) (.k (.c (C.bool false))))⟩,⟨some 2, none, .p (.mv (.t 15))⟩] [2])
  .ret)) }
theorem a19_ok : okFn Tryz.prog 19 a19 = true := by kernel_rfl
/-- loop.example/g01215/spec.l12Good -/
def a20 : AFn := { np := 1, nt := 16, res := [.t 2], body :=
 (.seq (.region [⟨some 1, none, .p (.box 26 (.t 0))⟩,⟨some 2, none, .p (.mv (.k (.c (C.bool false))))⟩] [1])
 (.seq (.region [⟨some 3, none, .p (.fld 0 (.t 1))⟩,⟨some 4, none, .h (.load 24 true (.t 3))⟩,⟨some 5, none, .h (.call (.f 45) [.t 4])⟩,⟨some 6, none, .p (.mv (.t 5))⟩,⟨some 7, some (6, true), .p (.fld 24 (.t 1))⟩,⟨some 8, some (6, true), .h (.load 1 false (.t 7))⟩,⟨some 9, some (6, true), .h (.call (.f 46) [.t 8, .k (.c (C.int .i64 0)), .k (.c (C.int .i64 9999))])⟩,⟨some 10, none, .p (.pick (.t 6) (.t 9) (.k (.c (C.bool false))))⟩,⟨some 11, none, .p (.mv (.t 10))⟩,⟨some 12, some (11, true), .p (.fld 25 (.t 1))⟩,⟨some 13, some (11, true), .h (.load 1 false (.t 12))⟩,⟨some 14, some (11, true), .h (.call (.f 46) [.t 13, .k (.c (C.int .i64 0)), .k (.c (C.int .i64 1000))])⟩,⟨some 15, none, .p (.pick (.t 11) (.t 14) (.k (.c (C.bool false))))⟩,⟨some 2, none, .p (.mv (.t 15))⟩] [2])
  .ret)) }
theorem a20_ok : okFn Tryz.prog 20 a20 = true := by kernel_rfl
/-- loop.example/g01215/impl.IsValidConsole -/
def a21 : AFn := { np := 1, nt := 11, res := [.t 2], body :=
 (.seq (.region [⟨some 1, none, .p (.box 29 (.t 0))⟩,⟨some 2, none, .p (.mv (.k (.c (C.bool false))))⟩] [1])
 (.seq (.region [⟨some 3, none, .p (.fld 0 (.t 1))⟩,⟨some 4, none, .h (.load 26 true (.t 3))⟩,⟨some 5, none, .h (.call (.f 19) [.t 4])⟩,⟨some 6, none, .p (.mv (.t 5))⟩,⟨some 7, some (6, true), .p (.fld 26 (.t 1))⟩,⟨some 8, some (6, true), .h (.load 3 true (.t 7))⟩,⟨some 9, some (6, true), .h (.call (.f 47) [.t 8])⟩,⟨some 10, none, .p (.pick (.t 6) (.t 9) (.k (.c (C.bool false))))⟩,⟨some 2, none, .p (.mv (.t 10))⟩] [2])
  .ret)) }
theorem a21_ok : okFn Tryz.prog 21 a21 = true := by kernel_rfl
/-- loop.example/g01215/impl.isCommand -/
def a22 : AFn := { np := 1, nt := 15, res := [.t 2], body :=
 (.seq (.region [⟨some 2, none, .p (.mv (.k (.c (C.bool false))))⟩] [0])
 (.seq (.region [⟨some 3, none, .p (.mv (.t 0))⟩,⟨some 4, none, .p (.lenStr (.t 3))⟩,⟨some 5, none, .h (.call (.f 44) [.t 4, .k (.c (C.int .i64 1)), .k (.c (C.int .i64 160))])⟩,⟨some 6, none, .p (.mv (.t 5))⟩,⟨some 7, some (6, true), .p (.mv (.t 0))⟩,⟨some 8, some (6, true), .h (.call (.f 48) [.t 7])⟩,⟨some 9, none, .p (.pick (.t 6) (.t 8) (.k (.c (C.bool false))))⟩,⟨some 10, none, .p (.mv (.t 9))⟩,⟨some 11, some (10, true), .p (.mv (.t 0))⟩,⟨some 12, some (10, true), .h (.call (.f 49) [.t 11, .k (.c (C.str [64]))])⟩,⟨some 13, some (10, true), .p (.un .not (.t 12))⟩,⟨some 14, none, .p (.pick (.t 10) (.t 13) (.k (.c (C.bool false))))⟩,⟨some 2, none, .p (.mv (.t 14))⟩] [2])
  .ret)) }
theorem a22_ok : okFn Tryz.prog 22 a22 = true := by kernel_rfl
/-- (loop.example/g01215/impl.Bar).execute -/
def a23 : AFn := { np := 2, nt := 77, res := [.cell 4 26 true, .t 5], body :=
 (.seq (.region [⟨some 2, none, .p (.box 26 (.t 0))⟩,⟨some 4, none, .p (.alloc (List.replicate 26 (.k (C.int .i64 0))))⟩,⟨some 5, none, .p (.mv (.k (.c (C.str []))))⟩] [1, 2, 4])
 (.seq (.region [⟨some 16, none, .p (.mv (.t 1))⟩,⟨some 17, none, .h (.call (.f 50) [.t 16, .k (.c (C.str [32]))])⟩,⟨some 6, none, .p (.mv (.t 17))⟩] [2, 4, 6])
 (.seq (.region [⟨some 7, none, .p (.nilsl 1)⟩] [2, 4, 6, 7])
 (.seq (.seq (.region [⟨some 18, none, .p (.mv (.t 6))⟩,⟨some 19, none, .p (.slS 1 (.t 18) (some (.k (.c (C.int .i64 1)))) none)⟩,⟨some 20, none, .p (.len (.t 19))⟩,⟨some 21, none, .p (.mv (.k (.c (C.int .i64 0))))⟩] [2, 4, 6, 7, 19, 20, 21])
 (.block 0 (.loop (.seq (.region [⟨some 22, none, .p (.bin .lss (.t 21) (.t 20))⟩] [2, 4, 6, 7, 19, 20, 21, 22])
 (.seq (.cond (.t 22)
  .skip
 (.exit 0))
 (.seq (.block 1 (.seq (.region [⟨some 23, none, .p (.ixS 1 (.t 19) (.t 21))⟩,⟨some 24, none, .h (.load 1 false (.t 23))⟩,⟨some 9, none, .p (.mv (.t 24))⟩] [2, 4, 6, 7, 9, 19, 20, 21])
 (.seq (.region [⟨some 26, none, .p (.mv (.t 9))⟩,⟨some 27, none, .h (.call (.f 51) [.t 26])⟩,⟨some 25, none, .p (.mv (.t 27))⟩,⟨some 28, none, .p (.ext (.t 25) 0)⟩,⟨some 29, none, .p (.ext (.t 25) 1)⟩,⟨some 10, none, .p (.mv (.t 28))⟩,⟨some 11, none, .p (.mv (.t 29))⟩] [2, 4, 6, 7, 10, 11, 19, 20, 21])
 (.seq (.seq (.region [⟨some 30, none, .p (.mv (.t 11))⟩,⟨some 31, none, .p (.un .not (.t 30))⟩] [2, 4, 6, 7, 10, 19, 20, 21, 31])
 (.cond (.t 31)
 (.seq (.region [⟨some 32, none, .h (.load 26 true (.t 2))⟩,⟨none, none, .h (.store 26 (.t 4) (.t 32))⟩,⟨some 5, none, .p (.mv (.k (.c (C.str [63]))))⟩] [4, 5])
  .ret)
  .skip))
 (.region [⟨some 33, none, .p (.mv (.t 7))⟩,⟨some 34, none, .p (.mv (.t 10))⟩,⟨some 35, none, .p (.mksl 1 1 [.k (C.int .i64 0)] [(0, 1, .t 34)])⟩,⟨some 36, none, .h (.app 1 (.t 33) (.t 35))⟩,⟨some 7, none, .p (.mv (.t 36))⟩] [2, 4, 6, 7, 19, 20, 21])))))
 (.region [⟨some 37, none, .p (.bin .add (.t 21) (.k (.c (C.int .i64 1))))⟩,⟨some 21, none, .p (.mv (.t 37))⟩] [2, 4, 6, 7, 19, 20, 21])))) [2, 4, 6, 7, 19, 20, 21])))
 (.seq (.seq (.region [⟨some 39, none, .p (.mv (.t 6))⟩,⟨some 40, none, .p (.ixS 1 (.t 39) (.k (.c (C.int .i64 0))))⟩,⟨some 41, none, .h (.load 1 false (.t 40))⟩,⟨some 42, none, .p (.mv (.t 7))⟩,⟨some 43, none, .h (.call (.f 52) [.t 41, .t 42])⟩,⟨some 38, none, .p (.mv (.t 43))⟩,⟨some 44, none, .p (.ext (.t 38) 0)⟩,⟨some 45, none, .p (.ext (.t 38) 1)⟩,⟨some 12, none, .p (.alloc [.k (C.int .i64 0), .k (C.int .i64 0), .k (C.int .i64 0), .k (C.int .i64 0)])⟩,⟨none, none, .h (.store 4 (.t 12) (.t 44))⟩,⟨some 13, none, .p (.mv (.t 45))⟩] [2, 4, 6, 7, 12, 13])
 (.seq (.region [⟨some 46, none, .p (.mv (.t 13))⟩] [2, 4, 6, 7, 12, 46])
 (.cond (.t 46)
 (.seq (.region [⟨some 48, none, .h (.load 26 true (.t 2))⟩,⟨some 49, none, .h (.load 4 true (.t 12))⟩,⟨some 50, none, .h (.call (.f 53) [.t 48, .t 49])⟩,⟨some 47, none, .p (.mv (.t 50))⟩,⟨some 51, none, .p (.ext (.t 47) 0)⟩,⟨some 52, none, .p (.ext (.t 47) 1)⟩,⟨some 14, none, .p (.alloc (List.replicate 26 (.k (C.int .i64 0))))⟩,⟨none, none, .h (.store 26 (.t 14) (.t 51))⟩,⟨some 15, none, .p (.mv (.t 52))⟩] [2, 4, 12, 14, 15])
 (.seq (.seq (.region [⟨some 53, none, .p (.mv (.t 15))⟩,⟨some 54, none, .p (.un .not (.t 53))⟩] [2, 4, 12, 14, 54])
 (.cond (.t 54)
 (.seq (.region [⟨some 55, none, .h (.load 26 true (.t 2))⟩,⟨none, none, .h (.store 26 (.t 4) (.t 55))⟩,⟨some 5, none, .p (.mv (.k (.c (C.str [63]))))⟩] [4, 5])
  .ret)
  .skip))
 (.seq (.regionD [⟨some 56, none, .h (.load 26 true (.t 14))⟩,⟨some 57, none, .h (.load 26 true (.t 14))⟩,⟨some 58, none, .p (.fld 0 (.t 12))⟩,⟨some 59, none, .h (.load 1 false (.t 58))⟩,⟨some 60, none, .h (.call (.f 54) [.t 57, .t 59])⟩,⟨none, none, .h (.store 26 (.t 4) (.t 56))⟩,⟨some 5, none, .p (.mv (.t 60))⟩] [4, 5] [])
  .ret)))
  .skip)))
 (.seq (.seq (.region [⟨some 61, none, .p (.mv (.t 7))⟩,⟨some 62, none, .p (.len (.t 61))⟩,⟨some 63, none, .p (.bin .eql (.t 62) (.k (.c (C.int .i64 0))))⟩] [2, 4, 6, 7, 63])
 (.cond (.t 63)
 (.seq (.regionD [⟨some 64, none, .h (.load 26 true (.t 2))⟩,⟨some 65, none, .h (.load 26 true (.t 2))⟩,⟨some 66, none, .p (.mv (.t 6))⟩,⟨some 67, none, .p (.ixS 1 (.t 66) (.k (.c (C.int .i64 0))))⟩,⟨some 68, none, .h (.load 1 false (.t 67))⟩,⟨some 69, none, .h (.call (.f 55) [.t 65, .t 68])⟩,⟨none, none, .h (.store 26 (.t 4) (.t 64))⟩,⟨some 5, none, .p (.mv (.t 69))⟩] [4, 5] [])
  .ret)
  .skip))
 (.seq (.regionD [⟨some 70, none, .h (.load 26 true (.t 2))⟩,⟨some 71, none, .h (.load 26 true (.t 2))⟩,⟨some 72, none, .p (.mv (.t 6))⟩,⟨some 73, none, .p (.ixS 1 (.t 72) (.k (.c (C.int .i64 0))))⟩,⟨some 74, none, .h (.load 1 false (.t 73))⟩,⟨some 75, none, .p (.mv (.t 7))⟩,⟨some 76, none, .h (.call (.f 56) [.t 71, .t 74, .t 75])⟩,⟨none, none, .h (.store 26 (.t 4) (.t 70))⟩,⟨some 5, none, .p (.mv (.t 76))⟩] [4, 5] [])
  .ret))))))) }
theorem a23_ok : okFn Tryz.prog 23 a23 = true := by kernel_rfl
/-- loop.example/g01215/impl.AppendRecord -/
def a24 : AFn := { np := 2, nt := 40, res := [.cell 4 3 true, .t 5], body :=
 (.seq (.region [⟨some 2, none, .p (.box 3 (.t 0))⟩,⟨some 3, none, .p (.box 2 (.t 1))⟩,⟨some 4, none, .p (.alloc [.k (C.str []), .k (C.str []), .k (C.int .i64 0)])⟩,⟨some 5, none, .p (.mv (.k (.c (C.int .i64 0))))⟩] [2, 3, 4])
 (.seq (.block 0 (.seq (.region [⟨some 9, none, .h (.load 3 true (.t 2))⟩,⟨some 10, none, .h (.call (.f 47) [.t 9])⟩,⟨some 11, none, .p (.un .not (.t 10))⟩,⟨some 12, none, .p (.mv (.t 11))⟩,⟨some 13, some (12, false), .h (.load 2 true (.t 3))⟩,⟨some 14, some (12, false), .h (.call (.f 57) [.t 13])⟩,⟨some 15, some (12, false), .p (.un .not (.t 14))⟩,⟨some 16, none, .p (.pick (.t 12) (.k (.c (C.bool true))) (.t 15))⟩,⟨some 8, none, .p (.mv (.t 16))⟩] [2, 3, 4, 8])
 (.cond (.t 8)
 (.seq (.region [⟨some 17, none, .h (.load 3 true (.t 2))⟩,⟨none, none, .h (.store 3 (.t 4) (.t 17))⟩,⟨some 5, none, .p (.mv (.k (.c (C.int .i64 1))))⟩] [4, 5])
  .ret)
 (.seq (.region [⟨some 19, none, .p (.fld 2 (.t 2))⟩,⟨some 20, none, .h (.load 1 false (.t 19))⟩,⟨some 21, none, .p (.bin .eql (.t 20) (.k (.c (C.int .i64 60))))⟩,⟨some 18, none, .p (.mv (.t 21))⟩] [2, 3, 4, 18])
 (.cond (.t 18)
 (.seq (.region [⟨some 22, none, .h (.load 3 true (.t 2))⟩,⟨none, none, .h (.store 3 (.t 4) (.t 22))⟩,⟨some 5, none, .p (.mv (.k (.c (C.int .i64 2))))⟩] [4, 5])
  .ret)
  .skip)))))
 (.seq (.region [⟨some 24, none, .p (.fld 2 (.t 2))⟩,⟨some 25, none, .h (.load 1 false (.t 24))⟩,⟨some 26, none, .h (.load 2 true (.t 3))⟩,⟨some 27, none, .h (.call (.f 58) [.t 25, .t 26])⟩,⟨some 23, none, .p (.mv (.t 27))⟩,⟨some 28, none, .p (.ext (.t 23) 0)⟩,⟨some 29, none, .p (.ext (.t 23) 1)⟩,⟨some 6, none, .p (.mv (.t 28))⟩,⟨some 7, none, .p (.mv (.t 29))⟩] [2, 4, 6])
 (.seq (.region [⟨some 30, none, .p (.fld 0 (.t 2))⟩,⟨some 31, none, .h (.load 1 false (.t 30))⟩,⟨some 32, none, .p (.fld 1 (.t 2))⟩,⟨some 33, none, .h (.load 1 false (.t 32))⟩,⟨some 34, none, .p (.mv (.t 6))⟩,⟨some 35, none, .p (.bin .add (.t 33) (.t 34))⟩,⟨some 36, none, .p (.fld 2 (.t 2))⟩,⟨some 37, none, .h (.load 1 false (.t 36))⟩,⟨some 38, none, .p (.bin .add (.t 37) (.k (.c (C.int .i64 1))))⟩,⟨some 39, none, .p (.build [.k (C.str []), .k (C.str []), .k (C.int .i64 0)] [(0, 1, .t 31), (1, 1, .t 35), (2, 1, .t 38)])⟩,⟨none, none, .h (.store 3 (.t 4) (.t 39))⟩,⟨some 5, none, .p (.mv (.k (.c (C.int .i64 0))))⟩] [4, 5])
  .ret)))) }
theorem a24_ok : okFn Tryz.prog 24 a24 = true := by kernel_rfl
/-- loop.example/g01215/impl.IsRack -/
def a25 : AFn := { np := 1, nt := 6, res := [.t 2], body :=
 (.seq (.region [⟨some 1, none, .p (.box 24 (.t 0))⟩,⟨some 2, none, .p (.mv (.k (.c (C.bool false))))⟩] [1])
 (.seq (.region [⟨some 3, none, .p (.fld 0 (.t 1))⟩,⟨some 4, none, .h (.slA 6 4 (.t 3) none none)⟩,⟨some 5, none, .h (.call (.f 59) [.t 4, .f 60])⟩,⟨some 2, none, .p (.mv (.t 5))⟩] [2])
  .ret)) }
theorem a25_ok : okFn Tryz.prog 25 a25 = true := by kernel_rfl
/-- loop.example/g01215/impl.rackText -/
def a26 : AFn := { np := 1, nt := 30, res := [.t 2], body :=
 (.seq (.region [⟨some 1, none, .p (.box 24 (.t 0))⟩,⟨some 2, none, .p (.mv (.k (.c (C.str []))))⟩] [1])
 (.seq (.region [⟨some 3, none, .p (.nilsl 1)⟩] [1, 3])
 (.seq (.seq (.region [⟨some 9, none, .p (.fld 0 (.t 1))⟩,⟨some 10, none, .h (.load 24 true (.t 9))⟩,⟨some 11, none, .p (.mv (.k (.c (C.int .i64 0))))⟩] [3, 10, 11])
 (.block 0 (.loop (.seq (.region [⟨some 12, none, .p (.bin .lss (.t 11) (.k (.c (C.int .i64 6))))⟩] [3, 10, 11, 12])
 (.seq (.cond (.t 12)
  .skip
 (.exit 0))
 (.seq (.block 1 (.seq (.region [⟨some 13, none, .p (.ixV 6 4 true (.t 10) (.t 11))⟩,⟨some 5, none, .p (.alloc [.k (C.int .i64 0), .k (C.int .i64 0), .k (C.int .i64 0), .k (C.int .i64 0)])⟩,⟨none, none, .h (.store 4 (.t 5) (.t 13))⟩] [3, 5, 10, 11])
 (.seq (.region [⟨some 6, none, .p (.mv (.k (.c (C.str []))))⟩] [3, 5, 6, 10, 11])
 (.seq (.seq (.region [⟨some 14, none, .h (.load 4 true (.t 5))⟩,⟨some 15, none, .p (.mv (.k (.c (C.int .i64 0))))⟩] [3, 6, 10, 11, 14, 15])
 (.block 2 (.loop (.seq (.region [⟨some 16, none, .p (.bin .lss (.t 15) (.k (.c (C.int .i64 4))))⟩] [3, 6, 10, 11, 14, 15, 16])
 (.seq (.cond (.t 16)
  .skip
 (.exit 2))
 (.seq (.block 3 (.seq (.region [⟨some 17, none, .p (.ixV 4 1 false (.t 14) (.t 15))⟩,⟨some 8, none, .p (.mv (.t 17))⟩] [3, 6, 8, 10, 11, 14, 15])
 (.region [⟨some 18, none, .p (.mv (.t 6))⟩,⟨some 19, none, .p (.mv (.t 8))⟩,⟨some 20, none, .h (.call (.f 61) [.t 19])⟩,⟨some 21, none, .p (.bin .add (.t 18) (.t 20))⟩,⟨some 6, none, .p (.mv (.t 21))⟩] [3, 6, 10, 11, 14, 15])))
 (.region [⟨some 22, none, .p (.bin .add (.t 15) (.k (.c (C.int .i64 1))))⟩,⟨some 15, none, .p (.mv (.t 22))⟩] [3, 6, 10, 11, 14, 15])))) [3, 6, 10, 11, 14, 15])))
 (.region [⟨some 23, none, .p (.mv (.t 3))⟩,⟨some 24, none, .p (.mv (.t 6))⟩,⟨some 25, none, .p (.mksl 1 1 [.k (C.str [])] [(0, 1, .t 24)])⟩,⟨some 26, none, .h (.app 1 (.t 23) (.t 25))⟩,⟨some 3, none, .p (.mv (.t 26))⟩] [3, 10, 11])))))
 (.region [⟨some 27, none, .p (.bin .add (.t 11) (.k (.c (C.int .i64 1))))⟩,⟨some 11, none, .p (.mv (.t 27))⟩] [3, 10, 11])))) [3, 10, 11])))
 (.seq (.region [⟨some 28, none, .p (.mv (.t 3))⟩,⟨some 29, none, .h (.call (.f 62) [.t 28, .k (.c (C.str [47]))])⟩,⟨some 2, none, .p (.mv (.t 29))⟩] [2])
  .ret)))) }
theorem a26_ok : okFn Tryz.prog 26 a26 = true := by kernel_rfl
/-- loop.example/g01215/impl.useful -/
def a27 : AFn := { np := 1, nt := 7, res := [.t 2], body :=
 (.seq (.region [⟨some 1, none, .p (.box 24 (.t 0))⟩,⟨some 2, none, .p (.nilsl 2)⟩] [1])
 (.seq (.region [⟨some 3, none, .h (.load 24 true (.t 1))⟩,⟨some 4, none, .h (.call (.f 64) [.t 3])⟩,⟨some 5, none, .p (.mkfn 65 [.t 1])⟩,⟨some 6, none, .h (.call (.f 63) [.t 4, .t 5])⟩,⟨some 2, none, .p (.mv (.t 6))⟩] [2])
  .ret)) }
theorem a27_ok : okFn Tryz.prog 27 a27 = true := by kernel_rfl
/-- loop.example/g01215/impl.sortingOf -/
def a28 : AFn := { np := 1, nt := 25, res := [.t 2, .t 3], body :=
 (.seq (.region [⟨some 1, none, .p (.box 24 (.t 0))⟩,⟨some 2, none, .p (.mv (.k (.c (C.dead))))⟩,⟨some 3, none, .p (.mv (.k (.c (C.bool false))))⟩] [1])
 (.seq (.seq (.region [⟨some 7, none, .h (.load 24 true (.t 1))⟩,⟨some 8, none, .h (.call (.f 25) [.t 7])⟩,⟨some 9, none, .p (.un .not (.t 8))⟩] [1, 9])
 (.cond (.t 9)
 (.seq (.region [⟨some 2, none, .p (.mv (.k (.c (C.dead))))⟩,⟨some 3, none, .p (.mv (.k (.c (C.bool false))))⟩] [2, 3])
  .ret)
  .skip))
 (.seq (.region [⟨some 10, none, .h (.load 24 true (.t 1))⟩,⟨some 11, none, .h (.call (.f 67) [.t 10])⟩,⟨some 4, none, .p (.mv (.t 11))⟩] [4])
 (.seq (.region [⟨some 13, none, .p (.mv (.t 4))⟩,⟨some 14, none, .h (.call (.f 68) [.t 13, .f 69])⟩,⟨some 12, none, .p (.mv (.t 14))⟩,⟨some 15, none, .p (.ext (.t 12) 0)⟩,⟨some 16, none, .p (.ext (.t 12) 1)⟩,⟨some 5, none, .p (.mv (.t 15))⟩,⟨some 6, none, .p (.mv (.t 16))⟩] [4, 5, 6])
 (.seq (.region [⟨some 17, none, .p (.mv (.t 4))⟩,⟨some 18, none, .h (.mnew)⟩,⟨some 19, none, .p (.build [.k (C.dead), .k (C.dead)] [(0, 1, .t 17), (1, 1, .t 18)])⟩,⟨some 20, none, .p (.box 2 (.t 19))⟩,⟨some 21, none, .p (.mv (.t 5))⟩,⟨some 22, none, .p (.mv (.t 21))⟩,⟨some 23, some (22, true), .p (.mv (.t 6))⟩,⟨some 24, none, .p (.pick (.t 22) (.t 23) (.k (.c (C.bool false))))⟩,⟨some 2, none, .p (.mv (.t 20))⟩,⟨some 3, none, .p (.mv (.t 24))⟩] [2, 3])
  .ret))))) }
theorem a28_ok : okFn Tryz.prog 28 a28 = true := by kernel_rfl
/-- (*loop.example/g01215/impl.sorting).best -/
def a29 : AFn := { np := 3, nt := 20, res := [.t 6], body :=
 (.seq (.region [⟨some 3, none, .p (.box 1 (.t 0))⟩,⟨some 4, none, .p (.box 24 (.t 1))⟩,⟨some 5, none, .p (.box 1 (.t 2))⟩,⟨some 6, none, .p (.nilsl 2)⟩] [3, 4, 5])
 (.seq (.seq (.regionD [⟨some 7, none, .h (.load 1 false (.t 5))⟩,⟨some 8, none, .h (.load 1 false (.t 3))⟩,⟨some 9, none, .p (.nn (.t 8))⟩,⟨some 10, none, .p (.fld 0 (.t 9))⟩,⟨some 11, none, .h (.load 1 false (.t 10))⟩,⟨some 12, none, .p (.nn (.t 11))⟩,⟨some 13, none, .p (.fld 2 (.t 12))⟩,⟨some 14, none, .h (.load 1 false (.t 13))⟩,⟨some 15, none, .p (.bin .eql (.t 7) (.t 14))⟩] [3, 4, 5, 15] [])
 (.cond (.t 15)
 (.seq (.region [⟨some 6, none, .p (.nilsl 2)⟩] [6])
  .ret)
  .skip))
 (.seq (.region [⟨some 16, none, .h (.load 24 true (.t 4))⟩,⟨some 17, none, .h (.call (.f 27) [.t 16])⟩,⟨some 18, none, .p (.mkfn 70 [.t 4, .t 3, .t 5])⟩,⟨some 19, none, .h (.call (.f 63) [.t 17, .t 18])⟩,⟨some 6, none, .p (.mv (.t 19))⟩] [6])
  .ret))) }
theorem a29_ok : okFn Tryz.prog 29 a29 = true := by kernel_rfl
/-- loop.example/g01215/impl.pour -/
def a30 : AFn := { np := 3, nt := 58, res := [.cell 6 24 true, .t 7], body :=
 (.seq (.region [⟨some 3, none, .p (.box 24 (.t 0))⟩,⟨some 6, none, .p (.alloc (List.replicate 24 (.k (C.int .i64 0))))⟩,⟨some 7, none, .p (.mv (.k (.c (C.int .i64 0))))⟩] [1, 2, 3, 6])
 (.seq (.region [⟨some 14, none, .p (.mv (.t 1))⟩,⟨some 15, none, .p (.fld 0 (.t 3))⟩,⟨some 16, none, .p (.ixA 6 4 (.t 15) (.t 14))⟩,⟨some 17, none, .h (.load 4 true (.t 16))⟩,⟨some 18, none, .h (.call (.f 72) [.t 17])⟩,⟨some 13, none, .p (.mv (.t 18))⟩,⟨some 19, none, .p (.ext (.t 13) 0)⟩,⟨some 20, none, .p (.ext (.t 13) 1)⟩,⟨some 8, none, .p (.mv (.t 19))⟩,⟨some 9, none, .p (.mv (.t 20))⟩] [1, 2, 3, 6, 8, 9])
 (.seq (.regionD [⟨some 21, none, .p (.mv (.t 1))⟩,⟨some 22, none, .p (.fld 0 (.t 3))⟩,⟨some 23, none, .p (.ixA 6 4 (.t 22) (.t 21))⟩,⟨some 24, none, .h (.load 4 true (.t 23))⟩,⟨some 25, none, .h (.call (.f 73) [.t 24])⟩,⟨some 26, none, .p (.mv (.t 2))⟩,⟨some 27, none, .p (.fld 0 (.t 3))⟩,⟨some 28, none, .p (.ixA 6 4 (.t 27) (.t 26))⟩,⟨some 29, none, .h (.load 4 true (.t 28))⟩,⟨some 30, none, .h (.call (.f 73) [.t 29])⟩,⟨some 10, none, .p (.mv (.t 25))⟩,⟨some 11, none, .p (.mv (.t 30))⟩] [1, 2, 3, 6, 8, 9, 10, 11] [])
 (.seq (.region [⟨some 31, none, .p (.mv (.t 9))⟩,⟨some 32, none, .p (.mv (.t 11))⟩,⟨some 33, none, .p (.bin .sub (.k (.c (C.int .i64 4))) (.t 32))⟩,⟨some 34, none, .p (.mnmx false [.t 31, .t 33])⟩,⟨some 9, none, .p (.mv (.t 34))⟩] [1, 2, 3, 6, 8, 9, 10, 11])
 (.seq (.seq (.region [⟨some 35, none, .p (.mv (.t 9))⟩,⟨some 36, none, .p (.mv (.k (.c (C.int .i64 0))))⟩] [1, 2, 3, 6, 8, 9, 10, 11, 35, 36])
 (.block 0 (.loop (.seq (.region [⟨some 37, none, .p (.bin .lss (.t 36) (.t 35))⟩] [1, 2, 3, 6, 8, 9, 10, 11, 35, 36, 37])
 (.seq (.cond (.t 37)
  .skip
 (.exit 0))
 (.seq (.block 1 (.seq (.region [⟨some 38, none, .p (.mv (.t 36))⟩,⟨some 12, none, .p (.mv (.t 38))⟩] [1, 2, 3, 6, 8, 9, 10, 11, 12, 35, 36])
 (.seq (.region [⟨some 39, none, .p (.mv (.t 1))⟩,⟨some 40, none, .p (.mv (.t 10))⟩,⟨some 41, none, .p (.bin .sub (.t 40) (.k (.c (C.int .i64 1))))⟩,⟨some 42, none, .p (.mv (.t 12))⟩,⟨some 43, none, .p (.bin .sub (.t 41) (.t 42))⟩,⟨some 44, none, .p (.fld 0 (.t 3))⟩,⟨some 45, none, .p (.ixA 6 4 (.t 44) (.t 39))⟩,⟨some 46, none, .p (.ixA 4 1 (.t 45) (.t 43))⟩,⟨none, none, .h (.store 1 (.t 46) (.k (.c (C.int .i64 0))))⟩] [1, 2, 3, 6, 8, 9, 10, 11, 12, 35, 36])
 (.region [⟨some 47, none, .p (.mv (.t 2))⟩,⟨some 48, none, .p (.mv (.t 11))⟩,⟨some 49, none, .p (.mv (.t 12))⟩,⟨some 50, none, .p (.bin .add (.t 48) (.t 49))⟩,⟨some 51, none, .p (.mv (.t 8))⟩,⟨some 52, none, .p (.fld 0 (.t 3))⟩,⟨some 53, none, .p (.ixA 6 4 (.t 52) (.t 47))⟩,⟨some 54, none, .p (.ixA 4 1 (.t 53) (.t 50))⟩,⟨none, none, .h (.store 1 (.t 54) (.t 51))⟩] [1, 2, 3, 6, 8, 9, 10, 11, 35, 36]))))
 (.region [⟨some 55, none, .p (.bin .add (.t 36) (.k (.c (C.int .i64 1))))⟩,⟨some 36, none, .p (.mv (.t 55))⟩] [1, 2, 3, 6, 8, 9, 10, 11, 35, 36])))) [1, 2, 3, 6, 8, 9, 10, 11, 35, 36])))
 (.seq (.region [⟨some 56, none, .h (.load 24 true (.t 3))⟩,⟨some 57, none, .p (.mv (.t 9))⟩,⟨none, none, .h (.store 24 (.t 6) (.t 56))⟩,⟨some 7, none, .p (.mv (.t 57))⟩] [6, 7])
  .ret)))))) }
theorem a30_ok : okFn Tryz.prog 30 a30 = true := by kernel_rfl
/-- loop.example/g01215/impl.viewOf -/
def a31 : AFn := { np := 1, nt := 32, res := [.cell 2 18 true], body :=
 (.seq (.region [⟨some 1, none, .p (.box 24 (.t 0))⟩,⟨some 2, none, .p (.alloc (List.replicate 18 (.k (C.int .i64 0))))⟩] [1, 2])
 (.seq (.region [⟨some 3, none, .p (.alloc (List.replicate 18 (.k (C.int .i64 0))))⟩] [1, 2, 3])
 (.seq (.seq (.region [⟨some 6, none, .p (.fld 0 (.t 1))⟩,⟨some 7, none, .h (.load 24 true (.t 6))⟩,⟨some 8, none, .p (.mv (.k (.c (C.int .i64 0))))⟩] [1, 2, 3, 7, 8])
 (.block 0 (.loop (.seq (.region [⟨some 9, none, .p (.bin .lss (.t 8) (.k (.c (C.int .i64 6))))⟩] [1, 2, 3, 7, 8, 9])
 (.seq (.cond (.t 9)
  .skip
 (.exit 0))
 (.seq (.block 1 (.seq (.region [⟨some 10, none, .p (.mv (.t 8))⟩,⟨some 11, none, .p (.ixV 6 4 true (.t 7) (.t 8))⟩,⟨some 5, none, .p (.alloc [.k (C.int .i64 0), .k (C.int .i64 0), .k (C.int .i64 0), .k (C.int .i64 0)])⟩,⟨some 4, none, .p (.mv (.t 10))⟩,⟨none, none, .h (.store 4 (.t 5) (.t 11))⟩] [1, 2, 3, 4, 5, 7, 8])
 (.seq (.region [⟨some 13, none, .p (.mv (.t 4))⟩,⟨some 14, none, .h (.load 4 true (.t 5))⟩,⟨some 15, none, .h (.call (.f 72) [.t 14])⟩,⟨some 12, none, .p (.mv (.t 15))⟩,⟨some 16, none, .p (.ext (.t 12) 0)⟩,⟨some 17, none, .p (.ext (.t 12) 1)⟩,⟨some 18, none, .p (.fld 0 (.t 3))⟩,⟨some 19, none, .p (.ixA 6 1 (.t 18) (.t 13))⟩,⟨none, none, .h (.store 1 (.t 19) (.t 16))⟩] [1, 2, 3, 4, 5, 7, 8])
 (.region [⟨some 20, none, .p (.mv (.t 4))⟩,⟨some 21, none, .h (.load 4 true (.t 5))⟩,⟨some 22, none, .h (.call (.f 73) [.t 21])⟩,⟨some 23, none, .p (.fld 6 (.t 3))⟩,⟨some 24, none, .p (.ixA 6 1 (.t 23) (.t 20))⟩,⟨none, none, .h (.store 1 (.t 24) (.t 22))⟩] [1, 2, 3, 7, 8]))))
 (.region [⟨some 25, none, .p (.bin .add (.t 8) (.k (.c (C.int .i64 1))))⟩,⟨some 8, none, .p (.mv (.t 25))⟩] [1, 2, 3, 7, 8])))) [1, 2, 3, 7, 8])))
 (.seq (.region [⟨some 26, none, .h (.load 24 true (.t 1))⟩,⟨some 27, none, .h (.call (.f 74) [.t 26])⟩,⟨some 28, none, .p (.fld 12 (.t 3))⟩,⟨none, none, .h (.store 6 (.t 28) (.t 27))⟩] [2, 3])
 (.seq (.region [⟨some 29, none, .p (.fld 12 (.t 3))⟩,⟨some 30, none, .p (.ixA 6 1 (.t 29) (.k (.c (C.int .i64 0))))⟩,⟨none, none, .h (.store 1 (.t 30) (.k (.c (C.int .i64 0))))⟩] [2, 3])
 (.seq (.region [⟨some 31, none, .h (.load 18 true (.t 3))⟩,⟨none, none, .h (.store 18 (.t 2) (.t 31))⟩] [2])
  .ret)))))) }
theorem a31_ok : okFn Tryz.prog 31 a31 = true := by kernel_rfl
/-- loop.example/g01215/impl.IsView -/
def a32 : AFn := { np := 1, nt := 58, res := [.t 2], body :=
 (.seq (.region [⟨some 1, none, .p (.box 18 (.t 0))⟩,⟨some 2, none, .p (.mv (.k (.c (C.bool false))))⟩] [1])
 (.seq (.seq (.region [⟨some 6, none, .p (.fld 0 (.t 1))⟩,⟨some 7, none, .h (.load 6 true (.t 6))⟩,⟨some 8, none, .p (.mv (.k (.c (C.int .i64 0))))⟩] [1, 7, 8])
 (.block 0 (.loop (.seq (.region [⟨some 9, none, .p (.bin .lss (.t 8) (.k (.c (C.int .i64 6))))⟩] [1, 7, 8, 9])
 (.seq (.cond (.t 9)
  .skip
 (.exit 0))
 (.seq (.block 1 (.seq (.region [⟨some 10, none, .p (.mv (.t 8))⟩,⟨some 11, none, .p (.ixV 6 1 false (.t 7) (.t 8))⟩,⟨some 3, none, .p (.mv (.t 10))⟩,⟨some 4, none, .p (.mv (.t 11))⟩] [1, 3, 4, 7, 8])
 (.seq (.region [⟨some 12, none, .p (.mv (.t 4))⟩,⟨some 13, none, .h (.call (.f 44) [.t 12, .k (.c (C.int .i64 0)), .k (.c (C.int .i64 5))])⟩,⟨some 14, none, .p (.un .not (.t 13))⟩,⟨some 15, none, .p (.mv (.t 14))⟩,⟨some 16, some (15, false), .p (.mv (.t 3))⟩,⟨some 17, some (15, false), .p (.fld 6 (.t 1))⟩,⟨some 18, some (15, false), .p (.ixA 6 1 (.t 17) (.t 16))⟩,⟨some 19, some (15, false), .h (.load 1 false (.t 18))⟩,⟨some 20, some (15, false), .h (.call (.f 44) [.t 19, .k (.c (C.int .i64 0)), .k (.c (C.int .i64 4))])⟩,⟨some 21, some (15, false), .p (.un .not (.t 20))⟩,⟨some 22, none, .p (.pick (.t 15) (.k (.c (C.bool true))) (.t 21))⟩,⟨some 23, none, .p (.mv (.t 22))⟩,⟨some 24, some (23, false), .p (.mv (.t 4))⟩,⟨some 25, some (23, false), .p (.bin .gtr (.t 24) (.k (.c (C.int .i64 0))))⟩,⟨some 26, some (23, false), .p (.mv (.t 3))⟩,⟨some 27, some (23, false), .p (.fld 6 (.t 1))⟩,⟨some 28, some (23, false), .p (.ixA 6 1 (.t 27) (.t 26))⟩,⟨some 29, some (23, false), .h (.load 1 false (.t 28))⟩,⟨some 30, some (23, false), .p (.bin .gtr (.t 29) (.k (.c (C.int .i64 0))))⟩,⟨some 31, some (23, false), .p (.eqb true (.t 25) (.t 30))⟩,⟨some 32, none, .p (.pick (.t 23) (.k (.c (C.bool true))) (.t 31))⟩] [1, 7, 8, 32])
 (.cond (.t 32)
 (.seq (.region [⟨some 2, none, .p (.mv (.k (.c (C.bool false))))⟩] [2])
  .ret)
  .skip))))
 (.region [⟨some 33, none, .p (.bin .add (.t 8) (.k (.c (C.int .i64 1))))⟩,⟨some 8, none, .p (.mv (.t 33))⟩] [1, 7, 8])))) [1, 7, 8])))
 (.seq (.region [⟨some 34, none, .h (.load 18 true (.t 1))⟩,⟨some 35, none, .h (.call (.f 75) [.t 34])⟩,⟨some 5, none, .p (.alloc [.k (C.int .i64 0), .k (C.int .i64 0), .k (C.int .i64 0), .k (C.int .i64 0), .k (C.int .i64 0), .k (C.int .i64 0)])⟩,⟨none, none, .h (.store 6 (.t 5) (.t 35))⟩] [1, 5])
 (.seq (.regionD [⟨some 36, none, .p (.fld 12 (.t 1))⟩,⟨some 37, none, .p (.ixA 6 1 (.t 36) (.k (.c (C.int .i64 0))))⟩,⟨some 38, none, .h (.load 1 false (.t 37))⟩,⟨some 39, none, .p (.bin .eql (.t 38) (.k (.c (C.int .i64 0))))⟩,⟨some 40, none, .p (.mv (.t 39))⟩,⟨some 41, some (40, true), .p (.fld 12 (.t 1))⟩,⟨some 42, some (40, true), .h (.slA 6 1 (.t 41) none none)⟩,⟨some 43, some (40, true), .h (.call (.f 76) [.t 42, .f 77])⟩,⟨some 44, none, .p (.pick (.t 40) (.t 43) (.k (.c (C.bool false))))⟩,⟨some 45, none, .p (.mv (.t 44))⟩,⟨some 46, some (45, true), .h (.slA 6 1 (.t 5) none none)⟩,⟨some 47, some (45, true), .h (.call (.f 76) [.t 46, .f 78])⟩,⟨some 48, none, .p (.pick (.t 45) (.t 47) (.k (.c (C.bool false))))⟩,⟨some 49, none, .p (.mv (.t 48))⟩,⟨some 50, some (49, true), .p (.fld 12 (.t 1))⟩,⟨some 51, some (49, true), .h (.slA 6 1 (.t 50) none none)⟩,⟨some 52, some (49, true), .h (.call (.f 79) [.t 51])⟩,⟨some 53, some (49, true), .p (.fld 6 (.t 1))⟩,⟨some 54, some (49, true), .h (.slA 6 1 (.t 53) none none)⟩,⟨some 55, some (49, true), .h (.call (.f 79) [.t 54])⟩,⟨some 56, some (49, true), .p (.bin .eql (.t 52) (.t 55))⟩,⟨some 57, none, .p (.pick (.t 49) (.t 56) (.k (.c (C.bool false))))⟩,⟨some 2, none, .p (.mv (.t 57))⟩] [2] [])
  .ret)))) }
theorem a32_ok : okFn Tryz.prog 32 a32 = true := by kernel_rfl
/-- (loop.example/g01215/impl.View).canPour -/
def a33 : AFn := { np := 3, nt := 42, res := [.t 6], body :=
 (.seq (.region [⟨some 3, none, .p (.box 18 (.t 0))⟩,⟨some 6, none, .p (.mv (.k (.c (C.bool false))))⟩] [1, 2, 3])
 (.seq (.regionD [⟨some 7, none, .p (.mv (.t 1))⟩,⟨some 8, none, .p (.mv (.t 2))⟩,⟨some 9, none, .p (.bin .neq (.t 7) (.t 8))⟩,⟨some 10, none, .p (.mv (.t 9))⟩,⟨some 11, some (10, true), .p (.mv (.t 1))⟩,⟨some 12, some (10, true), .p (.fld 0 (.t 3))⟩,⟨some 13, some (10, true), .p (.ixA 6 1 (.t 12) (.t 11))⟩,⟨some 14, some (10, true), .h (.load 1 false (.t 13))⟩,⟨some 15, some (10, true), .p (.bin .gtr (.t 14) (.k (.c (C.int .i64 0))))⟩,⟨some 16, none, .p (.pick (.t 10) (.t 15) (.k (.c (C.bool false))))⟩,⟨some 17, none, .p (.mv (.t 16))⟩,⟨some 18, some (17, true), .p (.mv (.t 2))⟩,⟨some 19, some (17, true), .p (.fld 6 (.t 3))⟩,⟨some 20, some (17, true), .p (.ixA 6 1 (.t 19) (.t 18))⟩,⟨some 21, some (17, true), .h (.load 1 false (.t 20))⟩,⟨some 22, some (17, true), .p (.bin .lss (.t 21) (.k (.c (C.int .i64 4))))⟩,⟨some 23, none, .p (.pick (.t 17) (.t 22) (.k (.c (C.bool false))))⟩,⟨some 24, none, .p (.mv (.t 23))⟩,⟨some 25, some (24, true), .p (.mv (.t 2))⟩,⟨some 26, some (24, true), .p (.fld 0 (.t 3))⟩,⟨some 27, some (24, true), .p (.ixA 6 1 (.t 26) (.t 25))⟩,⟨some 28, some (24, true), .h (.load 1 false (.t 27))⟩,⟨some 29, some (24, true), .p (.bin .eql (.t 28) (.k (.c (C.int .i64 0))))⟩,⟨some 30, some (24, true), .p (.mv (.t 29))⟩,⟨some 31, some (30, false), .p (.mv (.t 2))⟩,⟨some 32, some (30, false), .p (.fld 0 (.t 3))⟩,⟨some 33, some (30, false), .p (.ixA 6 1 (.t 32) (.t 31))⟩,⟨some 34, some (30, false), .h (.load 1 false (.t 33))⟩,⟨some 35, some (30, false), .p (.mv (.t 1))⟩,⟨some 36, some (30, false), .p (.fld 0 (.t 3))⟩,⟨some 37, some (30, false), .p (.ixA 6 1 (.t 36) (.t 35))⟩,⟨some 38, some (30, false), .h (.load 1 false (.t 37))⟩,⟨some 39, some (30, false), .p (.bin .eql (.t 34) (.t 38))⟩,⟨some 40, some (24, true), .p (.pick (.t 30) (.k (.c (C.bool true))) (.t 39))⟩,⟨some 41, none, .p (.pick (.t 24) (.t 40) (.k (.c (C.bool false))))⟩,⟨some 6, none, .p (.mv (.t 41))⟩] [6] [])
  .ret)) }
theorem a33_ok : okFn Tryz.prog 33 a33 = true := by kernel_rfl
/-- (loop.example/g01215/impl.View).isCertain -/
def a34 : AFn := { np := 3, nt := 42, res := [.t 6], body :=
 (.seq (.region [⟨some 3, none, .p (.box 18 (.t 0))⟩,⟨some 6, none, .p (.mv (.k (.c (C.bool false))))⟩] [1, 2, 3])
 (.seq (.region [⟨some 14, none, .h (.load 18 true (.t 3))⟩,⟨some 15, none, .p (.mv (.t 1))⟩,⟨some 16, none, .h (.call (.f 80) [.t 14, .t 15])⟩,⟨some 13, none, .p (.mv (.t 16))⟩,⟨some 17, none, .p (.ext (.t 13) 0)⟩,⟨some 18, none, .p (.ext (.t 13) 1)⟩,⟨some 7, none, .p (.alloc [.k (C.int .i64 0), .k (C.int .i64 0), .k (C.int .i64 0), .k (C.int .i64 0), .k (C.int .i64 0)])⟩,⟨none, none, .h (.store 5 (.t 7) (.t 17))⟩,⟨some 8, none, .p (.mv (.t 18))⟩] [2, 3, 7])
 (.seq (.region [⟨some 9, none, .p (.mv (.k (.c (C.int .i64 0))))⟩] [2, 3, 7, 9])
 (.seq (.seq (.region [⟨some 19, none, .h (.load 5 true (.t 7))⟩,⟨some 20, none, .p (.mv (.k (.c (C.int .i64 0))))⟩] [2, 3, 9, 19, 20])
 (.block 0 (.loop (.seq (.region [⟨some 21, none, .p (.bin .lss (.t 20) (.k (.c (C.int .i64 5))))⟩] [2, 3, 9, 19, 20, 21])
 (.seq (.cond (.t 21)
  .skip
 (.exit 0))
 (.seq (.block 1 (.seq (.region [⟨some 22, none, .p (.mv (.t 20))⟩,⟨some 23, none, .p (.ixV 5 1 false (.t 19) (.t 20))⟩,⟨some 10, none, .p (.mv (.t 22))⟩,⟨some 11, none, .p (.mv (.t 23))⟩] [2, 3, 9, 10, 11, 19, 20])
 (.seq (.seq (.region [⟨some 24, none, .p (.mv (.t 11))⟩,⟨some 25, none, .p (.bin .eql (.t 24) (.k (.c (C.int .i64 0))))⟩] [2, 3, 9, 10, 19, 20, 25])
 (.cond (.t 25)
 (.exit 1)
  .skip))
 (.seq (.region [⟨some 26, none, .p (.mv (.t 10))⟩,⟨some 27, none, .p (.mv (.t 2))⟩,⟨some 28, none, .p (.fld 6 (.t 3))⟩,⟨some 29, none, .p (.ixA 6 1 (.t 28) (.t 27))⟩,⟨some 30, none, .h (.load 1 false (.t 29))⟩,⟨some 31, none, .p (.bin .sub (.k (.c (C.int .i64 4))) (.t 30))⟩,⟨some 32, none, .p (.mnmx false [.t 26, .t 31])⟩,⟨some 12, none, .p (.mv (.t 32))⟩] [2, 3, 9, 12, 19, 20])
 (.seq (.seq (.region [⟨some 33, none, .p (.mv (.t 9))⟩,⟨some 34, none, .p (.bin .gtr (.t 33) (.k (.c (C.int .i64 0))))⟩,⟨some 35, none, .p (.mv (.t 34))⟩,⟨some 36, some (35, true), .p (.mv (.t 12))⟩,⟨some 37, some (35, true), .p (.mv (.t 9))⟩,⟨some 38, some (35, true), .p (.bin .neq (.t 36) (.t 37))⟩,⟨some 39, none, .p (.pick (.t 35) (.t 38) (.k (.c (C.bool false))))⟩] [2, 3, 12, 19, 20, 39])
 (.cond (.t 39)
 (.seq (.region [⟨some 6, none, .p (.mv (.k (.c (C.bool false))))⟩] [6])
  .ret)
  .skip))
 (.region [⟨some 40, none, .p (.mv (.t 12))⟩,⟨some 9, none, .p (.mv (.t 40))⟩] [2, 3, 9, 19, 20]))))))
 (.region [⟨some 41, none, .p (.bin .add (.t 20) (.k (.c (C.int .i64 1))))⟩,⟨some 20, none, .p (.mv (.t 41))⟩] [2, 3, 9, 19, 20])))) [2, 3, 9, 19, 20])))
 (.seq (.region [⟨some 6, none, .p (.mv (.k (.c (C.bool true))))⟩] [6])
  .ret))))) }
theorem a34_ok : okFn Tryz.prog 34 a34 = true := by kernel_rfl
/-- loop.example/g01215/impl.SpareRuns -/
def a35 : AFn := { np := 1, nt := 27, res := [.t 2, .t 3], body :=
 (.seq (.region [⟨some 1, none, .p (.box 24 (.t 0))⟩,⟨some 2, none, .p (.mv (.k (.c (C.int .i64 0))))⟩,⟨some 3, none, .p (.mv (.k (.c (C.bool false))))⟩] [1])
 (.seq (.seq (.region [⟨some 8, none, .h (.load 24 true (.t 1))⟩,⟨some 9, none, .h (.call (.f 25) [.t 8])⟩,⟨some 10, none, .p (.un .not (.t 9))⟩] [1, 10])
 (.cond (.t 10)
 (.seq (.region [⟨some 2, none, .p (.mv (.k (.c (C.int .i64 0))))⟩,⟨some 3, none, .p (.mv (.k (.c (C.bool false))))⟩] [2, 3])
  .ret)
  .skip))
 (.seq (.region [⟨some 11, none, .h (.load 24 true (.t 1))⟩,⟨some 12, none, .h (.call (.f 81) [.t 11])⟩,⟨some 4, none, .p (.mv (.t 12))⟩] [1, 4])
 (.seq (.region [⟨some 13, none, .h (.load 24 true (.t 1))⟩,⟨some 14, none, .h (.call (.f 74) [.t 13])⟩,⟨some 5, none, .p (.alloc [.k (C.int .i64 0), .k (C.int .i64 0), .k (C.int .i64 0), .k (C.int .i64 0), .k (C.int .i64 0), .k (C.int .i64 0)])⟩,⟨none, none, .h (.store 6 (.t 5) (.t 14))⟩] [4, 5])
 (.seq (.seq (.region [⟨some 15, none, .h (.slA 6 1 (.t 5) (some (.k (.c (C.int .i64 1)))) none)⟩,⟨some 16, none, .p (.len (.t 15))⟩,⟨some 17, none, .p (.mv (.k (.c (C.int .i64 0))))⟩] [4, 15, 16, 17])
 (.block 0 (.loop (.seq (.region [⟨some 18, none, .p (.bin .lss (.t 17) (.t 16))⟩] [4, 15, 16, 17, 18])
 (.seq (.cond (.t 18)
  .skip
 (.exit 0))
 (.seq (.block 1 (.seq (.region [⟨some 19, none, .p (.ixS 1 (.t 15) (.t 17))⟩,⟨some 20, none, .h (.load 1 false (.t 19))⟩,⟨some 7, none, .p (.mv (.t 20))⟩] [4, 7, 15, 16, 17])
 (.region [⟨some 21, none, .p (.mv (.t 4))⟩,⟨some 22, none, .p (.mv (.t 7))⟩,⟨some 23, none, .p (.mnmx false [.t 22, .k (.c (C.int .i64 1))])⟩,⟨some 24, none, .p (.bin .sub (.t 21) (.t 23))⟩,⟨some 4, none, .p (.mv (.t 24))⟩] [4, 15, 16, 17])))
 (.region [⟨some 25, none, .p (.bin .add (.t 17) (.k (.c (C.int .i64 1))))⟩,⟨some 17, none, .p (.mv (.t 25))⟩] [4, 15, 16, 17])))) [4, 15, 16, 17])))
 (.seq (.region [⟨some 26, none, .p (.mv (.t 4))⟩,⟨some 2, none, .p (.mv (.t 26))⟩,⟨some 3, none, .p (.mv (.k (.c (C.bool true))))⟩] [2, 3])
  .ret)))))) }
theorem a35_ok : okFn Tryz.prog 35 a35 = true := by kernel_rfl
/-- loop.example/g01215/impl.JoinStrings -/
def a36 : AFn := { np := 2, nt := 41, res := [.t 4, .t 5], body :=
 (.seq (.region [⟨some 4, none, .p (.mv (.k (.c (C.str []))))⟩,⟨some 5, none, .p (.mv (.k (.c (C.bool false))))⟩] [0, 1])
 (.seq (.seq (.region [⟨some 9, none, .p (.mv (.t 0))⟩,⟨some 10, none, .p (.len (.t 9))⟩,⟨some 11, none, .p (.bin .eql (.t 10) (.k (.c (C.int .i64 0))))⟩,⟨some 12, none, .p (.mv (.t 11))⟩,⟨some 13, some (12, false), .p (.mv (.t 1))⟩,⟨some 14, some (12, false), .p (.lenStr (.t 13))⟩,⟨some 15, some (12, false), .p (.bin .neq (.t 14) (.k (.c (C.int .i64 1))))⟩,⟨some 16, none, .p (.pick (.t 12) (.k (.c (C.bool true))) (.t 15))⟩] [0, 1, 16])
 (.cond (.t 16)
 (.seq (.region [⟨some 4, none, .p (.mv (.k (.c (C.str []))))⟩,⟨some 5, none, .p (.mv (.k (.c (C.bool false))))⟩] [4, 5])
  .ret)
  .skip))
 (.seq (.region [⟨some 17, none, .p (.mv (.t 0))⟩,⟨some 18, none, .p (.len (.t 17))⟩,⟨some 19, none, .p (.bin .sub (.t 18) (.k (.c (C.int .i64 1))))⟩,⟨some 6, none, .p (.mv (.t 19))⟩] [0, 1, 6])
 (.seq (.seq (.region [⟨some 20, none, .p (.mv (.t 0))⟩,⟨some 21, none, .p (.len (.t 20))⟩,⟨some 22, none, .p (.mv (.k (.c (C.int .i64 0))))⟩] [0, 1, 6, 20, 21, 22])
 (.block 0 (.loop (.seq (.region [⟨some 23, none, .p (.bin .lss (.t 22) (.t 21))⟩] [0, 1, 6, 20, 21, 22, 23])
 (.seq (.cond (.t 23)
  .skip
 (.exit 0))
 (.seq (.block 1 (.seq (.region [⟨some 24, none, .p (.ixS 1 (.t 20) (.t 22))⟩,⟨some 25, none, .h (.load 1 false (.t 24))⟩,⟨some 8, none, .p (.mv (.t 25))⟩] [0, 1, 6, 8, 20, 21, 22])
 (.seq (.region [⟨some 26, none, .p (.mv (.t 6))⟩,⟨some 27, none, .p (.mv (.t 8))⟩,⟨some 28, none, .p (.lenStr (.t 27))⟩,⟨some 29, none, .p (.bin .add (.t 26) (.t 28))⟩,⟨some 6, none, .p (.mv (.t 29))⟩] [0, 1, 6, 8, 20, 21, 22])
 (.seq (.region [⟨some 30, none, .p (.mv (.t 6))⟩,⟨some 31, none, .p (.bin .gtr (.t 30) (.k (.c (C.int .i64 4000))))⟩,⟨some 32, none, .p (.mv (.t 31))⟩,⟨some 33, some (32, false), .p (.mv (.t 8))⟩,⟨some 34, some (32, false), .p (.mv (.t 1))⟩,⟨some 35, some (32, false), .h (.call (.f 49) [.t 33, .t 34])⟩,⟨some 36, none, .p (.pick (.t 32) (.k (.c (C.bool true))) (.t 35))⟩] [0, 1, 6, 20, 21, 22, 36])
 (.cond (.t 36)
 (.seq (.region [⟨some 4, none, .p (.mv (.k (.c (C.str []))))⟩,⟨some 5, none, .p (.mv (.k (.c (C.bool false))))⟩] [4, 5])
  .ret)
  .skip)))))
 (.region [⟨some 37, none, .p (.bin .add (.t 22) (.k (.c (C.int .i64 1))))⟩,⟨some 22, none, .p (.mv (.t 37))⟩] [0, 1, 6, 20, 21, 22])))) [0, 1, 6, 20, 21, 22])))
 (.seq (.region [⟨some 38, none, .p (.mv (.t 0))⟩,⟨some 39, none, .p (.mv (.t 1))⟩,⟨some 40, none, .h (.call (.f 62) [.t 38, .t 39])⟩,⟨some 4, none, .p (.mv (.t 40))⟩,⟨some 5, none, .p (.mv (.k (.c (C.bool true))))⟩] [4, 5])
  .ret))))) }
theorem a36_ok : okFn Tryz.prog 36 a36 = true := by kernel_rfl
/-- loop.example/g01215/impl.FormatInt -/
def a37 : AFn := { np := 1, nt := 9, res := [.t 2, .t 3], body :=
 (.seq (.region [⟨some 2, none, .p (.mv (.k (.c (C.str []))))⟩,⟨some 3, none, .p (.mv (.k (.c (C.bool false))))⟩] [0])
 (.seq (.seq (.region [⟨some 4, none, .p (.mv (.t 0))⟩,⟨some 5, none, .h (.call (.f 44) [.t 4, .k (.c (C.int .i64 (-999999))), .k (.c (C.int .i64 999999))])⟩,⟨some 6, none, .p (.un .not (.t 5))⟩] [0, 6])
 (.cond (.t 6)
 (.seq (.region [⟨some 2, none, .p (.mv (.k (.c (C.str []))))⟩,⟨some 3, none, .p (.mv (.k (.c (C.bool false))))⟩] [2, 3])
  .ret)
  .skip))
 (.seq (.region [⟨some 7, none, .p (.mv (.t 0))⟩,⟨some 8, none, .h (.call (.f 82) [.t 7])⟩,⟨some 2, none, .p (.mv (.t 8))⟩,⟨some 3, none, .p (.mv (.k (.c (C.bool true))))⟩] [2, 3])
  .ret))) }
theorem a37_ok : okFn Tryz.prog 37 a37 = true := by kernel_rfl
/-- loop.example/g01215/spec.NewBar -/
def a38 : AFn := { np := 1, nt := 10, res := [.cell 2 26 true, .t 3], body :=
 (.seq (.region [⟨some 1, none, .p (.box 24 (.t 0))⟩,⟨some 2, none, .p (.alloc (List.replicate 26 (.k (C.int .i64 0))))⟩,⟨some 3, none, .p (.mv (.k (.c (C.bool false))))⟩] [1, 2])
 (.seq (.seq (.region [⟨some 4, none, .h (.load 24 true (.t 1))⟩,⟨some 5, none, .h (.call (.f 45) [.t 4])⟩,⟨some 6, none, .p (.un .not (.t 5))⟩] [1, 2, 6])
 (.cond (.t 6)
 (.seq (.region [⟨some 7, none, .p (.build (List.replicate 26 (.k (C.int .i64 0))) [])⟩,⟨none, none, .h (.store 26 (.t 2) (.t 7))⟩,⟨some 3, none, .p (.mv (.k (.c (C.bool false))))⟩] [2, 3])
  .ret)
  .skip))
 (.seq (.region [⟨some 8, none, .h (.load 24 true (.t 1))⟩,⟨some 9, none, .p (.build (List.replicate 26 (.k (C.int .i64 0))) [(0, 24, .t 8)])⟩,⟨none, none, .h (.store 26 (.t 2) (.t 9))⟩,⟨some 3, none, .p (.mv (.k (.c (C.bool true))))⟩] [2, 3])
  .ret))) }
theorem a38_ok : okFn Tryz.prog 38 a38 = true := by kernel_rfl
/-- (*loop.example/g01215/spec.l1Cur).small3 -/
def a39 : AFn := { np := 1, nt := 47, res := [.cell 2 24 true], body :=
 (.seq (.region [⟨some 2, none, .p (.alloc (List.replicate 24 (.k (C.int .i64 0))))⟩] [0, 2])
 (.seq (.region [⟨some 7, none, .p (.mv (.t 0))⟩,⟨some 8, none, .h (.call (.f 83) [.t 7])⟩,⟨some 3, none, .p (.alloc (List.replicate 24 (.k (C.int .i64 0))))⟩,⟨none, none, .h (.store 24 (.t 3) (.t 8))⟩] [0, 2, 3])
 (.seq (.seq (.region [⟨some 9, none, .h (.load 24 true (.t 3))⟩,⟨some 10, none, .h (.call (.f 45) [.t 9])⟩,⟨some 11, none, .p (.un .not (.t 10))⟩,⟨some 12, none, .p (.mv (.t 11))⟩,⟨some 13, some (12, false), .p (.mv (.t 0))⟩,⟨some 14, some (12, false), .h (.call (.f 84) [.t 13, .k (.c (C.int .i64 12))])⟩,⟨some 15, none, .p (.pick (.t 12) (.k (.c (C.bool true))) (.t 14))⟩] [0, 2, 3, 15])
 (.cond (.t 15)
 (.seq (.region [⟨some 16, none, .h (.load 24 true (.t 3))⟩,⟨none, none, .h (.store 24 (.t 2) (.t 16))⟩] [2])
  .ret)
  .skip))
 (.seq (.seq (.region [⟨some 17, none, .p (.mv (.t 0))⟩,⟨some 18, none, .h (.call (.f 40) [.t 17, .k (.c (C.int .i64 5))])⟩,⟨some 19, none, .p (.bin .add (.k (.c (C.int .i64 5))) (.t 18))⟩,⟨some 4, none, .p (.mv (.k (.c (C.int .i64 0))))⟩,⟨some 5, none, .p (.mv (.t 19))⟩] [2, 3, 4, 5])
 (.block 0 (.loop (.seq (.seq (.region [⟨some 20, none, .p (.mv (.t 4))⟩,⟨some 21, none, .p (.bin .lss (.t 20) (.k (.c (C.int .i64 6))))⟩] [2, 3, 4, 5, 21])
 (.cond (.t 21)
  .skip
 (.exit 0)))
 (.seq (.block 1 (.seq (.region [⟨some 6, none, .p (.mv (.k (.c (C.int .i64 0))))⟩] [2, 3, 4, 5, 6])
 (.block 2 (.loop (.seq (.seq (.region [⟨some 24, none, .p (.mv (.t 6))⟩,⟨some 25, none, .p (.bin .lss (.t 24) (.k (.c (C.int .i64 4))))⟩] [2, 3, 4, 5, 6, 25])
 (.cond (.t 25)
  .skip
 (.exit 2)))
 (.seq (.block 3 (.seq (.region [⟨some 28, none, .p (.mv (.t 5))⟩,⟨some 29, none, .p (.bin .gtr (.t 28) (.k (.c (C.int .i64 0))))⟩,⟨some 30, none, .p (.mv (.t 29))⟩,⟨some 31, some (30, true), .p (.mv (.t 4))⟩,⟨some 32, some (30, true), .p (.mv (.t 6))⟩,⟨some 33, some (30, true), .p (.fld 0 (.t 3))⟩,⟨some 34, some (30, true), .p (.ixA 6 4 (.t 33) (.t 31))⟩,⟨some 35, some (30, true), .p (.ixA 4 1 (.t 34) (.t 32))⟩,⟨some 36, some (30, true), .h (.load 1 false (.t 35))⟩,⟨some 37, some (30, true), .p (.bin .gtr (.t 36) (.k (.c (C.int .i64 0))))⟩,⟨some 38, none, .p (.pick (.t 30) (.t 37) (.k (.c (C.bool false))))⟩] [2, 3, 4, 5, 6, 38])
 (.cond (.t 38)
 (.region [⟨some 39, none, .p (.mv (.t 5))⟩,⟨some 40, none, .p (.bin .sub (.t 39) (.k (.c (C.int .i64 1))))⟩,⟨some 5, none, .p (.mv (.t 40))⟩] [2, 3, 4, 5, 6])
 (.region [⟨some 41, none, .p (.mv (.t 4))⟩,⟨some 42, none, .p (.mv (.t 6))⟩,⟨some 43, none, .p (.fld 0 (.t 3))⟩,⟨some 44, none, .p (.ixA 6 4 (.t 43) (.t 41))⟩,⟨some 45, none, .p (.ixA 4 1 (.t 44) (.t 42))⟩,⟨none, none, .h (.store 1 (.t 45) (.k (.c (C.int .i64 0))))⟩] [2, 3, 4, 5, 6]))))
 (.region [⟨some 26, none, .p (.mv (.t 6))⟩,⟨some 27, none, .p (.bin .add (.t 26) (.k (.c (C.int .i64 1))))⟩,⟨some 6, none, .p (.mv (.t 27))⟩] [2, 3, 4, 5, 6]))) [2, 3, 4, 5, 6]))))
 (.region [⟨some 22, none, .p (.mv (.t 4))⟩,⟨some 23, none, .p (.bin .add (.t 22) (.k (.c (C.int .i64 1))))⟩,⟨some 4, none, .p (.mv (.t 23))⟩] [2, 3, 4, 5]))) [2, 3, 4, 5])))
 (.seq (.region [⟨some 46, none, .h (.load 24 true (.t 3))⟩,⟨none, none, .h (.store 24 (.t 2) (.t 46))⟩] [2])
  .ret))))) }
theorem a39_ok : okFn Tryz.prog 39 a39 = true := by kernel_rfl
/-- (*loop.example/g01215/spec.l1Cur).pick -/
def a40 : AFn := { np := 2, nt := 20, res := [.t 4], body :=
 (.seq (.region [⟨some 4, none, .p (.mv (.k (.c (C.int .i64 0))))⟩] [0, 1])
 (.seq (.seq (.region [⟨some 6, none, .p (.mv (.t 1))⟩,⟨some 7, none, .p (.bin .leq (.t 6) (.k (.c (C.int .i64 1))))⟩] [0, 1, 7])
 (.cond (.t 7)
 (.seq (.region [⟨some 4, none, .p (.mv (.k (.c (C.int .i64 0))))⟩] [4])
  .ret)
  .skip))
 (.seq (.region [⟨some 8, none, .p (.mv (.t 0))⟩,⟨some 9, none, .h (.call (.f 85) [.t 8])⟩,⟨some 5, none, .p (.mv (.t 9))⟩] [0, 1, 5])
 (.seq (.seq (.region [⟨some 10, none, .p (.mv (.t 1))⟩,⟨some 11, none, .p (.bin .gtr (.t 10) (.k (.c (C.int .i64 200))))⟩] [0, 1, 5, 11])
 (.cond (.t 11)
 (.region [⟨some 12, none, .p (.mv (.t 5))⟩,⟨some 13, none, .p (.bin .mul (.t 12) (.k (.c (C.int .i64 256))))⟩,⟨some 14, none, .p (.mv (.t 0))⟩,⟨some 15, none, .h (.call (.f 85) [.t 14])⟩,⟨some 16, none, .p (.bin .add (.t 13) (.t 15))⟩,⟨some 5, none, .p (.mv (.t 16))⟩] [1, 5])
  .skip))
 (.seq (.region [⟨some 17, none, .p (.mv (.t 5))⟩,⟨some 18, none, .p (.mv (.t 1))⟩,⟨some 19, none, .p (.bin .rem (.t 17) (.t 18))⟩,⟨some 4, none, .p (.mv (.t 19))⟩] [4])
  .ret))))) }
theorem a40_ok : okFn Tryz.prog 40 a40 = true := by kernel_rfl
/-- loop.example/g01215/spec.l12Do -/
def a41 : AFn := { np := 2, nt := 32, res := [.cell 4 26 true, .t 5], body :=
 (.seq (.region [⟨some 2, none, .p (.box 26 (.t 0))⟩,⟨some 3, none, .p (.box 4 (.t 1))⟩,⟨some 4, none, .p (.alloc (List.replicate 26 (.k (C.int .i64 0))))⟩,⟨some 5, none, .p (.mv (.k (.c (C.bool false))))⟩] [2, 3, 4])
 (.seq (.region [⟨some 9, none, .h (.load 26 true (.t 2))⟩,⟨some 10, none, .h (.load 4 true (.t 3))⟩,⟨some 11, none, .h (.call (.f 86) [.t 9, .t 10])⟩,⟨some 8, none, .p (.mv (.t 11))⟩,⟨some 12, none, .p (.ext (.t 8) 0)⟩,⟨some 13, none, .p (.ext (.t 8) 1)⟩,⟨some 6, none, .p (.alloc (List.replicate 26 (.k (C.int .i64 0))))⟩,⟨none, none, .h (.store 26 (.t 6) (.t 12))⟩,⟨some 7, none, .p (.mv (.t 13))⟩] [2, 3, 4, 6, 7])
 (.seq (.region [⟨some 14, none, .p (.fld 25 (.t 2))⟩,⟨some 15, none, .h (.load 1 false (.t 14))⟩,⟨some 16, none, .p (.bin .add (.t 15) (.k (.c (C.int .i64 1))))⟩,⟨some 17, none, .p (.fld 25 (.t 6))⟩,⟨none, none, .h (.store 1 (.t 17) (.t 16))⟩] [3, 4, 6, 7])
 (.seq (.seq (.region [⟨some 18, none, .p (.mv (.t 7))⟩,⟨some 19, none, .p (.un .not (.t 18))⟩,⟨some 20, none, .p (.mv (.t 19))⟩,⟨some 21, some (20, false), .h (.load 4 true (.t 3))⟩,⟨some 22, some (20, false), .h (.call (.f 87) [.t 21])⟩,⟨some 23, some (20, false), .p (.un .not (.t 22))⟩,⟨some 24, none, .p (.pick (.t 20) (.k (.c (C.bool true))) (.t 23))⟩,⟨some 25, none, .p (.mv (.t 24))⟩,⟨some 26, some (25, false), .h (.load 26 true (.t 6))⟩,⟨some 27, some (25, false), .h (.call (.f 20) [.t 26])⟩,⟨some 28, some (25, false), .p (.un .not (.t 27))⟩,⟨some 29, none, .p (.pick (.t 25) (.k (.c (C.bool true))) (.t 28))⟩] [4, 6, 29])
 (.cond (.t 29)
 (.seq (.region [⟨some 30, none, .p (.build (List.replicate 26 (.k (C.int .i64 0))) [])⟩,⟨none, none, .h (.store 26 (.t 4) (.t 30))⟩,⟨some 5, none, .p (.mv (.k (.c (C.bool false))))⟩] [4, 5])
  .ret)
  .skip))
 (.seq (.region [⟨some 31, none, .h (.load 26 true (.t 6))⟩,⟨none, none, .h (.store 26 (.t 4) (.t 31))⟩,⟨some 5, none, .p (.mv (.k (.c (C.bool true))))⟩] [4, 5])
  .ret))))) }
theorem a41_ok : okFn Tryz.prog 41 a41 = true := by kernel_rfl
/-- (*loop.example/g01215/spec.l1Cur).serve12 -/
def a42 : AFn := { np := 2, nt := 73, res := [.cell 4 4 true], body :=
 (.seq (.region [⟨some 3, none, .p (.box 24 (.t 1))⟩,⟨some 4, none, .p (.alloc [.k (C.int .i64 0), .k (C.int .i64 0), .k (C.int .i64 0), .k (C.int .i64 0)])⟩] [0, 3, 4])
 (.seq (.region [⟨some 8, none, .p (.mv (.t 0))⟩,⟨some 9, none, .p (.mksl 1 8 [.k (C.int .i64 0)] [(0, 1, .k (.c (C.int .i64 1))), (1, 1, .k (.c (C.int .i64 1))), (2, 1, .k (.c (C.int .i64 1))), (3, 1, .k (.c (C.int .i64 2))), (4, 1, .k (.c (C.int .i64 2))), (5, 1, .k (.c (C.int .i64 3))), (6, 1, .k (.c (C.int .i64 4))), (7, 1, .k (.c (C.int .i64 5)))])⟩,⟨some 10, none, .h (.call (.f 43) [.t 8, .t 9])⟩,⟨some 11, none, .p (.build [.k (C.int .i64 0), .k (C.int .i64 0), .k (C.int .i64 0), .k (C.int .i64 0)] [(0, 1, .t 10)])⟩,⟨some 5, none, .p (.alloc [.k (C.int .i64 0), .k (C.int .i64 0), .k (C.int .i64 0), .k (C.int .i64 0)])⟩,⟨none, none, .h (.store 4 (.t 5) (.t 11))⟩] [0, 3, 4, 5])
 (.seq (.seq (.region [⟨some 12, none, .p (.fld 0 (.t 5))⟩,⟨some 13, none, .h (.load 1 false (.t 12))⟩] [0, 3, 4, 5, 13])
 (.block 0 (.seq (.region [⟨some 27, none, .p (.bin .eql (.t 13) (.k (.c (C.int .i64 1))))⟩,⟨some 26, none, .p (.mv (.t 27))⟩] [0, 3, 4, 5, 13, 26])
 (.cond (.t 26)
 (.seq (.region [⟨some 28, none, .p (.mv (.t 0))⟩,⟨some 29, none, .h (.load 24 true (.t 3))⟩,⟨some 30, none, .h (.call (.f 88) [.t 28, .t 29])⟩,⟨some 6, none, .p (.alloc [.k (C.int .i64 0), .k (C.int .i64 0)])⟩,⟨none, none, .h (.store 2 (.t 6) (.t 30))⟩] [0, 4, 5, 6])
 (.seq (.region [⟨some 31, none, .p (.ixA 2 1 (.t 6) (.k (.c (C.int .i64 0))))⟩,⟨some 32, none, .h (.load 1 false (.t 31))⟩,⟨some 33, none, .p (.fld 1 (.t 5))⟩,⟨none, none, .h (.store 1 (.t 33) (.t 32))⟩] [0, 4, 5, 6])
 (.region [⟨some 34, none, .p (.ixA 2 1 (.t 6) (.k (.c (C.int .i64 1))))⟩,⟨some 35, none, .h (.load 1 false (.t 34))⟩,⟨some 36, none, .p (.fld 2 (.t 5))⟩,⟨none, none, .h (.store 1 (.t 36) (.t 35))⟩] [0, 4, 5])))
 (.seq (.region [⟨some 38, none, .p (.bin .eql (.t 13) (.k (.c (C.int .i64 2))))⟩,⟨some 37, none, .p (.mv (.t 38))⟩] [0, 3, 4, 5, 13, 37])
 (.cond (.t 37)
 (.seq (.region [⟨some 39, none, .p (.mv (.t 0))⟩,⟨some 40, none, .h (.call (.f 89) [.t 39])⟩,⟨some 41, none, .p (.fld 1 (.t 5))⟩,⟨none, none, .h (.store 1 (.t 41) (.t 40))⟩] [0, 4, 5])
 (.region [⟨some 42, none, .p (.mv (.t 0))⟩,⟨some 43, none, .h (.call (.f 90) [.t 42])⟩,⟨some 44, none, .p (.fld 2 (.t 5))⟩,⟨none, none, .h (.store 1 (.t 44) (.t 43))⟩] [0, 4, 5]))
 (.seq (.region [⟨some 46, none, .p (.bin .eql (.t 13) (.k (.c (C.int .i64 3))))⟩,⟨some 45, none, .p (.mv (.t 46))⟩] [0, 3, 4, 5, 13, 45])
 (.cond (.t 45)
 (.region [⟨some 47, none, .p (.mv (.t 0))⟩,⟨some 48, none, .h (.call (.f 89) [.t 47])⟩,⟨some 49, none, .p (.fld 1 (.t 5))⟩,⟨none, none, .h (.store 1 (.t 49) (.t 48))⟩] [0, 4, 5])
 (.seq (.region [⟨some 51, none, .p (.bin .eql (.t 13) (.k (.c (C.int .i64 4))))⟩,⟨some 50, none, .p (.mv (.t 51))⟩] [0, 3, 4, 5, 50])
 (.cond (.t 50)
 (.seq (.region [⟨some 52, none, .p (.mv (.t 0))⟩,⟨some 53, none, .h (.call (.f 89) [.t 52])⟩,⟨some 54, none, .p (.fld 1 (.t 5))⟩,⟨none, none, .h (.store 1 (.t 54) (.t 53))⟩] [0, 4, 5])
 (.region [⟨some 55, none, .p (.mv (.t 0))⟩,⟨some 56, none, .h (.call (.f 89) [.t 55])⟩,⟨some 57, none, .p (.fld 2 (.t 5))⟩,⟨none, none, .h (.store 1 (.t 57) (.t 56))⟩] [0, 4, 5]))
 (.seq (.region [⟨some 14, none, .p (.mv (.t 0))⟩,⟨some 15, none, .h (.load 24 true (.t 3))⟩,⟨some 16, none, .h (.call (.f 91) [.t 14, .t 15])⟩,⟨some 7, none, .p (.alloc [.k (C.int .i64 0), .k (C.int .i64 0), .k (C.int .i64 0)])⟩,⟨none, none, .h (.store 3 (.t 7) (.t 16))⟩] [0, 4, 5, 7])
 (.region [⟨some 17, none, .p (.fld 0 (.t 5))⟩,⟨some 18, none, .h (.load 1 false (.t 17))⟩,⟨some 19, none, .p (.fld 0 (.t 7))⟩,⟨some 20, none, .h (.load 1 false (.t 19))⟩,⟨some 21, none, .p (.fld 1 (.t 7))⟩,⟨some 22, none, .h (.load 1 false (.t 21))⟩,⟨some 23, none, .p (.fld 2 (.t 7))⟩,⟨some 24, none, .h (.load 1 false (.t 23))⟩,⟨some 25, none, .p (.build [.k (C.int .i64 0), .k (C.int .i64 0), .k (C.int .i64 0), .k (C.int .i64 0)] [(0, 1, .t 18), (1, 1, .t 20), (2, 1, .t 22), (3, 1, .t 24)])⟩,⟨none, none, .h (.store 4 (.t 5) (.t 25))⟩] [0, 4, 5]))))))))))))
 (.seq (.seq (.region [⟨some 58, none, .p (.mv (.t 0))⟩,⟨some 59, none, .h (.call (.f 40) [.t 58, .k (.c (C.int .i64 40))])⟩] [0, 4, 5, 59])
 (.block 1 (.seq (.region [⟨some 61, none, .p (.bin .eql (.t 59) (.k (.c (C.int .i64 0))))⟩,⟨some 60, none, .p (.mv (.t 61))⟩] [0, 4, 5, 59, 60])
 (.cond (.t 60)
 (.region [⟨some 62, none, .p (.mv (.t 0))⟩,⟨some 63, none, .p (.mksl 1 3 [.k (C.int .i64 0)] [(0, 1, .k (.c (C.int .i64 (-1)))), (1, 1, .k (.c (C.int .i64 1))), (2, 1, .k (.c (C.int .i64 5)))])⟩,⟨some 64, none, .h (.call (.f 43) [.t 62, .t 63])⟩,⟨some 65, none, .p (.fld 3 (.t 5))⟩,⟨none, none, .h (.store 1 (.t 65) (.t 64))⟩] [4, 5])
 (.seq (.region [⟨some 67, none, .p (.bin .eql (.t 59) (.k (.c (C.int .i64 1))))⟩,⟨some 66, none, .p (.mv (.t 67))⟩] [0, 4, 5, 66])
 (.cond (.t 66)
 (.region [⟨some 68, none, .p (.mv (.t 0))⟩,⟨some 69, none, .p (.mksl 1 3 [.k (C.int .i64 0)] [(0, 1, .k (.c (C.int .i64 0))), (1, 1, .k (.c (C.int .i64 6))), (2, 1, .k (.c (C.int .i64 (-1))))])⟩,⟨some 70, none, .h (.call (.f 43) [.t 68, .t 69])⟩,⟨some 71, none, .p (.fld 0 (.t 5))⟩,⟨none, none, .h (.store 1 (.t 71) (.t 70))⟩] [4, 5])
  .skip))))))
 (.seq (.region [⟨some 72, none, .h (.load 4 true (.t 5))⟩,⟨none, none, .h (.store 4 (.t 4) (.t 72))⟩] [4])
  .ret))))) }
theorem a42_ok : okFn Tryz.prog 42 a42 = true := by kernel_rfl
/-- (*loop.example/g01215/spec.l1Cur).among -/
def a43 : AFn := { np := 2, nt := 12, res := [.t 4], body :=
 (.seq (.region [⟨some 4, none, .p (.mv (.k (.c (C.int .i64 0))))⟩] [0, 1])
 (.seq (.region [⟨some 5, none, .p (.mv (.t 1))⟩,⟨some 6, none, .p (.mv (.t 0))⟩,⟨some 7, none, .p (.mv (.t 1))⟩,⟨some 8, none, .p (.len (.t 7))⟩,⟨some 9, none, .h (.call (.f 40) [.t 6, .t 8])⟩,⟨some 10, none, .p (.ixS 1 (.t 5) (.t 9))⟩,⟨some 11, none, .h (.load 1 false (.t 10))⟩,⟨some 4, none, .p (.mv (.t 11))⟩] [4])
  .ret)) }
theorem a43_ok : okFn Tryz.prog 43 a43 = true := by kernel_rfl
/-- loop.example/g01215/impl.within -/
def a44 : AFn := { np := 3, nt := 15, res := [.t 6], body :=
 (.seq (.region [⟨some 6, none, .p (.mv (.k (.c (C.bool false))))⟩] [0, 1, 2])
 (.seq (.region [⟨some 7, none, .p (.mv (.t 1))⟩,⟨some 8, none, .p (.mv (.t 0))⟩,⟨some 9, none, .p (.bin .leq (.t 7) (.t 8))⟩,⟨some 10, none, .p (.mv (.t 9))⟩,⟨some 11, some (10, true), .p (.mv (.t 0))⟩,⟨some 12, some (10, true), .p (.mv (.t 2))⟩,⟨some 13, some (10, true), .p (.bin .leq (.t 11) (.t 12))⟩,⟨some 14, none, .p (.pick (.t 10) (.t 13) (.k (.c (C.bool false))))⟩,⟨some 6, none, .p (.mv (.t 14))⟩] [6])
  .ret)) }
theorem a44_ok : okFn Tryz.prog 44 a44 = true := by kernel_rfl
/-- loop.example/g01215/spec.l2Rack -/
def a45 : AFn := { np := 1, nt := 44, res := [.t 2], body :=
 (.seq (.region [⟨some 1, none, .p (.box 24 (.t 0))⟩,⟨some 2, none, .p (.mv (.k (.c (C.bool false))))⟩] [1])
 (.seq (.seq (.region [⟨some 3, none, .p (.mv (.k (.c (C.int .i64 0))))⟩] [1, 3])
 (.block 0 (.loop (.seq (.seq (.region [⟨some 5, none, .p (.mv (.t 3))⟩,⟨some 6, none, .p (.bin .lss (.t 5) (.k (.c (C.int .i64 6))))⟩] [1, 3, 6])
 (.cond (.t 6)
  .skip
 (.exit 0)))
 (.seq (.block 1 (.seq (.region [⟨some 4, none, .p (.mv (.k (.c (C.int .i64 0))))⟩] [1, 3, 4])
 (.block 2 (.loop (.seq (.seq (.region [⟨some 9, none, .p (.mv (.t 4))⟩,⟨some 10, none, .p (.bin .lss (.t 9) (.k (.c (C.int .i64 4))))⟩] [1, 3, 4, 10])
 (.cond (.t 10)
  .skip
 (.exit 2)))
 (.seq (.block 3 (.seq (.region [⟨some 13, none, .p (.mv (.t 3))⟩,⟨some 14, none, .p (.mv (.t 4))⟩,⟨some 15, none, .p (.fld 0 (.t 1))⟩,⟨some 16, none, .p (.ixA 6 4 (.t 15) (.t 13))⟩,⟨some 17, none, .p (.ixA 4 1 (.t 16) (.t 14))⟩,⟨some 18, none, .h (.load 1 false (.t 17))⟩,⟨some 19, none, .h (.call (.f 46) [.t 18, .k (.c (C.int .i64 0)), .k (.c (C.int .i64 5))])⟩,⟨some 20, none, .p (.un .not (.t 19))⟩,⟨some 21, none, .p (.mv (.t 20))⟩,⟨some 22, some (21, false), .p (.mv (.t 4))⟩,⟨some 23, some (21, false), .p (.bin .gtr (.t 22) (.k (.c (C.int .i64 0))))⟩,⟨some 24, some (21, false), .p (.mv (.t 23))⟩,⟨some 25, some (24, true), .p (.mv (.t 3))⟩,⟨some 26, some (24, true), .p (.mv (.t 4))⟩,⟨some 27, some (24, true), .p (.fld 0 (.t 1))⟩,⟨some 28, some (24, true), .p (.ixA 6 4 (.t 27) (.t 25))⟩,⟨some 29, some (24, true), .p (.ixA 4 1 (.t 28) (.t 26))⟩,⟨some 30, some (24, true), .h (.load 1 false (.t 29))⟩,⟨some 31, some (24, true), .p (.bin .gtr (.t 30) (.k (.c (C.int .i64 0))))⟩,⟨some 32, some (21, false), .p (.pick (.t 24) (.t 31) (.k (.c (C.bool false))))⟩,⟨some 33, some (21, false), .p (.mv (.t 32))⟩,⟨some 34, some (33, true), .p (.mv (.t 3))⟩,⟨some 35, some (33, true), .p (.mv (.t 4))⟩,⟨some 36, some (33, true), .p (.bin .sub (.t 35) (.k (.c (C.int .i64 1))))⟩,⟨some 37, some (33, true), .p (.fld 0 (.t 1))⟩,⟨some 38, some (33, true), .p (.ixA 6 4 (.t 37) (.t 34))⟩,⟨some 39, some (33, true), .p (.ixA 4 1 (.t 38) (.t 36))⟩,⟨some 40, some (33, true), .h (.load 1 false (.t 39))⟩,⟨some 41, some (33, true), .p (.bin .eql (.t 40) (.k (.c (C.int .i64 0))))⟩,⟨some 42, some (21, false), .p (.pick (.t 33) (.t 41) (.k (.c (C.bool false))))⟩,⟨some 43, none, .p (.pick (.t 21) (.k (.c (C.bool true))) (.t 42))⟩] [1, 3, 4, 43])
 (.cond (.t 43)
 (.seq (.region [⟨some 2, none, .p (.mv (.k (.c (C.bool false))))⟩] [2])
  .ret)
  .skip)))
 (.region [⟨some 11, none, .p (.mv (.t 4))⟩,⟨some 12, none, .p (.bin .add (.t 11) (.k (.c (C.int .i64 1))))⟩,⟨some 4, none, .p (.mv (.t 12))⟩] [1, 3, 4]))) [1, 3, 4]))))
 (.region [⟨some 7, none, .p (.mv (.t 3))⟩,⟨some 8, none, .p (.bin .add (.t 7) (.k (.c (C.int .i64 1))))⟩,⟨some 3, none, .p (.mv (.t 8))⟩] [1, 3]))) [1, 3])))
 (.seq (.region [⟨some 2, none, .p (.mv (.k (.c (C.bool true))))⟩] [2])
  .ret))) }
theorem a45_ok : okFn Tryz.prog 45 a45 = true := by kernel_rfl
/-- loop.example/g01215/spec.l1In -/
def a46 : AFn := { np := 3, nt := 15, res := [.t 6], body :=
 (.seq (.region [⟨some 6, none, .p (.mv (.k (.c (C.bool false))))⟩] [0, 1, 2])
 (.seq (.region [⟨some 7, none, .p (.mv (.t 0))⟩,⟨some 8, none, .p (.mv (.t 1))⟩,⟨some 9, none, .p (.bin .geq (.t 7) (.t 8))⟩,⟨some 10, none, .p (.mv (.t 9))⟩,⟨some 11, some (10, true), .p (.mv (.t 0))⟩,⟨some 12, some (10, true), .p (.mv (.t 2))⟩,⟨some 13, some (10, true), .p (.bin .leq (.t 11) (.t 12))⟩,⟨some 14, none, .p (.pick (.t 10) (.t 13) (.k (.c (C.bool false))))⟩,⟨some 6, none, .p (.mv (.t 14))⟩] [6])
  .ret)) }
theorem a46_ok : okFn Tryz.prog 46 a46 = true := by kernel_rfl
/-- loop.example/g01215/impl.IsValidLog -/
def a47 : AFn := { np := 1, nt := 11, res := [.t 2], body :=
 (.seq (.region [⟨some 1, none, .p (.box 3 (.t 0))⟩,⟨some 2, none, .p (.mv (.k (.c (C.bool false))))⟩] [1])
 (.seq (.region [⟨some 6, none, .h (.load 3 true (.t 1))⟩,⟨some 7, none, .h (.call (.f 92) [.t 6])⟩,⟨some 5, none, .p (.mv (.t 7))⟩,⟨some 8, none, .p (.ext (.t 5) 0)⟩,⟨some 9, none, .p (.ext (.t 5) 1)⟩,⟨some 3, none, .p (.mv (.t 8))⟩,⟨some 4, none, .p (.mv (.t 9))⟩] [4])
 (.seq (.region [⟨some 10, none, .p (.mv (.t 4))⟩,⟨some 2, none, .p (.mv (.t 10))⟩] [2])
  .ret))) }
theorem a47_ok : okFn Tryz.prog 47 a47 = true := by kernel_rfl
/-- loop.example/g01215/impl.isPlainText -/
def a48 : AFn := { np := 1, nt := 11, res := [.t 2], body :=
 (.seq (.region [⟨some 2, none, .p (.mv (.k (.c (C.bool false))))⟩] [0])
 (.seq (.region [⟨some 3, none, .p (.mv (.t 0))⟩,⟨some 4, none, .h (.s2b (.t 3))⟩,⟨some 5, none, .h (.call (.f 93) [.t 4, .f 94])⟩,⟨some 6, none, .p (.mv (.t 5))⟩,⟨some 7, some (6, true), .p (.mv (.t 0))⟩,⟨some 8, some (6, true), .h (.call (.f 49) [.t 7, .k (.c (C.str [35]))])⟩,⟨some 9, some (6, true), .p (.un .not (.t 8))⟩,⟨some 10, none, .p (.pick (.t 6) (.t 9) (.k (.c (C.bool false))))⟩,⟨some 2, none, .p (.mv (.t 10))⟩] [2])
  .ret)) }
theorem a48_ok : okFn Tryz.prog 48 a48 = true := by kernel_rfl
/-- loop.example/g01215/impl.serveOf -/
def a52 : AFn := { np := 2, nt := 82, res := [.cell 4 4 true, .t 5], body :=
 (.seq (.region [⟨some 4, none, .p (.alloc [.k (C.int .i64 0), .k (C.int .i64 0), .k (C.int .i64 0), .k (C.int .i64 0)])⟩,⟨some 5, none, .p (.mv (.k (.c (C.bool false))))⟩] [0, 1, 4])
 (.seq (.block 0 (.seq (.region [⟨some 7, none, .p (.mv (.t 0))⟩,⟨some 8, none, .p (.bin .eql (.t 7) (.k (.c (C.str [112, 111, 117, 114]))))⟩,⟨some 9, none, .p (.mv (.t 8))⟩,⟨some 10, some (9, true), .p (.mv (.t 1))⟩,⟨some 11, some (9, true), .p (.len (.t 10))⟩,⟨some 12, some (9, true), .p (.bin .eql (.t 11) (.k (.c (C.int .i64 2))))⟩,⟨some 13, none, .p (.pick (.t 9) (.t 12) (.k (.c (C.bool false))))⟩,⟨some 6, none, .p (.mv (.t 13))⟩] [0, 1, 4, 6])
 (.cond (.t 6)
 (.seq (.regionD [⟨some 14, none, .p (.mv (.t 1))⟩,⟨some 15, none, .p (.ixS 1 (.t 14) (.k (.c (C.int .i64 0))))⟩,⟨some 16, none, .h (.load 1 false (.t 15))⟩,⟨some 17, none, .p (.mv (.t 1))⟩,⟨some 18, none, .p (.ixS 1 (.t 17) (.k (.c (C.int .i64 1))))⟩,⟨some 19, none, .h (.load 1 false (.t 18))⟩,⟨some 20, none, .p (.build [.k (C.int .i64 0), .k (C.int .i64 0), .k (C.int .i64 0), .k (C.int .i64 0)] [(0, 1, .k (.c (C.int .i64 1))), (1, 1, .t 16), (2, 1, .t 19), (3, 1, .k (.c (C.int .i64 0)))])⟩,⟨none, none, .h (.store 4 (.t 4) (.t 20))⟩,⟨some 5, none, .p (.mv (.k (.c (C.bool true))))⟩] [4, 5] [])
  .ret)
 (.seq (.region [⟨some 22, none, .p (.mv (.t 0))⟩,⟨some 23, none, .p (.bin .eql (.t 22) (.k (.c (C.str [112, 117, 116]))))⟩,⟨some 24, none, .p (.mv (.t 23))⟩,⟨some 25, some (24, true), .p (.mv (.t 1))⟩,⟨some 26, some (24, true), .p (.len (.t 25))⟩,⟨some 27, some (24, true), .p (.bin .eql (.t 26) (.k (.c (C.int .i64 2))))⟩,⟨some 28, none, .p (.pick (.t 24) (.t 27) (.k (.c (C.bool false))))⟩,⟨some 21, none, .p (.mv (.t 28))⟩] [0, 1, 4, 21])
 (.cond (.t 21)
 (.seq (.regionD [⟨some 29, none, .p (.mv (.t 1))⟩,⟨some 30, none, .p (.ixS 1 (.t 29) (.k (.c (C.int .i64 0))))⟩,⟨some 31, none, .h (.load 1 false (.t 30))⟩,⟨some 32, none, .p (.mv (.t 1))⟩,⟨some 33, none, .p (.ixS 1 (.t 32) (.k (.c (C.int .i64 1))))⟩,⟨some 34, none, .h (.load 1 false (.t 33))⟩,⟨some 35, none, .p (.build [.k (C.int .i64 0), .k (C.int .i64 0), .k (C.int .i64 0), .k (C.int .i64 0)] [(0, 1, .k (.c (C.int .i64 2))), (1, 1, .t 31), (2, 1, .t 34), (3, 1, .k (.c (C.int .i64 0)))])⟩,⟨none, none, .h (.store 4 (.t 4) (.t 35))⟩,⟨some 5, none, .p (.mv (.k (.c (C.bool true))))⟩] [4, 5] [])
  .ret)
 (.seq (.region [⟨some 37, none, .p (.mv (.t 0))⟩,⟨some 38, none, .p (.bin .eql (.t 37) (.k (.c (C.str [116, 97, 107, 101]))))⟩,⟨some 39, none, .p (.mv (.t 38))⟩,⟨some 40, some (39, true), .p (.mv (.t 1))⟩,⟨some 41, some (39, true), .p (.len (.t 40))⟩,⟨some 42, some (39, true), .p (.bin .eql (.t 41) (.k (.c (C.int .i64 1))))⟩,⟨some 43, none, .p (.pick (.t 39) (.t 42) (.k (.c (C.bool false))))⟩,⟨some 36, none, .p (.mv (.t 43))⟩] [0, 1, 4, 36])
 (.cond (.t 36)
 (.seq (.region [⟨some 44, none, .p (.mv (.t 1))⟩,⟨some 45, none, .p (.ixS 1 (.t 44) (.k (.c (C.int .i64 0))))⟩,⟨some 46, none, .h (.load 1 false (.t 45))⟩,⟨some 47, none, .p (.build [.k (C.int .i64 0), .k (C.int .i64 0), .k (C.int .i64 0), .k (C.int .i64 0)] [(0, 1, .k (.c (C.int .i64 3))), (1, 1, .t 46), (2, 1, .k (.c (C.int .i64 0))), (3, 1, .k (.c (C.int .i64 0)))])⟩,⟨none, none, .h (.store 4 (.t 4) (.t 47))⟩,⟨some 5, none, .p (.mv (.k (.c (C.bool true))))⟩] [4, 5])
  .ret)
 (.seq (.region [⟨some 49, none, .p (.mv (.t 0))⟩,⟨some 50, none, .p (.bin .eql (.t 49) (.k (.c (C.str [115, 119, 97, 112]))))⟩,⟨some 51, none, .p (.mv (.t 50))⟩,⟨some 52, some (51, true), .p (.mv (.t 1))⟩,⟨some 53, some (51, true), .p (.len (.t 52))⟩,⟨some 54, some (51, true), .p (.bin .eql (.t 53) (.k (.c (C.int .i64 2))))⟩,⟨some 55, none, .p (.pick (.t 51) (.t 54) (.k (.c (C.bool false))))⟩,⟨some 48, none, .p (.mv (.t 55))⟩] [0, 1, 4, 48])
 (.cond (.t 48)
 (.seq (.regionD [⟨some 56, none, .p (.mv (.t 1))⟩,⟨some 57, none, .p (.ixS 1 (.t 56) (.k (.c (C.int .i64 0))))⟩,⟨some 58, none, .h (.load 1 false (.t 57))⟩,⟨some 59, none, .p (.mv (.t 1))⟩,⟨some 60, none, .p (.ixS 1 (.t 59) (.k (.c (C.int .i64 1))))⟩,⟨some 61, none, .h (.load 1 false (.t 60))⟩,⟨some 62, none, .p (.build [.k (C.int .i64 0), .k (C.int .i64 0), .k (C.int .i64 0), .k (C.int .i64 0)] [(0, 1, .k (.c (C.int .i64 4))), (1, 1, .t 58), (2, 1, .t 61), (3, 1, .k (.c (C.int .i64 0)))])⟩,⟨none, none, .h (.store 4 (.t 4) (.t 62))⟩,⟨some 5, none, .p (.mv (.k (.c (C.bool true))))⟩] [4, 5] [])
  .ret)
 (.seq (.region [⟨some 64, none, .p (.mv (.t 0))⟩,⟨some 65, none, .p (.bin .eql (.t 64) (.k (.c (C.str [98, 97, 99, 107]))))⟩,⟨some 66, none, .p (.mv (.t 65))⟩,⟨some 67, some (66, true), .p (.mv (.t 1))⟩,⟨some 68, some (66, true), .p (.len (.t 67))⟩,⟨some 69, some (66, true), .p (.bin .eql (.t 68) (.k (.c (C.int .i64 3))))⟩,⟨some 70, none, .p (.pick (.t 66) (.t 69) (.k (.c (C.bool false))))⟩,⟨some 63, none, .p (.mv (.t 70))⟩] [1, 4, 63])
 (.cond (.t 63)
 (.seq (.regionD [⟨some 71, none, .p (.mv (.t 1))⟩,⟨some 72, none, .p (.ixS 1 (.t 71) (.k (.c (C.int .i64 0))))⟩,⟨some 73, none, .h (.load 1 false (.t 72))⟩,⟨some 74, none, .p (.mv (.t 1))⟩,⟨some 75, none, .p (.ixS 1 (.t 74) (.k (.c (C.int .i64 1))))⟩,⟨some 76, none, .h (.load 1 false (.t 75))⟩,⟨some 77, none, .p (.mv (.t 1))⟩,⟨some 78, none, .p (.ixS 1 (.t 77) (.k (.c (C.int .i64 2))))⟩,⟨some 79, none, .h (.load 1 false (.t 78))⟩,⟨some 80, none, .p (.build [.k (C.int .i64 0), .k (C.int .i64 0), .k (C.int .i64 0), .k (C.int .i64 0)] [(0, 1, .k (.c (C.int .i64 5))), (1, 1, .t 73), (2, 1, .t 76), (3, 1, .t 79)])⟩,⟨none, none, .h (.store 4 (.t 4) (.t 80))⟩,⟨some 5, none, .p (.mv (.k (.c (C.bool true))))⟩] [4, 5] [])
  .ret)
  .skip)))))))))))
 (.seq (.region [⟨some 81, none, .p (.build [.k (C.int .i64 0), .k (C.int .i64 0), .k (C.int .i64 0), .k (C.int .i64 0)] [])⟩,⟨none, none, .h (.store 4 (.t 4) (.t 81))⟩,⟨some 5, none, .p (.mv (.k (.c (C.bool false))))⟩] [4, 5])
  .ret))) }
theorem a52_ok : okFn Tryz.prog 52 a52 = true := by kernel_rfl
/-- (loop.example/g01215/impl.Bar).plain -/
def a55 : AFn := { np := 2, nt := 125, res := [.t 4], body :=
 (.seq (.region [⟨some 2, none, .p (.box 26 (.t 0))⟩,⟨some 4, none, .p (.mv (.k (.c (C.str []))))⟩] [1, 2])
 (.seq (.region [⟨some 7, none, .p (.fld 0 (.t 2))⟩,⟨some 8, none, .h (.load 24 true (.t 7))⟩,⟨some 5, none, .p (.alloc (List.replicate 24 (.k (C.int .i64 0))))⟩,⟨none, none, .h (.store 24 (.t 5) (.t 8))⟩] [1, 2, 5])
 (.seq (.seq (.region [⟨some 9, none, .p (.mv (.t 1))⟩] [2, 5, 9])
 (.block 0 (.seq (.region [⟨some 11, none, .p (.bin .eql (.t 9) (.k (.c (C.str [114, 97, 99, 107]))))⟩,⟨some 10, none, .p (.mv (.t 11))⟩] [2, 5, 9, 10])
 (.cond (.t 10)
 (.seq (.region [⟨some 12, none, .h (.load 24 true (.t 5))⟩,⟨some 13, none, .h (.call (.f 26) [.t 12])⟩,⟨some 4, none, .p (.mv (.t 13))⟩] [4])
  .ret)
 (.seq (.region [⟨some 15, none, .p (.bin .eql (.t 9) (.k (.c (C.str [109, 111, 118, 101, 100]))))⟩,⟨some 14, none, .p (.mv (.t 15))⟩] [2, 5, 9, 14])
 (.cond (.t 14)
 (.seq (.region [⟨some 16, none, .p (.fld 24 (.t 2))⟩,⟨some 17, none, .h (.load 1 false (.t 16))⟩,⟨some 18, none, .h (.call (.f 82) [.t 17])⟩,⟨some 4, none, .p (.mv (.t 18))⟩] [4])
  .ret)
 (.seq (.region [⟨some 20, none, .p (.bin .eql (.t 9) (.k (.c (C.str [112, 111, 117, 114, 115]))))⟩,⟨some 19, none, .p (.mv (.t 20))⟩] [2, 5, 9, 19])
 (.cond (.t 19)
 (.seq (.region [⟨some 21, none, .h (.load 24 true (.t 5))⟩,⟨some 22, none, .h (.call (.f 100) [.t 21])⟩,⟨some 23, none, .p (.ext (.t 22) 0)⟩,⟨some 24, none, .p (.ext (.t 22) 1)⟩,⟨some 25, none, .h (.call (.f 99) [.t 23, .t 24])⟩,⟨some 4, none, .p (.mv (.t 25))⟩] [4])
  .ret)
 (.seq (.region [⟨some 27, none, .p (.bin .eql (.t 9) (.k (.c (C.str [117, 115, 101, 102, 117, 108]))))⟩,⟨some 26, none, .p (.mv (.t 27))⟩] [2, 5, 9, 26])
 (.cond (.t 26)
 (.seq (.region [⟨some 28, none, .h (.load 24 true (.t 5))⟩,⟨some 29, none, .h (.call (.f 10) [.t 28])⟩,⟨some 30, none, .p (.ext (.t 29) 0)⟩,⟨some 31, none, .p (.ext (.t 29) 1)⟩,⟨some 32, none, .h (.call (.f 99) [.t 30, .t 31])⟩,⟨some 4, none, .p (.mv (.t 32))⟩] [4])
  .ret)
 (.seq (.region [⟨some 34, none, .p (.bin .eql (.t 9) (.k (.c (C.str [115, 111, 114, 116, 101, 100]))))⟩,⟨some 33, none, .p (.mv (.t 34))⟩] [2, 5, 9, 33])
 (.cond (.t 33)
 (.seq (.region [⟨some 35, none, .h (.load 24 true (.t 5))⟩,⟨some 36, none, .h (.call (.f 102) [.t 35])⟩,⟨some 37, none, .p (.ext (.t 36) 0)⟩,⟨some 38, none, .p (.ext (.t 36) 1)⟩,⟨some 39, none, .h (.call (.f 101) [.t 37, .t 38])⟩,⟨some 4, none, .p (.mv (.t 39))⟩] [4])
  .ret)
 (.seq (.region [⟨some 41, none, .p (.bin .eql (.t 9) (.k (.c (C.str [102, 101, 119, 101, 115, 116]))))⟩,⟨some 40, none, .p (.mv (.t 41))⟩] [2, 5, 9, 40])
 (.cond (.t 40)
 (.seq (.region [⟨some 42, none, .h (.load 24 true (.t 5))⟩,⟨some 43, none, .h (.call (.f 11) [.t 42])⟩,⟨some 44, none, .p (.ext (.t 43) 0)⟩,⟨some 45, none, .p (.ext (.t 43) 1)⟩,⟨some 46, none, .h (.call (.f 103) [.t 44, .t 45])⟩,⟨some 4, none, .p (.mv (.t 46))⟩] [4])
  .ret)
 (.seq (.region [⟨some 48, none, .p (.bin .eql (.t 9) (.k (.c (C.str [119, 97, 121]))))⟩,⟨some 47, none, .p (.mv (.t 48))⟩] [2, 5, 9, 47])
 (.cond (.t 47)
 (.seq (.region [⟨some 49, none, .h (.load 24 true (.t 5))⟩,⟨some 50, none, .h (.call (.f 12) [.t 49])⟩,⟨some 51, none, .p (.ext (.t 50) 0)⟩,⟨some 52, none, .p (.ext (.t 50) 1)⟩,⟨some 53, none, .h (.call (.f 99) [.t 51, .t 52])⟩,⟨some 4, none, .p (.mv (.t 53))⟩] [4])
  .ret)
 (.seq (.region [⟨some 55, none, .p (.bin .eql (.t 9) (.k (.c (C.str [119, 97, 121, 115]))))⟩,⟨some 54, none, .p (.mv (.t 55))⟩] [2, 5, 9, 54])
 (.cond (.t 54)
 (.seq (.region [⟨some 56, none, .h (.load 24 true (.t 5))⟩,⟨some 57, none, .h (.call (.f 104) [.t 56])⟩,⟨some 58, none, .p (.ext (.t 57) 0)⟩,⟨some 59, none, .p (.ext (.t 57) 1)⟩,⟨some 60, none, .h (.call (.f 103) [.t 58, .t 59])⟩,⟨some 4, none, .p (.mv (.t 60))⟩] [4])
  .ret)
 (.seq (.region [⟨some 62, none, .p (.bin .eql (.t 9) (.k (.c (C.str [115, 116, 117, 99, 107]))))⟩,⟨some 61, none, .p (.mv (.t 62))⟩] [2, 5, 9, 61])
 (.cond (.t 61)
 (.seq (.region [⟨some 63, none, .h (.load 24 true (.t 5))⟩,⟨some 64, none, .h (.call (.f 105) [.t 63])⟩,⟨some 65, none, .p (.ext (.t 64) 0)⟩,⟨some 66, none, .p (.ext (.t 64) 1)⟩,⟨some 67, none, .h (.call (.f 101) [.t 65, .t 66])⟩,⟨some 4, none, .p (.mv (.t 67))⟩] [4])
  .ret)
 (.seq (.region [⟨some 69, none, .p (.bin .eql (.t 9) (.k (.c (C.str [115, 111, 117, 114, 99, 101, 115]))))⟩,⟨some 68, none, .p (.mv (.t 69))⟩] [2, 5, 9, 68])
 (.cond (.t 68)
 (.seq (.region [⟨some 70, none, .h (.load 24 true (.t 5))⟩,⟨some 71, none, .h (.call (.f 106) [.t 70])⟩,⟨some 72, none, .p (.len (.t 71))⟩,⟨some 73, none, .h (.call (.f 82) [.t 72])⟩,⟨some 4, none, .p (.mv (.t 73))⟩] [4])
  .ret)
 (.seq (.region [⟨some 75, none, .p (.bin .eql (.t 9) (.k (.c (C.str [103, 97, 114, 100, 101, 110]))))⟩,⟨some 74, none, .p (.mv (.t 75))⟩] [2, 5, 9, 74])
 (.cond (.t 74)
 (.seq (.region [⟨some 76, none, .h (.load 24 true (.t 5))⟩,⟨some 77, none, .h (.call (.f 107) [.t 76])⟩,⟨some 78, none, .p (.ext (.t 77) 0)⟩,⟨some 79, none, .p (.ext (.t 77) 1)⟩,⟨some 80, none, .h (.call (.f 101) [.t 78, .t 79])⟩,⟨some 4, none, .p (.mv (.t 80))⟩] [4])
  .ret)
 (.seq (.region [⟨some 82, none, .p (.bin .eql (.t 9) (.k (.c (C.str [117, 110, 100, 111, 110, 101]))))⟩,⟨some 81, none, .p (.mv (.t 82))⟩] [2, 5, 9, 81])
 (.cond (.t 81)
 (.seq (.region [⟨some 83, none, .h (.load 24 true (.t 5))⟩,⟨some 84, none, .h (.call (.f 108) [.t 83])⟩,⟨some 85, none, .p (.ext (.t 84) 0)⟩,⟨some 86, none, .p (.ext (.t 84) 1)⟩,⟨some 87, none, .h (.call (.f 99) [.t 85, .t 86])⟩,⟨some 4, none, .p (.mv (.t 87))⟩] [4])
  .ret)
 (.seq (.region [⟨some 89, none, .p (.bin .eql (.t 9) (.k (.c (C.str [104, 105, 100, 100, 101, 110]))))⟩,⟨some 88, none, .p (.mv (.t 89))⟩] [2, 5, 9, 88])
 (.cond (.t 88)
 (.seq (.region [⟨some 90, none, .h (.load 24 true (.t 5))⟩,⟨some 91, none, .h (.call (.f 31) [.t 90])⟩,⟨some 92, none, .h (.call (.f 75) [.t 91])⟩,⟨some 6, none, .p (.alloc [.k (C.int .i64 0), .k (C.int .i64 0), .k (C.int .i64 0), .k (C.int .i64 0), .k (C.int .i64 0), .k (C.int .i64 0)])⟩,⟨none, none, .h (.store 6 (.t 6) (.t 92))⟩] [6])
 (.seq (.region [⟨some 93, none, .h (.slA 6 1 (.t 6) none none)⟩,⟨some 94, none, .h (.call (.f 79) [.t 93])⟩,⟨some 95, none, .h (.call (.f 82) [.t 94])⟩,⟨some 4, none, .p (.mv (.t 95))⟩] [4])
  .ret))
 (.seq (.region [⟨some 97, none, .p (.bin .eql (.t 9) (.k (.c (C.str [114, 97, 110, 107]))))⟩,⟨some 96, none, .p (.mv (.t 97))⟩] [2, 5, 9, 96])
 (.cond (.t 96)
 (.seq (.region [⟨some 98, none, .h (.load 24 true (.t 5))⟩,⟨some 99, none, .h (.call (.f 109) [.t 98])⟩,⟨some 100, none, .p (.ext (.t 99) 0)⟩,⟨some 101, none, .p (.ext (.t 99) 1)⟩,⟨some 102, none, .h (.call (.f 103) [.t 100, .t 101])⟩,⟨some 4, none, .p (.mv (.t 102))⟩] [4])
  .ret)
 (.seq (.region [⟨some 104, none, .p (.bin .eql (.t 9) (.k (.c (C.str [99, 101, 114, 116, 97, 105, 110]))))⟩,⟨some 103, none, .p (.mv (.t 104))⟩] [2, 5, 9, 103])
 (.cond (.t 103)
 (.seq (.region [⟨some 105, none, .h (.load 24 true (.t 5))⟩,⟨some 106, none, .h (.call (.f 31) [.t 105])⟩,⟨some 107, none, .h (.call (.f 14) [.t 106])⟩,⟨some 108, none, .p (.ext (.t 107) 0)⟩,⟨some 109, none, .p (.ext (.t 107) 1)⟩,⟨some 110, none, .h (.call (.f 99) [.t 108, .t 109])⟩,⟨some 4, none, .p (.mv (.t 110))⟩] [4])
  .ret)
 (.seq (.region [⟨some 112, none, .p (.bin .eql (.t 9) (.k (.c (C.str [114, 117, 110, 115]))))⟩,⟨some 111, none, .p (.mv (.t 112))⟩] [2, 5, 9, 111])
 (.cond (.t 111)
 (.seq (.region [⟨some 113, none, .h (.load 24 true (.t 5))⟩,⟨some 114, none, .h (.call (.f 110) [.t 113])⟩,⟨some 115, none, .p (.ext (.t 114) 0)⟩,⟨some 116, none, .p (.ext (.t 114) 1)⟩,⟨some 117, none, .h (.call (.f 103) [.t 115, .t 116])⟩,⟨some 4, none, .p (.mv (.t 117))⟩] [4])
  .ret)
 (.seq (.region [⟨some 119, none, .p (.bin .eql (.t 9) (.k (.c (C.str [108, 101, 102, 116]))))⟩,⟨some 118, none, .p (.mv (.t 119))⟩] [2, 118])
 (.cond (.t 118)
 (.seq (.region [⟨some 120, none, .h (.load 26 true (.t 2))⟩,⟨some 121, none, .h (.call (.f 15) [.t 120])⟩,⟨some 122, none, .p (.ext (.t 121) 0)⟩,⟨some 123, none, .p (.ext (.t 121) 1)⟩,⟨some 124, none, .h (.call (.f 103) [.t 122, .t 123])⟩,⟨some 4, none, .p (.mv (.t 124))⟩] [4])
  .ret)
  .skip))))))))))))))))))))))))))))))))))))
 (.seq (.region [⟨some 4, none, .p (.mv (.k (.c (C.str [63]))))⟩] [4])
  .ret)))) }
theorem a55_ok : okFn Tryz.prog 55 a55 = true := by kernel_rfl
/-- loop.example/g01215/impl.IsValidRecord -/
def a57 : AFn := { np := 1, nt := 17, res := [.t 2], body :=
 (.seq (.region [⟨some 1, none, .p (.box 2 (.t 0))⟩,⟨some 2, none, .p (.mv (.k (.c (C.bool false))))⟩] [1])
 (.seq (.region [⟨some 3, none, .p (.fld 0 (.t 1))⟩,⟨some 4, none, .h (.load 1 false (.t 3))⟩,⟨some 5, none, .h (.call (.f 22) [.t 4])⟩,⟨some 6, none, .p (.mv (.t 5))⟩,⟨some 7, some (6, true), .p (.fld 1 (.t 1))⟩,⟨some 8, some (6, true), .h (.load 1 false (.t 7))⟩,⟨some 9, some (6, true), .p (.lenStr (.t 8))⟩,⟨some 10, some (6, true), .p (.bin .leq (.t 9) (.k (.c (C.int .i64 250))))⟩,⟨some 11, none, .p (.pick (.t 6) (.t 10) (.k (.c (C.bool false))))⟩,⟨some 12, none, .p (.mv (.t 11))⟩,⟨some 13, some (12, true), .p (.fld 1 (.t 1))⟩,⟨some 14, some (12, true), .h (.load 1 false (.t 13))⟩,⟨some 15, some (12, true), .h (.call (.f 48) [.t 14])⟩,⟨some 16, none, .p (.pick (.t 12) (.t 15) (.k (.c (C.bool false))))⟩,⟨some 2, none, .p (.mv (.t 16))⟩] [2])
  .ret)) }
theorem a57_ok : okFn Tryz.prog 57 a57 = true := by kernel_rfl
/-- loop.example/g01215/impl.EncodeRecord -/
def a58 : AFn := { np := 2, nt := 33, res := [.t 4, .t 5], body :=
 (.seq (.region [⟨some 3, none, .p (.box 2 (.t 1))⟩,⟨some 4, none, .p (.mv (.k (.c (C.str []))))⟩,⟨some 5, none, .p (.mv (.k (.c (C.bool false))))⟩] [0, 3])
 (.seq (.seq (.region [⟨some 8, none, .p (.mv (.t 0))⟩,⟨some 9, none, .h (.call (.f 44) [.t 8, .k (.c (C.int .i64 0)), .k (.c (C.int .i64 59))])⟩,⟨some 10, none, .p (.un .not (.t 9))⟩,⟨some 11, none, .p (.mv (.t 10))⟩,⟨some 12, some (11, false), .h (.load 2 true (.t 3))⟩,⟨some 13, some (11, false), .h (.call (.f 57) [.t 12])⟩,⟨some 14, some (11, false), .p (.un .not (.t 13))⟩,⟨some 15, none, .p (.pick (.t 11) (.k (.c (C.bool true))) (.t 14))⟩] [0, 3, 15])
 (.cond (.t 15)
 (.seq (.region [⟨some 4, none, .p (.mv (.k (.c (C.str []))))⟩,⟨some 5, none, .p (.mv (.k (.c (C.bool false))))⟩] [4, 5])
  .ret)
  .skip))
 (.seq (.regionD [⟨some 17, none, .p (.mv (.t 0))⟩,⟨some 18, none, .h (.call (.f 82) [.t 17])⟩,⟨some 19, none, .p (.bin .add (.t 18) (.k (.c (C.str [32]))))⟩,⟨some 20, none, .p (.fld 0 (.t 3))⟩,⟨some 21, none, .h (.load 1 false (.t 20))⟩,⟨some 22, none, .p (.bin .add (.t 19) (.t 21))⟩,⟨some 23, none, .p (.bin .add (.t 22) (.k (.c (C.str [64]))))⟩,⟨some 24, none, .p (.fld 1 (.t 3))⟩,⟨some 25, none, .h (.load 1 false (.t 24))⟩,⟨some 26, none, .p (.bin .add (.t 23) (.t 25))⟩,⟨some 27, none, .h (.call (.f 116) [.t 26])⟩,⟨some 16, none, .p (.mv (.t 27))⟩,⟨some 28, none, .p (.ext (.t 16) 0)⟩,⟨some 29, none, .p (.ext (.t 16) 1)⟩,⟨some 6, none, .p (.mv (.t 28))⟩,⟨some 7, none, .p (.mv (.t 29))⟩] [6, 7] [])
 (.seq (.region [⟨some 30, none, .p (.mv (.t 6))⟩,⟨some 31, none, .p (.bin .add (.t 30) (.k (.c (C.str [10]))))⟩,⟨some 32, none, .p (.mv (.t 7))⟩,⟨some 4, none, .p (.mv (.t 31))⟩,⟨some 5, none, .p (.mv (.t 32))⟩] [4, 5])
  .ret)))) }
theorem a58_ok : okFn Tryz.prog 58 a58 = true := by kernel_rfl
/-- loop.example/g01215/impl.areAll[[4]int] -/
def a59 : AFn := { np := 2, nt := 9, res := [.t 4], body :=
 (.seq (.region [⟨some 3, none, .p (.box 1 (.t 1))⟩,⟨some 4, none, .p (.mv (.k (.c (C.bool false))))⟩] [0, 3])
 (.seq (.region [⟨some 5, none, .p (.mv (.t 0))⟩,⟨some 6, none, .p (.mkfn 118 [.t 3])⟩,⟨some 7, none, .h (.call (.f 117) [.t 5, .t 6])⟩,⟨some 8, none, .p (.un .not (.t 7))⟩,⟨some 4, none, .p (.mv (.t 8))⟩] [4])
  .ret)) }
theorem a59_ok : okFn Tryz.prog 59 a59 = true := by kernel_rfl
/-- loop.example/g01215/impl.isTube -/
def a60 : AFn := { np := 1, nt := 14, res := [.t 2], body :=
 (.seq (.region [⟨some 1, none, .p (.box 4 (.t 0))⟩,⟨some 2, none, .p (.mv (.k (.c (C.bool false))))⟩] [1])
 (.seq (.region [⟨some 4, none, .h (.load 4 true (.t 1))⟩,⟨some 5, none, .h (.call (.f 73) [.t 4])⟩,⟨some 3, none, .p (.mv (.t 5))⟩] [1, 3])
 (.seq (.region [⟨some 6, none, .p (.mv (.t 3))⟩,⟨some 7, none, .h (.slA 4 1 (.t 1) none (some (.t 6)))⟩,⟨some 8, none, .h (.call (.f 76) [.t 7, .f 119])⟩,⟨some 9, none, .p (.mv (.t 8))⟩,⟨some 10, some (9, true), .p (.mv (.t 3))⟩,⟨some 11, some (9, true), .h (.slA 4 1 (.t 1) (some (.t 10)) none)⟩,⟨some 12, some (9, true), .h (.call (.f 76) [.t 11, .f 120])⟩,⟨some 13, none, .p (.pick (.t 9) (.t 12) (.k (.c (C.bool false))))⟩,⟨some 2, none, .p (.mv (.t 13))⟩] [2])
  .ret))) }
theorem a60_ok : okFn Tryz.prog 60 a60 = true := by kernel_rfl
/-- loop.example/g01215/impl.colorText -/
def a61 : AFn := { np := 1, nt := 11, res := [.t 2], body :=
 (.seq (.region [⟨some 2, none, .p (.mv (.k (.c (C.str []))))⟩] [0])
 (.seq (.seq (.region [⟨some 3, none, .p (.mv (.t 0))⟩,⟨some 4, none, .p (.bin .eql (.t 3) (.k (.c (C.int .i64 0))))⟩] [0, 4])
 (.cond (.t 4)
 (.seq (.region [⟨some 2, none, .p (.mv (.k (.c (C.str [46]))))⟩] [2])
  .ret)
  .skip))
 (.seq (.region [⟨some 5, none, .p (.mv (.t 0))⟩,⟨some 6, none, .p (.conv .u8 (.t 5))⟩,⟨some 7, none, .p (.bin .add (.k (.c (C.int .u8 97))) (.t 6))⟩,⟨some 8, none, .p (.bin .sub (.t 7) (.k (.c (C.int .u8 1))))⟩,⟨some 9, none, .p (.mksl 1 1 [.k (C.int .u8 0)] [(0, 1, .t 8)])⟩,⟨some 10, none, .h (.b2s (.t 9))⟩,⟨some 2, none, .p (.mv (.t 10))⟩] [2])
  .ret))) }
theorem a61_ok : okFn Tryz.prog 61 a61 = true := by kernel_rfl
/-- slices.DeleteFunc[[][2]int,[2]int] -/
def a63 : AFn := { np := 2, nt := 42, res := [.t 4], body :=
 (.seq (.region [⟨some 4, none, .p (.nilsl 2)⟩] [0, 1])
 (.seq (.region [⟨some 8, none, .p (.mv (.t 0))⟩,⟨some 9, none, .p (.mv (.t 1))⟩,⟨some 10, none, .h (.call (.f 124) [.t 8, .t 9])⟩,⟨some 5, none, .p (.mv (.t 10))⟩] [0, 1, 5])
 (.seq (.seq (.region [⟨some 11, none, .p (.mv (.t 5))⟩,⟨some 12, none, .p (.bin .eql (.t 11) (.k (.c (C.int .i64 (-1)))))⟩] [0, 1, 5, 12])
 (.cond (.t 12)
 (.seq (.region [⟨some 13, none, .p (.mv (.t 0))⟩,⟨some 4, none, .p (.mv (.t 13))⟩] [4])
  .ret)
  .skip))
 (.seq (.seq (.region [⟨some 14, none, .p (.mv (.t 5))⟩,⟨some 15, none, .p (.bin .add (.t 14) (.k (.c (C.int .i64 1))))⟩,⟨some 6, none, .p (.mv (.t 15))⟩] [0, 1, 5, 6])
 (.block 0 (.loop (.seq (.seq (.region [⟨some 16, none, .p (.mv (.t 6))⟩,⟨some 17, none, .p (.mv (.t 0))⟩,⟨some 18, none, .p (.len (.t 17))⟩,⟨some 19, none, .p (.bin .lss (.t 16) (.t 18))⟩] [0, 1, 5, 6, 19])
 (.cond (.t 19)
  .skip
 (.exit 0)))
 (.seq (.block 1 (.seq (.region [⟨some 22, none, .p (.mv (.t 0))⟩,⟨some 23, none, .p (.mv (.t 6))⟩,⟨some 24, none, .p (.ixS 2 (.t 22) (.t 23))⟩,⟨some 25, none, .h (.load 2 true (.t 24))⟩,⟨some 7, none, .p (.alloc [.k (C.int .i64 0), .k (C.int .i64 0)])⟩,⟨none, none, .h (.store 2 (.t 7) (.t 25))⟩] [0, 1, 5, 6, 7])
 (.seq (.region [⟨some 26, none, .p (.mv (.t 1))⟩,⟨some 27, none, .h (.load 2 true (.t 7))⟩,⟨some 28, none, .h (.call (.t 26) [.t 27])⟩,⟨some 29, none, .p (.un .not (.t 28))⟩] [0, 1, 5, 6, 7, 29])
 (.cond (.t 29)
 (.seq (.region [⟨some 30, none, .p (.mv (.t 0))⟩,⟨some 31, none, .p (.mv (.t 5))⟩,⟨some 32, none, .h (.load 2 true (.t 7))⟩,⟨some 33, none, .p (.ixS 2 (.t 30) (.t 31))⟩,⟨none, none, .h (.store 2 (.t 33) (.t 32))⟩] [0, 1, 5, 6])
 (.region [⟨some 34, none, .p (.mv (.t 5))⟩,⟨some 35, none, .p (.bin .add (.t 34) (.k (.c (C.int .i64 1))))⟩,⟨some 5, none, .p (.mv (.t 35))⟩] [0, 1, 5, 6]))
  .skip))))
 (.region [⟨some 20, none, .p (.mv (.t 6))⟩,⟨some 21, none, .p (.bin .add (.t 20) (.k (.c (C.int .i64 1))))⟩,⟨some 6, none, .p (.mv (.t 21))⟩] [0, 1, 5, 6]))) [0, 1, 5, 6])))
 (.seq (.region [⟨some 36, none, .p (.mv (.t 0))⟩,⟨some 37, none, .p (.mv (.t 5))⟩,⟨some 38, none, .p (.slS 2 (.t 36) (some (.t 37)) none)⟩,⟨none, none, .h (.clr 2 [.k (C.int .i64 0), .k (C.int .i64 0)] (.t 38))⟩] [0, 5])
 (.seq (.region [⟨some 39, none, .p (.mv (.t 0))⟩,⟨some 40, none, .p (.mv (.t 5))⟩,⟨some 41, none, .p (.slS 2 (.t 39) none (some (.t 40)))⟩,⟨some 4, none, .p (.mv (.t 41))⟩] [4])
  .ret)))))) }
theorem a63_ok : okFn Tryz.prog 63 a63 = true := by kernel_rfl
/-- loop.example/g01215/impl.pours -/
def a64 : AFn := { np := 1, nt := 25, res := [.t 2], body :=
 (.seq (.region [⟨some 1, none, .p (.box 24 (.t 0))⟩,⟨some 2, none, .p (.nilsl 2)⟩] [1])
 (.seq (.region [⟨some 3, none, .p (.nilsl 2)⟩] [1, 3])
 (.seq (.seq (.region [⟨some 6, none, .p (.mv (.k (.c (C.int .i64 0))))⟩] [1, 3, 6])
 (.block 0 (.loop (.seq (.region [⟨some 7, none, .p (.bin .lss (.t 6) (.k (.c (C.int .i64 6))))⟩] [1, 3, 6, 7])
 (.seq (.cond (.t 7)
  .skip
 (.exit 0))
 (.seq (.block 1 (.seq (.region [⟨some 8, none, .p (.mv (.t 6))⟩,⟨some 4, none, .p (.mv (.t 8))⟩] [1, 3, 4, 6])
 (.seq (.region [⟨some 9, none, .p (.mv (.k (.c (C.int .i64 0))))⟩] [1, 3, 4, 6, 9])
 (.block 2 (.loop (.seq (.region [⟨some 10, none, .p (.bin .lss (.t 9) (.k (.c (C.int .i64 6))))⟩] [1, 3, 4, 6, 9, 10])
 (.seq (.cond (.t 10)
  .skip
 (.exit 2))
 (.seq (.block 3 (.seq (.region [⟨some 11, none, .p (.mv (.t 9))⟩,⟨some 5, none, .p (.mv (.t 11))⟩] [1, 3, 4, 5, 6, 9])
 (.seq (.region [⟨some 12, none, .h (.load 24 true (.t 1))⟩,⟨some 13, none, .p (.mv (.t 4))⟩,⟨some 14, none, .p (.mv (.t 5))⟩,⟨some 15, none, .h (.call (.f 125) [.t 12, .t 13, .t 14])⟩] [1, 3, 4, 5, 6, 9, 15])
 (.cond (.t 15)
 (.region [⟨some 16, none, .p (.mv (.t 3))⟩,⟨some 17, none, .p (.mv (.t 4))⟩,⟨some 18, none, .p (.mv (.t 5))⟩,⟨some 19, none, .p (.build [.k (C.int .i64 0), .k (C.int .i64 0)] [(0, 1, .t 17), (1, 1, .t 18)])⟩,⟨some 20, none, .p (.mksl 2 1 [.k (C.int .i64 0), .k (C.int .i64 0)] [(0, 2, .t 19)])⟩,⟨some 21, none, .h (.app 2 (.t 16) (.t 20))⟩,⟨some 3, none, .p (.mv (.t 21))⟩] [1, 3, 4, 6, 9])
  .skip))))
 (.region [⟨some 22, none, .p (.bin .add (.t 9) (.k (.c (C.int .i64 1))))⟩,⟨some 9, none, .p (.mv (.t 22))⟩] [1, 3, 4, 6, 9])))) [1, 3, 4, 6, 9])))))
 (.region [⟨some 23, none, .p (.bin .add (.t 6) (.k (.c (C.int .i64 1))))⟩,⟨some 6, none, .p (.mv (.t 23))⟩] [1, 3, 6])))) [1, 3, 6])))
 (.seq (.region [⟨some 24, none, .p (.mv (.t 3))⟩,⟨some 2, none, .p (.mv (.t 24))⟩] [2])
  .ret)))) }
theorem a64_ok : okFn Tryz.prog 64 a64 = true := by kernel_rfl
/-- loop.example/g01215/impl.useful$1 -/
def a65 : AFn := { np := 2, nt := 7, res := [.t 3], body :=
 (.seq (.region [⟨some 2, none, .p (.box 2 (.t 0))⟩,⟨some 3, none, .p (.mv (.k (.c (C.bool false))))⟩] [1, 2])
 (.seq (.region [⟨some 4, none, .h (.load 24 true (.t 1))⟩,⟨some 5, none, .h (.load 2 true (.t 2))⟩,⟨some 6, none, .h (.call (.f 66) [.t 4, .t 5])⟩,⟨some 3, none, .p (.mv (.t 6))⟩] [3])
  .ret)) }
theorem a65_ok : okFn Tryz.prog 65 a65 = true := by kernel_rfl
/-- loop.example/g01215/impl.isIdle -/
def a66 : AFn := { np := 2, nt := 22, res := [.t 4], body :=
 (.seq (.region [⟨some 2, none, .p (.box 24 (.t 0))⟩,⟨some 3, none, .p (.box 2 (.t 1))⟩,⟨some 4, none, .p (.mv (.k (.c (C.bool false))))⟩] [2, 3])
 (.seq (.region [⟨some 5, none, .p (.ixA 2 1 (.t 3) (.k (.c (C.int .i64 0))))⟩,⟨some 6, none, .h (.load 1 false (.t 5))⟩,⟨some 7, none, .p (.fld 0 (.t 2))⟩,⟨some 8, none, .p (.ixA 6 4 (.t 7) (.t 6))⟩,⟨some 9, none, .h (.load 4 true (.t 8))⟩,⟨some 10, none, .h (.call (.f 126) [.t 9])⟩,⟨some 11, none, .p (.len (.t 10))⟩,⟨some 12, none, .p (.bin .eql (.t 11) (.k (.c (C.int .i64 1))))⟩,⟨some 13, none, .p (.mv (.t 12))⟩,⟨some 14, some (13, true), .p (.ixA 2 1 (.t 3) (.k (.c (C.int .i64 1))))⟩,⟨some 15, some (13, true), .h (.load 1 false (.t 14))⟩,⟨some 16, some (13, true), .p (.fld 0 (.t 2))⟩,⟨some 17, some (13, true), .p (.ixA 6 4 (.t 16) (.t 15))⟩,⟨some 18, some (13, true), .h (.load 4 true (.t 17))⟩,⟨some 19, some (13, true), .h (.call (.f 73) [.t 18])⟩,⟨some 20, some (13, true), .p (.bin .eql (.t 19) (.k (.c (C.int .i64 0))))⟩,⟨some 21, none, .p (.pick (.t 13) (.t 20) (.k (.c (C.bool false))))⟩,⟨some 4, none, .p (.mv (.t 21))⟩] [4])
  .ret)) }
theorem a66_ok : okFn Tryz.prog 66 a66 = true := by kernel_rfl
/-- loop.example/g01215/impl.searchFrom -/
def a67 : AFn := { np := 1, nt := 13, res := [.t 2], body :=
 (.seq (.region [⟨some 1, none, .p (.box 24 (.t 0))⟩,⟨some 2, none, .p (.mv (.k (.c (C.dead))))⟩] [1])
 (.seq (.region [⟨some 4, none, .h (.load 24 true (.t 1))⟩,⟨some 5, none, .h (.call (.f 127) [.t 4])⟩,⟨some 3, none, .p (.alloc (List.replicate 24 (.k (C.int .i64 0))))⟩,⟨none, none, .h (.store 24 (.t 3) (.t 5))⟩] [3])
 (.seq (.regionD [⟨some 6, none, .h (.mnew)⟩,⟨some 7, none, .h (.load 24 true (.t 3))⟩,⟨none, none, .h (.mset (.t 6) (.t 7) (.k (.c (C.int .i64 0))))⟩,⟨some 8, none, .p (.mv (.t 6))⟩,⟨some 9, none, .h (.load 24 true (.t 3))⟩,⟨some 10, none, .p (.mksl 24 1 (List.replicate 24 (.k (C.int .i64 0))) [(0, 24, .t 9)])⟩,⟨some 11, none, .p (.build [.k (C.dead), .sl 24, .k (C.int .i64 0)] [(0, 1, .t 8), (1, 1, .t 10)])⟩,⟨some 12, none, .p (.box 3 (.t 11))⟩,⟨some 2, none, .p (.mv (.t 12))⟩] [2] [(.t 6, .t 3)])
  .ret))) }
theorem a67_ok : okFn Tryz.prog 67 a67 = true := by kernel_rfl
/-- (*loop.example/g01215/impl.search).until -/
def a68 : AFn := { np := 2, nt := 21, res := [.t 4, .t 5], body :=
 (.seq (.region [⟨some 4, none, .p (.mv (.k (.c (C.bool false))))⟩,⟨some 5, none, .p (.mv (.k (.c (C.bool false))))⟩] [0, 1])
 (.block 0 (.loop (.block 1 (.seq (.seq (.region [⟨some 6, none, .p (.mv (.t 0))⟩,⟨some 7, none, .p (.nn (.t 6))⟩,⟨some 8, none, .p (.fld 1 (.t 7))⟩,⟨some 9, none, .h (.load 1 false (.t 8))⟩,⟨some 10, none, .p (.mv (.t 1))⟩,⟨some 11, none, .h (.call (.f 128) [.t 9, .t 10])⟩] [0, 1, 11])
 (.cond (.t 11)
 (.seq (.region [⟨some 4, none, .p (.mv (.k (.c (C.bool true))))⟩,⟨some 5, none, .p (.mv (.k (.c (C.bool true))))⟩] [4, 5])
  .ret)
  .skip))
 (.seq (.seq (.region [⟨some 12, none, .p (.mv (.t 0))⟩,⟨some 13, none, .p (.nn (.t 12))⟩,⟨some 14, none, .p (.fld 1 (.t 13))⟩,⟨some 15, none, .h (.load 1 false (.t 14))⟩,⟨some 16, none, .p (.len (.t 15))⟩,⟨some 17, none, .p (.bin .eql (.t 16) (.k (.c (C.int .i64 0))))⟩] [0, 1, 17])
 (.cond (.t 17)
 (.seq (.region [⟨some 4, none, .p (.mv (.k (.c (C.bool false))))⟩,⟨some 5, none, .p (.mv (.k (.c (C.bool true))))⟩] [4, 5])
  .ret)
  .skip))
 (.seq (.region [⟨some 18, none, .p (.mv (.t 0))⟩,⟨some 19, none, .h (.call (.f 129) [.t 18])⟩,⟨some 20, none, .p (.un .not (.t 19))⟩] [0, 1, 20])
 (.cond (.t 20)
 (.seq (.region [⟨some 4, none, .p (.mv (.k (.c (C.bool false))))⟩,⟨some 5, none, .p (.mv (.k (.c (C.bool false))))⟩] [4, 5])
  .ret)
  .skip))))) [0, 1]))) }
theorem a68_ok : okFn Tryz.prog 68 a68 = true := by kernel_rfl
/-- loop.example/g01215/impl.isSorted -/
def a69 : AFn := { np := 1, nt := 34, res := [.t 2], body :=
 (.seq (.region [⟨some 1, none, .p (.box 24 (.t 0))⟩,⟨some 2, none, .p (.mv (.k (.c (C.bool false))))⟩] [1])
 (.seq (.region [⟨some 3, none, .p (.alloc [.k (C.bool false), .k (C.bool false), .k (C.bool false), .k (C.bool false), .k (C.bool false), .k (C.bool false)])⟩] [1, 3])
 (.seq (.seq (.region [⟨some 7, none, .p (.fld 0 (.t 1))⟩,⟨some 8, none, .h (.load 24 true (.t 7))⟩,⟨some 9, none, .p (.mv (.k (.c (C.int .i64 0))))⟩] [3, 8, 9])
 (.block 0 (.loop (.seq (.region [⟨some 10, none, .p (.bin .lss (.t 9) (.k (.c (C.int .i64 6))))⟩] [3, 8, 9, 10])
 (.seq (.cond (.t 10)
  .skip
 (.exit 0))
 (.seq (.block 1 (.seq (.region [⟨some 11, none, .p (.ixV 6 4 true (.t 8) (.t 9))⟩,⟨some 5, none, .p (.alloc [.k (C.int .i64 0), .k (C.int .i64 0), .k (C.int .i64 0), .k (C.int .i64 0)])⟩,⟨none, none, .h (.store 4 (.t 5) (.t 11))⟩] [3, 5, 8, 9])
 (.seq (.region [⟨some 12, none, .h (.load 4 true (.t 5))⟩,⟨some 13, none, .h (.call (.f 126) [.t 12])⟩,⟨some 6, none, .p (.mv (.t 13))⟩] [3, 6, 8, 9])
 (.seq (.seq (.region [⟨some 14, none, .p (.mv (.t 6))⟩,⟨some 15, none, .p (.len (.t 14))⟩,⟨some 16, none, .p (.bin .eql (.t 15) (.k (.c (C.int .i64 0))))⟩] [3, 6, 8, 9, 16])
 (.cond (.t 16)
 (.exit 1)
  .skip))
 (.seq (.seq (.region [⟨some 17, none, .p (.mv (.t 6))⟩,⟨some 18, none, .p (.len (.t 17))⟩,⟨some 19, none, .p (.bin .gtr (.t 18) (.k (.c (C.int .i64 1))))⟩,⟨some 20, none, .p (.mv (.t 19))⟩,⟨some 21, some (20, false), .p (.mv (.t 6))⟩,⟨some 22, some (20, false), .p (.ixS 2 (.t 21) (.k (.c (C.int .i64 0))))⟩,⟨some 23, some (20, false), .p (.ixA 2 1 (.t 22) (.k (.c (C.int .i64 0))))⟩,⟨some 24, some (20, false), .h (.load 1 false (.t 23))⟩,⟨some 25, some (20, false), .p (.ixA 6 1 (.t 3) (.t 24))⟩,⟨some 26, some (20, false), .h (.load 1 false (.t 25))⟩,⟨some 27, none, .p (.pick (.t 20) (.k (.c (C.bool true))) (.t 26))⟩] [3, 6, 8, 9, 27])
 (.cond (.t 27)
 (.seq (.region [⟨some 2, none, .p (.mv (.k (.c (C.bool false))))⟩] [2])
  .ret)
  .skip))
 (.region [⟨some 28, none, .p (.mv (.t 6))⟩,⟨some 29, none, .p (.ixS 2 (.t 28) (.k (.c (C.int .i64 0))))⟩,⟨some 30, none, .p (.ixA 2 1 (.t 29) (.k (.c (C.int .i64 0))))⟩,⟨some 31, none, .h (.load 1 false (.t 30))⟩,⟨some 32, none, .p (.ixA 6 1 (.t 3) (.t 31))⟩,⟨none, none, .h (.store 1 (.t 32) (.k (.c (C.bool true))))⟩] [3, 8, 9]))))))
 (.region [⟨some 33, none, .p (.bin .add (.t 9) (.k (.c (C.int .i64 1))))⟩,⟨some 9, none, .p (.mv (.t 33))⟩] [3, 8, 9])))) [3, 8, 9])))
 (.seq (.region [⟨some 2, none, .p (.mv (.k (.c (C.bool true))))⟩] [2])
  .ret)))) }
theorem a69_ok : okFn Tryz.prog 69 a69 = true := by kernel_rfl
/-- (*loop.example/g01215/impl.sorting).best$1 -/
def a70 : AFn := { np := 4, nt := 23, res := [.t 5], body :=
 (.seq (.region [⟨some 4, none, .p (.box 2 (.t 0))⟩,⟨some 5, none, .p (.mv (.k (.c (C.bool false))))⟩] [1, 2, 3, 4])
 (.seq (.region [⟨some 9, none, .h (.load 24 true (.t 1))⟩,⟨some 10, none, .p (.ixA 2 1 (.t 4) (.k (.c (C.int .i64 0))))⟩,⟨some 11, none, .h (.load 1 false (.t 10))⟩,⟨some 12, none, .p (.ixA 2 1 (.t 4) (.k (.c (C.int .i64 1))))⟩,⟨some 13, none, .h (.load 1 false (.t 12))⟩,⟨some 14, none, .h (.call (.f 30) [.t 9, .t 11, .t 13])⟩,⟨some 8, none, .p (.mv (.t 14))⟩,⟨some 15, none, .p (.ext (.t 8) 0)⟩,⟨some 16, none, .p (.ext (.t 8) 1)⟩,⟨some 6, none, .p (.alloc (List.replicate 24 (.k (C.int .i64 0))))⟩,⟨none, none, .h (.store 24 (.t 6) (.t 15))⟩,⟨some 7, none, .p (.mv (.t 16))⟩] [2, 3, 6])
 (.seq (.region [⟨some 17, none, .h (.load 1 false (.t 2))⟩,⟨some 18, none, .h (.load 24 true (.t 6))⟩,⟨some 19, none, .h (.load 1 false (.t 3))⟩,⟨some 20, none, .p (.bin .add (.t 19) (.k (.c (C.int .i64 1))))⟩,⟨some 21, none, .h (.call (.f 71) [.t 17, .t 18, .t 20])⟩,⟨some 22, none, .p (.bin .eql (.t 21) (.k (.c (C.int .i64 0))))⟩,⟨some 5, none, .p (.mv (.t 22))⟩] [5])
  .ret))) }
theorem a70_ok : okFn Tryz.prog 70 a70 = true := by kernel_rfl
/-- (*loop.example/g01215/impl.sorting).count -/
def a71 : AFn := { np := 3, nt := 91, res := [.t 6], body :=
 (.seq (.region [⟨some 4, none, .p (.box 24 (.t 1))⟩,⟨some 6, none, .p (.mv (.k (.c (C.int .i64 0))))⟩] [0, 2, 4])
 (.seq (.region [⟨some 17, none, .h (.load 24 true (.t 4))⟩,⟨some 18, none, .h (.call (.f 127) [.t 17])⟩,⟨some 7, none, .p (.alloc (List.replicate 24 (.k (C.int .i64 0))))⟩,⟨none, none, .h (.store 24 (.t 7) (.t 18))⟩] [0, 2, 7])
 (.seq (.seq (.regionD [⟨some 20, none, .p (.mv (.t 0))⟩,⟨some 21, none, .p (.nn (.t 20))⟩,⟨some 22, none, .p (.fld 0 (.t 21))⟩,⟨some 23, none, .h (.load 1 false (.t 22))⟩,⟨some 24, none, .p (.nn (.t 23))⟩,⟨some 25, none, .p (.fld 0 (.t 24))⟩,⟨some 26, none, .h (.load 1 false (.t 25))⟩,⟨some 27, none, .h (.load 24 true (.t 7))⟩,⟨some 28, none, .h (.mget (C.int .i64 0) true (.t 26) (.t 27))⟩,⟨some 19, none, .p (.mv (.t 28))⟩,⟨some 29, none, .p (.ext (.t 19) 0)⟩,⟨some 30, none, .p (.ext (.t 19) 1)⟩,⟨some 8, none, .p (.mv (.t 29))⟩,⟨some 9, none, .p (.mv (.t 30))⟩] [0, 2, 7, 8, 9] [])
 (.seq (.region [⟨some 31, none, .p (.mv (.t 9))⟩,⟨some 32, none, .p (.un .not (.t 31))⟩,⟨some 33, none, .p (.mv (.t 32))⟩,⟨some 34, some (33, false), .p (.mv (.t 8))⟩,⟨some 35, some (33, false), .p (.mv (.t 2))⟩,⟨some 36, some (33, false), .p (.bin .neq (.t 34) (.t 35))⟩,⟨some 37, none, .p (.pick (.t 33) (.k (.c (C.bool true))) (.t 36))⟩] [0, 2, 7, 37])
 (.cond (.t 37)
 (.seq (.region [⟨some 6, none, .p (.mv (.k (.c (C.int .i64 0))))⟩] [6])
  .ret)
  .skip)))
 (.seq (.seq (.region [⟨some 38, none, .p (.mv (.t 2))⟩,⟨some 39, none, .p (.mv (.t 0))⟩,⟨some 40, none, .p (.nn (.t 39))⟩,⟨some 41, none, .p (.fld 0 (.t 40))⟩,⟨some 42, none, .h (.load 1 false (.t 41))⟩,⟨some 43, none, .p (.nn (.t 42))⟩,⟨some 44, none, .p (.fld 2 (.t 43))⟩,⟨some 45, none, .h (.load 1 false (.t 44))⟩,⟨some 46, none, .p (.bin .eql (.t 38) (.t 45))⟩] [0, 2, 7, 46])
 (.cond (.t 46)
 (.seq (.seq (.region [⟨some 47, none, .h (.load 24 true (.t 7))⟩,⟨some 48, none, .h (.call (.f 69) [.t 47])⟩] [48])
 (.cond (.t 48)
 (.seq (.region [⟨some 6, none, .p (.mv (.k (.c (C.int .i64 1))))⟩] [6])
  .ret)
  .skip))
 (.seq (.region [⟨some 6, none, .p (.mv (.k (.c (C.int .i64 0))))⟩] [6])
  .ret))
  .skip))
 (.seq (.seq (.regionD [⟨some 50, none, .p (.mv (.t 0))⟩,⟨some 51, none, .p (.nn (.t 50))⟩,⟨some 52, none, .p (.fld 1 (.t 51))⟩,⟨some 53, none, .h (.load 1 false (.t 52))⟩,⟨some 54, none, .h (.load 24 true (.t 7))⟩,⟨some 55, none, .h (.mget (C.int .i64 0) true (.t 53) (.t 54))⟩,⟨some 49, none, .p (.mv (.t 55))⟩,⟨some 56, none, .p (.ext (.t 49) 0)⟩,⟨some 57, none, .p (.ext (.t 49) 1)⟩,⟨some 10, none, .p (.mv (.t 56))⟩,⟨some 11, none, .p (.mv (.t 57))⟩] [0, 2, 7, 10, 11] [])
 (.seq (.region [⟨some 58, none, .p (.mv (.t 11))⟩] [0, 2, 7, 10, 58])
 (.cond (.t 58)
 (.seq (.region [⟨some 59, none, .p (.mv (.t 10))⟩,⟨some 6, none, .p (.mv (.t 59))⟩] [6])
  .ret)
  .skip)))
 (.seq (.region [⟨some 12, none, .p (.mv (.k (.c (C.int .i64 0))))⟩] [0, 2, 7, 12])
 (.seq (.seq (.region [⟨some 60, none, .h (.load 24 true (.t 7))⟩,⟨some 61, none, .h (.call (.f 27) [.t 60])⟩,⟨some 62, none, .p (.len (.t 61))⟩,⟨some 63, none, .p (.mv (.k (.c (C.int .i64 0))))⟩] [0, 2, 7, 12, 61, 62, 63])
 (.block 0 (.loop (.seq (.region [⟨some 64, none, .p (.bin .lss (.t 63) (.t 62))⟩] [0, 2, 7, 12, 61, 62, 63, 64])
 (.seq (.cond (.t 64)
  .skip
 (.exit 0))
 (.seq (.block 1 (.seq (.region [⟨some 65, none, .p (.ixS 2 (.t 61) (.t 63))⟩,⟨some 66, none, .h (.load 2 true (.t 65))⟩,⟨some 14, none, .p (.alloc [.k (C.int .i64 0), .k (C.int .i64 0)])⟩,⟨none, none, .h (.store 2 (.t 14) (.t 66))⟩] [0, 2, 7, 12, 14, 61, 62, 63])
 (.seq (.region [⟨some 68, none, .h (.load 24 true (.t 7))⟩,⟨some 69, none, .p (.ixA 2 1 (.t 14) (.k (.c (C.int .i64 0))))⟩,⟨some 70, none, .h (.load 1 false (.t 69))⟩,⟨some 71, none, .p (.ixA 2 1 (.t 14) (.k (.c (C.int .i64 1))))⟩,⟨some 72, none, .h (.load 1 false (.t 71))⟩,⟨some 73, none, .h (.call (.f 30) [.t 68, .t 70, .t 72])⟩,⟨some 67, none, .p (.mv (.t 73))⟩,⟨some 74, none, .p (.ext (.t 67) 0)⟩,⟨some 75, none, .p (.ext (.t 67) 1)⟩,⟨some 15, none, .p (.alloc (List.replicate 24 (.k (C.int .i64 0))))⟩,⟨none, none, .h (.store 24 (.t 15) (.t 74))⟩,⟨some 16, none, .p (.mv (.t 75))⟩] [0, 2, 7, 12, 15, 61, 62, 63])
 (.region [⟨some 76, none, .p (.mv (.t 12))⟩,⟨some 77, none, .p (.mv (.t 0))⟩,⟨some 78, none, .h (.load 24 true (.t 15))⟩,⟨some 79, none, .p (.mv (.t 2))⟩,⟨some 80, none, .p (.bin .add (.t 79) (.k (.c (C.int .i64 1))))⟩,⟨some 81, none, .h (.call (.f 71) [.t 77, .t 78, .t 80])⟩,⟨some 82, none, .p (.bin .add (.t 76) (.t 81))⟩,⟨some 12, none, .p (.mv (.t 82))⟩] [0, 2, 7, 12, 61, 62, 63]))))
 (.region [⟨some 83, none, .p (.bin .add (.t 63) (.k (.c (C.int .i64 1))))⟩,⟨some 63, none, .p (.mv (.t 83))⟩] [0, 2, 7, 12, 61, 62, 63])))) [0, 2, 7, 12, 61, 62, 63])))
 (.seq (.regionD [⟨some 84, none, .p (.mv (.t 0))⟩,⟨some 85, none, .p (.nn (.t 84))⟩,⟨some 86, none, .p (.fld 1 (.t 85))⟩,⟨some 87, none, .h (.load 1 false (.t 86))⟩,⟨some 88, none, .h (.load 24 true (.t 7))⟩,⟨some 89, none, .p (.mv (.t 12))⟩,⟨none, none, .h (.mset (.t 87) (.t 88) (.t 89))⟩] [12] [])
 (.seq (.region [⟨some 90, none, .p (.mv (.t 12))⟩,⟨some 6, none, .p (.mv (.t 90))⟩] [6])
  .ret))))))))) }
theorem a71_ok : okFn Tryz.prog 71 a71 = true := by kernel_rfl
/-- loop.example/g01215/impl.top -/
def a72 : AFn := { np := 1, nt := 21, res := [.t 2, .t 3], body :=
 (.seq (.region [⟨some 1, none, .p (.box 4 (.t 0))⟩,⟨some 2, none, .p (.mv (.k (.c (C.int .i64 0))))⟩,⟨some 3, none, .p (.mv (.k (.c (C.int .i64 0))))⟩] [1])
 (.seq (.region [⟨some 6, none, .h (.load 4 true (.t 1))⟩,⟨some 7, none, .h (.call (.f 126) [.t 6])⟩,⟨some 4, none, .p (.mv (.t 7))⟩] [4])
 (.seq (.seq (.region [⟨some 8, none, .p (.mv (.t 4))⟩,⟨some 9, none, .p (.len (.t 8))⟩,⟨some 10, none, .p (.bin .eql (.t 9) (.k (.c (C.int .i64 0))))⟩] [4, 10])
 (.cond (.t 10)
 (.seq (.region [⟨some 2, none, .p (.mv (.k (.c (C.int .i64 0))))⟩,⟨some 3, none, .p (.mv (.k (.c (C.int .i64 0))))⟩] [2, 3])
  .ret)
  .skip))
 (.seq (.region [⟨some 11, none, .p (.mv (.t 4))⟩,⟨some 12, none, .p (.mv (.t 4))⟩,⟨some 13, none, .p (.len (.t 12))⟩,⟨some 14, none, .p (.bin .sub (.t 13) (.k (.c (C.int .i64 1))))⟩,⟨some 15, none, .p (.ixS 2 (.t 11) (.t 14))⟩,⟨some 16, none, .h (.load 2 true (.t 15))⟩,⟨some 5, none, .p (.alloc [.k (C.int .i64 0), .k (C.int .i64 0)])⟩,⟨none, none, .h (.store 2 (.t 5) (.t 16))⟩] [5])
 (.seq (.regionD [⟨some 17, none, .p (.ixA 2 1 (.t 5) (.k (.c (C.int .i64 0))))⟩,⟨some 18, none, .h (.load 1 false (.t 17))⟩,⟨some 19, none, .p (.ixA 2 1 (.t 5) (.k (.c (C.int .i64 1))))⟩,⟨some 20, none, .h (.load 1 false (.t 19))⟩,⟨some 2, none, .p (.mv (.t 18))⟩,⟨some 3, none, .p (.mv (.t 20))⟩] [2, 3] [])
  .ret))))) }
theorem a72_ok : okFn Tryz.prog 72 a72 = true := by kernel_rfl
/-- loop.example/g01215/impl.layers -/
def a73 : AFn := { np := 1, nt := 9, res := [.t 2], body :=
 (.seq (.region [⟨some 1, none, .p (.box 4 (.t 0))⟩,⟨some 2, none, .p (.mv (.k (.c (C.int .i64 0))))⟩] [1])
 (.seq (.region [⟨some 4, none, .h (.slA 4 1 (.t 1) none none)⟩,⟨some 5, none, .h (.call (.f 130) [.t 4, .k (.c (C.int .i64 0))])⟩,⟨some 3, none, .p (.mv (.t 5))⟩] [3])
 (.seq (.seq (.region [⟨some 6, none, .p (.mv (.t 3))⟩,⟨some 7, none, .p (.bin .lss (.t 6) (.k (.c (C.int .i64 0))))⟩] [3, 7])
 (.cond (.t 7)
 (.seq (.region [⟨some 2, none, .p (.mv (.k (.c (C.int .i64 4))))⟩] [2])
  .ret)
  .skip))
 (.seq (.region [⟨some 8, none, .p (.mv (.t 3))⟩,⟨some 2, none, .p (.mv (.t 8))⟩] [2])
  .ret)))) }
theorem a73_ok : okFn Tryz.prog 73 a73 = true := by kernel_rfl
/-- loop.example/g01215/impl.countColors -/
def a74 : AFn := { np := 1, nt := 25, res := [.cell 2 6 true], body :=
 (.seq (.region [⟨some 1, none, .p (.box 24 (.t 0))⟩,⟨some 2, none, .p (.alloc [.k (C.int .i64 0), .k (C.int .i64 0), .k (C.int .i64 0), .k (C.int .i64 0), .k (C.int .i64 0), .k (C.int .i64 0)])⟩] [1, 2])
 (.seq (.region [⟨some 3, none, .p (.alloc [.k (C.int .i64 0), .k (C.int .i64 0), .k (C.int .i64 0), .k (C.int .i64 0), .k (C.int .i64 0), .k (C.int .i64 0)])⟩] [1, 2, 3])
 (.seq (.seq (.region [⟨some 8, none, .p (.fld 0 (.t 1))⟩,⟨some 9, none, .h (.load 24 true (.t 8))⟩,⟨some 10, none, .p (.mv (.k (.c (C.int .i64 0))))⟩] [2, 3, 9, 10])
 (.block 0 (.loop (.seq (.region [⟨some 11, none, .p (.bin .lss (.t 10) (.k (.c (C.int .i64 6))))⟩] [2, 3, 9, 10, 11])
 (.seq (.cond (.t 11)
  .skip
 (.exit 0))
 (.seq (.block 1 (.seq (.region [⟨some 12, none, .p (.ixV 6 4 true (.t 9) (.t 10))⟩,⟨some 5, none, .p (.alloc [.k (C.int .i64 0), .k (C.int .i64 0), .k (C.int .i64 0), .k (C.int .i64 0)])⟩,⟨none, none, .h (.store 4 (.t 5) (.t 12))⟩] [2, 3, 5, 9, 10])
 (.seq (.region [⟨some 13, none, .h (.load 4 true (.t 5))⟩,⟨some 14, none, .p (.mv (.k (.c (C.int .i64 0))))⟩] [2, 3, 9, 10, 13, 14])
 (.block 2 (.loop (.seq (.region [⟨some 15, none, .p (.bin .lss (.t 14) (.k (.c (C.int .i64 4))))⟩] [2, 3, 9, 10, 13, 14, 15])
 (.seq (.cond (.t 15)
  .skip
 (.exit 2))
 (.seq (.block 3 (.seq (.region [⟨some 16, none, .p (.ixV 4 1 false (.t 13) (.t 14))⟩,⟨some 7, none, .p (.mv (.t 16))⟩] [2, 3, 7, 9, 10, 13, 14])
 (.region [⟨some 17, none, .p (.mv (.t 7))⟩,⟨some 18, none, .p (.ixA 6 1 (.t 3) (.t 17))⟩,⟨some 19, none, .h (.load 1 false (.t 18))⟩,⟨some 20, none, .p (.bin .add (.t 19) (.k (.c (C.int .i64 1))))⟩,⟨some 21, none, .p (.ixA 6 1 (.t 3) (.t 17))⟩,⟨none, none, .h (.store 1 (.t 21) (.t 20))⟩] [2, 3, 9, 10, 13, 14])))
 (.region [⟨some 22, none, .p (.bin .add (.t 14) (.k (.c (C.int .i64 1))))⟩,⟨some 14, none, .p (.mv (.t 22))⟩] [2, 3, 9, 10, 13, 14])))) [2, 3, 9, 10, 13, 14])))))
 (.region [⟨some 23, none, .p (.bin .add (.t 10) (.k (.c (C.int .i64 1))))⟩,⟨some 10, none, .p (.mv (.t 23))⟩] [2, 3, 9, 10])))) [2, 3, 9, 10])))
 (.seq (.region [⟨some 24, none, .h (.load 6 true (.t 3))⟩,⟨none, none, .h (.store 6 (.t 2) (.t 24))⟩] [2])
  .ret)))) }
theorem a74_ok : okFn Tryz.prog 74 a74 = true := by kernel_rfl
/-- (loop.example/g01215/impl.View).hidden -/
def a75 : AFn := { np := 1, nt := 22, res := [.cell 2 6 true], body :=
 (.seq (.region [⟨some 1, none, .p (.box 18 (.t 0))⟩,⟨some 2, none, .p (.alloc [.k (C.int .i64 0), .k (C.int .i64 0), .k (C.int .i64 0), .k (C.int .i64 0), .k (C.int .i64 0), .k (C.int .i64 0)])⟩] [1, 2])
 (.seq (.region [⟨some 6, none, .p (.fld 12 (.t 1))⟩,⟨some 7, none, .h (.load 6 true (.t 6))⟩,⟨some 3, none, .p (.alloc [.k (C.int .i64 0), .k (C.int .i64 0), .k (C.int .i64 0), .k (C.int .i64 0), .k (C.int .i64 0), .k (C.int .i64 0)])⟩,⟨none, none, .h (.store 6 (.t 3) (.t 7))⟩] [1, 2, 3])
 (.seq (.seq (.region [⟨some 8, none, .p (.fld 0 (.t 1))⟩,⟨some 9, none, .h (.load 6 true (.t 8))⟩,⟨some 10, none, .p (.mv (.k (.c (C.int .i64 0))))⟩] [2, 3, 9, 10])
 (.block 0 (.loop (.seq (.region [⟨some 11, none, .p (.bin .lss (.t 10) (.k (.c (C.int .i64 6))))⟩] [2, 3, 9, 10, 11])
 (.seq (.cond (.t 11)
  .skip
 (.exit 0))
 (.seq (.block 1 (.seq (.region [⟨some 12, none, .p (.ixV 6 1 false (.t 9) (.t 10))⟩,⟨some 5, none, .p (.mv (.t 12))⟩] [2, 3, 5, 9, 10])
 (.seq (.region [⟨some 13, none, .p (.mv (.t 5))⟩,⟨some 14, none, .p (.bin .gtr (.t 13) (.k (.c (C.int .i64 0))))⟩] [2, 3, 5, 9, 10, 14])
 (.cond (.t 14)
 (.region [⟨some 15, none, .p (.mv (.t 5))⟩,⟨some 16, none, .p (.ixA 6 1 (.t 3) (.t 15))⟩,⟨some 17, none, .h (.load 1 false (.t 16))⟩,⟨some 18, none, .p (.bin .sub (.t 17) (.k (.c (C.int .i64 1))))⟩,⟨some 19, none, .p (.ixA 6 1 (.t 3) (.t 15))⟩,⟨none, none, .h (.store 1 (.t 19) (.t 18))⟩] [2, 3, 9, 10])
  .skip))))
 (.region [⟨some 20, none, .p (.bin .add (.t 10) (.k (.c (C.int .i64 1))))⟩,⟨some 10, none, .p (.mv (.t 20))⟩] [2, 3, 9, 10])))) [2, 3, 9, 10])))
 (.seq (.region [⟨some 21, none, .h (.load 6 true (.t 3))⟩,⟨none, none, .h (.store 6 (.t 2) (.t 21))⟩] [2])
  .ret)))) }
theorem a75_ok : okFn Tryz.prog 75 a75 = true := by kernel_rfl
/-- loop.example/g01215/impl.areAll[int] -/
def a76 : AFn := { np := 2, nt := 9, res := [.t 4], body :=
 (.seq (.region [⟨some 3, none, .p (.box 1 (.t 1))⟩,⟨some 4, none, .p (.mv (.k (.c (C.bool false))))⟩] [0, 3])
 (.seq (.region [⟨some 5, none, .p (.mv (.t 0))⟩,⟨some 6, none, .p (.mkfn 132 [.t 3])⟩,⟨some 7, none, .h (.call (.f 131) [.t 5, .t 6])⟩,⟨some 8, none, .p (.un .not (.t 7))⟩,⟨some 4, none, .p (.mv (.t 8))⟩] [4])
  .ret)) }
theorem a76_ok : okFn Tryz.prog 76 a76 = true := by kernel_rfl
/-- loop.example/g01215/impl.IsView$1 -/
def a77 : AFn := { np := 1, nt := 5, res := [.t 2], body :=
 (.seq (.region [⟨some 2, none, .p (.mv (.k (.c (C.bool false))))⟩] [0])
 (.seq (.region [⟨some 3, none, .p (.mv (.t 0))⟩,⟨some 4, none, .h (.call (.f 44) [.t 3, .k (.c (C.int .i64 0)), .k (.c (C.int .i64 24))])⟩,⟨some 2, none, .p (.mv (.t 4))⟩] [2])
  .ret)) }
theorem a77_ok : okFn Tryz.prog 77 a77 = true := by kernel_rfl
/-- loop.example/g01215/impl.IsView$2 -/
def a78 : AFn := { np := 1, nt := 5, res := [.t 2], body :=
 (.seq (.region [⟨some 2, none, .p (.mv (.k (.c (C.bool false))))⟩] [0])
 (.seq (.region [⟨some 3, none, .p (.mv (.t 0))⟩,⟨some 4, none, .p (.bin .geq (.t 3) (.k (.c (C.int .i64 0))))⟩,⟨some 2, none, .p (.mv (.t 4))⟩] [2])
  .ret)) }
theorem a78_ok : okFn Tryz.prog 78 a78 = true := by kernel_rfl
/-- loop.example/g01215/impl.sum -/
def a79 : AFn := { np := 1, nt := 17, res := [.t 2], body :=
 (.seq (.region [⟨some 2, none, .p (.mv (.k (.c (C.int .i64 0))))⟩] [0])
 (.seq (.region [⟨some 3, none, .p (.mv (.k (.c (C.int .i64 0))))⟩] [0, 3])
 (.seq (.seq (.region [⟨some 6, none, .p (.mv (.t 0))⟩,⟨some 7, none, .p (.len (.t 6))⟩,⟨some 8, none, .p (.mv (.k (.c (C.int .i64 0))))⟩] [3, 6, 7, 8])
 (.block 0 (.loop (.seq (.region [⟨some 9, none, .p (.bin .lss (.t 8) (.t 7))⟩] [3, 6, 7, 8, 9])
 (.seq (.cond (.t 9)
  .skip
 (.exit 0))
 (.seq (.block 1 (.seq (.region [⟨some 10, none, .p (.ixS 1 (.t 6) (.t 8))⟩,⟨some 11, none, .h (.load 1 false (.t 10))⟩,⟨some 5, none, .p (.mv (.t 11))⟩] [3, 5, 6, 7, 8])
 (.region [⟨some 12, none, .p (.mv (.t 3))⟩,⟨some 13, none, .p (.mv (.t 5))⟩,⟨some 14, none, .p (.bin .add (.t 12) (.t 13))⟩,⟨some 3, none, .p (.mv (.t 14))⟩] [3, 6, 7, 8])))
 (.region [⟨some 15, none, .p (.bin .add (.t 8) (.k (.c (C.int .i64 1))))⟩,⟨some 8, none, .p (.mv (.t 15))⟩] [3, 6, 7, 8])))) [3, 6, 7, 8])))
 (.seq (.region [⟨some 16, none, .p (.mv (.t 3))⟩,⟨some 2, none, .p (.mv (.t 16))⟩] [2])
  .ret)))) }
theorem a79_ok : okFn Tryz.prog 79 a79 = true := by kernel_rfl
/-- (loop.example/g01215/impl.View).tops -/
def a80 : AFn := { np := 2, nt := 67, res := [.cell 4 5 true, .t 5], body :=
 (.seq (.region [⟨some 2, none, .p (.box 18 (.t 0))⟩,⟨some 4, none, .p (.alloc [.k (C.int .i64 0), .k (C.int .i64 0), .k (C.int .i64 0), .k (C.int .i64 0), .k (C.int .i64 0)])⟩,⟨some 5, none, .p (.mv (.k (.c (C.int .i64 0))))⟩] [1, 2, 4])
 (.seq (.region [⟨some 14, none, .h (.load 18 true (.t 2))⟩,⟨some 15, none, .h (.call (.f 75) [.t 14])⟩,⟨some 6, none, .p (.alloc [.k (C.int .i64 0), .k (C.int .i64 0), .k (C.int .i64 0), .k (C.int .i64 0), .k (C.int .i64 0), .k (C.int .i64 0)])⟩,⟨none, none, .h (.store 6 (.t 6) (.t 15))⟩] [1, 2, 4, 6])
 (.seq (.regionD [⟨some 16, none, .h (.slA 6 1 (.t 6) none none)⟩,⟨some 17, none, .h (.call (.f 79) [.t 16])⟩,⟨some 18, none, .p (.mv (.t 1))⟩,⟨some 19, none, .p (.fld 0 (.t 2))⟩,⟨some 20, none, .p (.ixA 6 1 (.t 19) (.t 18))⟩,⟨some 21, none, .h (.load 1 false (.t 20))⟩,⟨some 22, none, .p (.ixA 6 1 (.t 6) (.t 21))⟩,⟨some 23, none, .h (.load 1 false (.t 22))⟩,⟨some 7, none, .p (.alloc [.k (C.int .i64 0)])⟩,⟨none, none, .h (.store 1 (.t 7) (.t 17))⟩,⟨some 8, none, .p (.mv (.t 23))⟩] [1, 2, 4, 7, 8] [(.t 20, .t 7), (.t 22, .t 7)])
 (.seq (.region [⟨some 24, none, .p (.mv (.t 1))⟩,⟨some 25, none, .p (.fld 6 (.t 2))⟩,⟨some 26, none, .p (.ixA 6 1 (.t 25) (.t 24))⟩,⟨some 27, none, .h (.load 1 false (.t 26))⟩,⟨some 9, none, .p (.alloc [.k (C.int .i64 0)])⟩,⟨none, none, .h (.store 1 (.t 9) (.t 27))⟩] [4, 7, 8, 9])
 (.seq (.region [⟨some 28, none, .p (.mkfn 133 [.t 9, .t 7])⟩,⟨some 10, none, .p (.mv (.t 28))⟩] [4, 7, 8, 9, 10])
 (.seq (.region [⟨some 11, none, .p (.alloc [.k (C.int .i64 0), .k (C.int .i64 0), .k (C.int .i64 0), .k (C.int .i64 0), .k (C.int .i64 0)])⟩] [4, 7, 8, 9, 10, 11])
 (.seq (.region [⟨some 12, none, .p (.mv (.k (.c (C.int .i64 1))))⟩] [4, 7, 8, 9, 10, 11, 12])
 (.seq (.seq (.region [⟨some 13, none, .p (.mv (.k (.c (C.int .i64 1))))⟩] [4, 7, 8, 9, 10, 11, 12, 13])
 (.block 0 (.loop (.seq (.seq (.region [⟨some 29, none, .p (.mv (.t 13))⟩,⟨some 30, none, .h (.load 1 false (.t 9))⟩,⟨some 31, none, .p (.bin .leq (.t 29) (.t 30))⟩] [4, 7, 8, 9, 10, 11, 12, 13, 31])
 (.cond (.t 31)
  .skip
 (.exit 0)))
 (.seq (.block 1 (.seq (.seq (.region [⟨some 34, none, .p (.mv (.t 13))⟩,⟨some 35, none, .h (.load 1 false (.t 9))⟩,⟨some 36, none, .p (.bin .lss (.t 34) (.t 35))⟩] [4, 7, 8, 9, 10, 11, 12, 13, 36])
 (.cond (.t 36)
 (.regionD [⟨some 37, none, .p (.mv (.t 13))⟩,⟨some 38, none, .p (.mv (.t 12))⟩,⟨some 39, none, .h (.load 1 false (.t 7))⟩,⟨some 40, none, .p (.mv (.t 13))⟩,⟨some 41, none, .p (.bin .sub (.t 40) (.k (.c (C.int .i64 1))))⟩,⟨some 42, none, .p (.bin .sub (.t 39) (.t 41))⟩,⟨some 43, none, .p (.mv (.t 8))⟩,⟨some 44, none, .p (.mv (.t 13))⟩,⟨some 45, none, .p (.bin .sub (.t 44) (.k (.c (C.int .i64 1))))⟩,⟨some 46, none, .p (.bin .sub (.t 43) (.t 45))⟩,⟨some 47, none, .p (.bin .sub (.t 42) (.t 46))⟩,⟨some 48, none, .p (.bin .mul (.t 38) (.t 47))⟩,⟨some 49, none, .p (.mv (.t 10))⟩,⟨some 50, none, .p (.mv (.t 13))⟩,⟨some 51, none, .h (.call (.t 49) [.t 50])⟩,⟨some 52, none, .p (.bin .mul (.t 48) (.t 51))⟩,⟨some 53, none, .p (.ixA 5 1 (.t 11) (.t 37))⟩,⟨none, none, .h (.store 1 (.t 53) (.t 52))⟩] [4, 7, 8, 9, 10, 11, 12, 13] [])
 (.region [⟨some 54, none, .p (.mv (.t 13))⟩,⟨some 55, none, .p (.mv (.t 12))⟩,⟨some 56, none, .p (.ixA 5 1 (.t 11) (.t 54))⟩,⟨none, none, .h (.store 1 (.t 56) (.t 55))⟩] [4, 7, 8, 9, 10, 11, 12, 13])))
 (.region [⟨some 57, none, .p (.mv (.t 12))⟩,⟨some 58, none, .p (.mv (.t 8))⟩,⟨some 59, none, .p (.mv (.t 13))⟩,⟨some 60, none, .p (.bin .sub (.t 59) (.k (.c (C.int .i64 1))))⟩,⟨some 61, none, .p (.bin .sub (.t 58) (.t 60))⟩,⟨some 62, none, .p (.mnmx true [.t 61, .k (.c (C.int .i64 0))])⟩,⟨some 63, none, .p (.bin .mul (.t 57) (.t 62))⟩,⟨some 12, none, .p (.mv (.t 63))⟩] [4, 7, 8, 9, 10, 11, 12, 13])))
 (.region [⟨some 32, none, .p (.mv (.t 13))⟩,⟨some 33, none, .p (.bin .add (.t 32) (.k (.c (C.int .i64 1))))⟩,⟨some 13, none, .p (.mv (.t 33))⟩] [4, 7, 8, 9, 10, 11, 12, 13]))) [4, 7, 8, 9, 10, 11, 12, 13])))
 (.seq (.regionD [⟨some 64, none, .h (.load 5 true (.t 11))⟩,⟨some 65, none, .p (.mv (.t 10))⟩,⟨some 66, none, .h (.call (.t 65) [.k (.c (C.int .i64 0))])⟩,⟨none, none, .h (.store 5 (.t 4) (.t 64))⟩,⟨some 5, none, .p (.mv (.t 66))⟩] [4, 5] [])
  .ret))))))))) }
theorem a80_ok : okFn Tryz.prog 80 a80 = true := by kernel_rfl
/-- loop.example/g01215/impl.countRuns -/
def a81 : AFn := { np := 1, nt := 18, res := [.t 2], body :=
 (.seq (.region [⟨some 1, none, .p (.box 24 (.t 0))⟩,⟨some 2, none, .p (.mv (.k (.c (C.int .i64 0))))⟩] [1])
 (.seq (.region [⟨some 3, none, .p (.mv (.k (.c (C.int .i64 0))))⟩] [1, 3])
 (.seq (.seq (.region [⟨some 6, none, .p (.fld 0 (.t 1))⟩,⟨some 7, none, .h (.load 24 true (.t 6))⟩,⟨some 8, none, .p (.mv (.k (.c (C.int .i64 0))))⟩] [3, 7, 8])
 (.block 0 (.loop (.seq (.region [⟨some 9, none, .p (.bin .lss (.t 8) (.k (.c (C.int .i64 6))))⟩] [3, 7, 8, 9])
 (.seq (.cond (.t 9)
  .skip
 (.exit 0))
 (.seq (.block 1 (.seq (.region [⟨some 10, none, .p (.ixV 6 4 true (.t 7) (.t 8))⟩,⟨some 5, none, .p (.alloc [.k (C.int .i64 0), .k (C.int .i64 0), .k (C.int .i64 0), .k (C.int .i64 0)])⟩,⟨none, none, .h (.store 4 (.t 5) (.t 10))⟩] [3, 5, 7, 8])
 (.region [⟨some 11, none, .p (.mv (.t 3))⟩,⟨some 12, none, .h (.load 4 true (.t 5))⟩,⟨some 13, none, .h (.call (.f 126) [.t 12])⟩,⟨some 14, none, .p (.len (.t 13))⟩,⟨some 15, none, .p (.bin .add (.t 11) (.t 14))⟩,⟨some 3, none, .p (.mv (.t 15))⟩] [3, 7, 8])))
 (.region [⟨some 16, none, .p (.bin .add (.t 8) (.k (.c (C.int .i64 1))))⟩,⟨some 8, none, .p (.mv (.t 16))⟩] [3, 7, 8])))) [3, 7, 8])))
 (.seq (.region [⟨some 17, none, .p (.mv (.t 3))⟩,⟨some 2, none, .p (.mv (.t 17))⟩] [2])
  .ret)))) }
theorem a81_ok : okFn Tryz.prog 81 a81 = true := by kernel_rfl
/-- (*loop.example/g01215/spec.l1Cur).rack -/
def a83 : AFn := { np := 1, nt := 128, res := [.cell 2 24 true], body :=
 (.seq (.region [⟨some 2, none, .p (.alloc (List.replicate 24 (.k (C.int .i64 0))))⟩] [0, 2])
 (.seq (.region [⟨some 14, none, .p (.build (List.replicate 24 (.k (C.int .i64 0))) [])⟩,⟨some 15, none, .p (.mv (.t 0))⟩,⟨some 16, none, .p (.mksl 1 6 [.k (C.int .i64 0)] [(0, 1, .k (.c (C.int .i64 2))), (1, 1, .k (.c (C.int .i64 3))), (2, 1, .k (.c (C.int .i64 2))), (3, 1, .k (.c (C.int .i64 4))), (4, 1, .k (.c (C.int .i64 5))), (5, 1, .k (.c (C.int .i64 1)))])⟩,⟨some 17, none, .h (.call (.f 43) [.t 15, .t 16])⟩,⟨some 18, none, .p (.mv (.t 0))⟩,⟨some 19, none, .p (.mksl 1 5 [.k (C.int .i64 0)] [(0, 1, .k (.c (C.int .i64 3))), (1, 1, .k (.c (C.int .i64 4))), (2, 1, .k (.c (C.int .i64 2))), (3, 1, .k (.c (C.int .i64 5))), (4, 1, .k (.c (C.int .i64 6)))])⟩,⟨some 20, none, .h (.call (.f 43) [.t 18, .t 19])⟩,⟨some 3, none, .p (.alloc (List.replicate 24 (.k (C.int .i64 0))))⟩,⟨none, none, .h (.store 24 (.t 3) (.t 14))⟩,⟨some 4, none, .p (.mv (.t 17))⟩,⟨some 5, none, .p (.mv (.t 20))⟩] [0, 2, 3, 4, 5])
 (.seq (.seq (.region [⟨some 6, none, .p (.mv (.k (.c (C.int .i64 0))))⟩] [0, 2, 3, 4, 5, 6])
 (.block 0 (.loop (.seq (.seq (.region [⟨some 21, none, .p (.mv (.t 6))⟩,⟨some 22, none, .p (.mv (.t 5))⟩,⟨some 23, none, .p (.bin .lss (.t 21) (.t 22))⟩] [0, 2, 3, 4, 5, 6, 23])
 (.cond (.t 23)
  .skip
 (.exit 0)))
 (.seq (.block 1 (.seq (.region [⟨some 7, none, .p (.mv (.k (.c (C.int .i64 0))))⟩] [0, 2, 3, 4, 5, 6, 7])
 (.block 2 (.loop (.seq (.seq (.region [⟨some 26, none, .p (.mv (.t 7))⟩,⟨some 27, none, .p (.mv (.t 0))⟩,⟨some 28, none, .p (.mksl 1 6 [.k (C.int .i64 0)] [(0, 1, .k (.c (C.int .i64 4))), (1, 1, .k (.c (C.int .i64 3))), (2, 1, .k (.c (C.int .i64 4))), (3, 1, .k (.c (C.int .i64 2))), (4, 1, .k (.c (C.int .i64 1))), (5, 1, .k (.c (C.int .i64 0)))])⟩,⟨some 29, none, .h (.call (.f 43) [.t 27, .t 28])⟩,⟨some 30, none, .p (.bin .lss (.t 26) (.t 29))⟩] [0, 2, 3, 4, 5, 6, 7, 30])
 (.cond (.t 30)
  .skip
 (.exit 2)))
 (.seq (.block 3 (.seq (.regionE [⟨some 33, none, .p (.mv (.t 6))⟩,⟨some 34, none, .p (.mv (.t 7))⟩,⟨some 35, none, .p (.mv (.t 0))⟩,⟨some 36, none, .p (.mv (.t 4))⟩,⟨some 37, none, .h (.call (.f 40) [.t 35, .t 36])⟩,⟨some 38, none, .p (.bin .add (.k (.c (C.int .i64 1))) (.t 37))⟩,⟨some 39, none, .p (.fld 0 (.t 3))⟩,⟨some 40, none, .p (.ixA 6 4 (.t 39) (.t 33))⟩,⟨some 41, none, .p (.ixA 4 1 (.t 40) (.t 34))⟩,⟨none, none, .h (.store 1 (.t 41) (.t 38))⟩] [0, 2, 3, 4, 5, 6, 7] [] [[], [], [], [], [4]])
 (.seq (.region [⟨some 42, none, .p (.mv (.t 7))⟩,⟨some 43, none, .p (.bin .gtr (.t 42) (.k (.c (C.int .i64 0))))⟩,⟨some 44, none, .p (.mv (.t 43))⟩,⟨some 45, some (44, true), .p (.mv (.t 0))⟩,⟨some 46, some (44, true), .h (.call (.f 84) [.t 45, .k (.c (C.int .i64 3))])⟩,⟨some 47, none, .p (.pick (.t 44) (.t 46) (.k (.c (C.bool false))))⟩] [0, 2, 3, 4, 5, 6, 7, 47])
 (.cond (.t 47)
 (.regionD [⟨some 48, none, .p (.mv (.t 6))⟩,⟨some 49, none, .p (.mv (.t 7))⟩,⟨some 50, none, .p (.mv (.t 6))⟩,⟨some 51, none, .p (.mv (.t 7))⟩,⟨some 52, none, .p (.bin .sub (.t 51) (.k (.c (C.int .i64 1))))⟩,⟨some 53, none, .p (.fld 0 (.t 3))⟩,⟨some 54, none, .p (.ixA 6 4 (.t 53) (.t 50))⟩,⟨some 55, none, .p (.ixA 4 1 (.t 54) (.t 52))⟩,⟨some 56, none, .h (.load 1 false (.t 55))⟩,⟨some 57, none, .p (.fld 0 (.t 3))⟩,⟨some 58, none, .p (.ixA 6 4 (.t 57) (.t 48))⟩,⟨some 59, none, .p (.ixA 4 1 (.t 58) (.t 49))⟩,⟨none, none, .h (.store 1 (.t 59) (.t 56))⟩] [0, 2, 3, 4, 5, 6, 7] [])
  .skip))))
 (.region [⟨some 31, none, .p (.mv (.t 7))⟩,⟨some 32, none, .p (.bin .add (.t 31) (.k (.c (C.int .i64 1))))⟩,⟨some 7, none, .p (.mv (.t 32))⟩] [0, 2, 3, 4, 5, 6, 7]))) [0, 2, 3, 4, 5, 6, 7]))))
 (.region [⟨some 24, none, .p (.mv (.t 6))⟩,⟨some 25, none, .p (.bin .add (.t 24) (.k (.c (C.int .i64 1))))⟩,⟨some 6, none, .p (.mv (.t 25))⟩] [0, 2, 3, 4, 5, 6]))) [0, 2, 3, 4, 5, 6])))
 (.seq (.seq (.region [⟨some 8, none, .p (.mv (.k (.c (C.int .i64 0))))⟩] [0, 2, 3, 8])
 (.block 4 (.loop (.seq (.seq (.region [⟨some 60, none, .p (.mv (.t 8))⟩,⟨some 61, none, .p (.bin .lss (.t 60) (.k (.c (C.int .i64 6))))⟩] [0, 2, 3, 8, 61])
 (.cond (.t 61)
  .skip
 (.exit 4)))
 (.seq (.block 5 (.seq (.region [⟨some 9, none, .p (.mv (.k (.c (C.int .i64 1))))⟩] [0, 2, 3, 8, 9])
 (.block 6 (.loop (.seq (.seq (.region [⟨some 64, none, .p (.mv (.t 9))⟩,⟨some 65, none, .p (.bin .lss (.t 64) (.k (.c (C.int .i64 4))))⟩] [0, 2, 3, 8, 9, 65])
 (.cond (.t 65)
  .skip
 (.exit 6)))
 (.seq (.block 7 (.seq (.region [⟨some 68, none, .p (.mv (.t 8))⟩,⟨some 69, none, .p (.mv (.t 9))⟩,⟨some 70, none, .p (.bin .sub (.t 69) (.k (.c (C.int .i64 1))))⟩,⟨some 71, none, .p (.fld 0 (.t 3))⟩,⟨some 72, none, .p (.ixA 6 4 (.t 71) (.t 68))⟩,⟨some 73, none, .p (.ixA 4 1 (.t 72) (.t 70))⟩,⟨some 74, none, .h (.load 1 false (.t 73))⟩,⟨some 75, none, .p (.bin .eql (.t 74) (.k (.c (C.int .i64 0))))⟩] [0, 2, 3, 8, 9, 75])
 (.cond (.t 75)
 (.region [⟨some 76, none, .p (.mv (.t 8))⟩,⟨some 77, none, .p (.mv (.t 9))⟩,⟨some 78, none, .p (.fld 0 (.t 3))⟩,⟨some 79, none, .p (.ixA 6 4 (.t 78) (.t 76))⟩,⟨some 80, none, .p (.ixA 4 1 (.t 79) (.t 77))⟩,⟨none, none, .h (.store 1 (.t 80) (.k (.c (C.int .i64 0))))⟩] [0, 2, 3, 8, 9])
  .skip)))
 (.region [⟨some 66, none, .p (.mv (.t 9))⟩,⟨some 67, none, .p (.bin .add (.t 66) (.k (.c (C.int .i64 1))))⟩,⟨some 9, none, .p (.mv (.t 67))⟩] [0, 2, 3, 8, 9]))) [0, 2, 3, 8, 9]))))
 (.region [⟨some 62, none, .p (.mv (.t 8))⟩,⟨some 63, none, .p (.bin .add (.t 62) (.k (.c (C.int .i64 1))))⟩,⟨some 8, none, .p (.mv (.t 63))⟩] [0, 2, 3, 8]))) [0, 2, 3, 8])))
 (.seq (.seq (.region [⟨some 81, none, .p (.mv (.t 0))⟩,⟨some 82, none, .h (.call (.f 84) [.t 81, .k (.c (C.int .i64 3))])⟩] [0, 2, 3, 82])
 (.cond (.t 82)
 (.seq (.region [⟨some 83, none, .p (.mv (.t 0))⟩,⟨some 84, none, .h (.call (.f 40) [.t 83, .k (.c (C.int .i64 6))])⟩,⟨some 85, none, .p (.mv (.t 0))⟩,⟨some 86, none, .h (.call (.f 40) [.t 85, .k (.c (C.int .i64 6))])⟩,⟨some 10, none, .p (.mv (.t 84))⟩,⟨some 11, none, .p (.mv (.t 86))⟩] [0, 2, 3, 10, 11])
 (.seq (.regionD [⟨some 87, none, .p (.mv (.t 10))⟩,⟨some 88, none, .p (.fld 0 (.t 3))⟩,⟨some 89, none, .p (.ixA 6 4 (.t 88) (.t 87))⟩,⟨some 90, none, .h (.load 4 true (.t 89))⟩,⟨some 91, none, .p (.mv (.t 11))⟩,⟨some 92, none, .p (.fld 0 (.t 3))⟩,⟨some 93, none, .p (.ixA 6 4 (.t 92) (.t 91))⟩,⟨some 94, none, .h (.load 4 true (.t 93))⟩,⟨some 12, none, .p (.alloc [.k (C.int .i64 0), .k (C.int .i64 0), .k (C.int .i64 0), .k (C.int .i64 0)])⟩,⟨some 13, none, .p (.alloc [.k (C.int .i64 0), .k (C.int .i64 0), .k (C.int .i64 0), .k (C.int .i64 0)])⟩,⟨none, none, .h (.store 4 (.t 12) (.t 90))⟩,⟨none, none, .h (.store 4 (.t 13) (.t 94))⟩] [0, 2, 3, 10, 11, 12, 13] [(.t 93, .t 12)])
 (.seq (.region [⟨some 95, none, .p (.mv (.t 10))⟩,⟨some 96, none, .h (.load 4 true (.t 13))⟩,⟨some 97, none, .p (.fld 0 (.t 3))⟩,⟨some 98, none, .p (.ixA 6 4 (.t 97) (.t 95))⟩,⟨none, none, .h (.store 4 (.t 98) (.t 96))⟩] [0, 2, 3, 11, 12])
 (.region [⟨some 99, none, .p (.mv (.t 11))⟩,⟨some 100, none, .h (.load 4 true (.t 12))⟩,⟨some 101, none, .p (.fld 0 (.t 3))⟩,⟨some 102, none, .p (.ixA 6 4 (.t 101) (.t 99))⟩,⟨none, none, .h (.store 4 (.t 102) (.t 100))⟩] [0, 2, 3]))))
  .skip))
 (.seq (.seq (.region [⟨some 103, none, .p (.mv (.t 0))⟩,⟨some 104, none, .h (.call (.f 40) [.t 103, .k (.c (C.int .i64 40))])⟩] [0, 2, 3, 104])
 (.block 8 (.seq (.region [⟨some 106, none, .p (.bin .eql (.t 104) (.k (.c (C.int .i64 0))))⟩,⟨some 105, none, .p (.mv (.t 106))⟩] [0, 2, 3, 104, 105])
 (.cond (.t 105)
 (.regionE [⟨some 107, none, .p (.mv (.t 0))⟩,⟨some 108, none, .h (.call (.f 40) [.t 107, .k (.c (C.int .i64 6))])⟩,⟨some 109, none, .p (.mv (.t 0))⟩,⟨some 110, none, .h (.call (.f 40) [.t 109, .k (.c (C.int .i64 4))])⟩,⟨some 111, none, .p (.mv (.t 0))⟩,⟨some 112, none, .p (.mksl 1 3 [.k (C.int .i64 0)] [(0, 1, .k (.c (C.int .i64 (-1)))), (1, 1, .k (.c (C.int .i64 6))), (2, 1, .k (.c (C.int .i64 4611686018427387904)))])⟩,⟨some 113, none, .h (.call (.f 43) [.t 111, .t 112])⟩,⟨some 114, none, .p (.fld 0 (.t 3))⟩,⟨some 115, none, .p (.ixA 6 4 (.t 114) (.t 108))⟩,⟨some 116, none, .p (.ixA 4 1 (.t 115) (.t 110))⟩,⟨none, none, .h (.store 1 (.t 116) (.t 113))⟩] [2, 3] [] [[], [1], [], [1, 3], [], [], [1, 3, 5, 6]])
 (.seq (.region [⟨some 118, none, .p (.bin .eql (.t 104) (.k (.c (C.int .i64 1))))⟩,⟨some 117, none, .p (.mv (.t 118))⟩] [0, 2, 3, 104, 117])
 (.cond (.t 117)
 (.region [⟨some 119, none, .p (.mv (.t 0))⟩,⟨some 120, none, .h (.call (.f 40) [.t 119, .k (.c (C.int .i64 6))])⟩,⟨some 121, none, .p (.build [.k (C.int .i64 0), .k (C.int .i64 0), .k (C.int .i64 0), .k (C.int .i64 0)] [(0, 1, .k (.c (C.int .i64 0))), (1, 1, .k (.c (C.int .i64 1))), (2, 1, .k (.c (C.int .i64 0))), (3, 1, .k (.c (C.int .i64 0)))])⟩,⟨some 122, none, .p (.fld 0 (.t 3))⟩,⟨some 123, none, .p (.ixA 6 4 (.t 122) (.t 120))⟩,⟨none, none, .h (.store 4 (.t 123) (.t 121))⟩] [2, 3])
 (.seq (.region [⟨some 125, none, .p (.bin .eql (.t 104) (.k (.c (C.int .i64 2))))⟩,⟨some 124, none, .p (.mv (.t 125))⟩] [2, 3, 124])
 (.cond (.t 124)
 (.seq (.region [⟨some 126, none, .p (.build (List.replicate 24 (.k (C.int .i64 0))) [])⟩,⟨none, none, .h (.store 24 (.t 2) (.t 126))⟩] [2])
  .ret)
  .skip))))))))
 (.seq (.region [⟨some 127, none, .h (.load 24 true (.t 3))⟩,⟨none, none, .h (.store 24 (.t 2) (.t 127))⟩] [2])
  .ret))))))) }
theorem a83_ok : okFn Tryz.prog 83 a83 = true := by kernel_rfl
/-- (*loop.example/g01215/spec.l1Cur).one -/
def a84 : AFn := { np := 2, nt := 9, res := [.t 4], body :=
 (.seq (.region [⟨some 4, none, .p (.mv (.k (.c (C.bool false))))⟩] [0, 1])
 (.seq (.region [⟨some 5, none, .p (.mv (.t 0))⟩,⟨some 6, none, .p (.mv (.t 1))⟩,⟨some 7, none, .h (.call (.f 40) [.t 5, .t 6])⟩,⟨some 8, none, .p (.bin .eql (.t 7) (.k (.c (C.int .i64 0))))⟩,⟨some 4, none, .p (.mv (.t 8))⟩] [4])
  .ret)) }
theorem a84_ok : okFn Tryz.prog 84 a84 = true := by kernel_rfl
/-- (*loop.example/g01215/spec.l1Cur).next -/
def a85 : AFn := { np := 1, nt := 62, res := [.t 2], body :=
 (.seq (.region [⟨some 2, none, .p (.mv (.k (.c (C.int .i64 0))))⟩] [0])
 (.seq (.region [⟨some 3, none, .p (.mv (.k (.c (C.int .i64 0))))⟩] [0, 3])
 (.seq (.seq (.regionD [⟨some 4, none, .p (.mv (.t 0))⟩,⟨some 5, none, .p (.nn (.t 4))⟩,⟨some 6, none, .p (.fld 1 (.t 5))⟩,⟨some 7, none, .h (.load 1 false (.t 6))⟩,⟨some 8, none, .p (.mv (.t 0))⟩,⟨some 9, none, .p (.nn (.t 8))⟩,⟨some 10, none, .p (.fld 0 (.t 9))⟩,⟨some 11, none, .h (.load 1 false (.t 10))⟩,⟨some 12, none, .p (.len (.t 11))⟩,⟨some 13, none, .p (.bin .lss (.t 7) (.t 12))⟩] [0, 3, 13] [])
 (.cond (.t 13)
 (.regionD [⟨some 14, none, .p (.mv (.t 0))⟩,⟨some 15, none, .p (.nn (.t 14))⟩,⟨some 16, none, .p (.fld 0 (.t 15))⟩,⟨some 17, none, .h (.load 1 false (.t 16))⟩,⟨some 18, none, .p (.mv (.t 0))⟩,⟨some 19, none, .p (.nn (.t 18))⟩,⟨some 20, none, .p (.fld 1 (.t 19))⟩,⟨some 21, none, .h (.load 1 false (.t 20))⟩,⟨some 22, none, .p (.ixS 1 (.t 17) (.t 21))⟩,⟨some 23, none, .h (.load 1 false (.t 22))⟩,⟨some 24, none, .p (.conv .i64 (.t 23))⟩,⟨some 3, none, .p (.mv (.t 24))⟩] [0, 3] [])
  .skip))
 (.seq (.region [⟨some 25, none, .p (.mv (.t 0))⟩,⟨some 26, none, .p (.nn (.t 25))⟩,⟨some 27, none, .p (.fld 1 (.t 26))⟩,⟨some 28, none, .h (.load 1 false (.t 27))⟩,⟨some 29, none, .p (.bin .add (.t 28) (.k (.c (C.int .i64 1))))⟩,⟨some 30, none, .p (.nn (.t 25))⟩,⟨some 31, none, .p (.fld 1 (.t 30))⟩,⟨none, none, .h (.store 1 (.t 31) (.t 29))⟩] [0, 3])
 (.seq (.region [⟨some 32, none, .p (.mv (.t 0))⟩,⟨some 33, none, .p (.mv (.t 0))⟩,⟨some 34, none, .p (.nn (.t 33))⟩,⟨some 35, none, .p (.fld 2 (.t 34))⟩,⟨some 36, none, .h (.load 1 false (.t 35))⟩,⟨some 37, none, .p (.bin .mul (.t 36) (.k (.c (C.int .u64 6364136223846793005))))⟩,⟨some 38, none, .p (.mv (.t 3))⟩,⟨some 39, none, .p (.conv .u64 (.t 38))⟩,⟨some 40, none, .p (.bin .add (.t 37) (.t 39))⟩,⟨some 41, none, .p (.bin .add (.t 40) (.k (.c (C.int .u64 462197))))⟩,⟨some 42, none, .p (.nn (.t 32))⟩,⟨some 43, none, .p (.fld 2 (.t 42))⟩,⟨none, none, .h (.store 1 (.t 43) (.t 41))⟩] [0, 3])
 (.seq (.seq (.regionD [⟨some 44, none, .p (.mv (.t 0))⟩,⟨some 45, none, .p (.nn (.t 44))⟩,⟨some 46, none, .p (.fld 1 (.t 45))⟩,⟨some 47, none, .h (.load 1 false (.t 46))⟩,⟨some 48, none, .p (.mv (.t 0))⟩,⟨some 49, none, .p (.nn (.t 48))⟩,⟨some 50, none, .p (.fld 0 (.t 49))⟩,⟨some 51, none, .h (.load 1 false (.t 50))⟩,⟨some 52, none, .p (.len (.t 51))⟩,⟨some 53, none, .p (.bin .leq (.t 47) (.t 52))⟩] [0, 3, 53] [])
 (.cond (.t 53)
 (.seq (.region [⟨some 54, none, .p (.mv (.t 3))⟩,⟨some 2, none, .p (.mv (.t 54))⟩] [2])
  .ret)
  .skip))
 (.seq (.region [⟨some 55, none, .p (.mv (.t 0))⟩,⟨some 56, none, .p (.nn (.t 55))⟩,⟨some 57, none, .p (.fld 2 (.t 56))⟩,⟨some 58, none, .h (.load 1 false (.t 57))⟩,⟨some 59, none, .p (.bin .shr (.t 58) (.k (.c (C.int .u64 40))))⟩,⟨some 60, none, .p (.bin .and (.t 59) (.k (.c (C.int .u64 255))))⟩,⟨some 61, none, .p (.conv .i64 (.t 60))⟩,⟨some 2, none, .p (.mv (.t 61))⟩] [2])
  .ret))))))) }
theorem a85_ok : okFn Tryz.prog 85 a85 = true := by kernel_rfl
/-- loop.example/g01215/spec.l12Make -/
def a86 : AFn := { np := 2, nt := 117, res := [.cell 4 26 true, .t 5], body :=
 (.seq (.region [⟨some 2, none, .p (.box 26 (.t 0))⟩,⟨some 3, none, .p (.box 4 (.t 1))⟩,⟨some 4, none, .p (.alloc (List.replicate 26 (.k (C.int .i64 0))))⟩,⟨some 5, none, .p (.mv (.k (.c (C.bool false))))⟩] [2, 3, 4])
 (.seq (.seq (.region [⟨some 18, none, .p (.fld 0 (.t 3))⟩,⟨some 19, none, .h (.load 1 false (.t 18))⟩] [2, 3, 4, 19])
 (.block 0 (.seq (.region [⟨some 21, none, .p (.bin .eql (.t 19) (.k (.c (C.int .i64 1))))⟩,⟨some 20, none, .p (.mv (.t 21))⟩] [2, 3, 4, 19, 20])
 (.cond (.t 20)
 (.seq (.region [⟨some 23, none, .p (.fld 0 (.t 2))⟩,⟨some 24, none, .h (.load 24 true (.t 23))⟩,⟨some 25, none, .p (.fld 1 (.t 3))⟩,⟨some 26, none, .h (.load 1 false (.t 25))⟩,⟨some 27, none, .p (.fld 2 (.t 3))⟩,⟨some 28, none, .h (.load 1 false (.t 27))⟩,⟨some 29, none, .h (.call (.f 135) [.t 24, .t 26, .t 28])⟩,⟨some 22, none, .p (.mv (.t 29))⟩,⟨some 30, none, .p (.ext (.t 22) 0)⟩,⟨some 31, none, .p (.ext (.t 22) 1)⟩,⟨some 32, none, .p (.ext (.t 22) 2)⟩,⟨some 6, none, .p (.alloc (List.replicate 24 (.k (C.int .i64 0))))⟩,⟨none, none, .h (.store 24 (.t 6) (.t 30))⟩,⟨some 7, none, .p (.mv (.t 31))⟩,⟨some 8, none, .p (.mv (.t 32))⟩] [2, 4, 6, 7, 8])
 (.seq (.region [⟨some 33, none, .h (.load 24 true (.t 6))⟩,⟨some 34, none, .p (.fld 0 (.t 2))⟩,⟨none, none, .h (.store 24 (.t 34) (.t 33))⟩] [2, 4, 7, 8])
 (.seq (.region [⟨some 35, none, .p (.fld 24 (.t 2))⟩,⟨some 36, none, .h (.load 1 false (.t 35))⟩,⟨some 37, none, .p (.mv (.t 7))⟩,⟨some 38, none, .p (.bin .add (.t 36) (.t 37))⟩,⟨some 39, none, .p (.fld 24 (.t 2))⟩,⟨none, none, .h (.store 1 (.t 39) (.t 38))⟩] [2, 4, 8])
 (.seq (.region [⟨some 40, none, .h (.load 26 true (.t 2))⟩,⟨some 41, none, .p (.mv (.t 8))⟩,⟨none, none, .h (.store 26 (.t 4) (.t 40))⟩,⟨some 5, none, .p (.mv (.t 41))⟩] [4, 5])
  .ret))))
 (.seq (.region [⟨some 43, none, .p (.bin .eql (.t 19) (.k (.c (C.int .i64 2))))⟩,⟨some 42, none, .p (.mv (.t 43))⟩] [2, 3, 4, 19, 42])
 (.cond (.t 42)
 (.seq (.region [⟨some 45, none, .p (.fld 0 (.t 2))⟩,⟨some 46, none, .h (.load 24 true (.t 45))⟩,⟨some 47, none, .p (.fld 1 (.t 3))⟩,⟨some 48, none, .h (.load 1 false (.t 47))⟩,⟨some 49, none, .p (.fld 2 (.t 3))⟩,⟨some 50, none, .h (.load 1 false (.t 49))⟩,⟨some 51, none, .h (.call (.f 136) [.t 46, .t 48, .t 50])⟩,⟨some 44, none, .p (.mv (.t 51))⟩,⟨some 52, none, .p (.ext (.t 44) 0)⟩,⟨some 53, none, .p (.ext (.t 44) 1)⟩,⟨some 9, none, .p (.alloc (List.replicate 24 (.k (C.int .i64 0))))⟩,⟨none, none, .h (.store 24 (.t 9) (.t 52))⟩,⟨some 10, none, .p (.mv (.t 53))⟩] [2, 4, 9, 10])
 (.seq (.region [⟨some 54, none, .h (.load 24 true (.t 9))⟩,⟨some 55, none, .p (.fld 0 (.t 2))⟩,⟨none, none, .h (.store 24 (.t 55) (.t 54))⟩] [2, 4, 10])
 (.seq (.region [⟨some 56, none, .h (.load 26 true (.t 2))⟩,⟨some 57, none, .p (.mv (.t 10))⟩,⟨none, none, .h (.store 26 (.t 4) (.t 56))⟩,⟨some 5, none, .p (.mv (.t 57))⟩] [4, 5])
  .ret)))
 (.seq (.region [⟨some 59, none, .p (.bin .eql (.t 19) (.k (.c (C.int .i64 3))))⟩,⟨some 58, none, .p (.mv (.t 59))⟩] [2, 3, 4, 19, 58])
 (.cond (.t 58)
 (.seq (.region [⟨some 61, none, .p (.fld 0 (.t 2))⟩,⟨some 62, none, .h (.load 24 true (.t 61))⟩,⟨some 63, none, .p (.fld 1 (.t 3))⟩,⟨some 64, none, .h (.load 1 false (.t 63))⟩,⟨some 65, none, .h (.call (.f 137) [.t 62, .t 64])⟩,⟨some 60, none, .p (.mv (.t 65))⟩,⟨some 66, none, .p (.ext (.t 60) 0)⟩,⟨some 67, none, .p (.ext (.t 60) 1)⟩,⟨some 68, none, .p (.ext (.t 60) 2)⟩,⟨some 11, none, .p (.alloc (List.replicate 24 (.k (C.int .i64 0))))⟩,⟨none, none, .h (.store 24 (.t 11) (.t 66))⟩,⟨some 12, none, .p (.mv (.t 67))⟩,⟨some 13, none, .p (.mv (.t 68))⟩] [2, 4, 11, 13])
 (.seq (.region [⟨some 69, none, .h (.load 24 true (.t 11))⟩,⟨some 70, none, .p (.fld 0 (.t 2))⟩,⟨none, none, .h (.store 24 (.t 70) (.t 69))⟩] [2, 4, 13])
 (.seq (.region [⟨some 71, none, .h (.load 26 true (.t 2))⟩,⟨some 72, none, .p (.mv (.t 13))⟩,⟨none, none, .h (.store 26 (.t 4) (.t 71))⟩,⟨some 5, none, .p (.mv (.t 72))⟩] [4, 5])
  .ret)))
 (.seq (.region [⟨some 74, none, .p (.bin .eql (.t 19) (.k (.c (C.int .i64 4))))⟩,⟨some 73, none, .p (.mv (.t 74))⟩] [2, 3, 4, 19, 73])
 (.cond (.t 73)
 (.seq (.region [⟨some 76, none, .p (.fld 0 (.t 2))⟩,⟨some 77, none, .h (.load 24 true (.t 76))⟩,⟨some 78, none, .p (.fld 1 (.t 3))⟩,⟨some 79, none, .h (.load 1 false (.t 78))⟩,⟨some 80, none, .p (.fld 2 (.t 3))⟩,⟨some 81, none, .h (.load 1 false (.t 80))⟩,⟨some 82, none, .h (.call (.f 138) [.t 77, .t 79, .t 81])⟩,⟨some 75, none, .p (.mv (.t 82))⟩,⟨some 83, none, .p (.ext (.t 75) 0)⟩,⟨some 84, none, .p (.ext (.t 75) 1)⟩,⟨some 14, none, .p (.alloc (List.replicate 24 (.k (C.int .i64 0))))⟩,⟨none, none, .h (.store 24 (.t 14) (.t 83))⟩,⟨some 15, none, .p (.mv (.t 84))⟩] [2, 4, 14, 15])
 (.seq (.region [⟨some 85, none, .h (.load 24 true (.t 14))⟩,⟨some 86, none, .p (.fld 0 (.t 2))⟩,⟨none, none, .h (.store 24 (.t 86) (.t 85))⟩] [2, 4, 15])
 (.seq (.region [⟨some 87, none, .h (.load 26 true (.t 2))⟩,⟨some 88, none, .p (.mv (.t 15))⟩,⟨none, none, .h (.store 26 (.t 4) (.t 87))⟩,⟨some 5, none, .p (.mv (.t 88))⟩] [4, 5])
  .ret)))
 (.seq (.region [⟨some 90, none, .p (.bin .eql (.t 19) (.k (.c (C.int .i64 5))))⟩,⟨some 89, none, .p (.mv (.t 90))⟩] [2, 3, 4, 89])
 (.cond (.t 89)
 (.seq (.region [⟨some 92, none, .p (.fld 0 (.t 2))⟩,⟨some 93, none, .h (.load 24 true (.t 92))⟩,⟨some 94, none, .p (.fld 1 (.t 3))⟩,⟨some 95, none, .h (.load 1 false (.t 94))⟩,⟨some 96, none, .p (.fld 2 (.t 3))⟩,⟨some 97, none, .h (.load 1 false (.t 96))⟩,⟨some 98, none, .p (.fld 3 (.t 3))⟩,⟨some 99, none, .h (.load 1 false (.t 98))⟩,⟨some 100, none, .p (.build [.k (C.int .i64 0), .k (C.int .i64 0), .k (C.int .i64 0)] [(0, 1, .t 95), (1, 1, .t 97), (2, 1, .t 99)])⟩,⟨some 101, none, .h (.call (.f 139) [.t 93, .t 100])⟩,⟨some 91, none, .p (.mv (.t 101))⟩,⟨some 102, none, .p (.ext (.t 91) 0)⟩,⟨some 103, none, .p (.ext (.t 91) 1)⟩,⟨some 16, none, .p (.alloc (List.replicate 24 (.k (C.int .i64 0))))⟩,⟨none, none, .h (.store 24 (.t 16) (.t 102))⟩,⟨some 17, none, .p (.mv (.t 103))⟩] [2, 3, 4, 16, 17])
 (.seq (.seq (.region [⟨some 104, none, .p (.mv (.t 17))⟩,⟨some 105, none, .p (.un .not (.t 104))⟩] [2, 3, 4, 16, 105])
 (.cond (.t 105)
 (.seq (.region [⟨some 106, none, .h (.load 26 true (.t 2))⟩,⟨none, none, .h (.store 26 (.t 4) (.t 106))⟩,⟨some 5, none, .p (.mv (.k (.c (C.bool false))))⟩] [4, 5])
  .ret)
  .skip))
 (.seq (.region [⟨some 107, none, .h (.load 24 true (.t 16))⟩,⟨some 108, none, .p (.fld 0 (.t 2))⟩,⟨none, none, .h (.store 24 (.t 108) (.t 107))⟩] [2, 3, 4])
 (.seq (.region [⟨some 109, none, .p (.fld 24 (.t 2))⟩,⟨some 110, none, .h (.load 1 false (.t 109))⟩,⟨some 111, none, .p (.fld 3 (.t 3))⟩,⟨some 112, none, .h (.load 1 false (.t 111))⟩,⟨some 113, none, .p (.bin .sub (.t 110) (.t 112))⟩,⟨some 114, none, .p (.fld 24 (.t 2))⟩,⟨none, none, .h (.store 1 (.t 114) (.t 113))⟩] [2, 4])
 (.seq (.region [⟨some 115, none, .h (.load 26 true (.t 2))⟩,⟨none, none, .h (.store 26 (.t 4) (.t 115))⟩,⟨some 5, none, .p (.mv (.k (.c (C.bool true))))⟩] [4, 5])
  .ret)))))
  .skip))))))))))))
 (.seq (.region [⟨some 116, none, .h (.load 26 true (.t 2))⟩,⟨none, none, .h (.store 26 (.t 4) (.t 116))⟩,⟨some 5, none, .p (.mv (.k (.c (C.bool false))))⟩] [4, 5])
  .ret))) }
theorem a86_ok : okFn Tryz.prog 86 a86 = true := by kernel_rfl
/-- loop.example/g01215/spec.l12Plain -/
def a87 : AFn := { np := 1, nt := 20, res := [.t 2], body :=
 (.seq (.region [⟨some 1, none, .p (.box 4 (.t 0))⟩,⟨some 2, none, .p (.mv (.k (.c (C.bool false))))⟩] [1])
 (.seq (.seq (.region [⟨some 3, none, .p (.fld 0 (.t 1))⟩,⟨some 4, none, .h (.load 1 false (.t 3))⟩] [1, 4])
 (.block 0 (.seq (.region [⟨some 6, none, .p (.bin .eql (.t 4) (.k (.c (C.int .i64 3))))⟩,⟨some 5, none, .p (.mv (.t 6))⟩] [1, 4, 5])
 (.cond (.t 5)
 (.seq (.region [⟨some 7, none, .p (.fld 2 (.t 1))⟩,⟨some 8, none, .h (.load 1 false (.t 7))⟩,⟨some 9, none, .p (.bin .eql (.t 8) (.k (.c (C.int .i64 0))))⟩,⟨some 10, none, .p (.mv (.t 9))⟩,⟨some 11, some (10, true), .p (.fld 3 (.t 1))⟩,⟨some 12, some (10, true), .h (.load 1 false (.t 11))⟩,⟨some 13, some (10, true), .p (.bin .eql (.t 12) (.k (.c (C.int .i64 0))))⟩,⟨some 14, none, .p (.pick (.t 10) (.t 13) (.k (.c (C.bool false))))⟩,⟨some 2, none, .p (.mv (.t 14))⟩] [2])
  .ret)
 (.seq (.region [⟨some 16, none, .p (.bin .eql (.t 4) (.k (.c (C.int .i64 5))))⟩,⟨some 15, none, .p (.mv (.t 16))⟩] [1, 15])
 (.cond (.t 15)
 (.seq (.region [⟨some 2, none, .p (.mv (.k (.c (C.bool true))))⟩] [2])
  .ret)
  .skip))))))
 (.seq (.region [⟨some 17, none, .p (.fld 3 (.t 1))⟩,⟨some 18, none, .h (.load 1 false (.t 17))⟩,⟨some 19, none, .p (.bin .eql (.t 18) (.k (.c (C.int .i64 0))))⟩,⟨some 2, none, .p (.mv (.t 19))⟩] [2])
  .ret))) }
theorem a87_ok : okFn Tryz.prog 87 a87 = true := by kernel_rfl
/-- (*loop.example/g01215/spec.l1Cur).pour -/
def a88 : AFn := { np := 2, nt := 30, res := [.cell 4 2 true], body :=
 (.seq (.region [⟨some 3, none, .p (.box 24 (.t 1))⟩,⟨some 4, none, .p (.alloc [.k (C.int .i64 0), .k (C.int .i64 0)])⟩] [0, 3, 4])
 (.seq (.seq (.region [⟨some 6, none, .h (.load 24 true (.t 3))⟩,⟨some 7, none, .h (.call (.f 45) [.t 6])⟩,⟨some 8, none, .p (.mv (.t 7))⟩,⟨some 9, some (8, true), .p (.mv (.t 0))⟩,⟨some 10, some (8, true), .h (.call (.f 84) [.t 9, .k (.c (C.int .i64 3))])⟩,⟨some 11, some (8, true), .p (.un .not (.t 10))⟩,⟨some 12, none, .p (.pick (.t 8) (.t 11) (.k (.c (C.bool false))))⟩] [0, 3, 4, 12])
 (.cond (.t 12)
 (.seq (.region [⟨some 13, none, .h (.load 24 true (.t 3))⟩,⟨some 14, none, .h (.call (.f 140) [.t 13])⟩,⟨some 5, none, .p (.mv (.t 14))⟩] [0, 4, 5])
 (.seq (.region [⟨some 15, none, .p (.mv (.t 5))⟩,⟨some 16, none, .p (.len (.t 15))⟩,⟨some 17, none, .p (.bin .gtr (.t 16) (.k (.c (C.int .i64 0))))⟩] [0, 4, 5, 17])
 (.cond (.t 17)
 (.seq (.region [⟨some 18, none, .p (.mv (.t 5))⟩,⟨some 19, none, .p (.mv (.t 0))⟩,⟨some 20, none, .p (.mv (.t 5))⟩,⟨some 21, none, .p (.len (.t 20))⟩,⟨some 22, none, .h (.call (.f 40) [.t 19, .t 21])⟩,⟨some 23, none, .p (.ixS 2 (.t 18) (.t 22))⟩,⟨some 24, none, .h (.load 2 true (.t 23))⟩,⟨none, none, .h (.store 2 (.t 4) (.t 24))⟩] [4])
  .ret)
  .skip)))
  .skip))
 (.seq (.region [⟨some 25, none, .p (.mv (.t 0))⟩,⟨some 26, none, .h (.call (.f 89) [.t 25])⟩,⟨some 27, none, .p (.mv (.t 0))⟩,⟨some 28, none, .h (.call (.f 89) [.t 27])⟩,⟨some 29, none, .p (.build [.k (C.int .i64 0), .k (C.int .i64 0)] [(0, 1, .t 26), (1, 1, .t 28)])⟩,⟨none, none, .h (.store 2 (.t 4) (.t 29))⟩] [4])
  .ret))) }
theorem a88_ok : okFn Tryz.prog 88 a88 = true := by kernel_rfl
/-- (*loop.example/g01215/spec.l1Cur).place -/
def a89 : AFn := { np := 1, nt := 10, res := [.t 2], body :=
 (.seq (.region [⟨some 2, none, .p (.mv (.k (.c (C.int .i64 0))))⟩] [0])
 (.seq (.seq (.region [⟨some 3, none, .p (.mv (.t 0))⟩,⟨some 4, none, .h (.call (.f 84) [.t 3, .k (.c (C.int .i64 40))])⟩] [0, 4])
 (.cond (.t 4)
 (.seq (.region [⟨some 5, none, .p (.mv (.t 0))⟩,⟨some 6, none, .p (.mksl 1 3 [.k (C.int .i64 0)] [(0, 1, .k (.c (C.int .i64 (-1)))), (1, 1, .k (.c (C.int .i64 6))), (2, 1, .k (.c (C.int .i64 4611686018427387904)))])⟩,⟨some 7, none, .h (.call (.f 43) [.t 5, .t 6])⟩,⟨some 2, none, .p (.mv (.t 7))⟩] [2])
  .ret)
  .skip))
 (.seq (.region [⟨some 8, none, .p (.mv (.t 0))⟩,⟨some 9, none, .h (.call (.f 40) [.t 8, .k (.c (C.int .i64 6))])⟩,⟨some 2, none, .p (.mv (.t 9))⟩] [2])
  .ret))) }
theorem a89_ok : okFn Tryz.prog 89 a89 = true := by kernel_rfl
/-- (*loop.example/g01215/spec.l1Cur).color -/
def a90 : AFn := { np := 1, nt := 14, res := [.t 2], body :=
 (.seq (.region [⟨some 2, none, .p (.mv (.k (.c (C.int .i64 0))))⟩] [0])
 (.seq (.seq (.region [⟨some 3, none, .p (.mv (.t 0))⟩,⟨some 4, none, .h (.call (.f 84) [.t 3, .k (.c (C.int .i64 40))])⟩] [0, 4])
 (.cond (.t 4)
 (.seq (.region [⟨some 5, none, .p (.mv (.t 0))⟩,⟨some 6, none, .p (.mksl 1 4 [.k (C.int .i64 0)] [(0, 1, .k (.c (C.int .i64 (-1)))), (1, 1, .k (.c (C.int .i64 0))), (2, 1, .k (.c (C.int .i64 6))), (3, 1, .k (.c (C.int .i64 4611686018427387904)))])⟩,⟨some 7, none, .h (.call (.f 43) [.t 5, .t 6])⟩,⟨some 2, none, .p (.mv (.t 7))⟩] [2])
  .ret)
  .skip))
 (.seq (.region [⟨some 8, none, .p (.mv (.t 0))⟩,⟨some 9, none, .p (.mv (.t 0))⟩,⟨some 10, none, .p (.mksl 1 4 [.k (C.int .i64 0)] [(0, 1, .k (.c (C.int .i64 3))), (1, 1, .k (.c (C.int .i64 2))), (2, 1, .k (.c (C.int .i64 5))), (3, 1, .k (.c (C.int .i64 3)))])⟩,⟨some 11, none, .h (.call (.f 43) [.t 9, .t 10])⟩,⟨some 12, none, .h (.call (.f 40) [.t 8, .t 11])⟩,⟨some 13, none, .p (.bin .add (.k (.c (C.int .i64 1))) (.t 12))⟩,⟨some 2, none, .p (.mv (.t 13))⟩] [2])
  .ret))) }
theorem a90_ok : okFn Tryz.prog 90 a90 = true := by kernel_rfl
/-- (*loop.example/g01215/spec.l1Cur).source5 -/
def a91 : AFn := { np := 2, nt := 33, res := [.cell 4 3 true], body :=
 (.seq (.region [⟨some 3, none, .p (.box 24 (.t 1))⟩,⟨some 4, none, .p (.alloc [.k (C.int .i64 0), .k (C.int .i64 0), .k (C.int .i64 0)])⟩] [0, 3, 4])
 (.seq (.seq (.region [⟨some 6, none, .h (.load 24 true (.t 3))⟩,⟨some 7, none, .h (.call (.f 45) [.t 6])⟩,⟨some 8, none, .p (.mv (.t 7))⟩,⟨some 9, some (8, true), .p (.mv (.t 0))⟩,⟨some 10, some (8, true), .h (.call (.f 84) [.t 9, .k (.c (C.int .i64 5))])⟩,⟨some 11, some (8, true), .p (.un .not (.t 10))⟩,⟨some 12, none, .p (.pick (.t 8) (.t 11) (.k (.c (C.bool false))))⟩] [0, 3, 4, 12])
 (.cond (.t 12)
 (.seq (.region [⟨some 13, none, .h (.load 24 true (.t 3))⟩,⟨some 14, none, .h (.call (.f 141) [.t 13])⟩,⟨some 5, none, .p (.mv (.t 14))⟩] [0, 4, 5])
 (.seq (.region [⟨some 15, none, .p (.mv (.t 5))⟩,⟨some 16, none, .p (.len (.t 15))⟩,⟨some 17, none, .p (.bin .gtr (.t 16) (.k (.c (C.int .i64 0))))⟩] [0, 4, 5, 17])
 (.cond (.t 17)
 (.seq (.region [⟨some 18, none, .p (.mv (.t 5))⟩,⟨some 19, none, .p (.mv (.t 0))⟩,⟨some 20, none, .p (.mv (.t 5))⟩,⟨some 21, none, .p (.len (.t 20))⟩,⟨some 22, none, .h (.call (.f 40) [.t 19, .t 21])⟩,⟨some 23, none, .p (.ixS 3 (.t 18) (.t 22))⟩,⟨some 24, none, .h (.load 3 true (.t 23))⟩,⟨none, none, .h (.store 3 (.t 4) (.t 24))⟩] [4])
  .ret)
  .skip)))
  .skip))
 (.seq (.region [⟨some 25, none, .p (.mv (.t 0))⟩,⟨some 26, none, .h (.call (.f 89) [.t 25])⟩,⟨some 27, none, .p (.mv (.t 0))⟩,⟨some 28, none, .h (.call (.f 89) [.t 27])⟩,⟨some 29, none, .p (.mv (.t 0))⟩,⟨some 30, none, .p (.mksl 1 7 [.k (C.int .i64 0)] [(0, 1, .k (.c (C.int .i64 1))), (1, 1, .k (.c (C.int .i64 2))), (2, 1, .k (.c (C.int .i64 3))), (3, 1, .k (.c (C.int .i64 4))), (4, 1, .k (.c (C.int .i64 0))), (5, 1, .k (.c (C.int .i64 5))), (6, 1, .k (.c (C.int .i64 (-1))))])⟩,⟨some 31, none, .h (.call (.f 43) [.t 29, .t 30])⟩,⟨some 32, none, .p (.build [.k (C.int .i64 0), .k (C.int .i64 0), .k (C.int .i64 0)] [(0, 1, .t 26), (1, 1, .t 28), (2, 1, .t 31)])⟩,⟨none, none, .h (.store 3 (.t 4) (.t 32))⟩] [4])
  .ret))) }
theorem a91_ok : okFn Tryz.prog 91 a91 = true := by kernel_rfl
/-- (loop.example/g01215/impl.Log).records -/
def a92 : AFn := { np := 1, nt := 43, res := [.t 2, .t 3], body :=
 (.seq (.region [⟨some 1, none, .p (.box 3 (.t 0))⟩,⟨some 2, none, .p (.nilsl 2)⟩,⟨some 3, none, .p (.mv (.k (.c (C.bool false))))⟩] [1])
 (.seq (.region [⟨some 7, none, .p (.fld 0 (.t 1))⟩,⟨some 8, none, .h (.load 1 false (.t 7))⟩,⟨some 9, none, .p (.fld 1 (.t 1))⟩,⟨some 10, none, .h (.load 1 false (.t 9))⟩,⟨some 11, none, .p (.bin .add (.t 8) (.t 10))⟩,⟨some 4, none, .p (.mv (.t 11))⟩] [1, 4])
 (.seq (.seq (.region [⟨some 12, none, .p (.mv (.t 4))⟩,⟨some 13, none, .p (.lenStr (.t 12))⟩,⟨some 14, none, .p (.bin .gtr (.t 13) (.k (.c (C.int .i64 30000))))⟩,⟨some 15, none, .p (.mv (.t 14))⟩,⟨some 16, some (15, false), .p (.fld 0 (.t 1))⟩,⟨some 17, some (15, false), .h (.load 1 false (.t 16))⟩,⟨some 18, some (15, false), .p (.bin .neq (.t 17) (.k (.c (C.str []))))⟩,⟨some 19, some (15, false), .p (.mv (.t 18))⟩,⟨some 20, some (19, true), .p (.fld 0 (.t 1))⟩,⟨some 21, some (19, true), .h (.load 1 false (.t 20))⟩,⟨some 22, some (19, true), .h (.call (.f 142) [.t 21, .k (.c (C.str [10]))])⟩,⟨some 23, some (19, true), .p (.un .not (.t 22))⟩,⟨some 24, some (15, false), .p (.pick (.t 19) (.t 23) (.k (.c (C.bool false))))⟩,⟨some 25, none, .p (.pick (.t 15) (.k (.c (C.bool true))) (.t 24))⟩] [1, 4, 25])
 (.cond (.t 25)
 (.seq (.region [⟨some 2, none, .p (.nilsl 2)⟩,⟨some 3, none, .p (.mv (.k (.c (C.bool false))))⟩] [2, 3])
  .ret)
  .skip))
 (.seq (.region [⟨some 27, none, .p (.mv (.t 4))⟩,⟨some 28, none, .h (.call (.f 143) [.t 27])⟩,⟨some 26, none, .p (.mv (.t 28))⟩,⟨some 29, none, .p (.ext (.t 26) 0)⟩,⟨some 30, none, .p (.ext (.t 26) 1)⟩,⟨some 5, none, .p (.mv (.t 29))⟩,⟨some 6, none, .p (.mv (.t 30))⟩] [1, 4, 5, 6])
 (.seq (.regionD [⟨some 31, none, .p (.mv (.t 5))⟩,⟨some 32, none, .p (.mv (.t 6))⟩,⟨some 33, none, .p (.mv (.t 4))⟩,⟨some 34, none, .p (.lenStr (.t 33))⟩,⟨some 35, none, .p (.bin .eql (.t 32) (.t 34))⟩,⟨some 36, none, .p (.mv (.t 35))⟩,⟨some 37, some (36, true), .p (.fld 2 (.t 1))⟩,⟨some 38, some (36, true), .h (.load 1 false (.t 37))⟩,⟨some 39, some (36, true), .p (.mv (.t 5))⟩,⟨some 40, some (36, true), .p (.len (.t 39))⟩,⟨some 41, some (36, true), .p (.bin .eql (.t 38) (.t 40))⟩,⟨some 42, none, .p (.pick (.t 36) (.t 41) (.k (.c (C.bool false))))⟩,⟨some 2, none, .p (.mv (.t 31))⟩,⟨some 3, none, .p (.mv (.t 42))⟩] [2, 3] [])
  .ret))))) }
theorem a92_ok : okFn Tryz.prog 92 a92 = true := by kernel_rfl
/-- loop.example/g01215/impl.areAll[byte] -/
def a93 : AFn := { np := 2, nt := 9, res := [.t 4], body :=
 (.seq (.region [⟨some 3, none, .p (.box 1 (.t 1))⟩,⟨some 4, none, .p (.mv (.k (.c (C.bool false))))⟩] [0, 3])
 (.seq (.region [⟨some 5, none, .p (.mv (.t 0))⟩,⟨some 6, none, .p (.mkfn 145 [.t 3])⟩,⟨some 7, none, .h (.call (.f 144) [.t 5, .t 6])⟩,⟨some 8, none, .p (.un .not (.t 7))⟩,⟨some 4, none, .p (.mv (.t 8))⟩] [4])
  .ret)) }
theorem a93_ok : okFn Tryz.prog 93 a93 = true := by kernel_rfl
/-- loop.example/g01215/impl.isPlainText$1 -/
def a94 : AFn := { np := 1, nt := 9, res := [.t 2], body :=
 (.seq (.region [⟨some 2, none, .p (.mv (.k (.c (C.bool false))))⟩] [0])
 (.seq (.region [⟨some 3, none, .p (.mv (.t 0))⟩,⟨some 4, none, .p (.bin .geq (.t 3) (.k (.c (C.int .u8 32))))⟩,⟨some 5, none, .p (.mv (.t 4))⟩,⟨some 6, some (5, true), .p (.mv (.t 0))⟩,⟨some 7, some (5, true), .p (.bin .leq (.t 6) (.k (.c (C.int .u8 126))))⟩,⟨some 8, none, .p (.pick (.t 5) (.t 7) (.k (.c (C.bool false))))⟩,⟨some 2, none, .p (.mv (.t 8))⟩] [2])
  .ret)) }
theorem a94_ok : okFn Tryz.prog 94 a94 = true := by kernel_rfl
/-- loop.example/g01215/impl.poured -/
def a99 : AFn := { np := 2, nt := 30, res := [.t 4], body :=
 (.seq (.region [⟨some 4, none, .p (.mv (.k (.c (C.str []))))⟩] [0, 1])
 (.seq (.seq (.region [⟨some 8, none, .p (.mv (.t 1))⟩,⟨some 9, none, .p (.un .not (.t 8))⟩] [0, 9])
 (.cond (.t 9)
 (.seq (.region [⟨some 4, none, .p (.mv (.k (.c (C.str [63]))))⟩] [4])
  .ret)
  .skip))
 (.seq (.region [⟨some 5, none, .p (.nilsl 1)⟩] [0, 5])
 (.seq (.seq (.region [⟨some 10, none, .p (.mv (.t 0))⟩,⟨some 11, none, .p (.len (.t 10))⟩,⟨some 12, none, .p (.mv (.k (.c (C.int .i64 0))))⟩] [5, 10, 11, 12])
 (.block 0 (.loop (.seq (.region [⟨some 13, none, .p (.bin .lss (.t 12) (.t 11))⟩] [5, 10, 11, 12, 13])
 (.seq (.cond (.t 13)
  .skip
 (.exit 0))
 (.seq (.block 1 (.seq (.region [⟨some 14, none, .p (.ixS 2 (.t 10) (.t 12))⟩,⟨some 15, none, .h (.load 2 true (.t 14))⟩,⟨some 7, none, .p (.alloc [.k (C.int .i64 0), .k (C.int .i64 0)])⟩,⟨none, none, .h (.store 2 (.t 7) (.t 15))⟩] [5, 7, 10, 11, 12])
 (.regionD [⟨some 16, none, .p (.mv (.t 5))⟩,⟨some 17, none, .p (.ixA 2 1 (.t 7) (.k (.c (C.int .i64 0))))⟩,⟨some 18, none, .h (.load 1 false (.t 17))⟩,⟨some 19, none, .h (.call (.f 82) [.t 18])⟩,⟨some 20, none, .p (.bin .add (.t 19) (.k (.c (C.str [62]))))⟩,⟨some 21, none, .p (.ixA 2 1 (.t 7) (.k (.c (C.int .i64 1))))⟩,⟨some 22, none, .h (.load 1 false (.t 21))⟩,⟨some 23, none, .h (.call (.f 82) [.t 22])⟩,⟨some 24, none, .p (.bin .add (.t 20) (.t 23))⟩,⟨some 25, none, .p (.mksl 1 1 [.k (C.str [])] [(0, 1, .t 24)])⟩,⟨some 26, none, .h (.app 1 (.t 16) (.t 25))⟩,⟨some 5, none, .p (.mv (.t 26))⟩] [5, 10, 11, 12] [])))
 (.region [⟨some 27, none, .p (.bin .add (.t 12) (.k (.c (C.int .i64 1))))⟩,⟨some 12, none, .p (.mv (.t 27))⟩] [5, 10, 11, 12])))) [5, 10, 11, 12])))
 (.seq (.region [⟨some 28, none, .p (.mv (.t 5))⟩,⟨some 29, none, .h (.call (.f 112) [.t 28])⟩,⟨some 4, none, .p (.mv (.t 29))⟩] [4])
  .ret))))) }
theorem a99_ok : okFn Tryz.prog 99 a99 = true := by kernel_rfl
/-- loop.example/g01215/impl.report -/
def a101 : AFn := { np := 2, nt := 10, res := [.t 4], body :=
 (.seq (.region [⟨some 4, none, .p (.mv (.k (.c (C.str []))))⟩] [0, 1])
 (.seq (.block 0 (.seq (.region [⟨some 6, none, .p (.mv (.t 1))⟩,⟨some 7, none, .p (.un .not (.t 6))⟩,⟨some 5, none, .p (.mv (.t 7))⟩] [0, 5])
 (.cond (.t 5)
 (.seq (.region [⟨some 4, none, .p (.mv (.k (.c (C.str [63]))))⟩] [4])
  .ret)
 (.seq (.region [⟨some 9, none, .p (.mv (.t 0))⟩,⟨some 8, none, .p (.mv (.t 9))⟩] [8])
 (.cond (.t 8)
 (.seq (.region [⟨some 4, none, .p (.mv (.k (.c (C.str [121, 101, 115]))))⟩] [4])
  .ret)
  .skip)))))
 (.seq (.region [⟨some 4, none, .p (.mv (.k (.c (C.str [110, 111]))))⟩] [4])
  .ret))) }
theorem a101_ok : okFn Tryz.prog 101 a101 = true := by kernel_rfl
/-- loop.example/g01215/impl.number -/
def a103 : AFn := { np := 2, nt := 9, res := [.t 4], body :=
 (.seq (.region [⟨some 4, none, .p (.mv (.k (.c (C.str []))))⟩] [0, 1])
 (.seq (.seq (.region [⟨some 5, none, .p (.mv (.t 1))⟩,⟨some 6, none, .p (.un .not (.t 5))⟩] [0, 6])
 (.cond (.t 6)
 (.seq (.region [⟨some 4, none, .p (.mv (.k (.c (C.str [63]))))⟩] [4])
  .ret)
  .skip))
 (.seq (.region [⟨some 7, none, .p (.mv (.t 0))⟩,⟨some 8, none, .h (.call (.f 82) [.t 7])⟩,⟨some 4, none, .p (.mv (.t 8))⟩] [4])
  .ret))) }
theorem a103_ok : okFn Tryz.prog 103 a103 = true := by kernel_rfl
/-- loop.example/g01215/impl.listed -/
def a112 : AFn := { np := 1, nt := 8, res := [.t 2], body :=
 (.seq (.region [⟨some 2, none, .p (.mv (.k (.c (C.str []))))⟩] [0])
 (.seq (.seq (.region [⟨some 3, none, .p (.mv (.t 0))⟩,⟨some 4, none, .p (.len (.t 3))⟩,⟨some 5, none, .p (.bin .eql (.t 4) (.k (.c (C.int .i64 0))))⟩] [0, 5])
 (.cond (.t 5)
 (.seq (.region [⟨some 2, none, .p (.mv (.k (.c (C.str [110, 111, 110, 101]))))⟩] [2])
  .ret)
  .skip))
 (.seq (.region [⟨some 6, none, .p (.mv (.t 0))⟩,⟨some 7, none, .h (.call (.f 62) [.t 6, .k (.c (C.str [32]))])⟩,⟨some 2, none, .p (.mv (.t 7))⟩] [2])
  .ret))) }
theorem a112_ok : okFn Tryz.prog 112 a112 = true := by kernel_rfl
/-- loop.example/g01215/impl.AppendChecksum -/
def a116 : AFn := { np := 1, nt := 22, res := [.t 2, .t 3], body :=
 (.seq (.region [⟨some 2, none, .p (.mv (.k (.c (C.str []))))⟩,⟨some 3, none, .p (.mv (.k (.c (C.bool false))))⟩] [0])
 (.seq (.seq (.region [⟨some 5, none, .p (.mv (.t 0))⟩,⟨some 6, none, .p (.lenStr (.t 5))⟩,⟨some 7, none, .p (.bin .gtr (.t 6) (.k (.c (C.int .i64 4000))))⟩,⟨some 8, none, .p (.mv (.t 7))⟩,⟨some 9, some (8, false), .p (.mv (.t 0))⟩,⟨some 10, some (8, false), .h (.call (.f 49) [.t 9, .k (.c (C.str [35]))])⟩,⟨some 11, none, .p (.pick (.t 8) (.k (.c (C.bool true))) (.t 10))⟩] [0, 11])
 (.cond (.t 11)
 (.seq (.region [⟨some 2, none, .p (.mv (.k (.c (C.str []))))⟩,⟨some 3, none, .p (.mv (.k (.c (C.bool false))))⟩] [2, 3])
  .ret)
  .skip))
 (.seq (.region [⟨some 12, none, .p (.mv (.t 0))⟩,⟨some 13, none, .p (.bin .add (.t 12) (.k (.c (C.str [35]))))⟩,⟨some 14, none, .p (.mv (.t 0))⟩,⟨some 15, none, .h (.call (.f 167) [.t 14])⟩,⟨some 16, none, .h (.call (.f 82) [.t 15])⟩,⟨some 17, none, .p (.bin .add (.t 13) (.t 16))⟩,⟨some 4, none, .p (.mv (.t 17))⟩] [4])
 (.seq (.seq (.region [⟨some 18, none, .p (.mv (.t 4))⟩,⟨some 19, none, .p (.lenStr (.t 18))⟩,⟨some 20, none, .p (.bin .gtr (.t 19) (.k (.c (C.int .i64 4000))))⟩] [4, 20])
 (.cond (.t 20)
 (.seq (.region [⟨some 2, none, .p (.mv (.k (.c (C.str []))))⟩,⟨some 3, none, .p (.mv (.k (.c (C.bool false))))⟩] [2, 3])
  .ret)
  .skip))
 (.seq (.region [⟨some 21, none, .p (.mv (.t 4))⟩,⟨some 2, none, .p (.mv (.t 21))⟩,⟨some 3, none, .p (.mv (.k (.c (C.bool true))))⟩] [2, 3])
  .ret))))) }
theorem a116_ok : okFn Tryz.prog 116 a116 = true := by kernel_rfl
/-- slices.ContainsFunc[[][4]int,[4]int] -/
def a117 : AFn := { np := 2, nt := 9, res := [.t 4], body :=
 (.seq (.region [⟨some 4, none, .p (.mv (.k (.c (C.bool false))))⟩] [0, 1])
 (.seq (.region [⟨some 5, none, .p (.mv (.t 0))⟩,⟨some 6, none, .p (.mv (.t 1))⟩,⟨some 7, none, .h (.call (.f 168) [.t 5, .t 6])⟩,⟨some 8, none, .p (.bin .geq (.t 7) (.k (.c (C.int .i64 0))))⟩,⟨some 4, none, .p (.mv (.t 8))⟩] [4])
  .ret)) }
theorem a117_ok : okFn Tryz.prog 117 a117 = true := by kernel_rfl
/-- loop.example/g01215/impl.areAll[[4]int]$1 -/
def a118 : AFn := { np := 2, nt := 8, res := [.t 3], body :=
 (.seq (.region [⟨some 2, none, .p (.box 4 (.t 0))⟩,⟨some 3, none, .p (.mv (.k (.c (C.bool false))))⟩] [1, 2])
 (.seq (.region [⟨some 4, none, .h (.load 1 false (.t 1))⟩,⟨some 5, none, .h (.load 4 true (.t 2))⟩,⟨some 6, none, .h (.call (.t 4) [.t 5])⟩,⟨some 7, none, .p (.un .not (.t 6))⟩,⟨some 3, none, .p (.mv (.t 7))⟩] [3])
  .ret)) }
theorem a118_ok : okFn Tryz.prog 118 a118 = true := by kernel_rfl
/-- loop.example/g01215/impl.isColor -/
def a119 : AFn := { np := 1, nt := 5, res := [.t 2], body :=
 (.seq (.region [⟨some 2, none, .p (.mv (.k (.c (C.bool false))))⟩] [0])
 (.seq (.region [⟨some 3, none, .p (.mv (.t 0))⟩,⟨some 4, none, .h (.call (.f 44) [.t 3, .k (.c (C.int .i64 1)), .k (.c (C.int .i64 5))])⟩,⟨some 2, none, .p (.mv (.t 4))⟩] [2])
  .ret)) }
theorem a119_ok : okFn Tryz.prog 119 a119 = true := by kernel_rfl
/-- loop.example/g01215/impl.isTube$1 -/
def a120 : AFn := { np := 1, nt := 5, res := [.t 2], body :=
 (.seq (.region [⟨some 2, none, .p (.mv (.k (.c (C.bool false))))⟩] [0])
 (.seq (.region [⟨some 3, none, .p (.mv (.t 0))⟩,⟨some 4, none, .p (.bin .eql (.t 3) (.k (.c (C.int .i64 0))))⟩,⟨some 2, none, .p (.mv (.t 4))⟩] [2])
  .ret)) }
theorem a120_ok : okFn Tryz.prog 120 a120 = true := by kernel_rfl
/-- slices.IndexFunc[[][2]int,[2]int] -/
def a124 : AFn := { np := 2, nt := 19, res := [.t 4], body :=
 (.seq (.region [⟨some 4, none, .p (.mv (.k (.c (C.int .i64 0))))⟩] [0, 1])
 (.seq (.seq (.region [⟨some 6, none, .p (.mv (.t 0))⟩,⟨some 7, none, .p (.len (.t 6))⟩,⟨some 8, none, .p (.mv (.k (.c (C.int .i64 0))))⟩] [0, 1, 7, 8])
 (.block 0 (.loop (.seq (.region [⟨some 9, none, .p (.bin .lss (.t 8) (.t 7))⟩] [0, 1, 7, 8, 9])
 (.seq (.cond (.t 9)
  .skip
 (.exit 0))
 (.seq (.block 1 (.seq (.region [⟨some 10, none, .p (.mv (.t 8))⟩,⟨some 5, none, .p (.mv (.t 10))⟩] [0, 1, 5, 7, 8])
 (.seq (.region [⟨some 11, none, .p (.mv (.t 1))⟩,⟨some 12, none, .p (.mv (.t 0))⟩,⟨some 13, none, .p (.mv (.t 5))⟩,⟨some 14, none, .p (.ixS 2 (.t 12) (.t 13))⟩,⟨some 15, none, .h (.load 2 true (.t 14))⟩,⟨some 16, none, .h (.call (.t 11) [.t 15])⟩] [0, 1, 5, 7, 8, 16])
 (.cond (.t 16)
 (.seq (.region [⟨some 17, none, .p (.mv (.t 5))⟩,⟨some 4, none, .p (.mv (.t 17))⟩] [4])
  .ret)
  .skip))))
 (.region [⟨some 18, none, .p (.bin .add (.t 8) (.k (.c (C.int .i64 1))))⟩,⟨some 8, none, .p (.mv (.t 18))⟩] [0, 1, 7, 8])))) [0, 1, 7, 8])))
 (.seq (.region [⟨some 4, none, .p (.mv (.k (.c (C.int .i64 (-1)))))⟩] [4])
  .ret))) }
theorem a124_ok : okFn Tryz.prog 124 a124 = true := by kernel_rfl
/-- loop.example/g01215/impl.canPour -/
def a125 : AFn := { np := 3, nt := 51, res := [.t 6], body :=
 (.seq (.region [⟨some 3, none, .p (.box 24 (.t 0))⟩,⟨some 6, none, .p (.mv (.k (.c (C.bool false))))⟩] [1, 2, 3])
 (.seq (.region [⟨some 12, none, .p (.mv (.t 1))⟩,⟨some 13, none, .p (.fld 0 (.t 3))⟩,⟨some 14, none, .p (.ixA 6 4 (.t 13) (.t 12))⟩,⟨some 15, none, .h (.load 4 true (.t 14))⟩,⟨some 16, none, .h (.call (.f 72) [.t 15])⟩,⟨some 11, none, .p (.mv (.t 16))⟩,⟨some 17, none, .p (.ext (.t 11) 0)⟩,⟨some 18, none, .p (.ext (.t 11) 1)⟩,⟨some 7, none, .p (.mv (.t 17))⟩,⟨some 8, none, .p (.mv (.t 18))⟩] [1, 2, 3, 7])
 (.seq (.region [⟨some 20, none, .p (.mv (.t 2))⟩,⟨some 21, none, .p (.fld 0 (.t 3))⟩,⟨some 22, none, .p (.ixA 6 4 (.t 21) (.t 20))⟩,⟨some 23, none, .h (.load 4 true (.t 22))⟩,⟨some 24, none, .h (.call (.f 72) [.t 23])⟩,⟨some 19, none, .p (.mv (.t 24))⟩,⟨some 25, none, .p (.ext (.t 19) 0)⟩,⟨some 26, none, .p (.ext (.t 19) 1)⟩,⟨some 9, none, .p (.mv (.t 25))⟩,⟨some 10, none, .p (.mv (.t 26))⟩] [1, 2, 3, 7, 9])
 (.seq (.region [⟨some 27, none, .p (.mv (.t 1))⟩,⟨some 28, none, .p (.mv (.t 2))⟩,⟨some 29, none, .p (.bin .neq (.t 27) (.t 28))⟩,⟨some 30, none, .p (.mv (.t 29))⟩,⟨some 31, some (30, true), .p (.mv (.t 7))⟩,⟨some 32, some (30, true), .p (.bin .gtr (.t 31) (.k (.c (C.int .i64 0))))⟩,⟨some 33, none, .p (.pick (.t 30) (.t 32) (.k (.c (C.bool false))))⟩,⟨some 34, none, .p (.mv (.t 33))⟩,⟨some 35, some (34, true), .p (.mv (.t 2))⟩,⟨some 36, some (34, true), .p (.fld 0 (.t 3))⟩,⟨some 37, some (34, true), .p (.ixA 6 4 (.t 36) (.t 35))⟩,⟨some 38, some (34, true), .h (.load 4 true (.t 37))⟩,⟨some 39, some (34, true), .h (.call (.f 73) [.t 38])⟩,⟨some 40, some (34, true), .p (.bin .lss (.t 39) (.k (.c (C.int .i64 4))))⟩,⟨some 41, none, .p (.pick (.t 34) (.t 40) (.k (.c (C.bool false))))⟩,⟨some 42, none, .p (.mv (.t 41))⟩,⟨some 43, some (42, true), .p (.mv (.t 9))⟩,⟨some 44, some (42, true), .p (.bin .eql (.t 43) (.k (.c (C.int .i64 0))))⟩,⟨some 45, some (42, true), .p (.mv (.t 44))⟩,⟨some 46, some (45, false), .p (.mv (.t 9))⟩,⟨some 47, some (45, false), .p (.mv (.t 7))⟩,⟨some 48, some (45, false), .p (.bin .eql (.t 46) (.t 47))⟩,⟨some 49, some (42, true), .p (.pick (.t 45) (.k (.c (C.bool true))) (.t 48))⟩,⟨some 50, none, .p (.pick (.t 42) (.t 49) (.k (.c (C.bool false))))⟩,⟨some 6, none, .p (.mv (.t 50))⟩] [6])
  .ret)))) }
theorem a125_ok : okFn Tryz.prog 125 a125 = true := by kernel_rfl
/-- loop.example/g01215/impl.runs -/
def a126 : AFn := { np := 1, nt := 45, res := [.t 2], body :=
 (.seq (.region [⟨some 1, none, .p (.box 4 (.t 0))⟩,⟨some 2, none, .p (.nilsl 2)⟩] [1])
 (.seq (.region [⟨some 3, none, .p (.nilsl 2)⟩] [1, 3])
 (.seq (.seq (.region [⟨some 7, none, .h (.load 4 true (.t 1))⟩,⟨some 8, none, .h (.call (.f 73) [.t 7])⟩,⟨some 9, none, .h (.slA 4 1 (.t 1) none (some (.t 8)))⟩,⟨some 10, none, .p (.len (.t 9))⟩,⟨some 11, none, .p (.mv (.k (.c (C.int .i64 0))))⟩] [3, 9, 10, 11])
 (.block 0 (.loop (.seq (.region [⟨some 12, none, .p (.bin .lss (.t 11) (.t 10))⟩] [3, 9, 10, 11, 12])
 (.seq (.cond (.t 12)
  .skip
 (.exit 0))
 (.seq (.block 1 (.seq (.region [⟨some 13, none, .p (.ixS 1 (.t 9) (.t 11))⟩,⟨some 14, none, .h (.load 1 false (.t 13))⟩,⟨some 5, none, .p (.mv (.t 14))⟩] [3, 5, 9, 10, 11])
 (.seq (.region [⟨some 15, none, .p (.mv (.t 3))⟩,⟨some 16, none, .p (.len (.t 15))⟩,⟨some 6, none, .p (.mv (.t 16))⟩] [3, 5, 6, 9, 10, 11])
 (.seq (.region [⟨some 17, none, .p (.mv (.t 6))⟩,⟨some 18, none, .p (.bin .gtr (.t 17) (.k (.c (C.int .i64 0))))⟩,⟨some 19, none, .p (.mv (.t 18))⟩,⟨some 20, some (19, true), .p (.mv (.t 3))⟩,⟨some 21, some (19, true), .p (.mv (.t 6))⟩,⟨some 22, some (19, true), .p (.bin .sub (.t 21) (.k (.c (C.int .i64 1))))⟩,⟨some 23, some (19, true), .p (.ixS 2 (.t 20) (.t 22))⟩,⟨some 24, some (19, true), .p (.ixA 2 1 (.t 23) (.k (.c (C.int .i64 0))))⟩,⟨some 25, some (19, true), .h (.load 1 false (.t 24))⟩,⟨some 26, some (19, true), .p (.mv (.t 5))⟩,⟨some 27, some (19, true), .p (.bin .eql (.t 25) (.t 26))⟩,⟨some 28, none, .p (.pick (.t 19) (.t 27) (.k (.c (C.bool false))))⟩] [3, 5, 6, 9, 10, 11, 28])
 (.cond (.t 28)
 (.regionD [⟨some 29, none, .p (.mv (.t 3))⟩,⟨some 30, none, .p (.mv (.t 6))⟩,⟨some 31, none, .p (.bin .sub (.t 30) (.k (.c (C.int .i64 1))))⟩,⟨some 32, none, .p (.ixS 2 (.t 29) (.t 31))⟩,⟨some 33, none, .p (.ixA 2 1 (.t 32) (.k (.c (C.int .i64 1))))⟩,⟨some 34, none, .h (.load 1 false (.t 33))⟩,⟨some 35, none, .p (.bin .add (.t 34) (.k (.c (C.int .i64 1))))⟩,⟨some 36, none, .p (.ixS 2 (.t 29) (.t 31))⟩,⟨some 37, none, .p (.ixA 2 1 (.t 36) (.k (.c (C.int .i64 1))))⟩,⟨none, none, .h (.store 1 (.t 37) (.t 35))⟩] [3, 9, 10, 11] [])
 (.region [⟨some 38, none, .p (.mv (.t 3))⟩,⟨some 39, none, .p (.mv (.t 5))⟩,⟨some 40, none, .p (.build [.k (C.int .i64 0), .k (C.int .i64 0)] [(0, 1, .t 39), (1, 1, .k (.c (C.int .i64 1)))])⟩,⟨some 41, none, .p (.mksl 2 1 [.k (C.int .i64 0), .k (C.int .i64 0)] [(0, 2, .t 40)])⟩,⟨some 42, none, .h (.app 2 (.t 38) (.t 41))⟩,⟨some 3, none, .p (.mv (.t 42))⟩] [3, 9, 10, 11]))))))
 (.region [⟨some 43, none, .p (.bin .add (.t 11) (.k (.c (C.int .i64 1))))⟩,⟨some 11, none, .p (.mv (.t 43))⟩] [3, 9, 10, 11])))) [3, 9, 10, 11])))
 (.seq (.region [⟨some 44, none, .p (.mv (.t 3))⟩,⟨some 2, none, .p (.mv (.t 44))⟩] [2])
  .ret)))) }
theorem a126_ok : okFn Tryz.prog 126 a126 = true := by kernel_rfl
/-- loop.example/g01215/impl.formOf -/
def a127 : AFn := { np := 1, nt := 7, res := [.cell 2 24 true], body :=
 (.seq (.region [⟨some 1, none, .p (.box 24 (.t 0))⟩,⟨some 2, none, .p (.alloc (List.replicate 24 (.k (C.int .i64 0))))⟩] [1, 2])
 (.seq (.region [⟨some 3, none, .p (.fld 0 (.t 1))⟩,⟨some 4, none, .h (.slA 6 4 (.t 3) none none)⟩,⟨some 5, none, .h (.call (.f 171) [.t 4, .f 172])⟩] [1, 2])
 (.seq (.region [⟨some 6, none, .h (.load 24 true (.t 1))⟩,⟨none, none, .h (.store 24 (.t 2) (.t 6))⟩] [2])
  .ret))) }
theorem a127_ok : okFn Tryz.prog 127 a127 = true := by kernel_rfl
/-- slices.ContainsFunc[[]loop.example/g01215/impl.Rack,loop.example/g01215/impl.Rack] -/
def a128 : AFn := { np := 2, nt := 9, res := [.t 4], body :=
 (.seq (.region [⟨some 4, none, .p (.mv (.k (.c (C.bool false))))⟩] [0, 1])
 (.seq (.region [⟨some 5, none, .p (.mv (.t 0))⟩,⟨some 6, none, .p (.mv (.t 1))⟩,⟨some 7, none, .h (.call (.f 173) [.t 5, .t 6])⟩,⟨some 8, none, .p (.bin .geq (.t 7) (.k (.c (C.int .i64 0))))⟩,⟨some 4, none, .p (.mv (.t 8))⟩] [4])
  .ret)) }
theorem a128_ok : okFn Tryz.prog 128 a128 = true := by kernel_rfl
/-- (*loop.example/g01215/impl.search).step -/
def a129 : AFn := { np := 1, nt := 83, res := [.t 2], body :=
 (.seq (.region [⟨some 2, none, .p (.mv (.k (.c (C.bool false))))⟩] [0])
 (.seq (.region [⟨some 13, none, .p (.mv (.t 0))⟩,⟨some 14, none, .p (.nn (.t 13))⟩,⟨some 15, none, .p (.fld 2 (.t 14))⟩,⟨some 16, none, .h (.load 1 false (.t 15))⟩,⟨some 17, none, .p (.bin .add (.t 16) (.k (.c (C.int .i64 1))))⟩,⟨some 18, none, .p (.nn (.t 13))⟩,⟨some 19, none, .p (.fld 2 (.t 18))⟩,⟨none, none, .h (.store 1 (.t 19) (.t 17))⟩] [0])
 (.seq (.region [⟨some 3, none, .p (.nilsl 24)⟩] [0, 3])
 (.seq (.seq (.region [⟨some 20, none, .p (.mv (.t 0))⟩,⟨some 21, none, .p (.nn (.t 20))⟩,⟨some 22, none, .p (.fld 1 (.t 21))⟩,⟨some 23, none, .h (.load 1 false (.t 22))⟩,⟨some 24, none, .p (.len (.t 23))⟩,⟨some 25, none, .p (.mv (.k (.c (C.int .i64 0))))⟩] [0, 3, 23, 24, 25])
 (.block 0 (.loop (.seq (.region [⟨some 26, none, .p (.bin .lss (.t 25) (.t 24))⟩] [0, 3, 23, 24, 25, 26])
 (.seq (.cond (.t 26)
  .skip
 (.exit 0))
 (.seq (.block 1 (.seq (.region [⟨some 27, none, .p (.ixS 24 (.t 23) (.t 25))⟩,⟨some 28, none, .h (.load 24 true (.t 27))⟩,⟨some 5, none, .p (.alloc (List.replicate 24 (.k (C.int .i64 0))))⟩,⟨none, none, .h (.store 24 (.t 5) (.t 28))⟩] [0, 3, 5, 23, 24, 25])
 (.seq (.region [⟨some 29, none, .h (.load 24 true (.t 5))⟩,⟨some 30, none, .h (.call (.f 27) [.t 29])⟩,⟨some 31, none, .p (.len (.t 30))⟩,⟨some 32, none, .p (.mv (.k (.c (C.int .i64 0))))⟩] [0, 3, 5, 23, 24, 25, 30, 31, 32])
 (.block 2 (.loop (.seq (.region [⟨some 33, none, .p (.bin .lss (.t 32) (.t 31))⟩] [0, 3, 5, 23, 24, 25, 30, 31, 32, 33])
 (.seq (.cond (.t 33)
  .skip
 (.exit 2))
 (.seq (.block 3 (.seq (.region [⟨some 34, none, .p (.ixS 2 (.t 30) (.t 32))⟩,⟨some 35, none, .h (.load 2 true (.t 34))⟩,⟨some 7, none, .p (.alloc [.k (C.int .i64 0), .k (C.int .i64 0)])⟩,⟨none, none, .h (.store 2 (.t 7) (.t 35))⟩] [0, 3, 5, 7, 23, 24, 25, 30, 31, 32])
 (.seq (.region [⟨some 37, none, .h (.load 24 true (.t 5))⟩,⟨some 38, none, .p (.ixA 2 1 (.t 7) (.k (.c (C.int .i64 0))))⟩,⟨some 39, none, .h (.load 1 false (.t 38))⟩,⟨some 40, none, .p (.ixA 2 1 (.t 7) (.k (.c (C.int .i64 1))))⟩,⟨some 41, none, .h (.load 1 false (.t 40))⟩,⟨some 42, none, .h (.call (.f 30) [.t 37, .t 39, .t 41])⟩,⟨some 36, none, .p (.mv (.t 42))⟩,⟨some 43, none, .p (.ext (.t 36) 0)⟩,⟨some 44, none, .p (.ext (.t 36) 1)⟩,⟨some 8, none, .p (.alloc (List.replicate 24 (.k (C.int .i64 0))))⟩,⟨none, none, .h (.store 24 (.t 8) (.t 43))⟩,⟨some 9, none, .p (.mv (.t 44))⟩] [0, 3, 5, 8, 23, 24, 25, 30, 31, 32])
 (.seq (.region [⟨some 45, none, .h (.load 24 true (.t 8))⟩,⟨some 46, none, .h (.call (.f 127) [.t 45])⟩,⟨some 10, none, .p (.alloc (List.replicate 24 (.k (C.int .i64 0))))⟩,⟨none, none, .h (.store 24 (.t 10) (.t 46))⟩] [0, 3, 5, 10, 23, 24, 25, 30, 31, 32])
 (.seq (.regionD [⟨some 48, none, .p (.mv (.t 0))⟩,⟨some 49, none, .p (.nn (.t 48))⟩,⟨some 50, none, .p (.fld 0 (.t 49))⟩,⟨some 51, none, .h (.load 1 false (.t 50))⟩,⟨some 52, none, .h (.load 24 true (.t 10))⟩,⟨some 53, none, .h (.mget (C.int .i64 0) true (.t 51) (.t 52))⟩,⟨some 47, none, .p (.mv (.t 53))⟩,⟨some 54, none, .p (.ext (.t 47) 0)⟩,⟨some 55, none, .p (.ext (.t 47) 1)⟩,⟨some 11, none, .p (.mv (.t 54))⟩,⟨some 12, none, .p (.mv (.t 55))⟩] [0, 3, 5, 10, 12, 23, 24, 25, 30, 31, 32] [])
 (.seq (.region [⟨some 56, none, .p (.mv (.t 12))⟩,⟨some 57, none, .p (.un .not (.t 56))⟩] [0, 3, 5, 10, 23, 24, 25, 30, 31, 32, 57])
 (.cond (.t 57)
 (.seq (.regionD [⟨some 58, none, .p (.mv (.t 0))⟩,⟨some 59, none, .p (.nn (.t 58))⟩,⟨some 60, none, .p (.fld 0 (.t 59))⟩,⟨some 61, none, .h (.load 1 false (.t 60))⟩,⟨some 62, none, .h (.load 24 true (.t 10))⟩,⟨some 63, none, .p (.mv (.t 0))⟩,⟨some 64, none, .p (.nn (.t 63))⟩,⟨some 65, none, .p (.fld 2 (.t 64))⟩,⟨some 66, none, .h (.load 1 false (.t 65))⟩,⟨none, none, .h (.mset (.t 61) (.t 62) (.t 66))⟩] [0, 3, 5, 10, 23, 24, 25, 30, 31, 32] [])
 (.region [⟨some 67, none, .p (.mv (.t 3))⟩,⟨some 68, none, .h (.load 24 true (.t 10))⟩,⟨some 69, none, .p (.mksl 24 1 (List.replicate 24 (.k (C.int .i64 0))) [(0, 24, .t 68)])⟩,⟨some 70, none, .h (.app 24 (.t 67) (.t 69))⟩,⟨some 3, none, .p (.mv (.t 70))⟩] [0, 3, 5, 23, 24, 25, 30, 31, 32]))
  .skip)))))))
 (.region [⟨some 71, none, .p (.bin .add (.t 32) (.k (.c (C.int .i64 1))))⟩,⟨some 32, none, .p (.mv (.t 71))⟩] [0, 3, 5, 23, 24, 25, 30, 31, 32])))) [0, 3, 5, 23, 24, 25, 30, 31, 32])))))
 (.region [⟨some 72, none, .p (.bin .add (.t 25) (.k (.c (C.int .i64 1))))⟩,⟨some 25, none, .p (.mv (.t 72))⟩] [0, 3, 23, 24, 25])))) [0, 3, 23, 24, 25])))
 (.seq (.region [⟨some 73, none, .p (.mv (.t 0))⟩,⟨some 74, none, .p (.mv (.t 3))⟩,⟨some 75, none, .p (.nn (.t 73))⟩,⟨some 76, none, .p (.fld 1 (.t 75))⟩,⟨none, none, .h (.store 1 (.t 76) (.t 74))⟩] [0])
 (.seq (.region [⟨some 77, none, .p (.mv (.t 0))⟩,⟨some 78, none, .p (.nn (.t 77))⟩,⟨some 79, none, .p (.fld 0 (.t 78))⟩,⟨some 80, none, .h (.load 1 false (.t 79))⟩,⟨some 81, none, .h (.mlen (.t 80))⟩,⟨some 82, none, .p (.bin .leq (.t 81) (.k (.c (C.int .i64 600))))⟩,⟨some 2, none, .p (.mv (.t 82))⟩] [2])
  .ret)))))) }
theorem a129_ok : okFn Tryz.prog 129 a129 = true := by kernel_rfl
/-- slices.Index[[]int,int] -/
def a130 : AFn := { np := 2, nt := 19, res := [.t 4], body :=
 (.seq (.region [⟨some 4, none, .p (.mv (.k (.c (C.int .i64 0))))⟩] [0, 1])
 (.seq (.seq (.region [⟨some 6, none, .p (.mv (.t 0))⟩,⟨some 7, none, .p (.len (.t 6))⟩,⟨some 8, none, .p (.mv (.k (.c (C.int .i64 0))))⟩] [0, 1, 7, 8])
 (.block 0 (.loop (.seq (.region [⟨some 9, none, .p (.bin .lss (.t 8) (.t 7))⟩] [0, 1, 7, 8, 9])
 (.seq (.cond (.t 9)
  .skip
 (.exit 0))
 (.seq (.block 1 (.seq (.region [⟨some 10, none, .p (.mv (.t 8))⟩,⟨some 5, none, .p (.mv (.t 10))⟩] [0, 1, 5, 7, 8])
 (.seq (.region [⟨some 11, none, .p (.mv (.t 1))⟩,⟨some 12, none, .p (.mv (.t 0))⟩,⟨some 13, none, .p (.mv (.t 5))⟩,⟨some 14, none, .p (.ixS 1 (.t 12) (.t 13))⟩,⟨some 15, none, .h (.load 1 false (.t 14))⟩,⟨some 16, none, .p (.bin .eql (.t 11) (.t 15))⟩] [0, 1, 5, 7, 8, 16])
 (.cond (.t 16)
 (.seq (.region [⟨some 17, none, .p (.mv (.t 5))⟩,⟨some 4, none, .p (.mv (.t 17))⟩] [4])
  .ret)
  .skip))))
 (.region [⟨some 18, none, .p (.bin .add (.t 8) (.k (.c (C.int .i64 1))))⟩,⟨some 8, none, .p (.mv (.t 18))⟩] [0, 1, 7, 8])))) [0, 1, 7, 8])))
 (.seq (.region [⟨some 4, none, .p (.mv (.k (.c (C.int .i64 (-1)))))⟩] [4])
  .ret))) }
theorem a130_ok : okFn Tryz.prog 130 a130 = true := by kernel_rfl
/-- slices.ContainsFunc[[]int,int] -/
def a131 : AFn := { np := 2, nt := 9, res := [.t 4], body :=
 (.seq (.region [⟨some 4, none, .p (.mv (.k (.c (C.bool false))))⟩] [0, 1])
 (.seq (.region [⟨some 5, none, .p (.mv (.t 0))⟩,⟨some 6, none, .p (.mv (.t 1))⟩,⟨some 7, none, .h (.call (.f 174) [.t 5, .t 6])⟩,⟨some 8, none, .p (.bin .geq (.t 7) (.k (.c (C.int .i64 0))))⟩,⟨some 4, none, .p (.mv (.t 8))⟩] [4])
  .ret)) }
theorem a131_ok : okFn Tryz.prog 131 a131 = true := by kernel_rfl
/-- loop.example/g01215/impl.areAll[int]$1 -/
def a132 : AFn := { np := 2, nt := 8, res := [.t 3], body :=
 (.seq (.region [⟨some 3, none, .p (.mv (.k (.c (C.bool false))))⟩] [0, 1])
 (.seq (.region [⟨some 4, none, .h (.load 1 false (.t 1))⟩,⟨some 5, none, .p (.mv (.t 0))⟩,⟨some 6, none, .h (.call (.t 4) [.t 5])⟩,⟨some 7, none, .p (.un .not (.t 6))⟩,⟨some 3, none, .p (.mv (.t 7))⟩] [3])
  .ret)) }
theorem a132_ok : okFn Tryz.prog 132 a132 = true := by kernel_rfl
/-- (loop.example/g01215/impl.View).tops$1 -/
def a133 : AFn := { np := 3, nt := 20, res := [.t 4], body :=
 (.seq (.region [⟨some 4, none, .p (.mv (.k (.c (C.int .i64 0))))⟩] [0, 1, 2])
 (.seq (.region [⟨some 5, none, .p (.mv (.k (.c (C.int .i64 1))))⟩] [0, 1, 2, 5])
 (.seq (.seq (.region [⟨some 7, none, .p (.mv (.t 0))⟩,⟨some 6, none, .p (.mv (.t 7))⟩] [1, 2, 5, 6])
 (.block 0 (.loop (.seq (.seq (.region [⟨some 8, none, .p (.mv (.t 6))⟩,⟨some 9, none, .h (.load 1 false (.t 1))⟩,⟨some 10, none, .p (.bin .sub (.t 9) (.k (.c (C.int .i64 1))))⟩,⟨some 11, none, .p (.bin .lss (.t 8) (.t 10))⟩] [1, 2, 5, 6, 11])
 (.cond (.t 11)
  .skip
 (.exit 0)))
 (.seq (.block 1 (.region [⟨some 14, none, .p (.mv (.t 5))⟩,⟨some 15, none, .h (.load 1 false (.t 2))⟩,⟨some 16, none, .p (.mv (.t 6))⟩,⟨some 17, none, .p (.bin .sub (.t 15) (.t 16))⟩,⟨some 18, none, .p (.bin .mul (.t 14) (.t 17))⟩,⟨some 5, none, .p (.mv (.t 18))⟩] [1, 2, 5, 6]))
 (.region [⟨some 12, none, .p (.mv (.t 6))⟩,⟨some 13, none, .p (.bin .add (.t 12) (.k (.c (C.int .i64 1))))⟩,⟨some 6, none, .p (.mv (.t 13))⟩] [1, 2, 5, 6]))) [1, 2, 5, 6])))
 (.seq (.region [⟨some 19, none, .p (.mv (.t 5))⟩,⟨some 4, none, .p (.mv (.t 19))⟩] [4])
  .ret)))) }
theorem a133_ok : okFn Tryz.prog 133 a133 = true := by kernel_rfl
/-- loop.example/g01215/spec.Pour -/
def a135 : AFn := { np := 3, nt := 41, res := [.cell 6 24 true, .t 7, .t 8], body :=
 (.seq (.region [⟨some 3, none, .p (.box 24 (.t 0))⟩,⟨some 6, none, .p (.alloc (List.replicate 24 (.k (C.int .i64 0))))⟩,⟨some 7, none, .p (.mv (.k (.c (C.int .i64 0))))⟩,⟨some 8, none, .p (.mv (.k (.c (C.bool false))))⟩] [1, 2, 3, 6])
 (.seq (.seq (.region [⟨some 11, none, .h (.load 24 true (.t 3))⟩,⟨some 12, none, .h (.call (.f 45) [.t 11])⟩,⟨some 13, none, .p (.un .not (.t 12))⟩,⟨some 14, none, .p (.mv (.t 13))⟩,⟨some 15, some (14, false), .p (.mv (.t 1))⟩,⟨some 16, some (14, false), .h (.call (.f 176) [.t 15])⟩,⟨some 17, some (14, false), .p (.un .not (.t 16))⟩,⟨some 18, none, .p (.pick (.t 14) (.k (.c (C.bool true))) (.t 17))⟩,⟨some 19, none, .p (.mv (.t 18))⟩,⟨some 20, some (19, false), .p (.mv (.t 2))⟩,⟨some 21, some (19, false), .h (.call (.f 176) [.t 20])⟩,⟨some 22, some (19, false), .p (.un .not (.t 21))⟩,⟨some 23, none, .p (.pick (.t 19) (.k (.c (C.bool true))) (.t 22))⟩,⟨some 24, none, .p (.mv (.t 23))⟩,⟨some 25, some (24, false), .h (.load 24 true (.t 3))⟩,⟨some 26, some (24, false), .p (.mv (.t 1))⟩,⟨some 27, some (24, false), .p (.mv (.t 2))⟩,⟨some 28, some (24, false), .h (.call (.f 177) [.t 25, .t 26, .t 27])⟩,⟨some 29, some (24, false), .p (.un .not (.t 28))⟩,⟨some 30, none, .p (.pick (.t 24) (.k (.c (C.bool true))) (.t 29))⟩] [1, 2, 3, 6, 30])
 (.cond (.t 30)
 (.seq (.region [⟨some 31, none, .p (.build (List.replicate 24 (.k (C.int .i64 0))) [])⟩,⟨none, none, .h (.store 24 (.t 6) (.t 31))⟩,⟨some 7, none, .p (.mv (.k (.c (C.int .i64 0))))⟩,⟨some 8, none, .p (.mv (.k (.c (C.bool false))))⟩] [6, 7, 8])
  .ret)
  .skip))
 (.seq (.region [⟨some 33, none, .h (.load 24 true (.t 3))⟩,⟨some 34, none, .p (.mv (.t 1))⟩,⟨some 35, none, .p (.mv (.t 2))⟩,⟨some 36, none, .h (.call (.f 178) [.t 33, .t 34, .t 35])⟩,⟨some 32, none, .p (.mv (.t 36))⟩,⟨some 37, none, .p (.ext (.t 32) 0)⟩,⟨some 38, none, .p (.ext (.t 32) 1)⟩,⟨some 9, none, .p (.alloc (List.replicate 24 (.k (C.int .i64 0))))⟩,⟨none, none, .h (.store 24 (.t 9) (.t 37))⟩,⟨some 10, none, .p (.mv (.t 38))⟩] [6, 9, 10])
 (.seq (.region [⟨some 39, none, .h (.load 24 true (.t 9))⟩,⟨some 40, none, .p (.mv (.t 10))⟩,⟨none, none, .h (.store 24 (.t 6) (.t 39))⟩,⟨some 7, none, .p (.mv (.t 40))⟩,⟨some 8, none, .p (.mv (.k (.c (C.bool true))))⟩] [6, 7, 8])
  .ret)))) }
theorem a135_ok : okFn Tryz.prog 135 a135 = true := by kernel_rfl
/-- loop.example/g01215/spec.PutLayer -/
def a136 : AFn := { np := 3, nt := 41, res := [.cell 6 24 true, .t 7], body :=
 (.seq (.region [⟨some 3, none, .p (.box 24 (.t 0))⟩,⟨some 6, none, .p (.alloc (List.replicate 24 (.k (C.int .i64 0))))⟩,⟨some 7, none, .p (.mv (.k (.c (C.bool false))))⟩] [1, 2, 3, 6])
 (.seq (.seq (.region [⟨some 8, none, .h (.load 24 true (.t 3))⟩,⟨some 9, none, .h (.call (.f 45) [.t 8])⟩,⟨some 10, none, .p (.un .not (.t 9))⟩,⟨some 11, none, .p (.mv (.t 10))⟩,⟨some 12, some (11, false), .p (.mv (.t 1))⟩,⟨some 13, some (11, false), .h (.call (.f 176) [.t 12])⟩,⟨some 14, some (11, false), .p (.un .not (.t 13))⟩,⟨some 15, none, .p (.pick (.t 11) (.k (.c (C.bool true))) (.t 14))⟩,⟨some 16, none, .p (.mv (.t 15))⟩,⟨some 17, some (16, false), .p (.mv (.t 2))⟩,⟨some 18, some (16, false), .h (.call (.f 46) [.t 17, .k (.c (C.int .i64 1)), .k (.c (C.int .i64 5))])⟩,⟨some 19, some (16, false), .p (.un .not (.t 18))⟩,⟨some 20, none, .p (.pick (.t 16) (.k (.c (C.bool true))) (.t 19))⟩,⟨some 21, none, .p (.mv (.t 20))⟩,⟨some 22, some (21, false), .p (.mv (.t 1))⟩,⟨some 23, some (21, false), .p (.fld 0 (.t 3))⟩,⟨some 24, some (21, false), .p (.ixA 6 4 (.t 23) (.t 22))⟩,⟨some 25, some (21, false), .h (.load 4 true (.t 24))⟩,⟨some 26, some (21, false), .h (.call (.f 179) [.t 25])⟩,⟨some 27, some (21, false), .p (.bin .eql (.t 26) (.k (.c (C.int .i64 4))))⟩,⟨some 28, none, .p (.pick (.t 21) (.k (.c (C.bool true))) (.t 27))⟩] [1, 2, 3, 6, 28])
 (.cond (.t 28)
 (.seq (.region [⟨some 29, none, .p (.build (List.replicate 24 (.k (C.int .i64 0))) [])⟩,⟨none, none, .h (.store 24 (.t 6) (.t 29))⟩,⟨some 7, none, .p (.mv (.k (.c (C.bool false))))⟩] [6, 7])
  .ret)
  .skip))
 (.seq (.regionD [⟨some 30, none, .p (.mv (.t 1))⟩,⟨some 31, none, .p (.mv (.t 1))⟩,⟨some 32, none, .p (.fld 0 (.t 3))⟩,⟨some 33, none, .p (.ixA 6 4 (.t 32) (.t 31))⟩,⟨some 34, none, .h (.load 4 true (.t 33))⟩,⟨some 35, none, .h (.call (.f 179) [.t 34])⟩,⟨some 36, none, .p (.mv (.t 2))⟩,⟨some 37, none, .p (.fld 0 (.t 3))⟩,⟨some 38, none, .p (.ixA 6 4 (.t 37) (.t 30))⟩,⟨some 39, none, .p (.ixA 4 1 (.t 38) (.t 35))⟩,⟨none, none, .h (.store 1 (.t 39) (.t 36))⟩] [3, 6] [])
 (.seq (.region [⟨some 40, none, .h (.load 24 true (.t 3))⟩,⟨none, none, .h (.store 24 (.t 6) (.t 40))⟩,⟨some 7, none, .p (.mv (.k (.c (C.bool true))))⟩] [6, 7])
  .ret)))) }
theorem a136_ok : okFn Tryz.prog 136 a136 = true := by kernel_rfl
/-- loop.example/g01215/spec.TakeLayer -/
def a137 : AFn := { np := 2, nt := 45, res := [.cell 4 24 true, .t 5, .t 6], body :=
 (.seq (.region [⟨some 2, none, .p (.box 24 (.t 0))⟩,⟨some 4, none, .p (.alloc (List.replicate 24 (.k (C.int .i64 0))))⟩,⟨some 5, none, .p (.mv (.k (.c (C.int .i64 0))))⟩,⟨some 6, none, .p (.mv (.k (.c (C.bool false))))⟩] [1, 2, 4])
 (.seq (.seq (.region [⟨some 9, none, .h (.load 24 true (.t 2))⟩,⟨some 10, none, .h (.call (.f 45) [.t 9])⟩,⟨some 11, none, .p (.un .not (.t 10))⟩,⟨some 12, none, .p (.mv (.t 11))⟩,⟨some 13, some (12, false), .p (.mv (.t 1))⟩,⟨some 14, some (12, false), .h (.call (.f 176) [.t 13])⟩,⟨some 15, some (12, false), .p (.un .not (.t 14))⟩,⟨some 16, none, .p (.pick (.t 12) (.k (.c (C.bool true))) (.t 15))⟩,⟨some 17, none, .p (.mv (.t 16))⟩,⟨some 18, some (17, false), .p (.mv (.t 1))⟩,⟨some 19, some (17, false), .p (.fld 0 (.t 2))⟩,⟨some 20, some (17, false), .p (.ixA 6 4 (.t 19) (.t 18))⟩,⟨some 21, some (17, false), .h (.load 4 true (.t 20))⟩,⟨some 22, some (17, false), .h (.call (.f 179) [.t 21])⟩,⟨some 23, some (17, false), .p (.bin .eql (.t 22) (.k (.c (C.int .i64 0))))⟩,⟨some 24, none, .p (.pick (.t 17) (.k (.c (C.bool true))) (.t 23))⟩] [1, 2, 4, 24])
 (.cond (.t 24)
 (.seq (.region [⟨some 25, none, .p (.build (List.replicate 24 (.k (C.int .i64 0))) [])⟩,⟨none, none, .h (.store 24 (.t 4) (.t 25))⟩,⟨some 5, none, .p (.mv (.k (.c (C.int .i64 0))))⟩,⟨some 6, none, .p (.mv (.k (.c (C.bool false))))⟩] [4, 5, 6])
  .ret)
  .skip))
 (.seq (.region [⟨some 26, none, .p (.mv (.t 1))⟩,⟨some 27, none, .p (.fld 0 (.t 2))⟩,⟨some 28, none, .p (.ixA 6 4 (.t 27) (.t 26))⟩,⟨some 29, none, .h (.load 4 true (.t 28))⟩,⟨some 30, none, .h (.call (.f 179) [.t 29])⟩,⟨some 31, none, .p (.bin .sub (.t 30) (.k (.c (C.int .i64 1))))⟩,⟨some 7, none, .p (.mv (.t 31))⟩] [1, 2, 4, 7])
 (.seq (.region [⟨some 32, none, .p (.mv (.t 1))⟩,⟨some 33, none, .p (.mv (.t 7))⟩,⟨some 34, none, .p (.fld 0 (.t 2))⟩,⟨some 35, none, .p (.ixA 6 4 (.t 34) (.t 32))⟩,⟨some 36, none, .p (.ixA 4 1 (.t 35) (.t 33))⟩,⟨some 37, none, .h (.load 1 false (.t 36))⟩,⟨some 8, none, .p (.mv (.t 37))⟩] [1, 2, 4, 7, 8])
 (.seq (.region [⟨some 38, none, .p (.mv (.t 1))⟩,⟨some 39, none, .p (.mv (.t 7))⟩,⟨some 40, none, .p (.fld 0 (.t 2))⟩,⟨some 41, none, .p (.ixA 6 4 (.t 40) (.t 38))⟩,⟨some 42, none, .p (.ixA 4 1 (.t 41) (.t 39))⟩,⟨none, none, .h (.store 1 (.t 42) (.k (.c (C.int .i64 0))))⟩] [2, 4, 8])
 (.seq (.region [⟨some 43, none, .h (.load 24 true (.t 2))⟩,⟨some 44, none, .p (.mv (.t 8))⟩,⟨none, none, .h (.store 24 (.t 4) (.t 43))⟩,⟨some 5, none, .p (.mv (.t 44))⟩,⟨some 6, none, .p (.mv (.k (.c (C.bool true))))⟩] [4, 5, 6])
  .ret)))))) }
theorem a137_ok : okFn Tryz.prog 137 a137 = true := by kernel_rfl
def prA : Prog
  | 3 => some a3
  | 4 => some a4
  | 5 => some a5
  | 6 => some a6
  | 7 => some a7
  | 8 => some a8
  | 9 => some a9
  | 10 => some a10
  | 11 => some a11
  | 12 => some a12
  | 13 => some a13
  | 14 => some a14
  | 15 => some a15
  | 16 => some a16
  | 17 => some a17
  | 18 => some a18
  | 19 => some a19
  | 20 => some a20
  | 21 => some a21
  | 22 => some a22
  | 23 => some a23
  | 24 => some a24
  | 25 => some a25
  | 26 => some a26
  | 27 => some a27
  | 28 => some a28
  | 29 => some a29
  | 30 => some a30
  | 31 => some a31
  | 32 => some a32
  | 33 => some a33
  | 34 => some a34
  | 35 => some a35
  | 36 => some a36
  | 37 => some a37
  | 38 => some a38
  | 39 => some a39
  | 40 => some a40
  | 41 => some a41
  | 42 => some a42
  | 43 => some a43
  | 44 => some a44
  | 45 => some a45
  | 46 => some a46
  | 47 => some a47
  | 48 => some a48
  | 52 => some a52
  | 55 => some a55
  | 57 => some a57
  | 58 => some a58
  | 59 => some a59
  | 60 => some a60
  | 61 => some a61
  | 63 => some a63
  | 64 => some a64
  | 65 => some a65
  | 66 => some a66
  | 67 => some a67
  | 68 => some a68
  | 69 => some a69
  | 70 => some a70
  | 71 => some a71
  | 72 => some a72
  | 73 => some a73
  | 74 => some a74
  | 75 => some a75
  | 76 => some a76
  | 77 => some a77
  | 78 => some a78
  | 79 => some a79
  | 80 => some a80
  | 81 => some a81
  | 83 => some a83
  | 84 => some a84
  | 85 => some a85
  | 86 => some a86
  | 87 => some a87
  | 88 => some a88
  | 89 => some a89
  | 90 => some a90
  | 91 => some a91
  | 92 => some a92
  | 93 => some a93
  | 94 => some a94
  | 99 => some a99
  | 101 => some a101
  | 103 => some a103
  | 112 => some a112
  | 116 => some a116
  | 117 => some a117
  | 118 => some a118
  | 119 => some a119
  | 120 => some a120
  | 124 => some a124
  | 125 => some a125
  | 126 => some a126
  | 127 => some a127
  | 128 => some a128
  | 129 => some a129
  | 130 => some a130
  | 131 => some a131
  | 132 => some a132
  | 133 => some a133
  | 135 => some a135
  | 136 => some a136
  | 137 => some a137
  | _ => none
theorem prA_ok : ProgOK Tryz.prog prA := by
  intro f fn h
  unfold prA at h
  split at h
  · injection h with h; subst h; exact a3_ok
  · injection h with h; subst h; exact a4_ok
  · injection h with h; subst h; exact a5_ok
  · injection h with h; subst h; exact a6_ok
  · injection h with h; subst h; exact a7_ok
  · injection h with h; subst h; exact a8_ok
  · injection h with h; subst h; exact a9_ok
  · injection h with h; subst h; exact a10_ok
  · injection h with h; subst h; exact a11_ok
  · injection h with h; subst h; exact a12_ok
  · injection h with h; subst h; exact a13_ok
  · injection h with h; subst h; exact a14_ok
  · injection h with h; subst h; exact a15_ok
  · injection h with h; subst h; exact a16_ok
  · injection h with h; subst h; exact a17_ok
  · injection h with h; subst h; exact a18_ok
  · injection h with h; subst h; exact a19_ok
  · injection h with h; subst h; exact a20_ok
  · injection h with h; subst h; exact a21_ok
  · injection h with h; subst h; exact a22_ok
  · injection h with h; subst h; exact a23_ok
  · injection h with h; subst h; exact a24_ok
  · injection h with h; subst h; exact a25_ok
  · injection h with h; subst h; exact a26_ok
  · injection h with h; subst h; exact a27_ok
  · injection h with h; subst h; exact a28_ok
  · injection h with h; subst h; exact a29_ok
  · injection h with h; subst h; exact a30_ok
  · injection h with h; subst h; exact a31_ok
  · injection h with h; subst h; exact a32_ok
  · injection h with h; subst h; exact a33_ok
  · injection h with h; subst h; exact a34_ok
  · injection h with h; subst h; exact a35_ok
  · injection h with h; subst h; exact a36_ok
  · injection h with h; subst h; exact a37_ok
  · injection h with h; subst h; exact a38_ok
  · injection h with h; subst h; exact a39_ok
  · injection h with h; subst h; exact a40_ok
  · injection h with h; subst h; exact a41_ok
  · injection h with h; subst h; exact a42_ok
  · injection h with h; subst h; exact a43_ok
  · injection h with h; subst h; exact a44_ok
  · injection h with h; subst h; exact a45_ok
  · injection h with h; subst h; exact a46_ok
  · injection h with h; subst h; exact a47_ok
  · injection h with h; subst h; exact a48_ok
  · injection h with h; subst h; exact a52_ok
  · injection h with h; subst h; exact a55_ok
  · injection h with h; subst h; exact a57_ok
  · injection h with h; subst h; exact a58_ok
  · injection h with h; subst h; exact a59_ok
  · injection h with h; subst h; exact a60_ok
  · injection h with h; subst h; exact a61_ok
  · injection h with h; subst h; exact a63_ok
  · injection h with h; subst h; exact a64_ok
  · injection h with h; subst h; exact a65_ok
  · injection h with h; subst h; exact a66_ok
  · injection h with h; subst h; exact a67_ok
  · injection h with h; subst h; exact a68_ok
  · injection h with h; subst h; exact a69_ok
  · injection h with h; subst h; exact a70_ok
  · injection h with h; subst h; exact a71_ok
  · injection h with h; subst h; exact a72_ok
  · injection h with h; subst h; exact a73_ok
  · injection h with h; subst h; exact a74_ok
  · injection h with h; subst h; exact a75_ok
  · injection h with h; subst h; exact a76_ok
  · injection h with h; subst h; exact a77_ok
  · injection h with h; subst h; exact a78_ok
  · injection h with h; subst h; exact a79_ok
  · injection h with h; subst h; exact a80_ok
  · injection h with h; subst h; exact a81_ok
  · injection h with h; subst h; exact a83_ok
  · injection h with h; subst h; exact a84_ok
  · injection h with h; subst h; exact a85_ok
  · injection h with h; subst h; exact a86_ok
  · injection h with h; subst h; exact a87_ok
  · injection h with h; subst h; exact a88_ok
  · injection h with h; subst h; exact a89_ok
  · injection h with h; subst h; exact a90_ok
  · injection h with h; subst h; exact a91_ok
  · injection h with h; subst h; exact a92_ok
  · injection h with h; subst h; exact a93_ok
  · injection h with h; subst h; exact a94_ok
  · injection h with h; subst h; exact a99_ok
  · injection h with h; subst h; exact a101_ok
  · injection h with h; subst h; exact a103_ok
  · injection h with h; subst h; exact a112_ok
  · injection h with h; subst h; exact a116_ok
  · injection h with h; subst h; exact a117_ok
  · injection h with h; subst h; exact a118_ok
  · injection h with h; subst h; exact a119_ok
  · injection h with h; subst h; exact a120_ok
  · injection h with h; subst h; exact a124_ok
  · injection h with h; subst h; exact a125_ok
  · injection h with h; subst h; exact a126_ok
  · injection h with h; subst h; exact a127_ok
  · injection h with h; subst h; exact a128_ok
  · injection h with h; subst h; exact a129_ok
  · injection h with h; subst h; exact a130_ok
  · injection h with h; subst h; exact a131_ok
  · injection h with h; subst h; exact a132_ok
  · injection h with h; subst h; exact a133_ok
  · injection h with h; subst h; exact a135_ok
  · injection h with h; subst h; exact a136_ok
  · injection h with h; subst h; exact a137_ok
  · cases h
end Go.Proofs.YtgpafbbnobanbaaGreatDoor.AM
