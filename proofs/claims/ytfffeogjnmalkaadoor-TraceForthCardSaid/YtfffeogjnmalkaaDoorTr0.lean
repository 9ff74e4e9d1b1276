import Derived.Test.YtfffeogjnmalkaaDoorProg
import Derived.KernelRfl
import Derived.Test.YtfffeogjnmalkaaDoorAs1
set_option linter.all false
namespace Go.AS.Tr
open Go Go.AS Go.Proofs
set_option maxRecDepth 100000
def ann : Ann := ⟨[50, 25, 37, 46, 47, 48], [15, 50, 9, 7, 10, 20, 18, 33, 32, 41, 27, 12, 13, 14, 16, 8, 17, 11, 19, 24, 23, 6, 34, 35, 42, 39, 26, 40, 49], [], [11], [], [(5, 11)], [], [], some (46, 5), [(21, .wstr 46 5), (22, .bstr 46 5), (42, .fields), (35, .itoa), (34, .join), (39, .split), (26, .cut)]⟩
noncomputable abbrev F : Nat → Option IFun := funsOf Tryd.prog ann

def ir_l36_TracePrints : IFun :=
  IFun.mk false 1 [IRes.tmp 2]
  (IC.seq (IC.ops false [IOper.mk (some 2) (IOp.mv (Opd.c (AV.bool false))) none] [])
    (IC.seq
      (IC.ops false
      [IOper.mk (some 10) (IOp.mv (Opd.t 0)) none, IOper.mk (some 11) (IOp.callp 6 [Opd.t 10]) none,
      IOper.mk (some 0) (IOp.mv (Opd.t 11)) none]
      [10, 11])
      (IC.seq
      (IC.ops false
      [IOper.mk (some 13) (IOp.mv (Opd.t 0)) none, IOper.mk (some 14) (IOp.callp 7 [Opd.t 13]) none,
      IOper.mk (some 12) (IOp.mv (Opd.t 14)) none, IOper.mk (some 15) (IOp.extr (Opd.t 12) 0) none,
      IOper.mk (some 16) (IOp.extr (Opd.t 12) 1) none, IOper.mk (some 3) (IOp.mv (Opd.t 15)) none,
      IOper.mk (some 4) (IOp.mv (Opd.t 16)) none]
      [13, 14, 12, 15, 16])
      (IC.seq
      (IC.ops false
      [IOper.mk (some 18) (IOp.mv (Opd.t 0)) none, IOper.mk (some 19) (IOp.callp 8 [Opd.t 18]) none,
      IOper.mk (some 17) (IOp.mv (Opd.t 19)) none, IOper.mk (some 20) (IOp.extr (Opd.t 17) 0) none,
      IOper.mk (some 21) (IOp.extr (Opd.t 17) 1) none, IOper.mk (some 5) (IOp.mv (Opd.t 20)) none,
      IOper.mk (some 6) (IOp.mv (Opd.t 21)) none]
      [18, 19, 17, 20, 21])
      (IC.seq
      (IC.seq
      (IC.ops false
      [IOper.mk (some 22) (IOp.mv (Opd.t 3)) none, IOper.mk (some 23) (IOp.mv (Opd.t 5)) none,
      IOper.mk (some 24) (IOp.bin BinOp.neq (Opd.t 22) (Opd.t 23)) none,
      IOper.mk (some 25) (IOp.mv (Opd.t 24)) none, IOper.mk (some 26) (IOp.mv (Opd.t 4)) (some (25, false)),
      IOper.mk (some 27) (IOp.mv (Opd.t 6)) (some (25, false)),
      IOper.mk (some 28) (IOp.bin BinOp.neq (Opd.t 26) (Opd.t 27)) (some (25, false)),
      IOper.mk (some 29) (IOp.pick (Opd.t 25) (Opd.c (AV.bool true)) (Opd.t 28)) none]
      [22, 23, 24, 25, 26, 27, 28])
      (IC.cond (Opd.t 29)
      (IC.seq (IC.ops false [IOper.mk (some 2) (IOp.mv (Opd.c (AV.bool false))) none] []) IC.ret) IC.nop))
      (IC.seq
      (IC.seq
      (IC.ops false
      [IOper.mk (some 30) (IOp.mv (Opd.t 6)) none,
      IOper.mk (some 31) (IOp.bin BinOp.neq (Opd.t 30) (Opd.c (AV.int IntKind.i64 0))) none]
      [30])
      (IC.cond (Opd.t 31)
      (IC.seq
      (IC.ops false [IOper.mk (some 32) (IOp.callp 9 []) none, IOper.mk (some 2) (IOp.mv (Opd.t 32)) none]
      [32])
      IC.ret)
      IC.nop))
      (IC.seq
      (IC.ops false
      [IOper.mk (some 34) (IOp.mv (Opd.t 5)) none, IOper.mk (some 35) (IOp.callp 10 [Opd.t 34]) none,
      IOper.mk (some 33) (IOp.mv (Opd.t 35)) none, IOper.mk (some 36) (IOp.extr (Opd.t 33) 0) none,
      IOper.mk (some 37) (IOp.extr (Opd.t 33) 1) none, IOper.mk (some 38) (IOp.extr (Opd.t 33) 2) none,
      IOper.mk (some 7) (IOp.mv (Opd.t 36)) none, IOper.mk (some 8) (IOp.mv (Opd.t 37)) none,
      IOper.mk (some 9) (IOp.mv (Opd.t 38)) none]
      [34, 35, 33, 36, 37, 38])
      (IC.seq
      (IC.ops false
      [IOper.mk (some 39) (IOp.callp 9 []) none, IOper.mk (some 40) (IOp.mv (Opd.t 39)) none,
      IOper.mk (some 41) (IOp.mv (Opd.t 8)) (some (40, true)),
      IOper.mk (some 42) (IOp.bin BinOp.eql (Opd.t 41) (Opd.c (AV.int IntKind.i64 0)))
      (some (40, true)),
      IOper.mk (some 43) (IOp.pick (Opd.t 40) (Opd.t 42) (Opd.c (AV.bool false))) none,
      IOper.mk (some 44) (IOp.mv (Opd.t 43)) none,
      IOper.mk (some 45) (IOp.mv (Opd.t 9)) (some (44, true)),
      IOper.mk (some 46) (IOp.bin BinOp.eql (Opd.t 45) (Opd.c (AV.int IntKind.i64 0)))
      (some (44, true)),
      IOper.mk (some 47) (IOp.pick (Opd.t 44) (Opd.t 46) (Opd.c (AV.bool false))) none,
      IOper.mk (some 48) (IOp.mv (Opd.t 47)) none,
      IOper.mk (some 49) (IOp.mv (Opd.t 7)) (some (48, true)),
      IOper.mk (some 50) (IOp.mv (Opd.t 0)) (some (48, true)),
      IOper.mk (some 51) (IOp.callp 11 [Opd.t 49, Opd.t 50]) (some (48, true)),
      IOper.mk (some 52) (IOp.pick (Opd.t 48) (Opd.t 51) (Opd.c (AV.bool false))) none,
      IOper.mk (some 2) (IOp.mv (Opd.t 52)) none]
      [39, 40, 41, 42, 43, 44, 45, 46, 47, 48, 49, 50, 51, 52])
      IC.ret))))))))
  none
theorem fn_l36_TracePrints : F 3 = some ir_l36_TracePrints := by kernel_rfl

def ir_l36_TraceForth : IFun :=
  IFun.mk false 1 [IRes.tmp 2]
  (IC.seq (IC.ops false [IOper.mk (some 2) (IOp.mv (Opd.c (AV.bool false))) none] [])
    (IC.seq
      (IC.seq
      (IC.ops false
      [IOper.mk (some 18) (IOp.mv (Opd.t 0)) none, IOper.mk (some 19) (IOp.lens (Opd.t 18)) none,
      IOper.mk (some 20) (IOp.bin BinOp.gtr (Opd.t 19) (Opd.c (AV.int IntKind.i64 2000))) none]
      [18, 19])
      (IC.cond (Opd.t 20)
      (IC.seq
      (IC.ops false [IOper.mk (some 21) (IOp.callp 9 []) none, IOper.mk (some 2) (IOp.mv (Opd.t 21)) none] [21])
      IC.ret)
      IC.nop))
      (IC.seq
      (IC.ops false
      [IOper.mk (some 23) (IOp.mv (Opd.t 0)) none, IOper.mk (some 24) (IOp.callp 10 [Opd.t 23]) none,
      IOper.mk (some 22) (IOp.mv (Opd.t 24)) none, IOper.mk (some 25) (IOp.extr (Opd.t 22) 0) none,
      IOper.mk (some 26) (IOp.extr (Opd.t 22) 1) none, IOper.mk (some 27) (IOp.extr (Opd.t 22) 2) none,
      IOper.mk (some 3) (IOp.mv (Opd.t 25)) none, IOper.mk (some 4) (IOp.mv (Opd.t 26)) none,
      IOper.mk (some 5) (IOp.mv (Opd.t 27)) none]
      [23, 24, 22, 25, 26, 27])
      (IC.seq
      (IC.seq
      (IC.ops false
      [IOper.mk (some 28) (IOp.mv (Opd.t 5)) none,
      IOper.mk (some 29) (IOp.bin BinOp.eql (Opd.t 28) (Opd.c (AV.int IntKind.i64 0))) none]
      [28])
      (IC.cond (Opd.t 29)
      (IC.seq
      (IC.ops false
      [IOper.mk (some 31) (IOp.mv (Opd.t 3)) none, IOper.mk (some 32) (IOp.callp 7 [Opd.t 31]) none,
      IOper.mk (some 30) (IOp.mv (Opd.t 32)) none, IOper.mk (some 33) (IOp.extr (Opd.t 30) 0) none,
      IOper.mk (some 34) (IOp.extr (Opd.t 30) 1) none, IOper.mk (some 6) (IOp.mv (Opd.t 33)) none,
      IOper.mk (some 7) (IOp.mv (Opd.t 34)) none]
      [31, 32, 30, 33, 34])
      (IC.seq
      (IC.ops false
      [IOper.mk (some 35) (IOp.callp 9 []) none, IOper.mk (some 36) (IOp.mv (Opd.t 35)) none,
      IOper.mk (some 37) (IOp.mv (Opd.t 4)) (some (36, true)),
      IOper.mk (some 38) (IOp.bin BinOp.eql (Opd.t 37) (Opd.c (AV.int IntKind.i64 0)))
      (some (36, true)),
      IOper.mk (some 39) (IOp.pick (Opd.t 36) (Opd.t 38) (Opd.c (AV.bool false))) none,
      IOper.mk (some 40) (IOp.mv (Opd.t 39)) none,
      IOper.mk (some 41) (IOp.mv (Opd.t 7)) (some (40, true)),
      IOper.mk (some 42) (IOp.bin BinOp.eql (Opd.t 41) (Opd.c (AV.int IntKind.i64 0)))
      (some (40, true)),
      IOper.mk (some 43) (IOp.pick (Opd.t 40) (Opd.t 42) (Opd.c (AV.bool false))) none,
      IOper.mk (some 44) (IOp.mv (Opd.t 43)) none,
      IOper.mk (some 45) (IOp.mv (Opd.t 6)) (some (44, true)),
      IOper.mk (some 46) (IOp.mv (Opd.t 0)) (some (44, true)),
      IOper.mk (some 47) (IOp.bin BinOp.eql (Opd.t 45) (Opd.t 46)) (some (44, true)),
      IOper.mk (some 48) (IOp.pick (Opd.t 44) (Opd.t 47) (Opd.c (AV.bool false))) none,
      IOper.mk (some 2) (IOp.mv (Opd.t 48)) none]
      [35, 36, 37, 38, 39, 40, 41, 42, 43, 44, 45, 46, 47, 48])
      IC.ret))
      IC.nop))
      (IC.seq
      (IC.ops false
      [IOper.mk (some 8) (IOp.mv (Opd.c (AV.int IntKind.i64 1))) none,
      IOper.mk (some 9) (IOp.mv (Opd.c (AV.int IntKind.i64 0))) none]
      [])
      (IC.seq
      (IC.seq (IC.ops false [IOper.mk (some 10) (IOp.mv (Opd.c (AV.int IntKind.i64 0))) none] [])
      (IC.seq
      (IC.block 0
      (IC.loop
      (IC.seq
      (IC.seq
      (IC.seq
      (IC.ops false
      [IOper.mk (some 49) (IOp.mv (Opd.t 10)) none, IOper.mk (some 50) (IOp.mv (Opd.t 0)) none,
      IOper.mk (some 51) (IOp.lens (Opd.t 50)) none,
      IOper.mk (some 52) (IOp.bin BinOp.lss (Opd.t 49) (Opd.t 51)) none,
      IOper.mk (some 53) (IOp.mv (Opd.t 52)) none,
      IOper.mk (some 54) (IOp.mv (Opd.t 8)) (some (53, true)),
      IOper.mk (some 55) (IOp.mv (Opd.t 4)) (some (53, true)),
      IOper.mk (some 56) (IOp.bin BinOp.lss (Opd.t 54) (Opd.t 55)) (some (53, true)),
      IOper.mk (some 57) (IOp.pick (Opd.t 53) (Opd.t 56) (Opd.c (AV.bool false))) none]
      [49, 50, 51, 52, 53, 54, 55, 56])
      (IC.cond (Opd.t 57) IC.nop (IC.exit 0)))
      (IC.seq
      (IC.seq
      (IC.block 1
      (IC.seq
      (IC.ops false
      [IOper.mk (some 60) (IOp.mv (Opd.t 0)) none,
      IOper.mk (some 61) (IOp.mv (Opd.t 10)) none,
      IOper.mk (some 62) (IOp.ixs (Opd.t 60) (Opd.t 61)) none,
      IOper.mk (some 63)
      (IOp.bin BinOp.eql (Opd.t 62) (Opd.c (AV.int IntKind.u8 10))) none]
      [60, 61, 62])
      (IC.cond (Opd.t 63)
      (IC.seq
      (IC.ops false
      [IOper.mk (some 64) (IOp.mv (Opd.t 8)) none,
      IOper.mk (some 65)
      (IOp.bin BinOp.add (Opd.t 64) (Opd.c (AV.int IntKind.i64 1)))
      none,
      IOper.mk (some 8) (IOp.mv (Opd.t 65)) none]
      [64, 65])
      (IC.ops false
      [IOper.mk (some 66) (IOp.mv (Opd.t 10)) none,
      IOper.mk (some 67)
      (IOp.bin BinOp.add (Opd.t 66) (Opd.c (AV.int IntKind.i64 1)))
      none,
      IOper.mk (some 9) (IOp.mv (Opd.t 67)) none]
      [66, 67]))
      IC.nop)))
      (IC.ops false [] [60, 61, 62, 63, 64, 65, 66, 67]))
      (IC.ops false
      [IOper.mk (some 58) (IOp.mv (Opd.t 10)) none,
      IOper.mk (some 59)
      (IOp.bin BinOp.add (Opd.t 58) (Opd.c (AV.int IntKind.i64 1))) none,
      IOper.mk (some 10) (IOp.mv (Opd.t 59)) none]
      [58, 59])))
      (IC.ops false []
      [49, 50, 51, 52, 53, 54, 55, 56, 57, 60, 61, 62, 63, 64, 65, 66, 67, 58, 59]))))
      (IC.ops false [] [49, 50, 51, 52, 53, 54, 55, 56, 57, 60, 61, 62, 63, 64, 65, 66, 67, 58, 59])))
      (IC.seq
      (IC.ops false
      [IOper.mk (some 69) (IOp.mv (Opd.t 0)) none, IOper.mk (some 70) (IOp.mv (Opd.t 9)) none,
      IOper.mk (some 71) (IOp.subs (Opd.t 69) none (some (Opd.t 70))) none,
      IOper.mk (some 72) (IOp.callp 10 [Opd.t 71]) none, IOper.mk (some 68) (IOp.mv (Opd.t 72)) none,
      IOper.mk (some 73) (IOp.extr (Opd.t 68) 0) none, IOper.mk (some 74) (IOp.extr (Opd.t 68) 1) none,
      IOper.mk (some 75) (IOp.extr (Opd.t 68) 2) none, IOper.mk (some 11) (IOp.mv (Opd.t 73)) none,
      IOper.mk (some 12) (IOp.mv (Opd.t 74)) none, IOper.mk (some 13) (IOp.mv (Opd.t 75)) none]
      [69, 70, 71, 72, 68, 73, 74, 75])
      (IC.seq
      (IC.ops false
      [IOper.mk (some 77) (IOp.mv (Opd.t 11)) none, IOper.mk (some 78) (IOp.callp 7 [Opd.t 77]) none,
      IOper.mk (some 76) (IOp.mv (Opd.t 78)) none, IOper.mk (some 79) (IOp.extr (Opd.t 76) 0) none,
      IOper.mk (some 80) (IOp.extr (Opd.t 76) 1) none, IOper.mk (some 14) (IOp.mv (Opd.t 79)) none,
      IOper.mk (some 15) (IOp.mv (Opd.t 80)) none]
      [77, 78, 76, 79, 80])
      (IC.seq (IC.ops false [IOper.mk (some 16) (IOp.mv (Opd.c (AV.bool true))) none] [])
      (IC.seq
      (IC.seq
      (IC.ops false
      [IOper.mk (some 81) (IOp.mv (Opd.t 9)) none, IOper.mk (some 17) (IOp.mv (Opd.t 81)) none]
      [81])
      (IC.seq
      (IC.block 2
      (IC.loop
      (IC.seq
      (IC.seq
      (IC.seq
      (IC.ops false
      [IOper.mk (some 82) (IOp.mv (Opd.t 17)) none,
      IOper.mk (some 83) (IOp.mv (Opd.t 0)) none,
      IOper.mk (some 84) (IOp.lens (Opd.t 83)) none,
      IOper.mk (some 85) (IOp.bin BinOp.lss (Opd.t 82) (Opd.t 84)) none]
      [82, 83, 84])
      (IC.cond (Opd.t 85) IC.nop (IC.exit 2)))
      (IC.seq
      (IC.seq
      (IC.block 3
      (IC.ops false
      [IOper.mk (some 88) (IOp.mv (Opd.t 16)) none,
      IOper.mk (some 89) (IOp.mv (Opd.t 88)) none,
      IOper.mk (some 90) (IOp.mv (Opd.t 0)) (some (89, true)),
      IOper.mk (some 91) (IOp.mv (Opd.t 17)) (some (89, true)),
      IOper.mk (some 92) (IOp.ixs (Opd.t 90) (Opd.t 91)) (some (89, true)),
      IOper.mk (some 93)
      (IOp.bin BinOp.neq (Opd.t 92) (Opd.c (AV.int IntKind.u8 10)))
      (some (89, true)),
      IOper.mk (some 94) (IOp.pick (Opd.t 89) (Opd.t 93) (Opd.c (AV.bool false)))
      none,
      IOper.mk (some 16) (IOp.mv (Opd.t 94)) none]
      [88, 89, 90, 91, 92, 93, 94]))
      (IC.ops false [] [88, 89, 90, 91, 92, 93, 94]))
      (IC.ops false
      [IOper.mk (some 86) (IOp.mv (Opd.t 17)) none,
      IOper.mk (some 87)
      (IOp.bin BinOp.add (Opd.t 86) (Opd.c (AV.int IntKind.i64 1)))
      none,
      IOper.mk (some 17) (IOp.mv (Opd.t 87)) none]
      [86, 87])))
      (IC.ops false [] [82, 83, 84, 85, 88, 89, 90, 91, 92, 93, 94, 86, 87]))))
      (IC.ops false [] [82, 83, 84, 85, 88, 89, 90, 91, 92, 93, 94, 86, 87])))
      (IC.seq
      (IC.ops false
      [IOper.mk (some 95) (IOp.callp 9 []) none, IOper.mk (some 96) (IOp.mv (Opd.t 95)) none,
      IOper.mk (some 97) (IOp.mv (Opd.t 3)) (some (96, true)),
      IOper.mk (some 98) (IOp.len (Opd.t 97)) (some (96, true)),
      IOper.mk (some 99) (IOp.bin BinOp.eql (Opd.t 98) (Opd.c (AV.int IntKind.i64 0)))
      (some (96, true)),
      IOper.mk (some 100) (IOp.pick (Opd.t 96) (Opd.t 99) (Opd.c (AV.bool false))) none,
      IOper.mk (some 101) (IOp.mv (Opd.t 100)) none,
      IOper.mk (some 102) (IOp.mv (Opd.t 4)) (some (101, true)),
      IOper.mk (some 103)
      (IOp.bin BinOp.geq (Opd.t 102) (Opd.c (AV.int IntKind.i64 1)))
      (some (101, true)),
      IOper.mk (some 104) (IOp.pick (Opd.t 101) (Opd.t 103) (Opd.c (AV.bool false))) none,
      IOper.mk (some 105) (IOp.mv (Opd.t 104)) none,
      IOper.mk (some 106) (IOp.mv (Opd.t 8)) (some (105, true)),
      IOper.mk (some 107) (IOp.mv (Opd.t 4)) (some (105, true)),
      IOper.mk (some 108) (IOp.bin BinOp.eql (Opd.t 106) (Opd.t 107)) (some (105, true)),
      IOper.mk (some 109) (IOp.pick (Opd.t 105) (Opd.t 108) (Opd.c (AV.bool false))) none,
      IOper.mk (some 110) (IOp.mv (Opd.t 109)) none,
      IOper.mk (some 111) (IOp.mv (Opd.t 12)) (some (110, true)),
      IOper.mk (some 112)
      (IOp.bin BinOp.eql (Opd.t 111) (Opd.c (AV.int IntKind.i64 0)))
      (some (110, true)),
      IOper.mk (some 113) (IOp.pick (Opd.t 110) (Opd.t 112) (Opd.c (AV.bool false))) none,
      IOper.mk (some 114) (IOp.mv (Opd.t 113)) none,
      IOper.mk (some 115) (IOp.mv (Opd.t 13)) (some (114, true)),
      IOper.mk (some 116)
      (IOp.bin BinOp.eql (Opd.t 115) (Opd.c (AV.int IntKind.i64 0)))
      (some (114, true)),
      IOper.mk (some 117) (IOp.pick (Opd.t 114) (Opd.t 116) (Opd.c (AV.bool false))) none,
      IOper.mk (some 118) (IOp.mv (Opd.t 117)) none,
      IOper.mk (some 119) (IOp.mv (Opd.t 15)) (some (118, true)),
      IOper.mk (some 120)
      (IOp.bin BinOp.eql (Opd.t 119) (Opd.c (AV.int IntKind.i64 0)))
      (some (118, true)),
      IOper.mk (some 121) (IOp.pick (Opd.t 118) (Opd.t 120) (Opd.c (AV.bool false))) none,
      IOper.mk (some 122) (IOp.mv (Opd.t 121)) none,
      IOper.mk (some 123) (IOp.mv (Opd.t 14)) (some (122, true)),
      IOper.mk (some 124) (IOp.mv (Opd.t 0)) (some (122, true)),
      IOper.mk (some 125) (IOp.mv (Opd.t 9)) (some (122, true)),
      IOper.mk (some 126) (IOp.subs (Opd.t 124) none (some (Opd.t 125))) (some (122, true)),
      IOper.mk (some 127) (IOp.bin BinOp.eql (Opd.t 123) (Opd.t 126)) (some (122, true)),
      IOper.mk (some 128) (IOp.pick (Opd.t 122) (Opd.t 127) (Opd.c (AV.bool false))) none,
      IOper.mk (some 129) (IOp.mv (Opd.t 128)) none,
      IOper.mk (some 130) (IOp.mv (Opd.t 9)) (some (129, true)),
      IOper.mk (some 131) (IOp.mv (Opd.t 0)) (some (129, true)),
      IOper.mk (some 132) (IOp.lens (Opd.t 131)) (some (129, true)),
      IOper.mk (some 133) (IOp.bin BinOp.lss (Opd.t 130) (Opd.t 132)) (some (129, true)),
      IOper.mk (some 134) (IOp.pick (Opd.t 129) (Opd.t 133) (Opd.c (AV.bool false))) none,
      IOper.mk (some 135) (IOp.mv (Opd.t 134)) none,
      IOper.mk (some 136) (IOp.mv (Opd.t 5)) (some (135, true)),
      IOper.mk (some 137)
      (IOp.bin BinOp.eql (Opd.t 136) (Opd.c (AV.int IntKind.i64 5)))
      (some (135, true)),
      IOper.mk (some 138) (IOp.mv (Opd.t 16)) (some (135, true)),
      IOper.mk (some 139) (IOp.eqb false (Opd.t 137) (Opd.t 138)) (some (135, true)),
      IOper.mk (some 140) (IOp.pick (Opd.t 135) (Opd.t 139) (Opd.c (AV.bool false))) none,
      IOper.mk (some 141) (IOp.mv (Opd.t 140)) none,
      IOper.mk (some 142) (IOp.mv (Opd.t 16)) (some (141, true)),
      IOper.mk (some 143) (IOp.mv (Opd.t 142)) (some (141, true)),
      IOper.mk (some 144) (IOp.mv (Opd.t 5)) (some (143, false)),
      IOper.mk (some 145)
      (IOp.bin BinOp.eql (Opd.t 144) (Opd.c (AV.int IntKind.i64 3)))
      (some (143, false)),
      IOper.mk (some 146) (IOp.pick (Opd.t 143) (Opd.c (AV.bool true)) (Opd.t 145))
      (some (141, true)),
      IOper.mk (some 147) (IOp.pick (Opd.t 141) (Opd.t 146) (Opd.c (AV.bool false))) none,
      IOper.mk (some 2) (IOp.mv (Opd.t 147)) none]
      [95, 96, 97, 98, 99, 100, 101, 102, 103, 104, 105, 106, 107, 108, 109, 110, 111, 112, 113,
      114, 115, 116, 117, 118, 119, 120, 121, 122, 123, 124, 125, 126, 127, 128, 129, 130, 131,
      132, 133, 134, 135, 136, 137, 138, 139, 140, 141, 142, 143, 144, 145, 146, 147])
      IC.ret)))))))))))
  none
theorem fn_l36_TraceForth : F 4 = some ir_l36_TraceForth := by kernel_rfl

def ir_l36_TraceCounts : IFun :=
  IFun.mk false 4 [IRes.tmp 8]
  (IC.seq (IC.ops false [IOper.mk (some 8) (IOp.mv (Opd.c (AV.bool false))) none] [])
    (IC.seq
      (IC.ops false
      [IOper.mk (some 13) (IOp.mv (Opd.t 0)) none, IOper.mk (some 14) (IOp.callp 6 [Opd.t 13]) none,
      IOper.mk (some 0) (IOp.mv (Opd.t 14)) none]
      [13, 14])
      (IC.seq (IC.ops false [IOper.mk (some 9) (IOp.mv (Opd.c (AV.int IntKind.i64 0))) none] [])
      (IC.seq
      (IC.ops false
      [IOper.mk (some 15)
      (IOp.bsl false 5 0
      [AV.int IntKind.i64 0, AV.int IntKind.u8 0, AV.int IntKind.i64 0,
      AV.int IntKind.i64 0, AV.int IntKind.i64 0]
      [])
      none,
      IOper.mk (some 16)
      (IOp.bsl false 5 0
      [AV.int IntKind.i64 0, AV.int IntKind.u8 0, AV.int IntKind.i64 0,
      AV.int IntKind.i64 0, AV.int IntKind.i64 0]
      [])
      none,
      IOper.mk (some 10) (IOp.mv (Opd.t 15)) none, IOper.mk (some 11) (IOp.mv (Opd.t 16)) none]
      [15, 16])
      (IC.seq
      (IC.seq (IC.ops false [IOper.mk (some 12) (IOp.mv (Opd.c (AV.int IntKind.i64 0))) none] [])
      (IC.seq
      (IC.block 0
      (IC.loop
      (IC.seq
      (IC.seq
      (IC.seq
      (IC.ops false
      [IOper.mk (some 17) (IOp.mv (Opd.t 12)) none, IOper.mk (some 18) (IOp.mv (Opd.t 0)) none,
      IOper.mk (some 19) (IOp.len (Opd.t 18)) none,
      IOper.mk (some 20) (IOp.bin BinOp.lss (Opd.t 17) (Opd.t 19)) none]
      [17, 18, 19])
      (IC.cond (Opd.t 20) IC.nop (IC.exit 0)))
      (IC.seq
      (IC.seq
      (IC.block 1
      (IC.seq
      (IC.seq
      (IC.ops false
      [IOper.mk (some 23) (IOp.mv (Opd.t 0)) none,
      IOper.mk (some 24) (IOp.mv (Opd.t 12)) none,
      IOper.mk (some 25) (IOp.ixa 5 (Opd.t 23) (Opd.t 24)) none,
      IOper.mk (some 26) (IOp.faddr 1 (Opd.t 25)) none,
      IOper.mk (some 27) (IOp.load none (Opd.t 26)) none,
      IOper.mk (some 28) (IOp.mv (Opd.t 1)) none,
      IOper.mk (some 29) (IOp.bin BinOp.eql (Opd.t 27) (Opd.t 28)) none]
      [23, 24, 25, 26, 27, 28])
      (IC.cond (Opd.t 29)
      (IC.ops false
      [IOper.mk (some 30) (IOp.mv (Opd.t 9)) none,
      IOper.mk (some 31)
      (IOp.bin BinOp.add (Opd.t 30) (Opd.c (AV.int IntKind.i64 1)))
      none,
      IOper.mk (some 9) (IOp.mv (Opd.t 31)) none]
      [30, 31])
      IC.nop))
      (IC.seq
      (IC.seq
      (IC.ops false
      [IOper.mk (some 32) (IOp.mv (Opd.t 0)) none,
      IOper.mk (some 33) (IOp.mv (Opd.t 12)) none,
      IOper.mk (some 34) (IOp.ixa 5 (Opd.t 32) (Opd.t 33)) none,
      IOper.mk (some 35) (IOp.faddr 0 (Opd.t 34)) none,
      IOper.mk (some 36) (IOp.load none (Opd.t 35)) none,
      IOper.mk (some 37) (IOp.mv (Opd.t 2)) none,
      IOper.mk (some 38) (IOp.bin BinOp.eql (Opd.t 36) (Opd.t 37)) none]
      [32, 33, 34, 35, 36, 37])
      (IC.cond (Opd.t 38)
      (IC.ops false
      [IOper.mk (some 39) (IOp.mv (Opd.t 10)) none,
      IOper.mk (some 40) (IOp.mv (Opd.t 0)) none,
      IOper.mk (some 41) (IOp.mv (Opd.t 12)) none,
      IOper.mk (some 42) (IOp.ixa 5 (Opd.t 40) (Opd.t 41)) none,
      IOper.mk (some 43) (IOp.load (some 5) (Opd.t 42)) none,
      IOper.mk (some 44)
      (IOp.bsl false 5 1
      [AV.int IntKind.i64 0, AV.int IntKind.u8 0,
      AV.int IntKind.i64 0, AV.int IntKind.i64 0,
      AV.int IntKind.i64 0]
      [(0, 5, Opd.t 43)])
      none,
      IOper.mk (some 45) (IOp.append 5 40 (Opd.t 39) (Opd.t 44)) none,
      IOper.mk (some 10) (IOp.mv (Opd.t 45)) none]
      [39, 40, 41, 42, 43, 44, 45])
      IC.nop))
      (IC.seq
      (IC.ops false
      [IOper.mk (some 46) (IOp.mv (Opd.t 0)) none,
      IOper.mk (some 47) (IOp.mv (Opd.t 12)) none,
      IOper.mk (some 48) (IOp.ixa 5 (Opd.t 46) (Opd.t 47)) none,
      IOper.mk (some 49) (IOp.faddr 2 (Opd.t 48)) none,
      IOper.mk (some 50) (IOp.load none (Opd.t 49)) none,
      IOper.mk (some 51) (IOp.mv (Opd.t 3)) none,
      IOper.mk (some 52) (IOp.bin BinOp.eql (Opd.t 50) (Opd.t 51)) none]
      [46, 47, 48, 49, 50, 51])
      (IC.cond (Opd.t 52)
      (IC.ops false
      [IOper.mk (some 53) (IOp.mv (Opd.t 11)) none,
      IOper.mk (some 54) (IOp.mv (Opd.t 0)) none,
      IOper.mk (some 55) (IOp.mv (Opd.t 12)) none,
      IOper.mk (some 56) (IOp.ixa 5 (Opd.t 54) (Opd.t 55)) none,
      IOper.mk (some 57) (IOp.load (some 5) (Opd.t 56)) none,
      IOper.mk (some 58)
      (IOp.bsl false 5 1
      [AV.int IntKind.i64 0, AV.int IntKind.u8 0,
      AV.int IntKind.i64 0, AV.int IntKind.i64 0,
      AV.int IntKind.i64 0]
      [(0, 5, Opd.t 57)])
      none,
      IOper.mk (some 59) (IOp.append 5 40 (Opd.t 53) (Opd.t 58)) none,
      IOper.mk (some 11) (IOp.mv (Opd.t 59)) none]
      [53, 54, 55, 56, 57, 58, 59])
      IC.nop)))))
      (IC.ops false []
      [23, 24, 25, 26, 27, 28, 29, 30, 31, 32, 33, 34, 35, 36, 37, 38, 39, 40, 41, 42, 43, 44,
      45, 46, 47, 48, 49, 50, 51, 52, 53, 54, 55, 56, 57, 58, 59]))
      (IC.ops false
      [IOper.mk (some 21) (IOp.mv (Opd.t 12)) none,
      IOper.mk (some 22)
      (IOp.bin BinOp.add (Opd.t 21) (Opd.c (AV.int IntKind.i64 1))) none,
      IOper.mk (some 12) (IOp.mv (Opd.t 22)) none]
      [21, 22])))
      (IC.ops false []
      [17, 18, 19, 20, 23, 24, 25, 26, 27, 28, 29, 30, 31, 32, 33, 34, 35, 36, 37, 38, 39, 40, 41, 42,
      43, 44, 45, 46, 47, 48, 49, 50, 51, 52, 53, 54, 55, 56, 57, 58, 59, 21, 22]))))
      (IC.ops false []
      [17, 18, 19, 20, 23, 24, 25, 26, 27, 28, 29, 30, 31, 32, 33, 34, 35, 36, 37, 38, 39, 40, 41, 42, 43,
      44, 45, 46, 47, 48, 49, 50, 51, 52, 53, 54, 55, 56, 57, 58, 59, 21, 22])))
      (IC.seq
      (IC.ops false
      [IOper.mk (some 60) (IOp.callp 9 []) none, IOper.mk (some 61) (IOp.mv (Opd.t 60)) none,
      IOper.mk (some 62) (IOp.mv (Opd.t 0)) (some (61, true)),
      IOper.mk (some 63) (IOp.mv (Opd.t 1)) (some (61, true)),
      IOper.mk (some 64) (IOp.callp 12 [Opd.t 62, Opd.t 63]) (some (61, true)),
      IOper.mk (some 65) (IOp.mv (Opd.t 9)) (some (61, true)),
      IOper.mk (some 66) (IOp.bin BinOp.eql (Opd.t 64) (Opd.t 65)) (some (61, true)),
      IOper.mk (some 67) (IOp.pick (Opd.t 61) (Opd.t 66) (Opd.c (AV.bool false))) none,
      IOper.mk (some 68) (IOp.mv (Opd.t 67)) none, IOper.mk (some 69) (IOp.mv (Opd.t 0)) (some (68, true)),
      IOper.mk (some 70) (IOp.mv (Opd.t 2)) (some (68, true)),
      IOper.mk (some 71) (IOp.callp 13 [Opd.t 69, Opd.t 70]) (some (68, true)),
      IOper.mk (some 72) (IOp.mv (Opd.t 10)) (some (68, true)),
      IOper.mk (some 73) (IOp.calls 11 [Opd.t 71, Opd.t 72]) (some (68, true)),
      IOper.mk (some 74) (IOp.pick (Opd.t 68) (Opd.t 73) (Opd.c (AV.bool false))) none,
      IOper.mk (some 75) (IOp.mv (Opd.t 74)) none, IOper.mk (some 76) (IOp.mv (Opd.t 0)) (some (75, true)),
      IOper.mk (some 77) (IOp.mv (Opd.t 3)) (some (75, true)),
      IOper.mk (some 78) (IOp.callp 14 [Opd.t 76, Opd.t 77]) (some (75, true)),
      IOper.mk (some 79) (IOp.mv (Opd.t 11)) (some (75, true)),
      IOper.mk (some 80) (IOp.calls 11 [Opd.t 78, Opd.t 79]) (some (75, true)),
      IOper.mk (some 81) (IOp.pick (Opd.t 75) (Opd.t 80) (Opd.c (AV.bool false))) none,
      IOper.mk (some 82) (IOp.mv (Opd.t 81)) none, IOper.mk (some 83) (IOp.mv (Opd.t 0)) (some (82, true)),
      IOper.mk (some 84) (IOp.mv (Opd.t 2)) (some (82, true)),
      IOper.mk (some 85) (IOp.callp 16 [Opd.t 83, Opd.t 84]) (some (82, true)),
      IOper.mk (some 86) (IOp.mv (Opd.t 0)) (some (82, true)),
      IOper.mk (some 87) (IOp.mv (Opd.t 2)) (some (82, true)),
      IOper.mk (some 88) (IOp.callp 17 [Opd.t 86, Opd.t 87]) (some (82, true)),
      IOper.mk (some 89) (IOp.callp 15 [Opd.t 85, Opd.t 88]) (some (82, true)),
      IOper.mk (some 90) (IOp.pick (Opd.t 82) (Opd.t 89) (Opd.c (AV.bool false))) none,
      IOper.mk (some 91) (IOp.mv (Opd.t 90)) none, IOper.mk (some 92) (IOp.mv (Opd.t 1)) (some (91, true)),
      IOper.mk (some 93) (IOp.callp 18 [Opd.t 92]) (some (91, true)),
      IOper.mk (some 94) (IOp.mv (Opd.t 1)) (some (91, true)),
      IOper.mk (some 95) (IOp.callp 19 [Opd.t 94]) (some (91, true)),
      IOper.mk (some 96) (IOp.bin BinOp.eql (Opd.t 93) (Opd.t 95)) (some (91, true)),
      IOper.mk (some 97) (IOp.pick (Opd.t 91) (Opd.t 96) (Opd.c (AV.bool false))) none,
      IOper.mk (some 8) (IOp.mv (Opd.t 97)) none]
      [60, 61, 62, 63, 64, 65, 66, 67, 68, 69, 70, 71, 72, 73, 74, 75, 76, 77, 78, 79, 80, 81, 82, 83, 84, 85,
      86, 87, 88, 89, 90, 91, 92, 93, 94, 95, 96, 97])
      IC.ret))))))
  none
theorem fn_l36_TraceCounts : F 5 = some ir_l36_TraceCounts := by kernel_rfl

def ir_l36_few : IFun :=
  IFun.mk false 1 [IRes.tmp 2]
  (IC.seq (IC.ops false [IOper.mk (some 2) (IOp.mv (Opd.c (AV.imm true 0 0 (some 0) []))) none] [])
    (IC.seq
      (IC.ops false
      [IOper.mk (some 3) (IOp.mv (Opd.t 0)) none, IOper.mk (some 4) (IOp.mv (Opd.t 0)) none,
      IOper.mk (some 5) (IOp.len (Opd.t 4)) none,
      IOper.mk (some 6) (IOp.minmax false [Opd.t 5, Opd.c (AV.int IntKind.i64 60)]) none,
      IOper.mk (some 7) (IOp.sub 5 (Opd.t 3) none (some (Opd.t 6)) none) none,
      IOper.mk (some 2) (IOp.mv (Opd.t 7)) none]
      [3, 4, 5, 6, 7])
      IC.ret))
  none
theorem fn_l36_few : F 6 = some ir_l36_few := by kernel_rfl

def ir_trace_Print : IFun :=
  IFun.mk false 1 [IRes.tmp 2, IRes.tmp 3]
  (IC.seq
    (IC.ops false
      [IOper.mk (some 2) (IOp.mv (Opd.c (AV.str []))) none,
      IOper.mk (some 3) (IOp.mv (Opd.c (AV.int IntKind.i64 0))) none]
      [])
    (IC.seq (IC.ops false [IOper.mk (some 4) (IOp.newb 46 5) none] [])
      (IC.seq
      (IC.seq
      (IC.ops false
      [IOper.mk (some 9) (IOp.mv (Opd.t 0)) none, IOper.mk (some 10) (IOp.len (Opd.t 9)) none,
      IOper.mk (some 11) (IOp.mv (Opd.c (AV.int IntKind.i64 0))) none]
      [])
      (IC.seq
      (IC.block 0
      (IC.loop
      (IC.seq
      (IC.seq (IC.ops false [IOper.mk (some 12) (IOp.bin BinOp.lss (Opd.t 11) (Opd.t 10)) none] [])
      (IC.seq (IC.cond (Opd.t 12) IC.nop (IC.exit 0))
      (IC.seq
      (IC.seq
      (IC.block 1
      (IC.seq
      (IC.ops false
      [IOper.mk (some 13) (IOp.ixa 5 (Opd.t 9) (Opd.t 11)) none,
      IOper.mk (some 14) (IOp.load (some 5) (Opd.t 13)) none,
      IOper.mk (some 6)
      (IOp.alloc
      [AV.int IntKind.i64 0, AV.int IntKind.u8 0,
      AV.int IntKind.i64 0, AV.int IntKind.i64 0,
      AV.int IntKind.i64 0])
      none,
      IOper.mk none (IOp.store 5 (Opd.t 6) (Opd.t 14)) none]
      [13, 14])
      (IC.seq
      (IC.ops false
      [IOper.mk (some 16) (IOp.load (some 5) (Opd.t 6)) none,
      IOper.mk (some 17) (IOp.callp 20 [Opd.t 16]) none,
      IOper.mk (some 15) (IOp.mv (Opd.t 17)) none,
      IOper.mk (some 18) (IOp.extr (Opd.t 15) 0) none,
      IOper.mk (some 19) (IOp.extr (Opd.t 15) 1) none,
      IOper.mk (some 7) (IOp.mv (Opd.t 18)) none,
      IOper.mk (some 8) (IOp.mv (Opd.t 19)) none]
      [16, 17, 15, 18, 19])
      (IC.seq
      (IC.seq
      (IC.ops false
      [IOper.mk (some 20) (IOp.mv (Opd.t 8)) none,
      IOper.mk (some 21) (IOp.not (Opd.t 20)) none]
      [20])
      (IC.cond (Opd.t 21)
      (IC.seq
      (IC.ops false
      [IOper.mk (some 2) (IOp.mv (Opd.c (AV.str []))) none,
      IOper.mk (some 3) (IOp.mv (Opd.c (AV.int IntKind.i64 3))) none]
      [])
      IC.ret)
      IC.nop))
      (IC.ops false
      [IOper.mk (some 22) (IOp.mv (Opd.t 7)) none,
      IOper.mk (some 23)
      (IOp.call (Opd.c (AV.func (Fn.func 21) [] [])) [Opd.t 4, Opd.t 22]) none]
      [22, 23])))))
      (IC.ops false [] [13, 14, 6, 16, 17, 15, 18, 19, 7, 8, 20, 21, 22, 23]))
      (IC.ops false
      [IOper.mk (some 24) (IOp.bin BinOp.add (Opd.t 11) (Opd.c (AV.int IntKind.i64 1)))
      none,
      IOper.mk (some 11) (IOp.mv (Opd.t 24)) none]
      [24]))))
      (IC.ops false [] [12, 13, 14, 6, 16, 17, 15, 18, 19, 7, 8, 20, 21, 22, 23, 24]))))
      (IC.ops false [] [12, 13, 14, 6, 16, 17, 15, 18, 19, 7, 8, 20, 21, 22, 23, 24])))
      (IC.seq
      (IC.ops false
      [IOper.mk (some 25) (IOp.call (Opd.c (AV.func (Fn.func 22) [] [])) [Opd.t 4]) none,
      IOper.mk (some 2) (IOp.mv (Opd.t 25)) none,
      IOper.mk (some 3) (IOp.mv (Opd.c (AV.int IntKind.i64 0))) none]
      [25])
      IC.ret))))
  none
theorem fn_trace_Print : F 7 = some ir_trace_Print := by kernel_rfl

def ir_r36_Print : IFun :=
  IFun.mk false 1 [IRes.tmp 2, IRes.tmp 3]
  (IC.seq
    (IC.ops false
      [IOper.mk (some 2) (IOp.mv (Opd.c (AV.str []))) none,
      IOper.mk (some 3) (IOp.mv (Opd.c (AV.int IntKind.i64 0))) none]
      [])
    (IC.seq (IC.ops false [IOper.mk (some 4) (IOp.mv (Opd.c (AV.str []))) none] [])
      (IC.seq
      (IC.seq (IC.ops false [IOper.mk (some 5) (IOp.mv (Opd.c (AV.int IntKind.i64 0))) none] [])
      (IC.seq
      (IC.block 0
      (IC.loop
      (IC.seq
      (IC.seq
      (IC.seq
      (IC.ops false
      [IOper.mk (some 7) (IOp.mv (Opd.t 5)) none, IOper.mk (some 8) (IOp.mv (Opd.t 0)) none,
      IOper.mk (some 9) (IOp.len (Opd.t 8)) none,
      IOper.mk (some 10) (IOp.bin BinOp.lss (Opd.t 7) (Opd.t 9)) none]
      [7, 8, 9])
      (IC.cond (Opd.t 10) IC.nop (IC.exit 0)))
      (IC.seq
      (IC.seq
      (IC.block 1
      (IC.seq
      (IC.ops false
      [IOper.mk (some 13) (IOp.mv (Opd.t 0)) none, IOper.mk (some 14) (IOp.mv (Opd.t 5)) none,
      IOper.mk (some 15) (IOp.ixa 5 (Opd.t 13) (Opd.t 14)) none,
      IOper.mk (some 16) (IOp.load (some 5) (Opd.t 15)) none,
      IOper.mk (some 6)
      (IOp.alloc
      [AV.int IntKind.i64 0, AV.int IntKind.u8 0,
      AV.int IntKind.i64 0, AV.int IntKind.i64 0,
      AV.int IntKind.i64 0])
      none,
      IOper.mk none (IOp.store 5 (Opd.t 6) (Opd.t 16)) none]
      [13, 14, 15, 16])
      (IC.seq
      (IC.seq
      (IC.ops false
      [IOper.mk (some 17) (IOp.faddr 1 (Opd.t 6)) none,
      IOper.mk (some 18) (IOp.load none (Opd.t 17)) none,
      IOper.mk (some 19) (IOp.callp 19 [Opd.t 18]) none,
      IOper.mk (some 20) (IOp.bin BinOp.eql (Opd.t 19) (Opd.c (AV.str []))) none,
      IOper.mk (some 21) (IOp.mv (Opd.t 20)) none,
      IOper.mk (some 22) (IOp.faddr 0 (Opd.t 6)) (some (21, false)),
      IOper.mk (some 23) (IOp.load none (Opd.t 22)) (some (21, false)),
      IOper.mk (some 24)
      (IOp.callp 23 [Opd.t 23, Opd.c (AV.int IntKind.i64 2147483647)])
      (some (21, false)),
      IOper.mk (some 25) (IOp.not (Opd.t 24)) (some (21, false)),
      IOper.mk (some 26) (IOp.pick (Opd.t 21) (Opd.c (AV.bool true)) (Opd.t 25)) none,
      IOper.mk (some 27) (IOp.mv (Opd.t 26)) none,
      IOper.mk (some 28) (IOp.faddr 2 (Opd.t 6)) (some (27, false)),
      IOper.mk (some 29) (IOp.load none (Opd.t 28)) (some (27, false)),
      IOper.mk (some 30)
      (IOp.callp 23 [Opd.t 29, Opd.c (AV.int IntKind.i64 2147483647)])
      (some (27, false)),
      IOper.mk (some 31) (IOp.not (Opd.t 30)) (some (27, false)),
      IOper.mk (some 32) (IOp.pick (Opd.t 27) (Opd.c (AV.bool true)) (Opd.t 31)) none,
      IOper.mk (some 33) (IOp.mv (Opd.t 32)) none,
      IOper.mk (some 34) (IOp.faddr 3 (Opd.t 6)) (some (33, false)),
      IOper.mk (some 35) (IOp.load none (Opd.t 34)) (some (33, false)),
      IOper.mk (some 36)
      (IOp.callp 23 [Opd.t 35, Opd.c (AV.int IntKind.i64 1099511627776)])
      (some (33, false)),
      IOper.mk (some 37) (IOp.not (Opd.t 36)) (some (33, false)),
      IOper.mk (some 38) (IOp.pick (Opd.t 33) (Opd.c (AV.bool true)) (Opd.t 37)) none,
      IOper.mk (some 39) (IOp.mv (Opd.t 38)) none,
      IOper.mk (some 40) (IOp.faddr 4 (Opd.t 6)) (some (39, false)),
      IOper.mk (some 41) (IOp.load none (Opd.t 40)) (some (39, false)),
      IOper.mk (some 42)
      (IOp.callp 23 [Opd.t 41, Opd.c (AV.int IntKind.i64 2147483647)])
      (some (39, false)),
      IOper.mk (some 43) (IOp.not (Opd.t 42)) (some (39, false)),
      IOper.mk (some 44) (IOp.pick (Opd.t 39) (Opd.c (AV.bool true)) (Opd.t 43)) none]
      [17, 18, 19, 20, 21, 22, 23, 24, 25, 26, 27, 28, 29, 30, 31, 32, 33, 34, 35, 36, 37,
      38, 39, 40, 41, 42, 43])
      (IC.cond (Opd.t 44)
      (IC.seq
      (IC.ops false
      [IOper.mk (some 2) (IOp.mv (Opd.c (AV.str []))) none,
      IOper.mk (some 3) (IOp.mv (Opd.c (AV.int IntKind.i64 3))) none]
      [])
      IC.ret)
      IC.nop))
      (IC.ops true
      [IOper.mk (some 45) (IOp.mv (Opd.t 4)) none,
      IOper.mk (some 46) (IOp.faddr 0 (Opd.t 6)) none,
      IOper.mk (some 47) (IOp.load none (Opd.t 46)) none,
      IOper.mk (some 48) (IOp.callp 24 [Opd.t 47]) none,
      IOper.mk (some 49) (IOp.bin BinOp.add (Opd.t 45) (Opd.t 48)) none,
      IOper.mk (some 50) (IOp.bin BinOp.add (Opd.t 49) (Opd.c (AV.str [UInt8.ofNat 32])))
      none,
      IOper.mk (some 51) (IOp.faddr 1 (Opd.t 6)) none,
      IOper.mk (some 52) (IOp.load none (Opd.t 51)) none,
      IOper.mk (some 53) (IOp.callp 19 [Opd.t 52]) none,
      IOper.mk (some 54) (IOp.bin BinOp.add (Opd.t 50) (Opd.t 53)) none,
      IOper.mk (some 55) (IOp.bin BinOp.add (Opd.t 54) (Opd.c (AV.str [UInt8.ofNat 32])))
      none,
      IOper.mk (some 56) (IOp.faddr 2 (Opd.t 6)) none,
      IOper.mk (some 57) (IOp.load none (Opd.t 56)) none,
      IOper.mk (some 58) (IOp.callp 24 [Opd.t 57]) none,
      IOper.mk (some 59) (IOp.bin BinOp.add (Opd.t 55) (Opd.t 58)) none,
      IOper.mk (some 60) (IOp.bin BinOp.add (Opd.t 59) (Opd.c (AV.str [UInt8.ofNat 32])))
      none,
      IOper.mk (some 61) (IOp.faddr 3 (Opd.t 6)) none,
      IOper.mk (some 62) (IOp.load none (Opd.t 61)) none,
      IOper.mk (some 63) (IOp.callp 24 [Opd.t 62]) none,
      IOper.mk (some 64) (IOp.bin BinOp.add (Opd.t 60) (Opd.t 63)) none,
      IOper.mk (some 65) (IOp.bin BinOp.add (Opd.t 64) (Opd.c (AV.str [UInt8.ofNat 32])))
      none,
      IOper.mk (some 66) (IOp.faddr 4 (Opd.t 6)) none,
      IOper.mk (some 67) (IOp.load none (Opd.t 66)) none,
      IOper.mk (some 68) (IOp.callp 24 [Opd.t 67]) none,
      IOper.mk (some 69) (IOp.bin BinOp.add (Opd.t 65) (Opd.t 68)) none,
      IOper.mk (some 70) (IOp.bin BinOp.add (Opd.t 69) (Opd.c (AV.str [UInt8.ofNat 10])))
      none,
      IOper.mk (some 4) (IOp.mv (Opd.t 70)) none]
      [45, 46, 47, 48, 49, 50, 51, 52, 53, 54, 55, 56, 57, 58, 59, 60, 61, 62, 63, 64, 65, 66,
      67, 68, 69, 70]))))
      (IC.ops false []
      [13, 14, 15, 16, 6, 17, 18, 19, 20, 21, 22, 23, 24, 25, 26, 27, 28, 29, 30, 31, 32, 33, 34,
      35, 36, 37, 38, 39, 40, 41, 42, 43, 44, 45, 46, 47, 48, 49, 50, 51, 52, 53, 54, 55, 56, 57,
      58, 59, 60, 61, 62, 63, 64, 65, 66, 67, 68, 69, 70]))
      (IC.ops false
      [IOper.mk (some 11) (IOp.mv (Opd.t 5)) none,
      IOper.mk (some 12) (IOp.bin BinOp.add (Opd.t 11) (Opd.c (AV.int IntKind.i64 1)))
      none,
      IOper.mk (some 5) (IOp.mv (Opd.t 12)) none]
      [11, 12])))
      (IC.ops false []
      [7, 8, 9, 10, 13, 14, 15, 16, 6, 17, 18, 19, 20, 21, 22, 23, 24, 25, 26, 27, 28, 29, 30, 31, 32, 33,
      34, 35, 36, 37, 38, 39, 40, 41, 42, 43, 44, 45, 46, 47, 48, 49, 50, 51, 52, 53, 54, 55, 56, 57,
      58, 59, 60, 61, 62, 63, 64, 65, 66, 67, 68, 69, 70, 11, 12]))))
      (IC.ops false []
      [7, 8, 9, 10, 13, 14, 15, 16, 6, 17, 18, 19, 20, 21, 22, 23, 24, 25, 26, 27, 28, 29, 30, 31, 32, 33, 34,
      35, 36, 37, 38, 39, 40, 41, 42, 43, 44, 45, 46, 47, 48, 49, 50, 51, 52, 53, 54, 55, 56, 57, 58, 59, 60,
      61, 62, 63, 64, 65, 66, 67, 68, 69, 70, 11, 12])))
      (IC.seq
      (IC.ops false
      [IOper.mk (some 71) (IOp.mv (Opd.t 4)) none, IOper.mk (some 2) (IOp.mv (Opd.t 71)) none,
      IOper.mk (some 3) (IOp.mv (Opd.c (AV.int IntKind.i64 0))) none]
      [71])
      IC.ret))))
  none
theorem fn_r36_Print : F 8 = some ir_r36_Print := by kernel_rfl

def ir_l36_live : IFun :=
  IFun.mk false 0 [IRes.tmp 0]
  (IC.seq (IC.ops false [IOper.mk (some 0) (IOp.mv (Opd.c (AV.bool false))) none] [])
    (IC.seq
      (IC.ops false
      [IOper.mk (some 9)
      (IOp.build
      [AV.int IntKind.i64 0, AV.int IntKind.u8 0, AV.int IntKind.i64 0,
      AV.int IntKind.i64 0, AV.int IntKind.i64 0]
      [(0, 1, Opd.c (AV.int IntKind.i64 1)), (1, 1, Opd.c (AV.int IntKind.u8 3)),
      (2, 1, Opd.c (AV.int IntKind.i64 2)), (3, 1, Opd.c (AV.int IntKind.i64 7))])
      none,
      IOper.mk (some 1)
      (IOp.alloc
      [AV.int IntKind.i64 0, AV.int IntKind.u8 0, AV.int IntKind.i64 0,
      AV.int IntKind.i64 0, AV.int IntKind.i64 0])
      none,
      IOper.mk none (IOp.store 5 (Opd.t 1) (Opd.t 9)) none]
      [9])
      (IC.seq
      (IC.ops false
      [IOper.mk (some 11) (IOp.load (some 5) (Opd.t 1)) none,
      IOper.mk (some 12)
      (IOp.bsl false 5 1
      [AV.int IntKind.i64 0, AV.int IntKind.u8 0, AV.int IntKind.i64 0,
      AV.int IntKind.i64 0, AV.int IntKind.i64 0]
      [(0, 5, Opd.t 11)])
      none,
      IOper.mk (some 13) (IOp.callp 7 [Opd.t 12]) none, IOper.mk (some 10) (IOp.mv (Opd.t 13)) none,
      IOper.mk (some 14) (IOp.extr (Opd.t 10) 0) none, IOper.mk (some 15) (IOp.extr (Opd.t 10) 1) none,
      IOper.mk (some 2) (IOp.mv (Opd.t 14)) none, IOper.mk (some 3) (IOp.mv (Opd.t 15)) none]
      [11, 12, 13, 10, 14, 15])
      (IC.seq
      (IC.ops false
      [IOper.mk (some 17)
      (IOp.callp 10
      [Opd.c
      (AV.str
      [UInt8.ofNat 49, UInt8.ofNat 32, UInt8.ofNat 104, UInt8.ofNat 101, UInt8.ofNat 108,
      UInt8.ofNat 100, UInt8.ofNat 32, UInt8.ofNat 50, UInt8.ofNat 32, UInt8.ofNat 55,
      UInt8.ofNat 32, UInt8.ofNat 48, UInt8.ofNat 10])])
      none,
      IOper.mk (some 16) (IOp.mv (Opd.t 17)) none, IOper.mk (some 18) (IOp.extr (Opd.t 16) 0) none,
      IOper.mk (some 19) (IOp.extr (Opd.t 16) 1) none, IOper.mk (some 20) (IOp.extr (Opd.t 16) 2) none,
      IOper.mk (some 4) (IOp.mv (Opd.t 18)) none, IOper.mk (some 5) (IOp.mv (Opd.t 19)) none,
      IOper.mk (some 6) (IOp.mv (Opd.t 20)) none]
      [17, 16, 18, 19, 20])
      (IC.seq
      (IC.ops false
      [IOper.mk (some 22) (IOp.mv (Opd.t 4)) none,
      IOper.mk (some 23) (IOp.call (Opd.c (AV.func (Fn.func 25) [] [])) [Opd.t 22]) none,
      IOper.mk (some 21) (IOp.mv (Opd.t 23)) none, IOper.mk (some 24) (IOp.extr (Opd.t 21) 0) none,
      IOper.mk (some 25) (IOp.extr (Opd.t 21) 1) none, IOper.mk (some 7) (IOp.mv (Opd.t 24)) none,
      IOper.mk (some 8) (IOp.mv (Opd.t 25)) none]
      [22, 23, 21, 24, 25])
      (IC.seq
      (IC.ops true
      [IOper.mk (some 26) (IOp.mv (Opd.t 2)) none,
      IOper.mk (some 27)
      (IOp.bin BinOp.eql (Opd.t 26)
      (Opd.c
      (AV.str
      [UInt8.ofNat 49, UInt8.ofNat 32, UInt8.ofNat 104, UInt8.ofNat 101, UInt8.ofNat 108,
      UInt8.ofNat 100, UInt8.ofNat 32, UInt8.ofNat 50, UInt8.ofNat 32, UInt8.ofNat 55,
      UInt8.ofNat 32, UInt8.ofNat 48, UInt8.ofNat 10])))
      none,
      IOper.mk (some 28) (IOp.mv (Opd.t 27)) none, IOper.mk (some 29) (IOp.mv (Opd.t 3)) (some (28, true)),
      IOper.mk (some 30) (IOp.bin BinOp.eql (Opd.t 29) (Opd.c (AV.int IntKind.i64 0)))
      (some (28, true)),
      IOper.mk (some 31) (IOp.pick (Opd.t 28) (Opd.t 30) (Opd.c (AV.bool false))) none,
      IOper.mk (some 32) (IOp.mv (Opd.t 31)) none, IOper.mk (some 33) (IOp.mv (Opd.t 4)) (some (32, true)),
      IOper.mk (some 34) (IOp.len (Opd.t 33)) (some (32, true)),
      IOper.mk (some 35) (IOp.bin BinOp.eql (Opd.t 34) (Opd.c (AV.int IntKind.i64 1)))
      (some (32, true)),
      IOper.mk (some 36) (IOp.pick (Opd.t 32) (Opd.t 35) (Opd.c (AV.bool false))) none,
      IOper.mk (some 37) (IOp.mv (Opd.t 36)) none, IOper.mk (some 38) (IOp.mv (Opd.t 4)) (some (37, true)),
      IOper.mk (some 39) (IOp.ixa 5 (Opd.t 38) (Opd.c (AV.int IntKind.i64 0)))
      (some (37, true)),
      IOper.mk (some 40) (IOp.load (some 5) (Opd.t 39)) (some (37, true)),
      IOper.mk (some 41) (IOp.load (some 5) (Opd.t 1)) (some (37, true)),
      IOper.mk (some 42) (IOp.eqa false [(0, 0), (1, 0), (2, 0), (3, 0), (4, 0)] (Opd.t 40) (Opd.t 41))
      (some (37, true)),
      IOper.mk (some 43) (IOp.pick (Opd.t 37) (Opd.t 42) (Opd.c (AV.bool false))) none,
      IOper.mk (some 44) (IOp.mv (Opd.t 43)) none, IOper.mk (some 45) (IOp.mv (Opd.t 5)) (some (44, true)),
      IOper.mk (some 46) (IOp.bin BinOp.eql (Opd.t 45) (Opd.c (AV.int IntKind.i64 0)))
      (some (44, true)),
      IOper.mk (some 47) (IOp.pick (Opd.t 44) (Opd.t 46) (Opd.c (AV.bool false))) none,
      IOper.mk (some 48) (IOp.mv (Opd.t 47)) none, IOper.mk (some 49) (IOp.mv (Opd.t 6)) (some (48, true)),
      IOper.mk (some 50) (IOp.bin BinOp.eql (Opd.t 49) (Opd.c (AV.int IntKind.i64 0)))
      (some (48, true)),
      IOper.mk (some 51) (IOp.pick (Opd.t 48) (Opd.t 50) (Opd.c (AV.bool false))) none,
      IOper.mk (some 52) (IOp.mv (Opd.t 51)) none, IOper.mk (some 53) (IOp.mv (Opd.t 7)) (some (52, true)),
      IOper.mk (some 54) (IOp.lenm (Opd.t 53)) (some (52, true)),
      IOper.mk (some 55) (IOp.bin BinOp.eql (Opd.t 54) (Opd.c (AV.int IntKind.i64 1)))
      (some (52, true)),
      IOper.mk (some 56) (IOp.pick (Opd.t 52) (Opd.t 55) (Opd.c (AV.bool false))) none,
      IOper.mk (some 57) (IOp.mv (Opd.t 56)) none, IOper.mk (some 58) (IOp.mv (Opd.t 7)) (some (57, true)),
      IOper.mk (some 59)
      (IOp.look 0 (AV.int IntKind.i64 0) false (Opd.t 58)
      (Opd.c (AV.int IntKind.i64 2)))
      (some (57, true)),
      IOper.mk (some 60) (IOp.bin BinOp.eql (Opd.t 59) (Opd.c (AV.int IntKind.i64 1)))
      (some (57, true)),
      IOper.mk (some 61) (IOp.pick (Opd.t 57) (Opd.t 60) (Opd.c (AV.bool false))) none,
      IOper.mk (some 62) (IOp.mv (Opd.t 61)) none, IOper.mk (some 63) (IOp.mv (Opd.t 8)) (some (62, true)),
      IOper.mk (some 64) (IOp.bin BinOp.eql (Opd.t 63) (Opd.c (AV.int IntKind.i64 0)))
      (some (62, true)),
      IOper.mk (some 65) (IOp.pick (Opd.t 62) (Opd.t 64) (Opd.c (AV.bool false))) none,
      IOper.mk (some 66) (IOp.mv (Opd.t 65)) none,
      IOper.mk (some 67) (IOp.callp 18 [Opd.c (AV.int IntKind.u8 16)]) (some (66, true)),
      IOper.mk (some 68)
      (IOp.bin BinOp.eql (Opd.t 67)
      (Opd.c
      (AV.str
      [UInt8.ofNat 97, UInt8.ofNat 110, UInt8.ofNat 115, UInt8.ofNat 119, UInt8.ofNat 101,
      UInt8.ofNat 114, UInt8.ofNat 101, UInt8.ofNat 100])))
      (some (66, true)),
      IOper.mk (some 69) (IOp.pick (Opd.t 66) (Opd.t 68) (Opd.c (AV.bool false))) none,
      IOper.mk (some 0) (IOp.mv (Opd.t 69)) none]
      [26, 27, 28, 29, 30, 31, 32, 33, 34, 35, 36, 37, 38, 39, 40, 41, 42, 43, 44, 45, 46, 47, 48, 49, 50, 51,
      52, 53, 54, 55, 56, 57, 58, 59, 60, 61, 62, 63, 64, 65, 66, 67, 68, 69])
      IC.ret))))))
  none
theorem fn_l36_live : F 9 = some ir_l36_live := by kernel_rfl

def ir_trace_Parse : IFun :=
  IFun.mk false 1 [IRes.tmp 2, IRes.tmp 3, IRes.tmp 4]
  (IC.seq
    (IC.ops false
      [IOper.mk (some 2) (IOp.mv (Opd.c (AV.imm true 0 0 (some 0) []))) none,
      IOper.mk (some 3) (IOp.mv (Opd.c (AV.int IntKind.i64 0))) none,
      IOper.mk (some 4) (IOp.mv (Opd.c (AV.int IntKind.i64 0))) none]
      [])
    (IC.seq (IC.ops false [IOper.mk (some 5) (IOp.mv (Opd.c (AV.imm true 0 0 (some 0) []))) none] [])
      (IC.seq
      (IC.seq (IC.ops false [IOper.mk (some 6) (IOp.mv (Opd.c (AV.int IntKind.i64 1))) none] [])
      (IC.seq
      (IC.block 0
      (IC.loop
      (IC.seq
      (IC.seq
      (IC.seq
      (IC.ops false
      [IOper.mk (some 11) (IOp.mv (Opd.t 0)) none,
      IOper.mk (some 12) (IOp.bin BinOp.neq (Opd.t 11) (Opd.c (AV.str []))) none]
      [11])
      (IC.cond (Opd.t 12) IC.nop (IC.exit 0)))
      (IC.seq
      (IC.seq
      (IC.block 1
      (IC.seq
      (IC.ops false
      [IOper.mk (some 16) (IOp.mv (Opd.t 0)) none,
      IOper.mk (some 17) (IOp.callp 26 [Opd.t 16, Opd.c (AV.str [UInt8.ofNat 10])]) none,
      IOper.mk (some 15) (IOp.mv (Opd.t 17)) none,
      IOper.mk (some 18) (IOp.extr (Opd.t 15) 0) none,
      IOper.mk (some 19) (IOp.extr (Opd.t 15) 1) none,
      IOper.mk (some 20) (IOp.extr (Opd.t 15) 2) none,
      IOper.mk (some 7) (IOp.mv (Opd.t 18)) none, IOper.mk (some 8) (IOp.mv (Opd.t 19)) none,
      IOper.mk (some 9) (IOp.mv (Opd.t 20)) none]
      [16, 17, 15, 18, 19, 20])
      (IC.seq
      (IC.seq
      (IC.ops false
      [IOper.mk (some 21) (IOp.mv (Opd.t 9)) none,
      IOper.mk (some 22) (IOp.not (Opd.t 21)) none]
      [21])
      (IC.cond (Opd.t 22)
      (IC.seq
      (IC.ops false
      [IOper.mk (some 23) (IOp.mv (Opd.t 6)) none,
      IOper.mk (some 2) (IOp.mv (Opd.c (AV.imm true 0 0 (some 0) []))) none,
      IOper.mk (some 3) (IOp.mv (Opd.t 23)) none,
      IOper.mk (some 4) (IOp.mv (Opd.c (AV.int IntKind.i64 5))) none]
      [23])
      IC.ret)
      IC.nop))
      (IC.seq
      (IC.ops false
      [IOper.mk (some 25) (IOp.mv (Opd.t 7)) none,
      IOper.mk (some 26) (IOp.callp 27 [Opd.t 25]) none,
      IOper.mk (some 24) (IOp.mv (Opd.t 26)) none,
      IOper.mk (some 27) (IOp.extr (Opd.t 24) 0) none,
      IOper.mk (some 28) (IOp.extr (Opd.t 24) 1) none,
      IOper.mk (some 10)
      (IOp.alloc
      [AV.int IntKind.i64 0, AV.int IntKind.u8 0,
      AV.int IntKind.i64 0, AV.int IntKind.i64 0,
      AV.int IntKind.i64 0])
      none,
      IOper.mk none (IOp.store 5 (Opd.t 10) (Opd.t 27)) none,
      IOper.mk (some 9) (IOp.mv (Opd.t 28)) none]
      [25, 26, 24, 27, 28])
      (IC.seq
      (IC.seq
      (IC.ops false
      [IOper.mk (some 29) (IOp.mv (Opd.t 9)) none,
      IOper.mk (some 30) (IOp.not (Opd.t 29)) none]
      [29])
      (IC.cond (Opd.t 30)
      (IC.seq
      (IC.ops false
      [IOper.mk (some 31) (IOp.mv (Opd.t 6)) none,
      IOper.mk (some 2) (IOp.mv (Opd.c (AV.imm true 0 0 (some 0) []))) none,
      IOper.mk (some 3) (IOp.mv (Opd.t 31)) none,
      IOper.mk (some 4) (IOp.mv (Opd.c (AV.int IntKind.i64 3))) none]
      [31])
      IC.ret)
      IC.nop))
      (IC.seq
      (IC.ops false
      [IOper.mk (some 32) (IOp.mv (Opd.t 5)) none,
      IOper.mk (some 33) (IOp.load (some 5) (Opd.t 10)) none,
      IOper.mk (some 34)
      (IOp.bsl false 5 1
      [AV.int IntKind.i64 0, AV.int IntKind.u8 0,
      AV.int IntKind.i64 0, AV.int IntKind.i64 0,
      AV.int IntKind.i64 0]
      [(0, 5, Opd.t 33)])
      none,
      IOper.mk (some 35) (IOp.append 5 40 (Opd.t 32) (Opd.t 34)) none,
      IOper.mk (some 5) (IOp.mv (Opd.t 35)) none]
      [32, 33, 34, 35])
      (IC.ops false
      [IOper.mk (some 36) (IOp.mv (Opd.t 8)) none,
      IOper.mk (some 0) (IOp.mv (Opd.t 36)) none]
      [36])))))))
      (IC.ops false []
      [16, 17, 15, 18, 19, 20, 7, 8, 21, 22, 23, 25, 26, 24, 27, 28, 10, 9, 29, 30, 31, 32, 33, 34,
      35, 36]))
      (IC.ops false
      [IOper.mk (some 13) (IOp.mv (Opd.t 6)) none,
      IOper.mk (some 14) (IOp.bin BinOp.add (Opd.t 13) (Opd.c (AV.int IntKind.i64 1)))
      none,
      IOper.mk (some 6) (IOp.mv (Opd.t 14)) none]
      [13, 14])))
      (IC.ops false []
      [11, 12, 16, 17, 15, 18, 19, 20, 7, 8, 21, 22, 23, 25, 26, 24, 27, 28, 10, 9, 29, 30, 31, 32, 33,
      34, 35, 36, 13, 14]))))
      (IC.ops false []
      [11, 12, 16, 17, 15, 18, 19, 20, 7, 8, 21, 22, 23, 25, 26, 24, 27, 28, 10, 9, 29, 30, 31, 32, 33, 34, 35,
      36, 13, 14])))
      (IC.seq
      (IC.ops false
      [IOper.mk (some 37) (IOp.mv (Opd.t 5)) none, IOper.mk (some 2) (IOp.mv (Opd.t 37)) none,
      IOper.mk (some 3) (IOp.mv (Opd.c (AV.int IntKind.i64 0))) none,
      IOper.mk (some 4) (IOp.mv (Opd.c (AV.int IntKind.i64 0))) none]
      [37])
      IC.ret))))
  none
theorem fn_trace_Parse : F 10 = some ir_trace_Parse := by kernel_rfl

def ir_r36_Same : IFun :=
  IFun.mk false 2 [IRes.tmp 4]
  (IC.seq (IC.ops false [IOper.mk (some 4) (IOp.mv (Opd.c (AV.bool false))) none] [])
    (IC.seq
      (IC.seq
      (IC.ops false
      [IOper.mk (some 6) (IOp.mv (Opd.t 0)) none, IOper.mk (some 7) (IOp.len (Opd.t 6)) none,
      IOper.mk (some 8) (IOp.mv (Opd.t 1)) none, IOper.mk (some 9) (IOp.len (Opd.t 8)) none,
      IOper.mk (some 10) (IOp.bin BinOp.neq (Opd.t 7) (Opd.t 9)) none]
      [6, 7, 8, 9])
      (IC.cond (Opd.t 10) (IC.seq (IC.ops false [IOper.mk (some 4) (IOp.mv (Opd.c (AV.bool false))) none] []) IC.ret)
      IC.nop))
      (IC.seq
      (IC.seq (IC.ops false [IOper.mk (some 5) (IOp.mv (Opd.c (AV.int IntKind.i64 0))) none] [])
      (IC.seq
      (IC.block 0
      (IC.loop
      (IC.seq
      (IC.seq
      (IC.seq
      (IC.ops false
      [IOper.mk (some 11) (IOp.mv (Opd.t 5)) none, IOper.mk (some 12) (IOp.mv (Opd.t 0)) none,
      IOper.mk (some 13) (IOp.len (Opd.t 12)) none,
      IOper.mk (some 14) (IOp.bin BinOp.lss (Opd.t 11) (Opd.t 13)) none]
      [11, 12, 13])
      (IC.cond (Opd.t 14) IC.nop (IC.exit 0)))
      (IC.seq
      (IC.seq
      (IC.block 1
      (IC.seq
      (IC.ops true
      [IOper.mk (some 17) (IOp.mv (Opd.t 0)) none, IOper.mk (some 18) (IOp.mv (Opd.t 5)) none,
      IOper.mk (some 19) (IOp.ixa 5 (Opd.t 17) (Opd.t 18)) none,
      IOper.mk (some 20) (IOp.load (some 5) (Opd.t 19)) none,
      IOper.mk (some 21) (IOp.mv (Opd.t 1)) none, IOper.mk (some 22) (IOp.mv (Opd.t 5)) none,
      IOper.mk (some 23) (IOp.ixa 5 (Opd.t 21) (Opd.t 22)) none,
      IOper.mk (some 24) (IOp.load (some 5) (Opd.t 23)) none,
      IOper.mk (some 25)
      (IOp.eqa true [(0, 0), (1, 0), (2, 0), (3, 0), (4, 0)] (Opd.t 20) (Opd.t 24)) none]
      [17, 18, 19, 20, 21, 22, 23, 24])
      (IC.cond (Opd.t 25)
      (IC.seq (IC.ops false [IOper.mk (some 4) (IOp.mv (Opd.c (AV.bool false))) none] [])
      IC.ret)
      IC.nop)))
      (IC.ops false [] [17, 18, 19, 20, 21, 22, 23, 24, 25]))
      (IC.ops false
      [IOper.mk (some 15) (IOp.mv (Opd.t 5)) none,
      IOper.mk (some 16) (IOp.bin BinOp.add (Opd.t 15) (Opd.c (AV.int IntKind.i64 1)))
      none,
      IOper.mk (some 5) (IOp.mv (Opd.t 16)) none]
      [15, 16])))
      (IC.ops false [] [11, 12, 13, 14, 17, 18, 19, 20, 21, 22, 23, 24, 25, 15, 16]))))
      (IC.ops false [] [11, 12, 13, 14, 17, 18, 19, 20, 21, 22, 23, 24, 25, 15, 16])))
      (IC.seq (IC.ops false [IOper.mk (some 4) (IOp.mv (Opd.c (AV.bool true))) none] []) IC.ret))))
  none
theorem fn_r36_Same : F 11 = some ir_r36_Same := by kernel_rfl

def ir_trace_Count : IFun :=
  IFun.mk false 2 [IRes.tmp 4]
  (IC.seq
    (IC.ops false
      [IOper.mk (some 3) (IOp.box 1 (Opd.t 1)) none,
      IOper.mk (some 4) (IOp.mv (Opd.c (AV.int IntKind.i64 0))) none]
      [])
    (IC.seq
      (IC.ops false
      [IOper.mk (some 5) (IOp.mv (Opd.t 0)) none, IOper.mk (some 6) (IOp.mkfn (Fn.func 29) [] [Opd.t 3]) none,
      IOper.mk (some 7) (IOp.call (Opd.c (AV.func (Fn.func 28) [] [])) [Opd.t 5, Opd.t 6]) none,
      IOper.mk (some 8) (IOp.len (Opd.t 7)) none, IOper.mk (some 4) (IOp.mv (Opd.t 8)) none]
      [5, 6, 7, 8])
      IC.ret))
  none
theorem fn_trace_Count : F 12 = some ir_trace_Count := by kernel_rfl

def ir_trace_Of : IFun :=
  IFun.mk false 2 [IRes.tmp 4]
  (IC.seq
    (IC.ops false
      [IOper.mk (some 3) (IOp.box 1 (Opd.t 1)) none,
      IOper.mk (some 4) (IOp.mv (Opd.c (AV.imm true 0 0 (some 0) []))) none]
      [])
    (IC.seq
      (IC.ops false
      [IOper.mk (some 5) (IOp.mv (Opd.t 0)) none, IOper.mk (some 6) (IOp.mkfn (Fn.func 30) [] [Opd.t 3]) none,
      IOper.mk (some 7) (IOp.call (Opd.c (AV.func (Fn.func 28) [] [])) [Opd.t 5, Opd.t 6]) none,
      IOper.mk (some 4) (IOp.mv (Opd.t 7)) none]
      [5, 6, 7])
      IC.ret))
  none
theorem fn_trace_Of : F 13 = some ir_trace_Of := by kernel_rfl

def ir_trace_At : IFun :=
  IFun.mk false 2 [IRes.tmp 4]
  (IC.seq
    (IC.ops false
      [IOper.mk (some 3) (IOp.box 1 (Opd.t 1)) none,
      IOper.mk (some 4) (IOp.mv (Opd.c (AV.imm true 0 0 (some 0) []))) none]
      [])
    (IC.seq
      (IC.ops false
      [IOper.mk (some 5) (IOp.mv (Opd.t 0)) none, IOper.mk (some 6) (IOp.mkfn (Fn.func 31) [] [Opd.t 3]) none,
      IOper.mk (some 7) (IOp.call (Opd.c (AV.func (Fn.func 28) [] [])) [Opd.t 5, Opd.t 6]) none,
      IOper.mk (some 4) (IOp.mv (Opd.t 7)) none]
      [5, 6, 7])
      IC.ret))
  none
theorem fn_trace_At : F 14 = some ir_trace_At := by kernel_rfl

def ir_r09_Same : IFun :=
  IFun.mk false 2 [IRes.tmp 4]
  (IC.seq (IC.ops false [IOper.mk (some 4) (IOp.mv (Opd.c (AV.bool false))) none] [])
    (IC.seq
      (IC.seq
      (IC.ops false
      [IOper.mk (some 6) (IOp.mv (Opd.t 0)) none, IOper.mk (some 7) (IOp.len (Opd.t 6)) none,
      IOper.mk (some 8) (IOp.mv (Opd.t 1)) none, IOper.mk (some 9) (IOp.len (Opd.t 8)) none,
      IOper.mk (some 10) (IOp.bin BinOp.neq (Opd.t 7) (Opd.t 9)) none]
      [6, 7, 8, 9])
      (IC.cond (Opd.t 10) (IC.seq (IC.ops false [IOper.mk (some 4) (IOp.mv (Opd.c (AV.bool false))) none] []) IC.ret)
      IC.nop))
      (IC.seq
      (IC.seq (IC.ops false [IOper.mk (some 5) (IOp.mv (Opd.c (AV.int IntKind.i64 0))) none] [])
      (IC.seq
      (IC.block 0
      (IC.loop
      (IC.seq
      (IC.seq
      (IC.seq
      (IC.ops false
      [IOper.mk (some 11) (IOp.mv (Opd.t 5)) none, IOper.mk (some 12) (IOp.mv (Opd.t 0)) none,
      IOper.mk (some 13) (IOp.len (Opd.t 12)) none,
      IOper.mk (some 14) (IOp.bin BinOp.lss (Opd.t 11) (Opd.t 13)) none]
      [11, 12, 13])
      (IC.cond (Opd.t 14) IC.nop (IC.exit 0)))
      (IC.seq
      (IC.seq
      (IC.block 1
      (IC.seq
      (IC.ops true
      [IOper.mk (some 17) (IOp.mv (Opd.t 0)) none, IOper.mk (some 18) (IOp.mv (Opd.t 5)) none,
      IOper.mk (some 19) (IOp.ixa 1 (Opd.t 17) (Opd.t 18)) none,
      IOper.mk (some 20) (IOp.load none (Opd.t 19)) none,
      IOper.mk (some 21) (IOp.mv (Opd.t 1)) none, IOper.mk (some 22) (IOp.mv (Opd.t 5)) none,
      IOper.mk (some 23) (IOp.ixa 1 (Opd.t 21) (Opd.t 22)) none,
      IOper.mk (some 24) (IOp.load none (Opd.t 23)) none,
      IOper.mk (some 25) (IOp.bin BinOp.neq (Opd.t 20) (Opd.t 24)) none]
      [17, 18, 19, 20, 21, 22, 23, 24])
      (IC.cond (Opd.t 25)
      (IC.seq (IC.ops false [IOper.mk (some 4) (IOp.mv (Opd.c (AV.bool false))) none] [])
      IC.ret)
      IC.nop)))
      (IC.ops false [] [17, 18, 19, 20, 21, 22, 23, 24, 25]))
      (IC.ops false
      [IOper.mk (some 15) (IOp.mv (Opd.t 5)) none,
      IOper.mk (some 16) (IOp.bin BinOp.add (Opd.t 15) (Opd.c (AV.int IntKind.i64 1)))
      none,
      IOper.mk (some 5) (IOp.mv (Opd.t 16)) none]
      [15, 16])))
      (IC.ops false [] [11, 12, 13, 14, 17, 18, 19, 20, 21, 22, 23, 24, 25, 15, 16]))))
      (IC.ops false [] [11, 12, 13, 14, 17, 18, 19, 20, 21, 22, 23, 24, 25, 15, 16])))
      (IC.seq (IC.ops false [IOper.mk (some 4) (IOp.mv (Opd.c (AV.bool true))) none] []) IC.ret))))
  none
theorem fn_r09_Same : F 15 = some ir_r09_Same := by kernel_rfl

def ir_trace_Rounds : IFun :=
  IFun.mk false 2 [IRes.tmp 4]
  (IC.seq (IC.ops false [IOper.mk (some 4) (IOp.mv (Opd.c (AV.imm true 0 0 (some 0) []))) none] [])
    (IC.seq (IC.ops false [IOper.mk (some 5) (IOp.mv (Opd.c (AV.imm true 0 0 (some 0) []))) none] [])
      (IC.seq (IC.ops false [IOper.mk (some 6) (IOp.mv (Opd.c (AV.int IntKind.i64 0))) none] [])
      (IC.seq
      (IC.seq
      (IC.ops false
      [IOper.mk (some 9) (IOp.mv (Opd.t 0)) none, IOper.mk (some 10) (IOp.mv (Opd.t 1)) none,
      IOper.mk (some 11) (IOp.callp 13 [Opd.t 9, Opd.t 10]) none,
      IOper.mk (some 12) (IOp.len (Opd.t 11)) none,
      IOper.mk (some 13) (IOp.mv (Opd.c (AV.int IntKind.i64 0))) none]
      [9, 10])
      (IC.seq
      (IC.block 0
      (IC.loop
      (IC.seq
      (IC.seq (IC.ops false [IOper.mk (some 14) (IOp.bin BinOp.lss (Opd.t 13) (Opd.t 12)) none] [])
      (IC.seq (IC.cond (Opd.t 14) IC.nop (IC.exit 0))
      (IC.seq
      (IC.seq
      (IC.block 1
      (IC.seq
      (IC.ops false
      [IOper.mk (some 15) (IOp.ixa 5 (Opd.t 11) (Opd.t 13)) none,
      IOper.mk (some 16) (IOp.load (some 5) (Opd.t 15)) none,
      IOper.mk (some 8)
      (IOp.alloc
      [AV.int IntKind.i64 0, AV.int IntKind.u8 0,
      AV.int IntKind.i64 0, AV.int IntKind.i64 0,
      AV.int IntKind.i64 0])
      none,
      IOper.mk none (IOp.store 5 (Opd.t 8) (Opd.t 16)) none]
      [15, 16])
      (IC.seq
      (IC.seq
      (IC.block 2
      (IC.seq
      (IC.ops false
      [IOper.mk (some 18) (IOp.faddr 1 (Opd.t 8)) none,
      IOper.mk (some 19) (IOp.load none (Opd.t 18)) none,
      IOper.mk (some 20)
      (IOp.bin BinOp.eql (Opd.t 19) (Opd.c (AV.int IntKind.u8 1)))
      none,
      IOper.mk (some 17) (IOp.mv (Opd.t 20)) none]
      [18, 19, 20])
      (IC.cond (Opd.t 17)
      (IC.ops false
      [IOper.mk (some 6) (IOp.mv (Opd.c (AV.int IntKind.i64 1))) none]
      [])
      (IC.seq
      (IC.ops false
      [IOper.mk (some 22) (IOp.mv (Opd.t 6)) none,
      IOper.mk (some 23)
      (IOp.bin BinOp.gtr (Opd.t 22)
      (Opd.c (AV.int IntKind.i64 0)))
      none,
      IOper.mk (some 21) (IOp.mv (Opd.t 23)) none]
      [22, 23])
      (IC.cond (Opd.t 21)
      (IC.ops false
      [IOper.mk (some 24) (IOp.mv (Opd.t 6)) none,
      IOper.mk (some 25)
      (IOp.bin BinOp.add (Opd.t 24)
      (Opd.c (AV.int IntKind.i64 1)))
      none,
      IOper.mk (some 6) (IOp.mv (Opd.t 25)) none]
      [24, 25])
      IC.nop)))))
      (IC.ops false [] [18, 19, 20, 17, 22, 23, 21, 24, 25]))
      (IC.seq
      (IC.ops false
      [IOper.mk (some 26) (IOp.faddr 1 (Opd.t 8)) none,
      IOper.mk (some 27) (IOp.load none (Opd.t 26)) none,
      IOper.mk (some 28)
      (IOp.bin BinOp.eql (Opd.t 27) (Opd.c (AV.int IntKind.u8 16)))
      none,
      IOper.mk (some 29) (IOp.mv (Opd.t 28)) none,
      IOper.mk (some 30) (IOp.mv (Opd.t 6)) (some (29, true)),
      IOper.mk (some 31)
      (IOp.bin BinOp.gtr (Opd.t 30) (Opd.c (AV.int IntKind.i64 0)))
      (some (29, true)),
      IOper.mk (some 32) (IOp.pick (Opd.t 29) (Opd.t 31) (Opd.c (AV.bool false)))
      none]
      [26, 27, 28, 29, 30, 31])
      (IC.cond (Opd.t 32)
      (IC.seq
      (IC.ops false
      [IOper.mk (some 33) (IOp.mv (Opd.t 5)) none,
      IOper.mk (some 34) (IOp.mv (Opd.t 6)) none,
      IOper.mk (some 35)
      (IOp.bsl false 1 1 [AV.int IntKind.i64 0] [(0, 1, Opd.t 34)])
      none,
      IOper.mk (some 36) (IOp.append 1 8 (Opd.t 33) (Opd.t 35)) none,
      IOper.mk (some 5) (IOp.mv (Opd.t 36)) none]
      [33, 34, 35, 36])
      (IC.ops false
      [IOper.mk (some 6) (IOp.mv (Opd.c (AV.int IntKind.i64 0))) none]
      []))
      IC.nop)))))
      (IC.ops false []
      [15, 16, 8, 18, 19, 20, 17, 22, 23, 21, 24, 25, 26, 27, 28, 29, 30, 31, 32, 33, 34, 35,
      36]))
      (IC.ops false
      [IOper.mk (some 37)
      (IOp.bin BinOp.add (Opd.t 13) (Opd.c (AV.int IntKind.i64 1))) none,
      IOper.mk (some 13) (IOp.mv (Opd.t 37)) none]
      [37]))))
      (IC.ops false []
      [14, 15, 16, 8, 18, 19, 20, 17, 22, 23, 21, 24, 25, 26, 27, 28, 29, 30, 31, 32, 33, 34, 35, 36,
      37]))))
      (IC.ops false []
      [14, 15, 16, 8, 18, 19, 20, 17, 22, 23, 21, 24, 25, 26, 27, 28, 29, 30, 31, 32, 33, 34, 35, 36, 37])))
      (IC.seq
      (IC.ops false [IOper.mk (some 38) (IOp.mv (Opd.t 5)) none, IOper.mk (some 4) (IOp.mv (Opd.t 38)) none] [38])
      IC.ret)))))
  none
theorem fn_trace_Rounds : F 16 = some ir_trace_Rounds := by kernel_rfl

def ir_r36_Rounds : IFun :=
  IFun.mk false 2 [IRes.tmp 4]
  (IC.seq (IC.ops false [IOper.mk (some 4) (IOp.mv (Opd.c (AV.imm true 0 0 (some 0) []))) none] [])
    (IC.seq
      (IC.ops false
      [IOper.mk (some 9) (IOp.bsl false 1 0 [AV.int IntKind.i64 0] []) none,
      IOper.mk (some 5) (IOp.mv (Opd.t 9)) none]
      [9])
      (IC.seq (IC.ops false [IOper.mk (some 6) (IOp.mv (Opd.c (AV.bool false))) none] [])
      (IC.seq (IC.ops false [IOper.mk (some 7) (IOp.mv (Opd.c (AV.int IntKind.i64 0))) none] [])
      (IC.seq
      (IC.seq (IC.ops false [IOper.mk (some 8) (IOp.mv (Opd.c (AV.int IntKind.i64 0))) none] [])
      (IC.seq
      (IC.block 0
      (IC.loop
      (IC.seq
      (IC.seq
      (IC.seq
      (IC.ops false
      [IOper.mk (some 10) (IOp.mv (Opd.t 8)) none, IOper.mk (some 11) (IOp.mv (Opd.t 0)) none,
      IOper.mk (some 12) (IOp.len (Opd.t 11)) none,
      IOper.mk (some 13) (IOp.bin BinOp.lss (Opd.t 10) (Opd.t 12)) none]
      [10, 11, 12])
      (IC.cond (Opd.t 13) IC.nop (IC.exit 0)))
      (IC.seq
      (IC.seq
      (IC.block 1
      (IC.seq
      (IC.seq
      (IC.ops false
      [IOper.mk (some 16) (IOp.mv (Opd.t 0)) none,
      IOper.mk (some 17) (IOp.mv (Opd.t 8)) none,
      IOper.mk (some 18) (IOp.ixa 5 (Opd.t 16) (Opd.t 17)) none,
      IOper.mk (some 19) (IOp.faddr 0 (Opd.t 18)) none,
      IOper.mk (some 20) (IOp.load none (Opd.t 19)) none,
      IOper.mk (some 21) (IOp.mv (Opd.t 1)) none,
      IOper.mk (some 22) (IOp.bin BinOp.neq (Opd.t 20) (Opd.t 21)) none]
      [16, 17, 18, 19, 20, 21])
      (IC.cond (Opd.t 22) (IC.exit 1) IC.nop))
      (IC.seq
      (IC.seq
      (IC.ops false
      [IOper.mk (some 23) (IOp.mv (Opd.t 0)) none,
      IOper.mk (some 24) (IOp.mv (Opd.t 8)) none,
      IOper.mk (some 25) (IOp.ixa 5 (Opd.t 23) (Opd.t 24)) none,
      IOper.mk (some 26) (IOp.faddr 1 (Opd.t 25)) none,
      IOper.mk (some 27) (IOp.load none (Opd.t 26)) none,
      IOper.mk (some 28)
      (IOp.bin BinOp.eql (Opd.t 27) (Opd.c (AV.int IntKind.u8 1))) none]
      [23, 24, 25, 26, 27])
      (IC.cond (Opd.t 28)
      (IC.seq (IC.ops false [IOper.mk (some 6) (IOp.mv (Opd.c (AV.bool true))) none] [])
      (IC.ops false
      [IOper.mk (some 7) (IOp.mv (Opd.c (AV.int IntKind.i64 0))) none]
      []))
      IC.nop))
      (IC.seq
      (IC.ops false
      [IOper.mk (some 29) (IOp.mv (Opd.t 7)) none,
      IOper.mk (some 30)
      (IOp.bin BinOp.add (Opd.t 29) (Opd.c (AV.int IntKind.i64 1)))
      none,
      IOper.mk (some 7) (IOp.mv (Opd.t 30)) none]
      [29, 30])
      (IC.seq
      (IC.ops false
      [IOper.mk (some 31) (IOp.mv (Opd.t 6)) none,
      IOper.mk (some 32) (IOp.mv (Opd.t 31)) none,
      IOper.mk (some 33) (IOp.mv (Opd.t 0)) (some (32, true)),
      IOper.mk (some 34) (IOp.mv (Opd.t 8)) (some (32, true)),
      IOper.mk (some 35) (IOp.ixa 5 (Opd.t 33) (Opd.t 34)) (some (32, true)),
      IOper.mk (some 36) (IOp.faddr 1 (Opd.t 35)) (some (32, true)),
      IOper.mk (some 37) (IOp.load none (Opd.t 36)) (some (32, true)),
      IOper.mk (some 38)
      (IOp.bin BinOp.eql (Opd.t 37) (Opd.c (AV.int IntKind.u8 16)))
      (some (32, true)),
      IOper.mk (some 39) (IOp.pick (Opd.t 32) (Opd.t 38) (Opd.c (AV.bool false)))
      none]
      [31, 32, 33, 34, 35, 36, 37, 38])
      (IC.cond (Opd.t 39)
      (IC.seq
      (IC.ops false
      [IOper.mk (some 40) (IOp.mv (Opd.t 5)) none,
      IOper.mk (some 41) (IOp.mv (Opd.t 7)) none,
      IOper.mk (some 42)
      (IOp.bsl false 1 1 [AV.int IntKind.i64 0]
      [(0, 1, Opd.t 41)])
      none,
      IOper.mk (some 43) (IOp.append 1 8 (Opd.t 40) (Opd.t 42)) none,
      IOper.mk (some 5) (IOp.mv (Opd.t 43)) none]
      [40, 41, 42, 43])
      (IC.ops false [IOper.mk (some 6) (IOp.mv (Opd.c (AV.bool false))) none] []))
      IC.nop))))))
      (IC.ops false []
      [16, 17, 18, 19, 20, 21, 22, 23, 24, 25, 26, 27, 28, 29, 30, 31, 32, 33, 34, 35, 36, 37,
      38, 39, 40, 41, 42, 43]))
      (IC.ops false
      [IOper.mk (some 14) (IOp.mv (Opd.t 8)) none,
      IOper.mk (some 15)
      (IOp.bin BinOp.add (Opd.t 14) (Opd.c (AV.int IntKind.i64 1))) none,
      IOper.mk (some 8) (IOp.mv (Opd.t 15)) none]
      [14, 15])))
      (IC.ops false []
      [10, 11, 12, 13, 16, 17, 18, 19, 20, 21, 22, 23, 24, 25, 26, 27, 28, 29, 30, 31, 32, 33, 34, 35,
      36, 37, 38, 39, 40, 41, 42, 43, 14, 15]))))
      (IC.ops false []
      [10, 11, 12, 13, 16, 17, 18, 19, 20, 21, 22, 23, 24, 25, 26, 27, 28, 29, 30, 31, 32, 33, 34, 35, 36,
      37, 38, 39, 40, 41, 42, 43, 14, 15])))
      (IC.seq
      (IC.ops false [IOper.mk (some 44) (IOp.mv (Opd.t 5)) none, IOper.mk (some 4) (IOp.mv (Opd.t 44)) none]
      [44])
      IC.ret))))))
  none
theorem fn_r36_Rounds : F 17 = some ir_r36_Rounds := by kernel_rfl

def ir_trace_Word : IFun :=
  IFun.mk false 1 [IRes.tmp 2]
  (IC.seq (IC.ops false [IOper.mk (some 2) (IOp.mv (Opd.c (AV.str []))) none] [])
    (IC.seq
      (IC.seq (IC.ops false [IOper.mk (some 4) (IOp.callp 32 []) none, IOper.mk (some 3) (IOp.mv (Opd.t 4)) none] [4])
      (IC.seq
      (IC.ops false
      [IOper.mk (some 5) (IOp.mv (Opd.t 0)) none, IOper.mk (some 6) (IOp.conv IntKind.i64 (Opd.t 5)) none,
      IOper.mk (some 7) (IOp.mv (Opd.t 3)) none, IOper.mk (some 8) (IOp.len (Opd.t 7)) none,
      IOper.mk (some 9) (IOp.bin BinOp.lss (Opd.t 6) (Opd.t 8)) none]
      [5, 6, 7, 8])
      (IC.cond (Opd.t 9)
      (IC.seq
      (IC.ops false
      [IOper.mk (some 10) (IOp.mv (Opd.t 3)) none, IOper.mk (some 11) (IOp.mv (Opd.t 0)) none,
      IOper.mk (some 12) (IOp.ixa 1 (Opd.t 10) (Opd.t 11)) none,
      IOper.mk (some 13) (IOp.load none (Opd.t 12)) none, IOper.mk (some 2) (IOp.mv (Opd.t 13)) none]
      [10, 11, 12, 13])
      IC.ret)
      IC.nop)))
      (IC.seq (IC.ops false [IOper.mk (some 2) (IOp.mv (Opd.c (AV.str []))) none] []) IC.ret)))
  none
theorem fn_trace_Word : F 18 = some ir_trace_Word := by kernel_rfl

def ir_r36_Word : IFun :=
  IFun.mk false 1 [IRes.tmp 2]
  (IC.seq (IC.ops false [IOper.mk (some 2) (IOp.mv (Opd.c (AV.str []))) none] [])
    (IC.seq
      (IC.ops false
      [IOper.mk (some 4)
      (IOp.build
      [AV.str [], AV.str [], AV.str [], AV.str [], AV.str [], AV.str [], AV.str [], AV.str [], AV.str [],
      AV.str [], AV.str [], AV.str [], AV.str [], AV.str [], AV.str [], AV.str [], AV.str []]
      [(0, 1, Opd.c (AV.str [UInt8.ofNat 110, UInt8.ofNat 111, UInt8.ofNat 110, UInt8.ofNat 101])),
      (1, 1,
      Opd.c (AV.str [UInt8.ofNat 98, UInt8.ofNat 101, UInt8.ofNat 103, UInt8.ofNat 117, UInt8.ofNat 110])),
      (2, 1, Opd.c (AV.str [UInt8.ofNat 114, UInt8.ofNat 101, UInt8.ofNat 97, UInt8.ofNat 100])),
      (3, 1, Opd.c (AV.str [UInt8.ofNat 104, UInt8.ofNat 101, UInt8.ofNat 108, UInt8.ofNat 100])),
      (4, 1,
      Opd.c
      (AV.str
      [UInt8.ofNat 98, UInt8.ofNat 108, UInt8.ofNat 111, UInt8.ofNat 99, UInt8.ofNat 107,
      UInt8.ofNat 101, UInt8.ofNat 100])),
      (5, 1,
      Opd.c (AV.str [UInt8.ofNat 102, UInt8.ofNat 114, UInt8.ofNat 101, UInt8.ofNat 101, UInt8.ofNat 100])),
      (6, 1,
      Opd.c
      (AV.str
      [UInt8.ofNat 98, UInt8.ofNat 117, UInt8.ofNat 109, UInt8.ofNat 112, UInt8.ofNat 101,
      UInt8.ofNat 100])),
      (7, 1,
      Opd.c
      (AV.str
      [UInt8.ofNat 102, UInt8.ofNat 97, UInt8.ofNat 105, UInt8.ofNat 108, UInt8.ofNat 101,
      UInt8.ofNat 100])),
      (8, 1,
      Opd.c
      (AV.str
      [UInt8.ofNat 112, UInt8.ofNat 111, UInt8.ofNat 117, UInt8.ofNat 114, UInt8.ofNat 101,
      UInt8.ofNat 100])),
      (9, 1, Opd.c (AV.str [UInt8.ofNat 99, UInt8.ofNat 117, UInt8.ofNat 116])),
      (10, 1,
      Opd.c (AV.str [UInt8.ofNat 103, UInt8.ofNat 114, UInt8.ofNat 111, UInt8.ofNat 119, UInt8.ofNat 110])),
      (11, 1,
      Opd.c
      (AV.str
      [UInt8.ofNat 119, UInt8.ofNat 101, UInt8.ofNat 108, UInt8.ofNat 100, UInt8.ofNat 101,
      UInt8.ofNat 100])),
      (12, 1,
      Opd.c
      (AV.str
      [UInt8.ofNat 115, UInt8.ofNat 104, UInt8.ofNat 97, UInt8.ofNat 114, UInt8.ofNat 101,
      UInt8.ofNat 100])),
      (13, 1, Opd.c (AV.str [UInt8.ofNat 115, UInt8.ofNat 117, UInt8.ofNat 110, UInt8.ofNat 107])),
      (14, 1, Opd.c (AV.str [UInt8.ofNat 115, UInt8.ofNat 101, UInt8.ofNat 110, UInt8.ofNat 116])),
      (15, 1,
      Opd.c
      (AV.str
      [UInt8.ofNat 99, UInt8.ofNat 104, UInt8.ofNat 101, UInt8.ofNat 99, UInt8.ofNat 107,
      UInt8.ofNat 101, UInt8.ofNat 100])),
      (16, 1,
      Opd.c
      (AV.str
      [UInt8.ofNat 97, UInt8.ofNat 110, UInt8.ofNat 115, UInt8.ofNat 119, UInt8.ofNat 101,
      UInt8.ofNat 114, UInt8.ofNat 101, UInt8.ofNat 100]))])
      none,
      IOper.mk (some 3)
      (IOp.alloc
      [AV.str [], AV.str [], AV.str [], AV.str [], AV.str [], AV.str [], AV.str [], AV.str [], AV.str [],
      AV.str [], AV.str [], AV.str [], AV.str [], AV.str [], AV.str [], AV.str [], AV.str []])
      none,
      IOper.mk none (IOp.store 17 (Opd.t 3) (Opd.t 4)) none]
      [4])
      (IC.seq
      (IC.seq
      (IC.ops false
      [IOper.mk (some 5) (IOp.mv (Opd.t 0)) none, IOper.mk (some 6) (IOp.conv IntKind.i64 (Opd.t 5)) none,
      IOper.mk (some 7) (IOp.bin BinOp.geq (Opd.t 6) (Opd.c (AV.int IntKind.i64 17))) none]
      [5, 6])
      (IC.cond (Opd.t 7) (IC.seq (IC.ops false [IOper.mk (some 2) (IOp.mv (Opd.c (AV.str []))) none] []) IC.ret)
      IC.nop))
      (IC.seq
      (IC.ops false
      [IOper.mk (some 8) (IOp.mv (Opd.t 0)) none, IOper.mk (some 9) (IOp.ixaa 17 1 (Opd.t 3) (Opd.t 8)) none,
      IOper.mk (some 10) (IOp.load none (Opd.t 9)) none, IOper.mk (some 2) (IOp.mv (Opd.t 10)) none]
      [8, 9, 10])
      IC.ret))))
  none
theorem fn_r36_Word : F 19 = some ir_r36_Word := by kernel_rfl

def ir_trace_line : IFun :=
  IFun.mk false 1 [IRes.tmp 2, IRes.tmp 3]
  (IC.seq
    (IC.ops false
      [IOper.mk (some 1) (IOp.box 5 (Opd.t 0)) none, IOper.mk (some 2) (IOp.mv (Opd.c (AV.str []))) none,
      IOper.mk (some 3) (IOp.mv (Opd.c (AV.bool false))) none]
      [])
    (IC.seq
      (IC.ops false
      [IOper.mk (some 5) (IOp.faddr 1 (Opd.t 1)) none, IOper.mk (some 6) (IOp.load none (Opd.t 5)) none,
      IOper.mk (some 7) (IOp.callp 18 [Opd.t 6]) none, IOper.mk (some 4) (IOp.mv (Opd.t 7)) none]
      [5, 6, 7])
      (IC.seq
      (IC.seq
      (IC.ops false
      [IOper.mk (some 8) (IOp.mv (Opd.t 4)) none,
      IOper.mk (some 9) (IOp.bin BinOp.eql (Opd.t 8) (Opd.c (AV.str []))) none,
      IOper.mk (some 10) (IOp.mv (Opd.t 9)) none, IOper.mk (some 11) (IOp.faddr 0 (Opd.t 1)) (some (10, false)),
      IOper.mk (some 12) (IOp.load none (Opd.t 11)) (some (10, false)),
      IOper.mk (some 13) (IOp.callp 33 [Opd.t 12, Opd.c (AV.int IntKind.i64 2147483647)])
      (some (10, false)),
      IOper.mk (some 14) (IOp.not (Opd.t 13)) (some (10, false)),
      IOper.mk (some 15) (IOp.pick (Opd.t 10) (Opd.c (AV.bool true)) (Opd.t 14)) none,
      IOper.mk (some 16) (IOp.mv (Opd.t 15)) none,
      IOper.mk (some 17) (IOp.faddr 2 (Opd.t 1)) (some (16, false)),
      IOper.mk (some 18) (IOp.load none (Opd.t 17)) (some (16, false)),
      IOper.mk (some 19) (IOp.callp 33 [Opd.t 18, Opd.c (AV.int IntKind.i64 2147483647)])
      (some (16, false)),
      IOper.mk (some 20) (IOp.not (Opd.t 19)) (some (16, false)),
      IOper.mk (some 21) (IOp.pick (Opd.t 16) (Opd.c (AV.bool true)) (Opd.t 20)) none,
      IOper.mk (some 22) (IOp.mv (Opd.t 21)) none,
      IOper.mk (some 23) (IOp.faddr 3 (Opd.t 1)) (some (22, false)),
      IOper.mk (some 24) (IOp.load none (Opd.t 23)) (some (22, false)),
      IOper.mk (some 25) (IOp.callp 33 [Opd.t 24, Opd.c (AV.int IntKind.i64 1099511627776)])
      (some (22, false)),
      IOper.mk (some 26) (IOp.not (Opd.t 25)) (some (22, false)),
      IOper.mk (some 27) (IOp.pick (Opd.t 22) (Opd.c (AV.bool true)) (Opd.t 26)) none,
      IOper.mk (some 28) (IOp.mv (Opd.t 27)) none,
      IOper.mk (some 29) (IOp.faddr 4 (Opd.t 1)) (some (28, false)),
      IOper.mk (some 30) (IOp.load none (Opd.t 29)) (some (28, false)),
      IOper.mk (some 31) (IOp.callp 33 [Opd.t 30, Opd.c (AV.int IntKind.i64 2147483647)])
      (some (28, false)),
      IOper.mk (some 32) (IOp.not (Opd.t 31)) (some (28, false)),
      IOper.mk (some 33) (IOp.pick (Opd.t 28) (Opd.c (AV.bool true)) (Opd.t 32)) none]
      [8, 9, 10, 11, 12, 13, 14, 15, 16, 17, 18, 19, 20, 21, 22, 23, 24, 25, 26, 27, 28, 29, 30, 31, 32])
      (IC.cond (Opd.t 33)
      (IC.seq
      (IC.ops false
      [IOper.mk (some 2) (IOp.mv (Opd.c (AV.str []))) none,
      IOper.mk (some 3) (IOp.mv (Opd.c (AV.bool false))) none]
      [])
      IC.ret)
      IC.nop))
      (IC.seq
      (IC.ops true
      [IOper.mk (some 34) (IOp.faddr 0 (Opd.t 1)) none, IOper.mk (some 35) (IOp.load none (Opd.t 34)) none,
      IOper.mk (some 36) (IOp.callp 35 [Opd.t 35]) none, IOper.mk (some 37) (IOp.mv (Opd.t 4)) none,
      IOper.mk (some 38) (IOp.faddr 2 (Opd.t 1)) none, IOper.mk (some 39) (IOp.load none (Opd.t 38)) none,
      IOper.mk (some 40) (IOp.callp 35 [Opd.t 39]) none, IOper.mk (some 41) (IOp.faddr 3 (Opd.t 1)) none,
      IOper.mk (some 42) (IOp.load none (Opd.t 41)) none, IOper.mk (some 43) (IOp.callp 35 [Opd.t 42]) none,
      IOper.mk (some 44) (IOp.faddr 4 (Opd.t 1)) none, IOper.mk (some 45) (IOp.load none (Opd.t 44)) none,
      IOper.mk (some 46) (IOp.callp 35 [Opd.t 45]) none,
      IOper.mk (some 47)
      (IOp.bsl false 1 5 [AV.str []]
      [(0, 1, Opd.t 36), (1, 1, Opd.t 37), (2, 1, Opd.t 40), (3, 1, Opd.t 43), (4, 1, Opd.t 46)])
      none,
      IOper.mk (some 48) (IOp.callp 34 [Opd.t 47, Opd.c (AV.str [UInt8.ofNat 32])]) none,
      IOper.mk (some 49) (IOp.bin BinOp.add (Opd.t 48) (Opd.c (AV.str [UInt8.ofNat 10]))) none,
      IOper.mk (some 2) (IOp.mv (Opd.t 49)) none, IOper.mk (some 3) (IOp.mv (Opd.c (AV.bool true))) none]
      [34, 35, 36, 37, 38, 39, 40, 41, 42, 43, 44, 45, 46, 47, 48, 49])
      IC.ret))))
  none
theorem fn_trace_line : F 20 = some ir_trace_line := by kernel_rfl

def ir_r36_in : IFun :=
  IFun.mk false 2 [IRes.tmp 4]
  (IC.seq (IC.ops false [IOper.mk (some 4) (IOp.mv (Opd.c (AV.bool false))) none] [])
    (IC.seq
      (IC.ops false
      [IOper.mk (some 5) (IOp.mv (Opd.t 0)) none,
      IOper.mk (some 6) (IOp.bin BinOp.geq (Opd.t 5) (Opd.c (AV.int IntKind.i64 0))) none,
      IOper.mk (some 7) (IOp.mv (Opd.t 6)) none, IOper.mk (some 8) (IOp.mv (Opd.t 0)) (some (7, true)),
      IOper.mk (some 9) (IOp.mv (Opd.t 1)) (some (7, true)),
      IOper.mk (some 10) (IOp.bin BinOp.leq (Opd.t 8) (Opd.t 9)) (some (7, true)),
      IOper.mk (some 11) (IOp.pick (Opd.t 7) (Opd.t 10) (Opd.c (AV.bool false))) none,
      IOper.mk (some 4) (IOp.mv (Opd.t 11)) none]
      [5, 6, 7, 8, 9, 10, 11])
      IC.ret))
  none
theorem fn_r36_in : F 23 = some ir_r36_in := by kernel_rfl

def ir_r36_number : IFun :=
  IFun.mk false 1 [IRes.tmp 2]
  (IC.seq (IC.ops false [IOper.mk (some 2) (IOp.mv (Opd.c (AV.str []))) none] [])
    (IC.seq
      (IC.seq
      (IC.ops false
      [IOper.mk (some 3) (IOp.mv (Opd.t 0)) none,
      IOper.mk (some 4) (IOp.bin BinOp.lss (Opd.t 3) (Opd.c (AV.int IntKind.i64 10))) none]
      [3])
      (IC.cond (Opd.t 4)
      (IC.seq
      (IC.ops false
      [IOper.mk (some 5) (IOp.mv (Opd.t 0)) none,
      IOper.mk (some 6) (IOp.bin BinOp.add (Opd.c (AV.int IntKind.i64 48)) (Opd.t 5)) none,
      IOper.mk (some 7) (IOp.conv IntKind.u8 (Opd.t 6)) none,
      IOper.mk (some 8) (IOp.bsl false 1 1 [AV.int IntKind.u8 0] [(0, 1, Opd.t 7)]) none,
      IOper.mk (some 9) (IOp.text (Opd.t 8)) none, IOper.mk (some 2) (IOp.mv (Opd.t 9)) none]
      [5, 6, 7, 8, 9])
      IC.ret)
      IC.nop))
      (IC.seq
      (IC.ops true
      [IOper.mk (some 10) (IOp.mv (Opd.t 0)) none,
      IOper.mk (some 11) (IOp.bin BinOp.quo (Opd.t 10) (Opd.c (AV.int IntKind.i64 10))) none,
      IOper.mk (some 12) (IOp.callp 24 [Opd.t 11]) none, IOper.mk (some 13) (IOp.mv (Opd.t 0)) none,
      IOper.mk (some 14) (IOp.bin BinOp.rem (Opd.t 13) (Opd.c (AV.int IntKind.i64 10))) none,
      IOper.mk (some 15) (IOp.bin BinOp.add (Opd.c (AV.int IntKind.i64 48)) (Opd.t 14)) none,
      IOper.mk (some 16) (IOp.conv IntKind.u8 (Opd.t 15)) none,
      IOper.mk (some 17) (IOp.bsl false 1 1 [AV.int IntKind.u8 0] [(0, 1, Opd.t 16)]) none,
      IOper.mk (some 18) (IOp.text (Opd.t 17)) none,
      IOper.mk (some 19) (IOp.bin BinOp.add (Opd.t 12) (Opd.t 18)) none,
      IOper.mk (some 2) (IOp.mv (Opd.t 19)) none]
      [10, 11, 12, 13, 14, 15, 16, 17, 18, 19])
      IC.ret)))
  none
theorem fn_r36_number : F 24 = some ir_r36_number := by kernel_rfl

def ir_trace_Held : IFun :=
  IFun.mk true 1 [IRes.tmp 2, IRes.tmp 3]
  (IC.seq
    (IC.ops false
      [IOper.mk (some 2) (IOp.mv (Opd.c AV.nilmap)) none,
      IOper.mk (some 3) (IOp.mv (Opd.c (AV.int IntKind.i64 0))) none]
      [])
    (IC.seq
      (IC.ops false
      [IOper.mk (some 7) IOp.mkmap none, IOper.mk (some 8) IOp.mkmap none,
      IOper.mk (some 9) (IOp.build [AV.nilmap, AV.nilmap] [(0, 1, Opd.t 7), (1, 1, Opd.t 8)]) none,
      IOper.mk (some 10) (IOp.box 2 (Opd.t 9)) none, IOper.mk (some 4) (IOp.mv (Opd.t 10)) none]
      [7, 8, 9, 10])
      (IC.seq
      (IC.seq
      (IC.ops false
      [IOper.mk (some 11) (IOp.mv (Opd.t 0)) none, IOper.mk (some 12) (IOp.len (Opd.t 11)) none,
      IOper.mk (some 13) (IOp.mv (Opd.c (AV.int IntKind.i64 0))) none]
      [])
      (IC.seq
      (IC.block 0
      (IC.loop
      (IC.seq
      (IC.seq (IC.ops false [IOper.mk (some 14) (IOp.bin BinOp.lss (Opd.t 13) (Opd.t 12)) none] [])
      (IC.seq (IC.cond (Opd.t 14) IC.nop (IC.exit 0))
      (IC.seq
      (IC.seq
      (IC.block 1
      (IC.seq
      (IC.ops false
      [IOper.mk (some 15) (IOp.mv (Opd.t 13)) none,
      IOper.mk (some 16) (IOp.ixa 5 (Opd.t 11) (Opd.t 13)) none,
      IOper.mk (some 17) (IOp.load (some 5) (Opd.t 16)) none,
      IOper.mk (some 6)
      (IOp.alloc
      [AV.int IntKind.i64 0, AV.int IntKind.u8 0,
      AV.int IntKind.i64 0, AV.int IntKind.i64 0,
      AV.int IntKind.i64 0])
      none,
      IOper.mk (some 5) (IOp.mv (Opd.t 15)) none,
      IOper.mk none (IOp.store 5 (Opd.t 6) (Opd.t 17)) none]
      [15, 16, 17])
      (IC.seq
      (IC.ops false
      [IOper.mk (some 18) (IOp.mv (Opd.t 4)) none,
      IOper.mk (some 19) (IOp.load (some 5) (Opd.t 6)) none,
      IOper.mk (some 20)
      (IOp.call (Opd.c (AV.func (Fn.func 37) [] [])) [Opd.t 18, Opd.t 19]) none,
      IOper.mk (some 21) (IOp.not (Opd.t 20)) none]
      [18, 19, 20])
      (IC.cond (Opd.t 21)
      (IC.seq
      (IC.ops false
      [IOper.mk (some 22) (IOp.mv (Opd.t 4)) none,
      IOper.mk (some 23) (IOp.nilck (Opd.t 22)) none,
      IOper.mk (some 24) (IOp.faddr 0 (Opd.t 23)) none,
      IOper.mk (some 25) (IOp.load none (Opd.t 24)) none,
      IOper.mk (some 26) (IOp.mv (Opd.t 5)) none,
      IOper.mk (some 27)
      (IOp.bin BinOp.add (Opd.t 26) (Opd.c (AV.int IntKind.i64 1)))
      none,
      IOper.mk (some 2) (IOp.mv (Opd.t 25)) none,
      IOper.mk (some 3) (IOp.mv (Opd.t 27)) none]
      [22, 23, 24, 25, 26, 27])
      IC.ret)
      IC.nop))))
      (IC.ops false [] [15, 16, 17, 6, 5, 18, 19, 20, 21, 22, 23, 24, 25, 26, 27]))
      (IC.ops false
      [IOper.mk (some 28) (IOp.bin BinOp.add (Opd.t 13) (Opd.c (AV.int IntKind.i64 1)))
      none,
      IOper.mk (some 13) (IOp.mv (Opd.t 28)) none]
      [28]))))
      (IC.ops false [] [14, 15, 16, 17, 6, 5, 18, 19, 20, 21, 22, 23, 24, 25, 26, 27, 28]))))
      (IC.ops false [] [14, 15, 16, 17, 6, 5, 18, 19, 20, 21, 22, 23, 24, 25, 26, 27, 28])))
      (IC.seq
      (IC.ops false
      [IOper.mk (some 29) (IOp.mv (Opd.t 4)) none, IOper.mk (some 30) (IOp.nilck (Opd.t 29)) none,
      IOper.mk (some 31) (IOp.faddr 0 (Opd.t 30)) none, IOper.mk (some 32) (IOp.load none (Opd.t 31)) none,
      IOper.mk (some 2) (IOp.mv (Opd.t 32)) none,
      IOper.mk (some 3) (IOp.mv (Opd.c (AV.int IntKind.i64 0))) none]
      [29, 30, 31, 32])
      IC.ret))))
  none
theorem fn_trace_Held : F 25 = some ir_trace_Held := by kernel_rfl

def ir_trace_move : IFun :=
  IFun.mk false 1 [IRes.cell 2 (some 5), IRes.tmp 3]
  (IC.seq
    (IC.ops false
      [IOper.mk (some 2)
      (IOp.alloc
      [AV.int IntKind.i64 0, AV.int IntKind.u8 0, AV.int IntKind.i64 0,
      AV.int IntKind.i64 0, AV.int IntKind.i64 0])
      none,
      IOper.mk (some 3) (IOp.mv (Opd.c (AV.bool false))) none]
      [])
    (IC.seq
      (IC.ops false
      [IOper.mk (some 14) (IOp.mv (Opd.t 0)) none,
      IOper.mk (some 15) (IOp.callp 39 [Opd.t 14, Opd.c (AV.str [UInt8.ofNat 32])]) none,
      IOper.mk (some 4) (IOp.mv (Opd.t 15)) none]
      [14, 15])
      (IC.seq
      (IC.seq
      (IC.ops false
      [IOper.mk (some 16) (IOp.mv (Opd.t 4)) none, IOper.mk (some 17) (IOp.len (Opd.t 16)) none,
      IOper.mk (some 18) (IOp.bin BinOp.neq (Opd.t 17) (Opd.c (AV.int IntKind.i64 5))) none]
      [16, 17])
      (IC.cond (Opd.t 18)
      (IC.seq
      (IC.ops false
      [IOper.mk (some 19)
      (IOp.build
      [AV.int IntKind.i64 0, AV.int IntKind.u8 0,
      AV.int IntKind.i64 0, AV.int IntKind.i64 0,
      AV.int IntKind.i64 0]
      [])
      none,
      IOper.mk none (IOp.store 5 (Opd.t 2) (Opd.t 19)) none,
      IOper.mk (some 3) (IOp.mv (Opd.c (AV.bool false))) none]
      [19])
      IC.ret)
      IC.nop))
      (IC.seq
      (IC.ops true
      [IOper.mk (some 20) (IOp.callp 32 []) none, IOper.mk (some 21) (IOp.mv (Opd.t 4)) none,
      IOper.mk (some 22) (IOp.ixa 1 (Opd.t 21) (Opd.c (AV.int IntKind.i64 1))) none,
      IOper.mk (some 23) (IOp.load none (Opd.t 22)) none,
      IOper.mk (some 24) (IOp.callp 40 [Opd.t 20, Opd.t 23]) none, IOper.mk (some 5) (IOp.mv (Opd.t 24)) none]
      [20, 21, 22, 23, 24])
      (IC.seq
      (IC.ops false
      [IOper.mk (some 26) (IOp.mv (Opd.t 4)) none,
      IOper.mk (some 27) (IOp.ixa 1 (Opd.t 26) (Opd.c (AV.int IntKind.i64 0))) none,
      IOper.mk (some 28) (IOp.load none (Opd.t 27)) none,
      IOper.mk (some 29) (IOp.callp 41 [Opd.t 28, Opd.c (AV.int IntKind.i64 2147483647)]) none,
      IOper.mk (some 25) (IOp.mv (Opd.t 29)) none, IOper.mk (some 30) (IOp.extr (Opd.t 25) 0) none,
      IOper.mk (some 31) (IOp.extr (Opd.t 25) 1) none, IOper.mk (some 6) (IOp.mv (Opd.t 30)) none,
      IOper.mk (some 7) (IOp.mv (Opd.t 31)) none]
      [26, 27, 28, 29, 25, 30, 31])
      (IC.seq
      (IC.ops false
      [IOper.mk (some 33) (IOp.mv (Opd.t 4)) none,
      IOper.mk (some 34) (IOp.ixa 1 (Opd.t 33) (Opd.c (AV.int IntKind.i64 2))) none,
      IOper.mk (some 35) (IOp.load none (Opd.t 34)) none,
      IOper.mk (some 36) (IOp.callp 41 [Opd.t 35, Opd.c (AV.int IntKind.i64 2147483647)]) none,
      IOper.mk (some 32) (IOp.mv (Opd.t 36)) none, IOper.mk (some 37) (IOp.extr (Opd.t 32) 0) none,
      IOper.mk (some 38) (IOp.extr (Opd.t 32) 1) none, IOper.mk (some 8) (IOp.mv (Opd.t 37)) none,
      IOper.mk (some 9) (IOp.mv (Opd.t 38)) none]
      [33, 34, 35, 36, 32, 37, 38])
      (IC.seq
      (IC.ops false
      [IOper.mk (some 40) (IOp.mv (Opd.t 4)) none,
      IOper.mk (some 41) (IOp.ixa 1 (Opd.t 40) (Opd.c (AV.int IntKind.i64 3))) none,
      IOper.mk (some 42) (IOp.load none (Opd.t 41)) none,
      IOper.mk (some 43) (IOp.callp 41 [Opd.t 42, Opd.c (AV.int IntKind.i64 1099511627776)])
      none,
      IOper.mk (some 39) (IOp.mv (Opd.t 43)) none, IOper.mk (some 44) (IOp.extr (Opd.t 39) 0) none,
      IOper.mk (some 45) (IOp.extr (Opd.t 39) 1) none, IOper.mk (some 10) (IOp.mv (Opd.t 44)) none,
      IOper.mk (some 11) (IOp.mv (Opd.t 45)) none]
      [40, 41, 42, 43, 39, 44, 45])
      (IC.seq
      (IC.ops false
      [IOper.mk (some 47) (IOp.mv (Opd.t 4)) none,
      IOper.mk (some 48) (IOp.ixa 1 (Opd.t 47) (Opd.c (AV.int IntKind.i64 4))) none,
      IOper.mk (some 49) (IOp.load none (Opd.t 48)) none,
      IOper.mk (some 50) (IOp.callp 41 [Opd.t 49, Opd.c (AV.int IntKind.i64 2147483647)])
      none,
      IOper.mk (some 46) (IOp.mv (Opd.t 50)) none, IOper.mk (some 51) (IOp.extr (Opd.t 46) 0) none,
      IOper.mk (some 52) (IOp.extr (Opd.t 46) 1) none, IOper.mk (some 12) (IOp.mv (Opd.t 51)) none,
      IOper.mk (some 13) (IOp.mv (Opd.t 52)) none]
      [47, 48, 49, 50, 46, 51, 52])
      (IC.seq
      (IC.seq
      (IC.ops false
      [IOper.mk (some 53) (IOp.mv (Opd.t 5)) none,
      IOper.mk (some 54) (IOp.bin BinOp.lss (Opd.t 53) (Opd.c (AV.int IntKind.i64 0)))
      none,
      IOper.mk (some 55) (IOp.mv (Opd.t 54)) none,
      IOper.mk (some 56) (IOp.mv (Opd.t 7)) (some (55, false)),
      IOper.mk (some 57) (IOp.not (Opd.t 56)) (some (55, false)),
      IOper.mk (some 58) (IOp.pick (Opd.t 55) (Opd.c (AV.bool true)) (Opd.t 57)) none,
      IOper.mk (some 59) (IOp.mv (Opd.t 58)) none,
      IOper.mk (some 60) (IOp.mv (Opd.t 9)) (some (59, false)),
      IOper.mk (some 61) (IOp.not (Opd.t 60)) (some (59, false)),
      IOper.mk (some 62) (IOp.pick (Opd.t 59) (Opd.c (AV.bool true)) (Opd.t 61)) none,
      IOper.mk (some 63) (IOp.mv (Opd.t 62)) none,
      IOper.mk (some 64) (IOp.mv (Opd.t 11)) (some (63, false)),
      IOper.mk (some 65) (IOp.not (Opd.t 64)) (some (63, false)),
      IOper.mk (some 66) (IOp.pick (Opd.t 63) (Opd.c (AV.bool true)) (Opd.t 65)) none,
      IOper.mk (some 67) (IOp.mv (Opd.t 66)) none,
      IOper.mk (some 68) (IOp.mv (Opd.t 13)) (some (67, false)),
      IOper.mk (some 69) (IOp.not (Opd.t 68)) (some (67, false)),
      IOper.mk (some 70) (IOp.pick (Opd.t 67) (Opd.c (AV.bool true)) (Opd.t 69)) none]
      [53, 54, 55, 56, 57, 58, 59, 60, 61, 62, 63, 64, 65, 66, 67, 68, 69])
      (IC.cond (Opd.t 70)
      (IC.seq
      (IC.ops false
      [IOper.mk (some 71)
      (IOp.build
      [AV.int IntKind.i64 0, AV.int IntKind.u8 0,
      AV.int IntKind.i64 0, AV.int IntKind.i64 0,
      AV.int IntKind.i64 0]
      [])
      none,
      IOper.mk none (IOp.store 5 (Opd.t 2) (Opd.t 71)) none,
      IOper.mk (some 3) (IOp.mv (Opd.c (AV.bool false))) none]
      [71])
      IC.ret)
      IC.nop))
      (IC.seq
      (IC.ops false
      [IOper.mk (some 72) (IOp.mv (Opd.t 6)) none, IOper.mk (some 73) (IOp.mv (Opd.t 5)) none,
      IOper.mk (some 74) (IOp.conv IntKind.u8 (Opd.t 73)) none,
      IOper.mk (some 75) (IOp.mv (Opd.t 8)) none, IOper.mk (some 76) (IOp.mv (Opd.t 10)) none,
      IOper.mk (some 77) (IOp.mv (Opd.t 12)) none,
      IOper.mk (some 78)
      (IOp.build
      [AV.int IntKind.i64 0, AV.int IntKind.u8 0,
      AV.int IntKind.i64 0, AV.int IntKind.i64 0,
      AV.int IntKind.i64 0]
      [(0, 1, Opd.t 72), (1, 1, Opd.t 74), (2, 1, Opd.t 75), (3, 1, Opd.t 76),
      (4, 1, Opd.t 77)])
      none,
      IOper.mk none (IOp.store 5 (Opd.t 2) (Opd.t 78)) none,
      IOper.mk (some 3) (IOp.mv (Opd.c (AV.bool true))) none]
      [72, 73, 74, 75, 76, 77, 78])
      IC.ret))))))))))
  none
theorem fn_trace_move : F 27 = some ir_trace_move := by kernel_rfl

def ir_trace_pick : IFun :=
  IFun.mk false 2 [IRes.tmp 4]
  (IC.seq (IC.ops false [IOper.mk (some 4) (IOp.mv (Opd.c (AV.imm true 0 0 (some 0) []))) none] [])
    (IC.seq (IC.ops false [IOper.mk (some 5) (IOp.mv (Opd.c (AV.imm true 0 0 (some 0) []))) none] [])
      (IC.seq
      (IC.seq
      (IC.ops false
      [IOper.mk (some 8) (IOp.mv (Opd.t 0)) none, IOper.mk (some 9) (IOp.len (Opd.t 8)) none,
      IOper.mk (some 10) (IOp.mv (Opd.c (AV.int IntKind.i64 0))) none]
      [])
      (IC.seq
      (IC.block 0
      (IC.loop
      (IC.seq
      (IC.seq (IC.ops false [IOper.mk (some 11) (IOp.bin BinOp.lss (Opd.t 10) (Opd.t 9)) none] [])
      (IC.seq (IC.cond (Opd.t 11) IC.nop (IC.exit 0))
      (IC.seq
      (IC.seq
      (IC.block 1
      (IC.seq
      (IC.ops false
      [IOper.mk (some 12) (IOp.ixa 5 (Opd.t 8) (Opd.t 10)) none,
      IOper.mk (some 13) (IOp.load (some 5) (Opd.t 12)) none,
      IOper.mk (some 7)
      (IOp.alloc
      [AV.int IntKind.i64 0, AV.int IntKind.u8 0,
      AV.int IntKind.i64 0, AV.int IntKind.i64 0,
      AV.int IntKind.i64 0])
      none,
      IOper.mk none (IOp.store 5 (Opd.t 7) (Opd.t 13)) none]
      [12, 13])
      (IC.seq
      (IC.ops false
      [IOper.mk (some 14) (IOp.mv (Opd.t 1)) none,
      IOper.mk (some 15) (IOp.load (some 5) (Opd.t 7)) none,
      IOper.mk (some 16) (IOp.call (Opd.t 14) [Opd.t 15]) none]
      [14, 15])
      (IC.cond (Opd.t 16)
      (IC.ops false
      [IOper.mk (some 17) (IOp.mv (Opd.t 5)) none,
      IOper.mk (some 18) (IOp.load (some 5) (Opd.t 7)) none,
      IOper.mk (some 19)
      (IOp.bsl false 5 1
      [AV.int IntKind.i64 0, AV.int IntKind.u8 0,
      AV.int IntKind.i64 0, AV.int IntKind.i64 0,
      AV.int IntKind.i64 0]
      [(0, 5, Opd.t 18)])
      none,
      IOper.mk (some 20) (IOp.append 5 40 (Opd.t 17) (Opd.t 19)) none,
      IOper.mk (some 5) (IOp.mv (Opd.t 20)) none]
      [17, 18, 19, 20])
      IC.nop))))
      (IC.ops false [] [12, 13, 7, 14, 15, 16, 17, 18, 19, 20]))
      (IC.ops false
      [IOper.mk (some 21) (IOp.bin BinOp.add (Opd.t 10) (Opd.c (AV.int IntKind.i64 1)))
      none,
      IOper.mk (some 10) (IOp.mv (Opd.t 21)) none]
      [21]))))
      (IC.ops false [] [11, 12, 13, 7, 14, 15, 16, 17, 18, 19, 20, 21]))))
      (IC.ops false [] [11, 12, 13, 7, 14, 15, 16, 17, 18, 19, 20, 21])))
      (IC.seq
      (IC.ops false [IOper.mk (some 22) (IOp.mv (Opd.t 5)) none, IOper.mk (some 4) (IOp.mv (Opd.t 22)) none] [22])
      IC.ret))))
  none
theorem fn_trace_pick : F 28 = some ir_trace_pick := by kernel_rfl

def ir_trace_Count_1 : IFun :=
  IFun.mk false 2 [IRes.tmp 3]
  (IC.seq
    (IC.ops false
      [IOper.mk (some 2) (IOp.box 5 (Opd.t 0)) none, IOper.mk (some 3) (IOp.mv (Opd.c (AV.bool false))) none] [])
    (IC.seq
      (IC.ops false
      [IOper.mk (some 4) (IOp.faddr 1 (Opd.t 2)) none, IOper.mk (some 5) (IOp.load none (Opd.t 4)) none,
      IOper.mk (some 6) (IOp.load none (Opd.t 1)) none,
      IOper.mk (some 7) (IOp.bin BinOp.eql (Opd.t 5) (Opd.t 6)) none, IOper.mk (some 3) (IOp.mv (Opd.t 7)) none]
      [4, 5, 6, 7])
      IC.ret))
  none
theorem fn_trace_Count_1 : F 29 = some ir_trace_Count_1 := by kernel_rfl

def ir_trace_Of_1 : IFun :=
  IFun.mk false 2 [IRes.tmp 3]
  (IC.seq
    (IC.ops false
      [IOper.mk (some 2) (IOp.box 5 (Opd.t 0)) none, IOper.mk (some 3) (IOp.mv (Opd.c (AV.bool false))) none] [])
    (IC.seq
      (IC.ops false
      [IOper.mk (some 4) (IOp.faddr 0 (Opd.t 2)) none, IOper.mk (some 5) (IOp.load none (Opd.t 4)) none,
      IOper.mk (some 6) (IOp.load none (Opd.t 1)) none,
      IOper.mk (some 7) (IOp.bin BinOp.eql (Opd.t 5) (Opd.t 6)) none, IOper.mk (some 3) (IOp.mv (Opd.t 7)) none]
      [4, 5, 6, 7])
      IC.ret))
  none
theorem fn_trace_Of_1 : F 30 = some ir_trace_Of_1 := by kernel_rfl

def ir_trace_At_1 : IFun :=
  IFun.mk false 2 [IRes.tmp 3]
  (IC.seq
    (IC.ops false
      [IOper.mk (some 2) (IOp.box 5 (Opd.t 0)) none, IOper.mk (some 3) (IOp.mv (Opd.c (AV.bool false))) none] [])
    (IC.seq
      (IC.ops false
      [IOper.mk (some 4) (IOp.faddr 2 (Opd.t 2)) none, IOper.mk (some 5) (IOp.load none (Opd.t 4)) none,
      IOper.mk (some 6) (IOp.load none (Opd.t 1)) none,
      IOper.mk (some 7) (IOp.bin BinOp.eql (Opd.t 5) (Opd.t 6)) none, IOper.mk (some 3) (IOp.mv (Opd.t 7)) none]
      [4, 5, 6, 7])
      IC.ret))
  none
theorem fn_trace_At_1 : F 31 = some ir_trace_At_1 := by kernel_rfl

def ir_trace_words : IFun :=
  IFun.mk false 0 [IRes.tmp 0]
  (IC.seq (IC.ops false [IOper.mk (some 0) (IOp.mv (Opd.c (AV.imm true 0 0 (some 0) []))) none] [])
    (IC.seq
      (IC.ops false
      [IOper.mk (some 1)
      (IOp.callp 42
      [Opd.c
      (AV.str
      [UInt8.ofNat 110, UInt8.ofNat 111, UInt8.ofNat 110, UInt8.ofNat 101, UInt8.ofNat 32, UInt8.ofNat 98,
      UInt8.ofNat 101, UInt8.ofNat 103, UInt8.ofNat 117, UInt8.ofNat 110, UInt8.ofNat 32,
      UInt8.ofNat 114, UInt8.ofNat 101, UInt8.ofNat 97, UInt8.ofNat 100, UInt8.ofNat 32,
      UInt8.ofNat 104, UInt8.ofNat 101, UInt8.ofNat 108, UInt8.ofNat 100, UInt8.ofNat 32,
      UInt8.ofNat 98, UInt8.ofNat 108, UInt8.ofNat 111, UInt8.ofNat 99, UInt8.ofNat 107,
      UInt8.ofNat 101, UInt8.ofNat 100, UInt8.ofNat 32, UInt8.ofNat 102, UInt8.ofNat 114,
      UInt8.ofNat 101, UInt8.ofNat 101, UInt8.ofNat 100, UInt8.ofNat 32, UInt8.ofNat 98,
      UInt8.ofNat 117, UInt8.ofNat 109, UInt8.ofNat 112, UInt8.ofNat 101, UInt8.ofNat 100,
      UInt8.ofNat 32, UInt8.ofNat 102, UInt8.ofNat 97, UInt8.ofNat 105, UInt8.ofNat 108,
      UInt8.ofNat 101, UInt8.ofNat 100, UInt8.ofNat 32, UInt8.ofNat 112, UInt8.ofNat 111,
      UInt8.ofNat 117, UInt8.ofNat 114, UInt8.ofNat 101, UInt8.ofNat 100, UInt8.ofNat 32,
      UInt8.ofNat 99, UInt8.ofNat 117, UInt8.ofNat 116, UInt8.ofNat 32, UInt8.ofNat 103,
      UInt8.ofNat 114, UInt8.ofNat 111, UInt8.ofNat 119, UInt8.ofNat 110, UInt8.ofNat 32,
      UInt8.ofNat 119, UInt8.ofNat 101, UInt8.ofNat 108, UInt8.ofNat 100, UInt8.ofNat 101,
      UInt8.ofNat 100, UInt8.ofNat 32, UInt8.ofNat 115, UInt8.ofNat 104, UInt8.ofNat 97,
      UInt8.ofNat 114, UInt8.ofNat 101, UInt8.ofNat 100, UInt8.ofNat 32, UInt8.ofNat 115,
      UInt8.ofNat 117, UInt8.ofNat 110, UInt8.ofNat 107, UInt8.ofNat 32, UInt8.ofNat 115,
      UInt8.ofNat 101, UInt8.ofNat 110, UInt8.ofNat 116, UInt8.ofNat 32, UInt8.ofNat 99,
      UInt8.ofNat 104, UInt8.ofNat 101, UInt8.ofNat 99, UInt8.ofNat 107, UInt8.ofNat 101,
      UInt8.ofNat 100, UInt8.ofNat 32, UInt8.ofNat 97, UInt8.ofNat 110, UInt8.ofNat 115,
      UInt8.ofNat 119, UInt8.ofNat 101, UInt8.ofNat 114, UInt8.ofNat 101, UInt8.ofNat 100])])
      none,
      IOper.mk (some 0) (IOp.mv (Opd.t 1)) none]
      [1])
      IC.ret))
  none
theorem fn_trace_words : F 32 = some ir_trace_words := by kernel_rfl

def ir_trace_in : IFun :=
  IFun.mk false 2 [IRes.tmp 4]
  (IC.seq (IC.ops false [IOper.mk (some 4) (IOp.mv (Opd.c (AV.bool false))) none] [])
    (IC.seq
      (IC.ops false
      [IOper.mk (some 5) (IOp.mv (Opd.t 0)) none,
      IOper.mk (some 6) (IOp.bin BinOp.geq (Opd.t 5) (Opd.c (AV.int IntKind.i64 0))) none,
      IOper.mk (some 7) (IOp.mv (Opd.t 6)) none, IOper.mk (some 8) (IOp.mv (Opd.t 0)) (some (7, true)),
      IOper.mk (some 9) (IOp.mv (Opd.t 1)) (some (7, true)),
      IOper.mk (some 10) (IOp.bin BinOp.leq (Opd.t 8) (Opd.t 9)) (some (7, true)),
      IOper.mk (some 11) (IOp.pick (Opd.t 7) (Opd.t 10) (Opd.c (AV.bool false))) none,
      IOper.mk (some 4) (IOp.mv (Opd.t 11)) none]
      [5, 6, 7, 8, 9, 10, 11])
      IC.ret))
  none
theorem fn_trace_in : F 33 = some ir_trace_in := by kernel_rfl

def ir_trace_holding_do : IFun :=
  IFun.mk true 2 [IRes.tmp 4]
  (IC.seq
    (IC.ops false
      [IOper.mk (some 3) (IOp.box 5 (Opd.t 1)) none, IOper.mk (some 4) (IOp.mv (Opd.c (AV.bool false))) none] [])
    (IC.seq
      (IC.ops true
      [IOper.mk (some 6) (IOp.mv (Opd.t 0)) none, IOper.mk (some 7) (IOp.nilck (Opd.t 6)) none,
      IOper.mk (some 8) (IOp.faddr 0 (Opd.t 7)) none, IOper.mk (some 9) (IOp.load none (Opd.t 8)) none,
      IOper.mk (some 10) (IOp.faddr 2 (Opd.t 3)) none, IOper.mk (some 11) (IOp.load none (Opd.t 10)) none,
      IOper.mk (some 12) (IOp.look 0 (AV.int IntKind.i64 0) false (Opd.t 9) (Opd.t 11)) none,
      IOper.mk (some 13) (IOp.faddr 0 (Opd.t 3)) none, IOper.mk (some 14) (IOp.load none (Opd.t 13)) none,
      IOper.mk (some 15) (IOp.bin BinOp.eql (Opd.t 12) (Opd.t 14)) none,
      IOper.mk (some 16) (IOp.mv (Opd.t 15)) none, IOper.mk (some 17) (IOp.faddr 0 (Opd.t 3)) (some (16, true)),
      IOper.mk (some 18) (IOp.load none (Opd.t 17)) (some (16, true)),
      IOper.mk (some 19) (IOp.bin BinOp.gtr (Opd.t 18) (Opd.c (AV.int IntKind.i64 0)))
      (some (16, true)),
      IOper.mk (some 20) (IOp.pick (Opd.t 16) (Opd.t 19) (Opd.c (AV.bool false))) none,
      IOper.mk (some 5) (IOp.mv (Opd.t 20)) none]
      [6, 7, 8, 9, 10, 11, 12, 13, 14, 15, 16, 17, 18, 19, 20])
      (IC.seq
      (IC.seq
      (IC.ops false
      [IOper.mk (some 21) (IOp.faddr 1 (Opd.t 3)) none, IOper.mk (some 22) (IOp.load none (Opd.t 21)) none] [21])
      (IC.seq
      (IC.block 0
      (IC.seq
      (IC.ops false
      [IOper.mk (some 24) (IOp.bin BinOp.eql (Opd.t 22) (Opd.c (AV.int IntKind.u8 3))) none,
      IOper.mk (some 23) (IOp.mv (Opd.t 24)) none]
      [24])
      (IC.cond (Opd.t 23)
      (IC.seq
      (IC.seq
      (IC.ops true
      [IOper.mk (some 25) (IOp.mv (Opd.t 0)) none, IOper.mk (some 26) (IOp.nilck (Opd.t 25)) none,
      IOper.mk (some 27) (IOp.faddr 0 (Opd.t 26)) none,
      IOper.mk (some 28) (IOp.load none (Opd.t 27)) none,
      IOper.mk (some 29) (IOp.faddr 2 (Opd.t 3)) none,
      IOper.mk (some 30) (IOp.load none (Opd.t 29)) none,
      IOper.mk (some 31) (IOp.look 0 (AV.int IntKind.i64 0) false (Opd.t 28) (Opd.t 30))
      none,
      IOper.mk (some 32) (IOp.bin BinOp.neq (Opd.t 31) (Opd.c (AV.int IntKind.i64 0)))
      none,
      IOper.mk (some 33) (IOp.mv (Opd.t 32)) none,
      IOper.mk (some 34) (IOp.faddr 0 (Opd.t 3)) (some (33, false)),
      IOper.mk (some 35) (IOp.load none (Opd.t 34)) (some (33, false)),
      IOper.mk (some 36) (IOp.bin BinOp.lss (Opd.t 35) (Opd.c (AV.int IntKind.i64 1)))
      (some (33, false)),
      IOper.mk (some 37) (IOp.pick (Opd.t 33) (Opd.c (AV.bool true)) (Opd.t 36)) none]
      [25, 26, 27, 28, 29, 30, 31, 32, 33, 34, 35, 36])
      (IC.cond (Opd.t 37)
      (IC.seq (IC.ops false [IOper.mk (some 4) (IOp.mv (Opd.c (AV.bool false))) none] []) IC.ret)
      IC.nop))
      (IC.seq
      (IC.ops true
      [IOper.mk (some 38) (IOp.mv (Opd.t 0)) none, IOper.mk (some 39) (IOp.nilck (Opd.t 38)) none,
      IOper.mk (some 40) (IOp.faddr 0 (Opd.t 39)) none,
      IOper.mk (some 41) (IOp.load none (Opd.t 40)) none,
      IOper.mk (some 42) (IOp.faddr 2 (Opd.t 3)) none,
      IOper.mk (some 43) (IOp.load none (Opd.t 42)) none,
      IOper.mk (some 44) (IOp.faddr 0 (Opd.t 3)) none,
      IOper.mk (some 45) (IOp.load none (Opd.t 44)) none,
      IOper.mk none (IOp.mapup 0 (Opd.t 41) (Opd.t 43) (Opd.t 45)) none]
      [38, 39, 40, 41, 42, 43, 44, 45])
      (IC.ops true
      [IOper.mk (some 46) (IOp.mv (Opd.t 0)) none, IOper.mk (some 47) (IOp.nilck (Opd.t 46)) none,
      IOper.mk (some 48) (IOp.faddr 1 (Opd.t 47)) none,
      IOper.mk (some 49) (IOp.load none (Opd.t 48)) none,
      IOper.mk (some 50) (IOp.faddr 0 (Opd.t 3)) none,
      IOper.mk (some 51) (IOp.load none (Opd.t 50)) none,
      IOper.mk (some 52) (IOp.mv (Opd.t 0)) none, IOper.mk (some 53) (IOp.nilck (Opd.t 52)) none,
      IOper.mk (some 54) (IOp.faddr 1 (Opd.t 53)) none,
      IOper.mk (some 55) (IOp.load none (Opd.t 54)) none,
      IOper.mk (some 56) (IOp.faddr 0 (Opd.t 3)) none,
      IOper.mk (some 57) (IOp.load none (Opd.t 56)) none,
      IOper.mk (some 58) (IOp.look 0 (AV.imm true 0 0 (some 0) []) false (Opd.t 55) (Opd.t 57))
      none,
      IOper.mk (some 59) (IOp.faddr 2 (Opd.t 3)) none,
      IOper.mk (some 60) (IOp.load none (Opd.t 59)) none,
      IOper.mk (some 61) (IOp.bsl false 1 1 [AV.int IntKind.i64 0] [(0, 1, Opd.t 60)])
      none,
      IOper.mk (some 62) (IOp.append 1 8 (Opd.t 58) (Opd.t 61)) none,
      IOper.mk none (IOp.mapup 0 (Opd.t 49) (Opd.t 51) (Opd.t 62)) none,
      IOper.mk none (IOp.diff (Opd.t 48) (Opd.t 62)) none,
      IOper.mk none (IOp.diff (Opd.t 50) (Opd.t 62)) none]
      [46, 47, 48, 49, 50, 51, 52, 53, 54, 55, 56, 57, 58, 59, 60, 61, 62])))
      (IC.seq
      (IC.seq
      (IC.ops false
      [IOper.mk (some 64) (IOp.bin BinOp.eql (Opd.t 22) (Opd.c (AV.int IntKind.u8 5)))
      none,
      IOper.mk (some 63) (IOp.mv (Opd.t 64)) none]
      [64])
      (IC.cond (Opd.t 63) IC.nop
      (IC.ops false
      [IOper.mk (some 65) (IOp.bin BinOp.eql (Opd.t 22) (Opd.c (AV.int IntKind.u8 6)))
      none,
      IOper.mk (some 63) (IOp.mv (Opd.t 65)) none]
      [65])))
      (IC.cond (Opd.t 63)
      (IC.seq
      (IC.seq (IC.ops false [IOper.mk (some 66) (IOp.mv (Opd.t 5)) none] [])
      (IC.cond (Opd.t 66)
      (IC.ops false
      [IOper.mk (some 67) (IOp.mv (Opd.t 0)) none,
      IOper.mk (some 68) (IOp.faddr 0 (Opd.t 3)) none,
      IOper.mk (some 69) (IOp.load none (Opd.t 68)) none,
      IOper.mk (some 70) (IOp.faddr 2 (Opd.t 3)) none,
      IOper.mk (some 71) (IOp.load none (Opd.t 70)) none,
      IOper.mk (some 72)
      (IOp.call (Opd.c (AV.func (Fn.func 46) [] [])) [Opd.t 67, Opd.t 69, Opd.t 71]) none]
      [67, 68, 69, 70, 71, 72])
      IC.nop))
      (IC.seq
      (IC.ops false
      [IOper.mk (some 73) (IOp.mv (Opd.t 5)) none, IOper.mk (some 4) (IOp.mv (Opd.t 73)) none]
      [73])
      IC.ret))
      (IC.seq
      (IC.seq
      (IC.ops false
      [IOper.mk (some 75) (IOp.bin BinOp.eql (Opd.t 22) (Opd.c (AV.int IntKind.u8 8)))
      none,
      IOper.mk (some 74) (IOp.mv (Opd.t 75)) none]
      [75])
      (IC.cond (Opd.t 74) IC.nop
      (IC.seq
      (IC.ops false
      [IOper.mk (some 76)
      (IOp.bin BinOp.eql (Opd.t 22) (Opd.c (AV.int IntKind.u8 9))) none,
      IOper.mk (some 74) (IOp.mv (Opd.t 76)) none]
      [76])
      (IC.cond (Opd.t 74) IC.nop
      (IC.seq
      (IC.ops false
      [IOper.mk (some 77)
      (IOp.bin BinOp.eql (Opd.t 22) (Opd.c (AV.int IntKind.u8 10))) none,
      IOper.mk (some 74) (IOp.mv (Opd.t 77)) none]
      [77])
      (IC.cond (Opd.t 74) IC.nop
      (IC.seq
      (IC.ops false
      [IOper.mk (some 78)
      (IOp.bin BinOp.eql (Opd.t 22) (Opd.c (AV.int IntKind.u8 12)))
      none,
      IOper.mk (some 74) (IOp.mv (Opd.t 78)) none]
      [78])
      (IC.cond (Opd.t 74) IC.nop
      (IC.ops false
      [IOper.mk (some 79)
      (IOp.bin BinOp.eql (Opd.t 22) (Opd.c (AV.int IntKind.u8 14)))
      none,
      IOper.mk (some 74) (IOp.mv (Opd.t 79)) none]
      [79])))))))))
      (IC.cond (Opd.t 74)
      (IC.seq
      (IC.ops false
      [IOper.mk (some 80) (IOp.mv (Opd.t 5)) none, IOper.mk (some 4) (IOp.mv (Opd.t 80)) none]
      [80])
      IC.ret)
      (IC.seq
      (IC.ops false
      [IOper.mk (some 82)
      (IOp.bin BinOp.eql (Opd.t 22) (Opd.c (AV.int IntKind.u8 11))) none,
      IOper.mk (some 81) (IOp.mv (Opd.t 82)) none]
      [82])
      (IC.cond (Opd.t 81)
      (IC.seq
      (IC.seq (IC.ops false [IOper.mk (some 83) (IOp.mv (Opd.t 5)) none] [])
      (IC.cond (Opd.t 83)
      (IC.ops false
      [IOper.mk (some 84) (IOp.mv (Opd.t 0)) none,
      IOper.mk (some 85) (IOp.faddr 0 (Opd.t 3)) none,
      IOper.mk (some 86) (IOp.load none (Opd.t 85)) none,
      IOper.mk (some 87) (IOp.faddr 2 (Opd.t 3)) none,
      IOper.mk (some 88) (IOp.load none (Opd.t 87)) none,
      IOper.mk (some 89)
      (IOp.call (Opd.c (AV.func (Fn.func 47) [] [])) [Opd.t 84, Opd.t 86, Opd.t 88])
      none]
      [84, 85, 86, 87, 88, 89])
      IC.nop))
      (IC.seq
      (IC.ops false
      [IOper.mk (some 90) (IOp.mv (Opd.t 5)) none,
      IOper.mk (some 4) (IOp.mv (Opd.t 90)) none]
      [90])
      IC.ret))
      (IC.seq
      (IC.ops false
      [IOper.mk (some 92)
      (IOp.bin BinOp.eql (Opd.t 22) (Opd.c (AV.int IntKind.u8 13))) none,
      IOper.mk (some 91) (IOp.mv (Opd.t 92)) none]
      [92])
      (IC.cond (Opd.t 91)
      (IC.seq
      (IC.seq (IC.ops false [IOper.mk (some 93) (IOp.mv (Opd.t 5)) none] [])
      (IC.cond (Opd.t 93)
      (IC.ops true
      [IOper.mk (some 94) (IOp.mv (Opd.t 0)) none,
      IOper.mk (some 95) (IOp.faddr 0 (Opd.t 3)) none,
      IOper.mk (some 96) (IOp.load none (Opd.t 95)) none,
      IOper.mk (some 97) (IOp.mv (Opd.t 0)) none,
      IOper.mk (some 98) (IOp.nilck (Opd.t 97)) none,
      IOper.mk (some 99) (IOp.faddr 1 (Opd.t 98)) none,
      IOper.mk (some 100) (IOp.load none (Opd.t 99)) none,
      IOper.mk (some 101) (IOp.faddr 0 (Opd.t 3)) none,
      IOper.mk (some 102) (IOp.load none (Opd.t 101)) none,
      IOper.mk (some 103)
      (IOp.look 0 (AV.imm true 0 0 (some 0) []) false (Opd.t 100) (Opd.t 102))
      none,
      IOper.mk (some 104) (IOp.callp 50 [Opd.t 103]) none,
      IOper.mk (some 105) (IOp.mkfn (Fn.func 51) [] [Opd.t 3]) none,
      IOper.mk (some 106) (IOp.callp 49 [Opd.t 104, Opd.t 105]) none,
      IOper.mk (some 107)
      (IOp.call (Opd.c (AV.func (Fn.func 48) [] []))
      [Opd.t 94, Opd.t 96, Opd.t 106])
      none]
      [94, 95, 96, 97, 98, 99, 100, 101, 102, 103, 104, 105, 106, 107])
      IC.nop))
      (IC.seq
      (IC.ops false
      [IOper.mk (some 108) (IOp.mv (Opd.t 5)) none,
      IOper.mk (some 4) (IOp.mv (Opd.t 108)) none]
      [108])
      IC.ret))
      IC.nop)))))))))))
      (IC.ops false []
      [24, 23, 25, 26, 27, 28, 29, 30, 31, 32, 33, 34, 35, 36, 37, 38, 39, 40, 41, 42, 43, 44, 45, 46, 47, 48,
      49, 50, 51, 52, 53, 54, 55, 56, 57, 58, 59, 60, 61, 62, 64, 65, 63, 66, 67, 68, 69, 70, 71, 72, 73, 75,
      76, 77, 78, 79, 74, 80, 82, 81, 83, 84, 85, 86, 87, 88, 89, 90, 92, 91, 93, 94, 95, 96, 97, 98, 99, 100,
      101, 102, 103, 104, 105, 106, 107, 108])))
      (IC.seq (IC.ops false [IOper.mk (some 4) (IOp.mv (Opd.c (AV.bool true))) none] []) IC.ret))))
  none
theorem fn_trace_holding_do : F 37 = some ir_trace_holding_do := by kernel_rfl

def ir_slices_Index_string_string : IFun :=
  IFun.mk false 2 [IRes.tmp 4]
  (IC.seq (IC.ops false [IOper.mk (some 4) (IOp.mv (Opd.c (AV.int IntKind.i64 0))) none] [])
    (IC.seq
      (IC.seq
      (IC.ops false
      [IOper.mk (some 6) (IOp.mv (Opd.t 0)) none, IOper.mk (some 7) (IOp.len (Opd.t 6)) none,
      IOper.mk (some 8) (IOp.mv (Opd.c (AV.int IntKind.i64 0))) none]
      [6])
      (IC.seq
      (IC.block 0
      (IC.loop
      (IC.seq
      (IC.seq (IC.ops false [IOper.mk (some 9) (IOp.bin BinOp.lss (Opd.t 8) (Opd.t 7)) none] [])
      (IC.seq (IC.cond (Opd.t 9) IC.nop (IC.exit 0))
      (IC.seq
      (IC.seq
      (IC.block 1
      (IC.seq
      (IC.ops false
      [IOper.mk (some 10) (IOp.mv (Opd.t 8)) none, IOper.mk (some 5) (IOp.mv (Opd.t 10)) none]
      [10])
      (IC.seq
      (IC.ops false
      [IOper.mk (some 11) (IOp.mv (Opd.t 1)) none, IOper.mk (some 12) (IOp.mv (Opd.t 0)) none,
      IOper.mk (some 13) (IOp.mv (Opd.t 5)) none,
      IOper.mk (some 14) (IOp.ixa 1 (Opd.t 12) (Opd.t 13)) none,
      IOper.mk (some 15) (IOp.load none (Opd.t 14)) none,
      IOper.mk (some 16) (IOp.bin BinOp.eql (Opd.t 11) (Opd.t 15)) none]
      [11, 12, 13, 14, 15])
      (IC.cond (Opd.t 16)
      (IC.seq
      (IC.ops false
      [IOper.mk (some 17) (IOp.mv (Opd.t 5)) none,
      IOper.mk (some 4) (IOp.mv (Opd.t 17)) none]
      [17])
      IC.ret)
      IC.nop))))
      (IC.ops false [] [10, 5, 11, 12, 13, 14, 15, 16, 17]))
      (IC.ops false
      [IOper.mk (some 18) (IOp.bin BinOp.add (Opd.t 8) (Opd.c (AV.int IntKind.i64 1)))
      none,
      IOper.mk (some 8) (IOp.mv (Opd.t 18)) none]
      [18]))))
      (IC.ops false [] [9, 10, 5, 11, 12, 13, 14, 15, 16, 17, 18]))))
      (IC.ops false [] [9, 10, 5, 11, 12, 13, 14, 15, 16, 17, 18])))
      (IC.seq (IC.ops false [IOper.mk (some 4) (IOp.mv (Opd.c (AV.int IntKind.i64 (-1)))) none] []) IC.ret)))
  none
theorem fn_slices_Index_string_string : F 40 = some ir_slices_Index_string_string := by kernel_rfl

def ir_trace_number : IFun :=
  IFun.mk false 2 [IRes.tmp 4, IRes.tmp 5]
  (IC.seq
    (IC.ops false
      [IOper.mk (some 4) (IOp.mv (Opd.c (AV.int IntKind.i64 0))) none,
      IOper.mk (some 5) (IOp.mv (Opd.c (AV.bool false))) none]
      [])
    (IC.seq
      (IC.seq
      (IC.ops false
      [IOper.mk (some 8) (IOp.mv (Opd.t 0)) none,
      IOper.mk (some 9) (IOp.bin BinOp.eql (Opd.t 8) (Opd.c (AV.str []))) none,
      IOper.mk (some 10) (IOp.mv (Opd.t 9)) none, IOper.mk (some 11) (IOp.mv (Opd.t 0)) (some (10, false)),
      IOper.mk (some 12) (IOp.lens (Opd.t 11)) (some (10, false)),
      IOper.mk (some 13) (IOp.bin BinOp.gtr (Opd.t 12) (Opd.c (AV.int IntKind.i64 14)))
      (some (10, false)),
      IOper.mk (some 14) (IOp.pick (Opd.t 10) (Opd.c (AV.bool true)) (Opd.t 13)) none,
      IOper.mk (some 15) (IOp.mv (Opd.t 14)) none, IOper.mk (some 16) (IOp.mv (Opd.t 0)) (some (15, false)),
      IOper.mk (some 17) (IOp.lens (Opd.t 16)) (some (15, false)),
      IOper.mk (some 18) (IOp.bin BinOp.gtr (Opd.t 17) (Opd.c (AV.int IntKind.i64 1)))
      (some (15, false)),
      IOper.mk (some 19) (IOp.mv (Opd.t 18)) (some (15, false)),
      IOper.mk (some 20) (IOp.mv (Opd.t 0)) (some (19, true)),
      IOper.mk (some 21) (IOp.ixs (Opd.t 20) (Opd.c (AV.int IntKind.i64 0))) (some (19, true)),
      IOper.mk (some 22) (IOp.bin BinOp.eql (Opd.t 21) (Opd.c (AV.int IntKind.u8 48)))
      (some (19, true)),
      IOper.mk (some 23) (IOp.pick (Opd.t 19) (Opd.t 22) (Opd.c (AV.bool false))) (some (15, false)),
      IOper.mk (some 24) (IOp.pick (Opd.t 15) (Opd.c (AV.bool true)) (Opd.t 23)) none]
      [8, 9, 10, 11, 12, 13, 14, 15, 16, 17, 18, 19, 20, 21, 22, 23])
      (IC.cond (Opd.t 24)
      (IC.seq
      (IC.ops false
      [IOper.mk (some 4) (IOp.mv (Opd.c (AV.int IntKind.i64 0))) none,
      IOper.mk (some 5) (IOp.mv (Opd.c (AV.bool false))) none]
      [])
      IC.ret)
      IC.nop))
      (IC.seq (IC.ops false [IOper.mk (some 6) (IOp.mv (Opd.c (AV.int IntKind.i64 0))) none] [])
      (IC.seq
      (IC.seq
      (IC.ops false
      [IOper.mk (some 25) (IOp.mv (Opd.t 0)) none, IOper.mk (some 26) (IOp.lens (Opd.t 25)) none,
      IOper.mk (some 27) (IOp.mv (Opd.c (AV.int IntKind.i64 0))) none]
      [25])
      (IC.seq
      (IC.block 0
      (IC.loop
      (IC.seq
      (IC.seq (IC.ops false [IOper.mk (some 28) (IOp.bin BinOp.lss (Opd.t 27) (Opd.t 26)) none] [])
      (IC.seq (IC.cond (Opd.t 28) IC.nop (IC.exit 0))
      (IC.seq
      (IC.seq
      (IC.block 1
      (IC.seq
      (IC.ops false
      [IOper.mk (some 29) (IOp.mv (Opd.t 27)) none,
      IOper.mk (some 7) (IOp.mv (Opd.t 29)) none]
      [29])
      (IC.seq
      (IC.seq
      (IC.ops false
      [IOper.mk (some 30) (IOp.mv (Opd.t 0)) none,
      IOper.mk (some 31) (IOp.mv (Opd.t 7)) none,
      IOper.mk (some 32) (IOp.ixs (Opd.t 30) (Opd.t 31)) none,
      IOper.mk (some 33)
      (IOp.bin BinOp.lss (Opd.t 32) (Opd.c (AV.int IntKind.u8 48)))
      none,
      IOper.mk (some 34) (IOp.mv (Opd.t 33)) none,
      IOper.mk (some 35) (IOp.mv (Opd.t 0)) (some (34, false)),
      IOper.mk (some 36) (IOp.mv (Opd.t 7)) (some (34, false)),
      IOper.mk (some 37) (IOp.ixs (Opd.t 35) (Opd.t 36)) (some (34, false)),
      IOper.mk (some 38)
      (IOp.bin BinOp.gtr (Opd.t 37) (Opd.c (AV.int IntKind.u8 57)))
      (some (34, false)),
      IOper.mk (some 39) (IOp.pick (Opd.t 34) (Opd.c (AV.bool true)) (Opd.t 38)) none]
      [30, 31, 32, 33, 34, 35, 36, 37, 38])
      (IC.cond (Opd.t 39)
      (IC.seq
      (IC.ops false
      [IOper.mk (some 4) (IOp.mv (Opd.c (AV.int IntKind.i64 0))) none,
      IOper.mk (some 5) (IOp.mv (Opd.c (AV.bool false))) none]
      [])
      IC.ret)
      IC.nop))
      (IC.ops false
      [IOper.mk (some 40) (IOp.mv (Opd.t 6)) none,
      IOper.mk (some 41)
      (IOp.bin BinOp.mul (Opd.c (AV.int IntKind.i64 10)) (Opd.t 40)) none,
      IOper.mk (some 42) (IOp.mv (Opd.t 0)) none,
      IOper.mk (some 43) (IOp.mv (Opd.t 7)) none,
      IOper.mk (some 44) (IOp.ixs (Opd.t 42) (Opd.t 43)) none,
      IOper.mk (some 45)
      (IOp.bin BinOp.sub (Opd.t 44) (Opd.c (AV.int IntKind.u8 48))) none,
      IOper.mk (some 46) (IOp.conv IntKind.i64 (Opd.t 45)) none,
      IOper.mk (some 47) (IOp.bin BinOp.add (Opd.t 41) (Opd.t 46)) none,
      IOper.mk (some 6) (IOp.mv (Opd.t 47)) none]
      [40, 41, 42, 43, 44, 45, 46, 47]))))
      (IC.ops false []
      [29, 7, 30, 31, 32, 33, 34, 35, 36, 37, 38, 39, 40, 41, 42, 43, 44, 45, 46, 47]))
      (IC.ops false
      [IOper.mk (some 48)
      (IOp.bin BinOp.add (Opd.t 27) (Opd.c (AV.int IntKind.i64 1))) none,
      IOper.mk (some 27) (IOp.mv (Opd.t 48)) none]
      [48]))))
      (IC.ops false []
      [28, 29, 7, 30, 31, 32, 33, 34, 35, 36, 37, 38, 39, 40, 41, 42, 43, 44, 45, 46, 47, 48]))))
      (IC.ops false []
      [28, 29, 7, 30, 31, 32, 33, 34, 35, 36, 37, 38, 39, 40, 41, 42, 43, 44, 45, 46, 47, 48])))
      (IC.seq
      (IC.ops false
      [IOper.mk (some 49) (IOp.mv (Opd.t 6)) none, IOper.mk (some 50) (IOp.mv (Opd.t 6)) none,
      IOper.mk (some 51) (IOp.mv (Opd.t 1)) none,
      IOper.mk (some 52) (IOp.bin BinOp.leq (Opd.t 50) (Opd.t 51)) none,
      IOper.mk (some 4) (IOp.mv (Opd.t 49)) none, IOper.mk (some 5) (IOp.mv (Opd.t 52)) none]
      [49, 50, 51, 52])
      IC.ret)))))
  none
theorem fn_trace_number : F 41 = some ir_trace_number := by kernel_rfl

def ir_strings_Builder_WriteString : IFun :=
  IFun.mk true 0 [] IC.nop (some (NatK.wstr 46 5))
theorem fn_strings_Builder_WriteString : F 21 = some ir_strings_Builder_WriteString := by kernel_rfl

def ir_strings_Builder_String : IFun :=
  IFun.mk true 0 [] IC.nop (some (NatK.bstr 46 5))
theorem fn_strings_Builder_String : F 22 = some ir_strings_Builder_String := by kernel_rfl

def ir_strings_Fields : IFun :=
  IFun.mk true 0 [] IC.nop (some NatK.fields)
theorem fn_strings_Fields : F 42 = some ir_strings_Fields := by kernel_rfl

def ir_strconv_Itoa : IFun :=
  IFun.mk true 0 [] IC.nop (some NatK.itoa)
theorem fn_strconv_Itoa : F 35 = some ir_strconv_Itoa := by kernel_rfl

def ir_strings_Join : IFun :=
  IFun.mk true 0 [] IC.nop (some NatK.join)
theorem fn_strings_Join : F 34 = some ir_strings_Join := by kernel_rfl

def ir_strings_Split : IFun :=
  IFun.mk true 0 [] IC.nop (some NatK.split)
theorem fn_strings_Split : F 39 = some ir_strings_Split := by kernel_rfl

def ir_strings_Cut : IFun :=
  IFun.mk true 0 [] IC.nop (some NatK.cut)
theorem fn_strings_Cut : F 26 = some ir_strings_Cut := by kernel_rfl

end Go.AS.Tr

namespace Go.AS.Tr
open Go Go.AS Go.Proofs
set_option maxRecDepth 100000

def ir_slices_Clone_int_int : IFun :=
  IFun.mk true 1 [IRes.tmp 2]
  (IC.seq (IC.ops false [IOper.mk (some 2) (IOp.mv (Opd.c (AV.imm true 0 0 (some 0) []))) none] [])
    (IC.seq
      (IC.seq
      (IC.ops false
      [IOper.mk (some 3) (IOp.mv (Opd.t 0)) none,
      IOper.mk (some 4) (IOp.eqn 1 false (Opd.t 3) (Opd.c (AV.imm true 0 0 (some 0) []))) none]
      [3])
      (IC.cond (Opd.t 4)
      (IC.seq (IC.ops false [IOper.mk (some 2) (IOp.mv (Opd.c (AV.imm true 0 0 (some 0) []))) none] []) IC.ret)
      IC.nop))
      (IC.seq
      (IC.ops false
      [IOper.mk (some 5) (IOp.bsl false 1 0 [AV.int IntKind.i64 0] []) none,
      IOper.mk (some 6) (IOp.mv (Opd.t 0)) none, IOper.mk (some 7) (IOp.append 1 8 (Opd.t 5) (Opd.t 6)) none,
      IOper.mk (some 2) (IOp.mv (Opd.t 7)) none]
      [5, 6, 7])
      IC.ret)))
  none
theorem fn_slices_Clone_int_int : F 50 = some ir_slices_Clone_int_int := by kernel_rfl

def ir_slices_DeleteFunc_int_int : IFun :=
  IFun.mk false 2 [IRes.tmp 4]
  (IC.seq (IC.ops false [IOper.mk (some 4) (IOp.mv (Opd.c (AV.imm true 0 0 (some 0) []))) none] [])
    (IC.seq
      (IC.ops false
      [IOper.mk (some 8) (IOp.mv (Opd.t 0)) none, IOper.mk (some 9) (IOp.mv (Opd.t 1)) none,
      IOper.mk (some 10) (IOp.call (Opd.c (AV.func (Fn.func 59) [] [])) [Opd.t 8, Opd.t 9]) none,
      IOper.mk (some 5) (IOp.mv (Opd.t 10)) none]
      [8, 9, 10])
      (IC.seq
      (IC.seq
      (IC.ops false
      [IOper.mk (some 11) (IOp.mv (Opd.t 5)) none,
      IOper.mk (some 12) (IOp.bin BinOp.eql (Opd.t 11) (Opd.c (AV.int IntKind.i64 (-1)))) none]
      [11])
      (IC.cond (Opd.t 12)
      (IC.seq
      (IC.ops false [IOper.mk (some 13) (IOp.mv (Opd.t 0)) none, IOper.mk (some 4) (IOp.mv (Opd.t 13)) none]
      [13])
      IC.ret)
      IC.nop))
      (IC.seq
      (IC.seq
      (IC.ops false
      [IOper.mk (some 14) (IOp.mv (Opd.t 5)) none,
      IOper.mk (some 15) (IOp.bin BinOp.add (Opd.t 14) (Opd.c (AV.int IntKind.i64 1))) none,
      IOper.mk (some 6) (IOp.mv (Opd.t 15)) none]
      [14, 15])
      (IC.seq
      (IC.block 0
      (IC.loop
      (IC.seq
      (IC.seq
      (IC.seq
      (IC.ops false
      [IOper.mk (some 16) (IOp.mv (Opd.t 6)) none, IOper.mk (some 17) (IOp.mv (Opd.t 0)) none,
      IOper.mk (some 18) (IOp.len (Opd.t 17)) none,
      IOper.mk (some 19) (IOp.bin BinOp.lss (Opd.t 16) (Opd.t 18)) none]
      [16, 17, 18])
      (IC.cond (Opd.t 19) IC.nop (IC.exit 0)))
      (IC.seq
      (IC.seq
      (IC.block 1
      (IC.seq
      (IC.ops false
      [IOper.mk (some 22) (IOp.mv (Opd.t 0)) none, IOper.mk (some 23) (IOp.mv (Opd.t 6)) none,
      IOper.mk (some 24) (IOp.ixa 1 (Opd.t 22) (Opd.t 23)) none,
      IOper.mk (some 25) (IOp.load none (Opd.t 24)) none,
      IOper.mk (some 7) (IOp.mv (Opd.t 25)) none]
      [22, 23, 24, 25])
      (IC.seq
      (IC.ops false
      [IOper.mk (some 26) (IOp.mv (Opd.t 1)) none,
      IOper.mk (some 27) (IOp.mv (Opd.t 7)) none,
      IOper.mk (some 28) (IOp.call (Opd.t 26) [Opd.t 27]) none,
      IOper.mk (some 29) (IOp.not (Opd.t 28)) none]
      [26, 27, 28])
      (IC.cond (Opd.t 29)
      (IC.seq
      (IC.ops false
      [IOper.mk (some 30) (IOp.mv (Opd.t 0)) none,
      IOper.mk (some 31) (IOp.mv (Opd.t 5)) none,
      IOper.mk (some 32) (IOp.mv (Opd.t 7)) none,
      IOper.mk (some 33) (IOp.ixa 1 (Opd.t 30) (Opd.t 31)) none,
      IOper.mk none (IOp.store 1 (Opd.t 33) (Opd.t 32)) none]
      [30, 31, 32, 33])
      (IC.ops false
      [IOper.mk (some 34) (IOp.mv (Opd.t 5)) none,
      IOper.mk (some 35)
      (IOp.bin BinOp.add (Opd.t 34) (Opd.c (AV.int IntKind.i64 1)))
      none,
      IOper.mk (some 5) (IOp.mv (Opd.t 35)) none]
      [34, 35]))
      IC.nop))))
      (IC.ops false [] [22, 23, 24, 25, 7, 26, 27, 28, 29, 30, 31, 32, 33, 34, 35]))
      (IC.ops false
      [IOper.mk (some 20) (IOp.mv (Opd.t 6)) none,
      IOper.mk (some 21) (IOp.bin BinOp.add (Opd.t 20) (Opd.c (AV.int IntKind.i64 1)))
      none,
      IOper.mk (some 6) (IOp.mv (Opd.t 21)) none]
      [20, 21])))
      (IC.ops false []
      [16, 17, 18, 19, 22, 23, 24, 25, 7, 26, 27, 28, 29, 30, 31, 32, 33, 34, 35, 20, 21]))))
      (IC.ops false [] [16, 17, 18, 19, 22, 23, 24, 25, 7, 26, 27, 28, 29, 30, 31, 32, 33, 34, 35, 20, 21])))
      (IC.seq
      (IC.ops false
      [IOper.mk (some 36) (IOp.mv (Opd.t 0)) none, IOper.mk (some 37) (IOp.mv (Opd.t 5)) none,
      IOper.mk (some 38) (IOp.sub 1 (Opd.t 36) (some (Opd.t 37)) none none) none,
      IOper.mk none (IOp.clears 1 [AV.int IntKind.i64 0] (Opd.t 38)) none]
      [36, 37, 38])
      (IC.seq
      (IC.ops false
      [IOper.mk (some 39) (IOp.mv (Opd.t 0)) none, IOper.mk (some 40) (IOp.mv (Opd.t 5)) none,
      IOper.mk (some 41) (IOp.sub 1 (Opd.t 39) none (some (Opd.t 40)) none) none,
      IOper.mk (some 4) (IOp.mv (Opd.t 41)) none]
      [39, 40, 41])
      IC.ret))))))
  none
theorem fn_slices_DeleteFunc_int_int : F 49 = some ir_slices_DeleteFunc_int_int := by kernel_rfl

def ir_trace_holding_do_1 : IFun :=
  IFun.mk false 2 [IRes.tmp 3]
  (IC.seq (IC.ops false [IOper.mk (some 3) (IOp.mv (Opd.c (AV.bool false))) none] [])
    (IC.seq
      (IC.ops false
      [IOper.mk (some 4) (IOp.mv (Opd.t 0)) none, IOper.mk (some 5) (IOp.faddr 2 (Opd.t 1)) none,
      IOper.mk (some 6) (IOp.load none (Opd.t 5)) none,
      IOper.mk (some 7) (IOp.bin BinOp.eql (Opd.t 4) (Opd.t 6)) none, IOper.mk (some 3) (IOp.mv (Opd.t 7)) none]
      [4, 5, 6, 7])
      IC.ret))
  none
theorem fn_trace_holding_do_1 : F 51 = some ir_trace_holding_do_1 := by kernel_rfl

def ir_trace_holding_drop : IFun :=
  IFun.mk true 3 []
  (IC.seq
    (IC.ops false
      [IOper.mk (some 8) (IOp.mv (Opd.t 2)) none, IOper.mk (some 9) (IOp.callp 50 [Opd.t 8]) none,
      IOper.mk (some 10) (IOp.len (Opd.t 9)) none,
      IOper.mk (some 11) (IOp.mv (Opd.c (AV.int IntKind.i64 0))) none]
      [8])
    (IC.seq
      (IC.block 0
      (IC.loop
      (IC.seq
      (IC.seq (IC.ops false [IOper.mk (some 12) (IOp.bin BinOp.lss (Opd.t 11) (Opd.t 10)) none] [])
      (IC.seq (IC.cond (Opd.t 12) IC.nop (IC.exit 0))
      (IC.seq
      (IC.seq
      (IC.block 1
      (IC.seq
      (IC.ops false
      [IOper.mk (some 13) (IOp.ixa 1 (Opd.t 9) (Opd.t 11)) none,
      IOper.mk (some 14) (IOp.load none (Opd.t 13)) none,
      IOper.mk (some 7) (IOp.mv (Opd.t 14)) none]
      [13, 14])
      (IC.ops false
      [IOper.mk (some 15) (IOp.mv (Opd.t 0)) none, IOper.mk (some 16) (IOp.mv (Opd.t 1)) none,
      IOper.mk (some 17) (IOp.mv (Opd.t 7)) none,
      IOper.mk (some 18)
      (IOp.call (Opd.c (AV.func (Fn.func 46) [] [])) [Opd.t 15, Opd.t 16, Opd.t 17]) none]
      [15, 16, 17, 18])))
      (IC.ops false [] [13, 14, 7, 15, 16, 17, 18]))
      (IC.ops false
      [IOper.mk (some 19) (IOp.bin BinOp.add (Opd.t 11) (Opd.c (AV.int IntKind.i64 1))) none,
      IOper.mk (some 11) (IOp.mv (Opd.t 19)) none]
      [19]))))
      (IC.ops false [] [12, 13, 14, 7, 15, 16, 17, 18, 19]))))
      (IC.ops false [] [12, 13, 14, 7, 15, 16, 17, 18, 19])))
  none
theorem fn_trace_holding_drop : F 48 = some ir_trace_holding_drop := by kernel_rfl

def ir_trace_holding_give : IFun :=
  IFun.mk true 3 []
  (IC.seq (IC.ops false [IOper.mk (some 5) (IOp.box 1 (Opd.t 2)) none] [])
    (IC.seq
      (IC.ops true
      [IOper.mk (some 6) (IOp.mv (Opd.t 0)) none, IOper.mk (some 7) (IOp.nilck (Opd.t 6)) none,
      IOper.mk (some 8) (IOp.faddr 0 (Opd.t 7)) none, IOper.mk (some 9) (IOp.load none (Opd.t 8)) none,
      IOper.mk (some 10) (IOp.load none (Opd.t 5)) none, IOper.mk none (IOp.del 0 (Opd.t 9) (Opd.t 10)) none]
      [6, 7, 8, 9, 10])
      (IC.ops true
      [IOper.mk (some 11) (IOp.mv (Opd.t 0)) none, IOper.mk (some 12) (IOp.nilck (Opd.t 11)) none,
      IOper.mk (some 13) (IOp.faddr 1 (Opd.t 12)) none, IOper.mk (some 14) (IOp.load none (Opd.t 13)) none,
      IOper.mk (some 15) (IOp.mv (Opd.t 1)) none, IOper.mk (some 16) (IOp.mv (Opd.t 0)) none,
      IOper.mk (some 17) (IOp.nilck (Opd.t 16)) none, IOper.mk (some 18) (IOp.faddr 1 (Opd.t 17)) none,
      IOper.mk (some 19) (IOp.load none (Opd.t 18)) none, IOper.mk (some 20) (IOp.mv (Opd.t 1)) none,
      IOper.mk (some 21) (IOp.look 0 (AV.imm true 0 0 (some 0) []) false (Opd.t 19) (Opd.t 20)) none,
      IOper.mk (some 22) (IOp.mkfn (Fn.func 58) [] [Opd.t 5]) none,
      IOper.mk (some 23) (IOp.callp 49 [Opd.t 21, Opd.t 22]) none,
      IOper.mk none (IOp.mapup 0 (Opd.t 14) (Opd.t 15) (Opd.t 23)) none]
      [11, 12, 13, 14, 15, 16, 17, 18, 19, 20, 21, 22, 23])))
  none
theorem fn_trace_holding_give : F 46 = some ir_trace_holding_give := by kernel_rfl

def ir_trace_holding_welded : IFun :=
  IFun.mk true 3 []
  (IC.seq
    (IC.ops false
      [IOper.mk (some 8) (IOp.mv (Opd.t 0)) none, IOper.mk (some 9) (IOp.nilck (Opd.t 8)) none,
      IOper.mk (some 10) (IOp.faddr 1 (Opd.t 9)) none, IOper.mk (some 11) (IOp.load none (Opd.t 10)) none,
      IOper.mk (some 12) (IOp.mv (Opd.t 1)) none,
      IOper.mk (some 13) (IOp.look 0 (AV.imm true 0 0 (some 0) []) false (Opd.t 11) (Opd.t 12)) none,
      IOper.mk (some 6) (IOp.mv (Opd.t 13)) none]
      [8, 9, 10, 11, 12, 13])
    (IC.seq
      (IC.ops false
      [IOper.mk (some 14) (IOp.mv (Opd.t 6)) none, IOper.mk (some 15) (IOp.len (Opd.t 14)) none,
      IOper.mk (some 16) (IOp.bin BinOp.sub (Opd.t 15) (Opd.c (AV.int IntKind.i64 1))) none,
      IOper.mk (some 7) (IOp.mv (Opd.t 16)) none]
      [14, 15, 16])
      (IC.seq
      (IC.block 0
      (IC.loop
      (IC.seq
      (IC.seq
      (IC.seq
      (IC.ops false
      [IOper.mk (some 17) (IOp.mv (Opd.t 7)) none,
      IOper.mk (some 18) (IOp.bin BinOp.gtr (Opd.t 17) (Opd.c (AV.int IntKind.i64 0))) none]
      [17])
      (IC.cond (Opd.t 18) IC.nop (IC.exit 0)))
      (IC.seq
      (IC.seq
      (IC.block 1
      (IC.seq
      (IC.ops false
      [IOper.mk (some 21) (IOp.mv (Opd.t 6)) none, IOper.mk (some 22) (IOp.mv (Opd.t 7)) none,
      IOper.mk (some 23) (IOp.ixa 1 (Opd.t 21) (Opd.t 22)) none,
      IOper.mk (some 24) (IOp.load none (Opd.t 23)) none,
      IOper.mk (some 25) (IOp.mv (Opd.t 2)) none,
      IOper.mk (some 26) (IOp.bin BinOp.neq (Opd.t 24) (Opd.t 25)) none]
      [21, 22, 23, 24, 25])
      (IC.cond (Opd.t 26)
      (IC.seq
      (IC.ops false
      [IOper.mk (some 27) (IOp.mv (Opd.t 0)) none, IOper.mk (some 28) (IOp.mv (Opd.t 1)) none,
      IOper.mk (some 29) (IOp.mv (Opd.t 6)) none, IOper.mk (some 30) (IOp.mv (Opd.t 7)) none,
      IOper.mk (some 31) (IOp.ixa 1 (Opd.t 29) (Opd.t 30)) none,
      IOper.mk (some 32) (IOp.load none (Opd.t 31)) none,
      IOper.mk (some 33)
      (IOp.call (Opd.c (AV.func (Fn.func 46) [] [])) [Opd.t 27, Opd.t 28, Opd.t 32]) none]
      [27, 28, 29, 30, 31, 32, 33])
      IC.ret)
      IC.nop)))
      (IC.ops false [] [21, 22, 23, 24, 25, 26, 27, 28, 29, 30, 31, 32, 33]))
      (IC.ops false
      [IOper.mk (some 19) (IOp.mv (Opd.t 7)) none,
      IOper.mk (some 20) (IOp.bin BinOp.sub (Opd.t 19) (Opd.c (AV.int IntKind.i64 1))) none,
      IOper.mk (some 7) (IOp.mv (Opd.t 20)) none]
      [19, 20])))
      (IC.ops false [] [17, 18, 21, 22, 23, 24, 25, 26, 27, 28, 29, 30, 31, 32, 33, 19, 20]))))
      (IC.ops false [] [17, 18, 21, 22, 23, 24, 25, 26, 27, 28, 29, 30, 31, 32, 33, 19, 20]))))
  none
theorem fn_trace_holding_welded : F 47 = some ir_trace_holding_welded := by kernel_rfl

def ir_slices_IndexFunc_int_int : IFun :=
  IFun.mk false 2 [IRes.tmp 4]
  (IC.seq (IC.ops false [IOper.mk (some 4) (IOp.mv (Opd.c (AV.int IntKind.i64 0))) none] [])
    (IC.seq
      (IC.seq
      (IC.ops false
      [IOper.mk (some 6) (IOp.mv (Opd.t 0)) none, IOper.mk (some 7) (IOp.len (Opd.t 6)) none,
      IOper.mk (some 8) (IOp.mv (Opd.c (AV.int IntKind.i64 0))) none]
      [6])
      (IC.seq
      (IC.block 0
      (IC.loop
      (IC.seq
      (IC.seq (IC.ops false [IOper.mk (some 9) (IOp.bin BinOp.lss (Opd.t 8) (Opd.t 7)) none] [])
      (IC.seq (IC.cond (Opd.t 9) IC.nop (IC.exit 0))
      (IC.seq
      (IC.seq
      (IC.block 1
      (IC.seq
      (IC.ops false
      [IOper.mk (some 10) (IOp.mv (Opd.t 8)) none, IOper.mk (some 5) (IOp.mv (Opd.t 10)) none]
      [10])
      (IC.seq
      (IC.ops false
      [IOper.mk (some 11) (IOp.mv (Opd.t 1)) none, IOper.mk (some 12) (IOp.mv (Opd.t 0)) none,
      IOper.mk (some 13) (IOp.mv (Opd.t 5)) none,
      IOper.mk (some 14) (IOp.ixa 1 (Opd.t 12) (Opd.t 13)) none,
      IOper.mk (some 15) (IOp.load none (Opd.t 14)) none,
      IOper.mk (some 16) (IOp.call (Opd.t 11) [Opd.t 15]) none]
      [11, 12, 13, 14, 15])
      (IC.cond (Opd.t 16)
      (IC.seq
      (IC.ops false
      [IOper.mk (some 17) (IOp.mv (Opd.t 5)) none,
      IOper.mk (some 4) (IOp.mv (Opd.t 17)) none]
      [17])
      IC.ret)
      IC.nop))))
      (IC.ops false [] [10, 5, 11, 12, 13, 14, 15, 16, 17]))
      (IC.ops false
      [IOper.mk (some 18) (IOp.bin BinOp.add (Opd.t 8) (Opd.c (AV.int IntKind.i64 1)))
      none,
      IOper.mk (some 8) (IOp.mv (Opd.t 18)) none]
      [18]))))
      (IC.ops false [] [9, 10, 5, 11, 12, 13, 14, 15, 16, 17, 18]))))
      (IC.ops false [] [9, 10, 5, 11, 12, 13, 14, 15, 16, 17, 18])))
      (IC.seq (IC.ops false [IOper.mk (some 4) (IOp.mv (Opd.c (AV.int IntKind.i64 (-1)))) none] []) IC.ret)))
  none
theorem fn_slices_IndexFunc_int_int : F 59 = some ir_slices_IndexFunc_int_int := by kernel_rfl

def ir_trace_holding_give_1 : IFun :=
  IFun.mk false 2 [IRes.tmp 3]
  (IC.seq (IC.ops false [IOper.mk (some 3) (IOp.mv (Opd.c (AV.bool false))) none] [])
    (IC.seq
      (IC.ops false
      [IOper.mk (some 4) (IOp.mv (Opd.t 0)) none, IOper.mk (some 5) (IOp.load none (Opd.t 1)) none,
      IOper.mk (some 6) (IOp.bin BinOp.eql (Opd.t 4) (Opd.t 5)) none, IOper.mk (some 3) (IOp.mv (Opd.t 6)) none]
      [4, 5, 6])
      IC.ret))
  none
theorem fn_trace_holding_give_1 : F 58 = some ir_trace_holding_give_1 := by kernel_rfl
end Go.AS.Tr

/-
  More steps do no harm; nor does more memory below. By an AI agent.
-/
namespace Go.AS
open Go

def CallLe (c c' : CallT) : Prop := ∀ f args S r S', c f args S = some (r, S') → ∀ T, c' f args (S ++ T) = some (r, S' ++ T)

def OR.ext (T : Stack) : OR → OR
  | .go e S => .go e (S ++ T)
  | .pan v e S => .pan v e (S ++ T)

def outExt (T : Stack) (r : IX × Env × Stack) : IX × Env × Stack := (r.1, r.2.1, r.2.2 ++ T)

theorem afterCall_mono {c c' : CallT} (h : CallLe c c') {e : Env} {d : Option Nat} {f : AV} {args : List AV} {S : Stack} {r : OR} (T : Stack) (hc : afterCall e d (c f args S) = some r) : afterCall e d (c' f args (S ++ T)) = some (r.ext T) := by
  cases hx : c f args S with
  | none => rw [hx] at hc; cases hc
  | some p =>
    obtain ⟨q, S'⟩ := p
    rw [h _ _ _ _ _ hx T]
    rw [hx] at hc
    cases S' with
    | nil => cases q <;> cases hc
    | cons H1 S1 => cases q <;> (cases hc; rfl)

theorem evOper_mono {c c' : CallT} (h : CallLe c c') {o : IOper} {e : Env} {S : Stack} {r : OR} (T : Stack) (hr : evOper c o e S = some r) : evOper c' o e (S ++ T) = some (r.ext T) := by
  unfold evOper at hr ⊢
  split at hr
  · cases hr
  · cases hr; rfl
  · split at hr
    · split at hr
      · cases hr; rfl
      · cases hr
    · rename_i f azs _
      cases hf : hfrees (evs e azs) with
      | false => rw [hf] at hr; cases hr
      | true =>
        rw [hf] at hr
        simp only [cond_true] at hr ⊢
        split at hr
        · rename_i v H1 hv
          have := h _ _ _ _ _ hv []
          simp only [List.append_nil] at this
          rw [this]
          split at hr
          · rename_i v' hlv
            cases hv2 : hfree v' with
            | false => rw [hv2] at hr; cases hr
            | true => rw [hv2] at hr; cases hr; simp only [hlv, hv2, cond_true]; rfl
          · cases hr
        · cases hr
    · rename_i f azs _
      split at hr
      · cases hr
      · simp only [List.cons_append]
        cases hf : hfrees (evs e azs) with
        | false => rw [hf] at hr; cases hr
        | true =>
          rw [hf] at hr
          simp only [cond_true] at hr ⊢
          split at hr
          · rename_i v H1 hv
            have := h _ _ _ _ _ hv []
            simp only [List.append_nil] at this
            rw [this]
            split at hr
            · rename_i v' H2 hfr
              cases hr
              simp only [hfr]; rfl
            · cases hr
          · cases hr
    · split at hr
      · cases hr
      · simp only [List.cons_append]
        split at hr
        · rename_i azs has
          cases hf : hfrees azs with
          | false => rw [hf] at hr; cases hr
          | true =>
            rw [hf] at hr
            simp only [cond_true] at hr
            split at hr
            · rename_i v hv
              have := h _ _ _ _ _ hv []
              simp only [List.append_nil] at this
              cases hv2 : scal v with
              | false => rw [hv2] at hr; cases hr
              | true =>
                rw [hv2] at hr
                cases hr
                simp only [has, hf, cond_true, this, hv2]; rfl
            · cases hr
        · cases hr
    · exact afterCall_mono h T hr
    · split at hr
      · cases hr
      · simp only [List.cons_append]
        split at hr
        · cases hr; rfl
        · cases hr

theorem evOps_mono {c c' : CallT} (h : CallLe c c') (T : Stack) : ∀ {l : List IOper} {e : Env} {S : Stack} {r : OR}, evOps c l e S = some r → evOps c' l e (S ++ T) = some (r.ext T)
  | [], _, _, _, hr => by cases hr; rfl
  | o :: l, e, S, r, hr => by
    unfold evOps at hr ⊢
    split at hr
    · rename_i e1 S1 h1
      rw [evOper_mono h T h1]
      exact evOps_mono h T hr
    · rename_i hno
      rw [evOper_mono h T hr]
      cases r with
      | go e1 S1 => exact absurd hr (hno _ _)
      | pan => rfl

theorem iter_mono {f f' : Env → Stack → Out} (T : Stack) (hf : ∀ e S r, f e S = some r → f' e (S ++ T) = some (outExt T r)) : ∀ {n n' : Nat} {e : Env} {S : Stack} {r : IX × Env × Stack}, n ≤ n' → iter f n e S = some r → iter f' n' e (S ++ T) = some (outExt T r)
  | 0, _, _, _, _, _, h => by simp [iter] at h
  | n + 1, 0, _, _, _, hn, _ => by omega
  | n + 1, n' + 1, e, S, r, hn, h => by
    simp only [iter] at h ⊢
    split at h
    · rename_i e1 S1 h1
      rw [hf _ _ _ h1]
      exact iter_mono T hf (Nat.le_of_succ_le_succ hn) h
    · rename_i hno
      rw [hf _ _ _ h]
      obtain ⟨x, e1, S1⟩ := r
      cases x with
      | normal => exact absurd h (hno _ _)
      | _ => rfl

theorem agree_mono {c c' : CallT} (h : CallLe c c') (T : Stack) {e e1 : Env} {S S1 : Stack} : ∀ {ls : List (List IOper)}, agree c e S e1 S1 ls = true → agree c' e (S ++ T) e1 (S1 ++ T) ls = true
  | [], _ => rfl
  | l :: r, hr => by
    simp only [agree] at hr ⊢
    split at hr
    · rename_i e2 S2 h2
      rw [evOps_mono h T h2]
      cases hb : (decide (e2 = e1) && decide (S2 = S1)) with
      | false => rw [hb] at hr; cases hr
      | true =>
        rw [hb] at hr
        simp only [Bool.and_eq_true, decide_eq_true_eq] at hb
        obtain ⟨rfl, rfl⟩ := hb
        simp only [OR.ext, decide_true, Bool.and_self, cond_true]
        exact agree_mono h T hr
    · cases hr
theorem evAll_mono {c c' : CallT} (h : CallLe c c') (T : Stack) {e e1 : Env} {S S1 : Stack} {ls : List (List IOper)} (hr : evAll c e S ls = some (e1, S1)) : evAll c' e (S ++ T) ls = some (e1, S1 ++ T) := by
  cases ls with
  | nil => cases hr
  | cons l r =>
    simp only [evAll] at hr ⊢
    split at hr
    · rename_i e2 S2 h2
      rw [evOps_mono h T h2]
      cases hb : agree c e S e2 S2 r with
      | false => rw [hb] at hr; cases hr
      | true =>
        rw [hb] at hr
        simp only [cond_true, Option.some.injEq, Prod.mk.injEq] at hr
        obtain ⟨rfl, rfl⟩ := hr
        simp only [OR.ext, agree_mono h T hb, cond_true]
    · cases hr

theorem evC_mono {k k' : Nat} {c c' : CallT} (hk : k ≤ k') (h : CallLe c c') (T : Stack) : ∀ (ir : IC) {e : Env} {S : Stack} {r : IX × Env × Stack}, evC k c ir e S = some r → evC k' c' ir e (S ++ T) = some (outExt T r) := by
  intro ir
  induction ir with
  | nop => intro e S r hr; cases hr; rfl
  | exit => intro e S r hr; cases hr; rfl
  | ret => intro e S r hr; cases hr; rfl
  | ops d l dr =>
    intro e S r hr
    simp only [evC] at hr ⊢
    cases h1 : evOps c l e S with
    | none => rw [h1] at hr; cases hr
    | some o =>
      rw [evOps_mono h T h1]
      rw [h1] at hr
      cases o with
      | go e1 S1 => cases hr; rfl
      | pan v e1 S1 =>
        cases d with
        | true => cases hr
        | false => cases hr; rfl
  | multi ls dr =>
    intro e S r hr
    simp only [evC] at hr ⊢
    split at hr
    · rename_i e1 S1 h1
      have h2 : evM c' e (S ++ T) ls = some (e1, S1 ++ T) := by
        unfold evM at h1 ⊢
        cases S with
        | nil => cases h1
        | cons H S0 => exact evAll_mono h T h1
      rw [h2]
      cases hr; rfl
    · cases hr
  | seq a b iha ihb =>
    intro e S r hr
    simp only [evC] at hr ⊢
    split at hr
    · rename_i e1 S1 h1
      rw [iha h1]
      exact ihb hr
    · rename_i hno
      rw [iha hr]
      obtain ⟨x, e1, S1⟩ := r
      cases x with
      | normal => exact absurd hr (hno _ _)
      | _ => rfl
  | cond co a b iha ihb =>
    intro e S r hr
    simp only [evC] at hr ⊢
    split at hr
    · rename_i t ht
      cases t with
      | true => exact iha hr
      | false => exact ihb hr
    · cases hr
  | block id b ih =>
    intro e S r hr
    simp only [evC] at hr ⊢
    split at hr
    · rename_i j e1 S1 h1
      rw [ih h1]
      simp only [outExt]
      cases hj : Nat.beq j id with
      | true => rw [hj] at hr; cases hr; rfl
      | false => rw [hj] at hr; cases hr; rfl
    · rename_i hno
      rw [ih hr]
      obtain ⟨x, e1, S1⟩ := r
      cases x with
      | exit => exact absurd hr (hno _ _ _)
      | _ => rfl
  | loop b ih =>
    intro e S r hr
    simp only [evC] at hr ⊢
    exact iter_mono T (fun e S r hx => ih hx) hk hr
  | rangeF g ps a b _ _ =>
    intro e S r hr
    simp only [evC] at hr ⊢
    split at hr
    · cases hr
    · rename_i H S'
      simp only [List.cons_append]
      cases hg : isFnF (g.ev e) with
      | false => rw [hg] at hr; cases hr
      | true =>
        rw [hg] at hr
        simp only [Bool.not_true, cond_false] at hr ⊢
        split at hr
        · rename_i v H2 S2 h1
          have := h _ _ _ _ _ h1 T
          simp only [List.cons_append] at this
          rw [this]
          simp only
          split at hr
          · rename_i L hL
            split at hr
            · cases hr
            · cases hr; rfl
          · cases hr
        · cases hr

theorem resultsA_ext {e : Env} {S : Stack} {rs : List IRes} {v : AV} (T : Stack) (h : resultsA e S rs = some v) : resultsA e (S ++ T) rs = some v := by
  cases S with
  | nil => cases h
  | cons H S => exact h

def crExt (T : Stack) (r : CR × Stack) : CR × Stack := (r.1, r.2 ++ T)

theorem runF_mono {k k' : Nat} {c c' : CallT} (hk : k ≤ k') (h : CallLe c c') (T : Stack) {fn : IFun} {args : List AV} {S : Stack} {r : CR × Stack} (hr : runF k c fn args S = some r) : runF k' c' fn args (S ++ T) = some (crExt T r) := by
  unfold runF at hr ⊢
  cases hb : (!(Nat.beq args.length fn.nargs)) with
  | true => rw [hb] at hr; cases hr
  | false =>
    rw [hb] at hr
    simp only [cond_false] at hr ⊢
    cases h1 : evC k c fn.body (Env.ofArgs 0 args) S with
    | none => rw [h1] at hr; cases hr
    | some o =>
      rw [evC_mono hk h T fn.body h1]
      rw [h1] at hr
      obtain ⟨x, e1, S1⟩ := o
      cases x with
      | exit => cases hr
      | panic v => cases hr; rfl
      | normal =>
        simp only [Option.map_eq_some_iff] at hr
        obtain ⟨v, h2, rfl⟩ := hr
        simp only [outExt, resultsA_ext T h2, Option.map_some, crExt]
      | ret =>
        simp only [Option.map_eq_some_iff] at hr
        obtain ⟨v, h2, rfl⟩ := hr
        simp only [outExt, resultsA_ext T h2, Option.map_some, crExt]

theorem callFn_mono {k k' : Nat} {c c' : CallT} (hk : k ≤ k') (h : CallLe c c') (T : Stack) {fn : IFun} {args : List AV} {S : Stack} {r : CR × Stack} (hr : callFn k c fn args S = some r) : callFn k' c' fn args (S ++ T) = some (crExt T r) := by
  unfold callFn at hr ⊢
  split at hr
  · split at hr
    · cases hr
    · simp only [List.cons_append]
      exact runF_mono hk h T hr
  · rename_i args' hargs
    cases h1 : runF k c fn args' ([] :: S) with
    | none => rw [h1] at hr; cases hr
    | some o =>
      have := runF_mono hk h T h1
      simp only [List.cons_append] at this
      rw [this]
      rw [h1] at hr
      obtain ⟨q, S1⟩ := o
      cases S1 with
      | nil => cases q <;> cases hr
      | cons H1 S1 =>
        cases q with
        | ret v =>
          simp only [Option.map_eq_some_iff] at hr
          obtain ⟨v2, h2, rfl⟩ := hr
          simp only [crExt, List.cons_append, h2, Option.map_some]
        | pan v =>
          simp only [Option.map_eq_some_iff] at hr
          obtain ⟨v2, h2, rfl⟩ := hr
          simp only [crExt, List.cons_append, h2, Option.map_some]

theorem endRound_ext {l : Nat} {o : IX × Env × Stack} {r : CR × Stack} (T : Stack) (h : endRound l (some o) = some r) : endRound l (some (outExt T o)) = some (crExt T r) := by
  obtain ⟨x, e, S⟩ := o
  cases S with
  | nil => cases h
  | cons H2 S2 =>
    simp only [outExt, List.cons_append, endRound] at h ⊢
    split at h
    · rename_i L2 hL
      cases x with
      | panic v => cases h
      | normal => cases h; rfl
      | exit id => cases h; rfl
      | ret => cases h; rfl
    · cases h

theorem round_mono {k k' : Nat} {c c' : CallT} (hk : k ≤ k') (h : CallLe c c') (T : Stack) {l : Nat} {args : List AV} {S : Stack} {r : CR × Stack} (hr : round k c l args S = some r) : round k' c' l args (S ++ T) = some (crExt T r) := by
  unfold round at hr ⊢
  split at hr
  · cases hr
  · rename_i H S0
    simp only [List.cons_append]
    split at hr
    · rename_i L hL
      cases hb : (!(Nat.beq args.length L.params.length)) with
      | true => rw [hb] at hr; cases hr
      | false =>
        rw [hb] at hr
        simp only [cond_false] at hr ⊢
        split at hr
        · rename_i e1 H1 S1 h1
          have := evC_mono hk h T _ h1
          simp only [List.cons_append, outExt] at this
          rw [this]
          simp only
          split at hr
          · rename_i L1 hL1
            split at hr
            · rename_i hst
              cases h2 : evC k c L.body e1 (H1.set l (.loop { L1 with state := .busy }) :: S1) with
              | none => rw [h2] at hr; simp [endRound] at hr
              | some o =>
                have := evC_mono hk h T _ h2
                simp only [List.cons_append] at this
                rw [this]
                rw [h2] at hr
                exact endRound_ext T hr
            · cases hr
          · cases hr
        · cases hr
    · cases hr

theorem natV_ext (T : Stack) {nk : NatK} {args : List AV} {S : Stack} {r : CR × Stack} (h : natV nk args S = some r) : natV nk args (S ++ T) = some (crExt T r) := by
  unfold natV at h
  split at h
  · rename_i t el id n H S
    split at h
    · rename_i t' el' bs hid
      rw [Bool.cond_eq_ite] at h
      split at h
      · rename_i hc; cases h; simp only [natV, List.cons_append, hid, Bool.cond_eq_ite, if_pos hc]; rfl
      · cases h
    · cases h
  · rename_i t el id s H S
    split at h
    · rename_i t' el' bs hid
      rw [Bool.cond_eq_ite] at h
      split at h
      · rename_i hc; cases h; simp only [natV, List.cons_append, hid, Bool.cond_eq_ite, if_pos hc]; rfl
      · cases h
    · cases h
  · rename_i t el id H S
    split at h
    · rename_i t' el' bs hid
      rw [Bool.cond_eq_ite] at h
      split at h
      · rename_i hc; cases h; simp only [natV, List.cons_append, hid, Bool.cond_eq_ite, if_pos hc]; rfl
      · cases h
    · cases h
  · rename_i k args S h1 h2 h3
    split at h
    · rename_i v hv
      cases h
      unfold natV
      split
      · simp [natS] at hv
      · simp [natS] at hv
      · simp [natS] at hv
      · simp only [hv]; rfl
    · cases h

theorem callV_mono (funs : Nat → Option IFun) : ∀ {k k' : Nat}, k ≤ k' → CallLe (callV funs k) (callV funs k')
  | 0, _, _ => fun f args S r S' h => by simp [callV] at h
  | k + 1, 0, hk => by omega
  | k + 1, k' + 1, hk => by
    have ih := callV_mono funs (Nat.le_of_succ_le_succ hk)
    intro v args S r S' h T
    unfold callV at h ⊢
    split at h
    · split at h
      · rename_i fn hfn
        cases hn : fn.nat with
        | some nk =>
          rw [hn] at h
          exact natV_ext T h
        | none =>
          rw [hn] at h
          exact callFn_mono (Nat.le_of_succ_le_succ hk) ih T h
      · cases h
    · exact round_mono (Nat.le_of_succ_le_succ hk) ih T h
    · split at h
      · cases h
      · simp only [List.cons_append]
        split at h
        · cases h
        · rename_i args' hargs
          split at h
          · rename_i v S2 h1
            rw [ih _ _ _ _ _ h1 T]
            simp only [Option.map_eq_some_iff, Prod.mk.injEq] at h
            obtain ⟨v2, h2, rfl, rfl⟩ := h
            simp only [h2, Option.map_some, List.cons_append]
          · rename_i v S2 h1
            rw [ih _ _ _ _ _ h1 T]
            simp only [Option.map_eq_some_iff, Prod.mk.injEq] at h
            obtain ⟨v2, h2, rfl, rfl⟩ := h
            simp only [h2, Option.map_some, List.cons_append]
          · cases h
    · cases h
/-- Fewer functions do what all do. -/
theorem callV_sub {funs' funs : Nat → Option IFun} (hs : ∀ g fn, funs' g = some fn → funs g = some fn) : ∀ {k k' : Nat}, k ≤ k' → CallLe (callV funs' k) (callV funs k')
  | 0, _, _ => fun f args S r S' h => by simp [callV] at h
  | k + 1, 0, hk => by omega
  | k + 1, k' + 1, hk => by
    have ih := callV_sub hs (Nat.le_of_succ_le_succ hk)
    intro v args S r S' h T
    unfold callV at h ⊢
    split at h
    · split at h
      · rename_i fn hfn
        rw [hs _ _ hfn]
        cases hn : fn.nat with
        | some nk =>
          rw [hn] at h
          simp only [hn]
          exact natV_ext T h
        | none =>
          rw [hn] at h
          simp only [hn]
          exact callFn_mono (Nat.le_of_succ_le_succ hk) ih T h
      · cases h
    · exact round_mono (Nat.le_of_succ_le_succ hk) ih T h
    · split at h
      · cases h
      · simp only [List.cons_append]
        split at h
        · cases h
        · rename_i args' hargs
          split at h
          · rename_i v S2 h1
            rw [ih _ _ _ _ _ h1 T]
            simp only [Option.map_eq_some_iff, Prod.mk.injEq] at h
            obtain ⟨v2, h2, rfl, rfl⟩ := h
            simp only [h2, Option.map_some, List.cons_append]
          · rename_i v S2 h1
            rw [ih _ _ _ _ _ h1 T]
            simp only [Option.map_eq_some_iff, Prod.mk.injEq] at h
            obtain ⟨v2, h2, rfl, rfl⟩ := h
            simp only [h2, Option.map_some, List.cons_append]
          · cases h
    · cases h
def listF : List (Nat × IFun) → Nat → Option IFun
  | [], _ => none
  | (i, f) :: r, g => bif Nat.beq i g then some f else listF r g
theorem listF_sub {funs : Nat → Option IFun} : ∀ {L : List (Nat × IFun)}, (∀ p ∈ L, funs p.1 = some p.2) → ∀ g fn, listF L g = some fn → funs g = some fn
  | [], _, _, _, h => by cases h
  | (i, f) :: r, hl, g, fn, h => by
    simp only [listF] at h
    cases hb : Nat.beq i g with
    | true =>
      rw [hb] at h
      simp only [cond_true, Option.some.injEq] at h
      have := Nat.eq_of_beq_eq_true hb
      subst this
      subst h
      exact hl (i, f) (by simp)
    | false =>
      rw [hb] at h
      exact listF_sub (fun p hp => hl p (by simp [hp])) g fn h
end Go.AS

/-
  A logic of the evaluator: what code comes to, whatever number of steps it takes. By an AI agent.
-/
namespace Go.AS
open Go

/-- The operations that call or panic. -/
def isApart : IOp → Bool
  | .panic _ | .callp .. | .callf .. | .calls .. | .call .. => true
  | _ => false

section
variable {funs : Nat → Option IFun}

/-- Code c comes to an end that Q takes. -/
def Ev (funs : Nat → Option IFun) (c : IC) (e : Env) (S : Stack) (Q : IX → Env → Stack → Prop) : Prop :=
  ∃ k x e' S', evC k (callV funs k) c e S = some (x, e', S') ∧ Q x e' S'

/-- So do operations. -/
def EvO (funs : Nat → Option IFun) (l : List IOper) (e : Env) (S : Stack) (Q : Env → Stack → Prop) (N : AV → Stack → Prop) : Prop :=
  ∃ k o, evOps (callV funs k) l e S = some o ∧ (match o with | .go e' S' => Q e' S' | .pan v _ S' => N v S')

/-- So does a call. -/
def Ends (funs : Nat → Option IFun) (f : AV) (args : List AV) (S : Stack) (R : CR → Stack → Prop) : Prop :=
  ∃ k r S', callV funs k f args S = some (r, S') ∧ R r S'

/-- A function of the program's that is a function of its arguments. -/
def Gives (funs : Nat → Option IFun) (g : Nat) (args : List AV) (v : AV) : Prop :=
  ∃ k, callV funs k (.func (.func g) [] []) args [] = some (.ret v, [])

theorem Ev.mono {c : IC} {e : Env} {S : Stack} {Q Q' : IX → Env → Stack → Prop} (h : Ev funs c e S Q) (hQ : ∀ x e' S', Q x e' S' → Q' x e' S') : Ev funs c e S Q' :=
  let ⟨k, x, e', S', h1, h2⟩ := h; ⟨k, x, e', S', h1, hQ _ _ _ h2⟩

theorem outExt_nil (r : IX × Env × Stack) : outExt [] r = r := by simp [outExt]
theorem evC_up {k k' : Nat} (hk : k ≤ k') {c : IC} {e : Env} {S : Stack} {r : IX × Env × Stack} (h : evC k (callV funs k) c e S = some r) : evC k' (callV funs k') c e S = some r := by
  have := evC_mono hk (callV_mono funs hk) [] c h
  rwa [List.append_nil, outExt_nil] at this
theorem evOps_up {k k' : Nat} (hk : k ≤ k') {l : List IOper} {e : Env} {S : Stack} {r : OR} (h : evOps (callV funs k) l e S = some r) : evOps (callV funs k') l e S = some r := by
  have := evOps_mono (callV_mono funs hk) [] h
  cases r <;> simpa [OR.ext] using this
theorem callV_up {k k' : Nat} (hk : k ≤ k') {f : AV} {args : List AV} {S S' : Stack} {r : CR} (h : callV funs k f args S = some (r, S')) : callV funs k' f args S = some (r, S') := by
  simpa using callV_mono funs hk _ _ _ _ _ h []
theorem Gives.at {g : Nat} {args : List AV} {v : AV} (h : Gives funs g args v) : ∃ k, ∀ S, callV funs k (.func (.func g) [] []) args S = some (.ret v, S) :=
  let ⟨k, hk⟩ := h; ⟨k, fun S => by simpa using callV_mono funs (Nat.le_refl k) _ _ _ _ _ hk S⟩

theorem Ev.nop {e : Env} {S : Stack} {Q : IX → Env → Stack → Prop} (h : Q .normal e S) : Ev funs .nop e S Q := ⟨0, _, _, _, rfl, h⟩
theorem Ev.exit {id : Nat} {e : Env} {S : Stack} {Q : IX → Env → Stack → Prop} (h : Q (.exit id) e S) : Ev funs (.exit id) e S Q := ⟨0, _, _, _, rfl, h⟩
theorem Ev.ret {e : Env} {S : Stack} {Q : IX → Env → Stack → Prop} (h : Q .ret e S) : Ev funs .ret e S Q := ⟨0, _, _, _, rfl, h⟩

/-- On, where code ends as it ought to. -/
def onward (K : Env → Stack → Prop) (Q : IX → Env → Stack → Prop) : IX → Env → Stack → Prop
  | .normal, e, S => K e S
  | x, e, S => Q x e S

theorem Ev.seq {a b : IC} {e : Env} {S : Stack} {Q : IX → Env → Stack → Prop} (h : Ev funs a e S (onward (fun e S => Ev funs b e S Q) Q)) : Ev funs (.seq a b) e S Q := by
  obtain ⟨k, x, e1, S1, h1, h2⟩ := h
  cases x with
  | normal =>
    obtain ⟨k2, x2, e2, S2, h3, h4⟩ := h2
    refine ⟨max k k2, x2, e2, S2, ?_, h4⟩
    simp only [evC, evC_up (Nat.le_max_left k k2) h1]
    exact evC_up (Nat.le_max_right k k2) h3
  | exit id => exact ⟨k, _, _, _, by simp only [evC, h1], h2⟩
  | ret => exact ⟨k, _, _, _, by simp only [evC, h1], h2⟩
  | panic v => exact ⟨k, _, _, _, by simp only [evC, h1], h2⟩

theorem Ev.cond {c : Opd} {a b : IC} {e : Env} {S : Stack} {Q : IX → Env → Stack → Prop} {t : Bool} (hc : c.ev e = .bool t) (h1 : t = true → Ev funs a e S Q) (h2 : t = false → Ev funs b e S Q) : Ev funs (.cond c a b) e S Q := by
  cases t with
  | true =>
    obtain ⟨k, x, e1, S1, h3, h4⟩ := h1 rfl
    exact ⟨k, x, e1, S1, by simp only [evC, hc, cond_true, h3], h4⟩
  | false =>
    obtain ⟨k, x, e1, S1, h3, h4⟩ := h2 rfl
    exact ⟨k, x, e1, S1, by simp only [evC, hc, cond_false, h3], h4⟩

/-- Out of a block. -/
def outOf (id : Nat) (Q : IX → Env → Stack → Prop) : IX → Env → Stack → Prop
  | .exit j, e, S => bif Nat.beq j id then Q .normal e S else Q (.exit j) e S
  | x, e, S => Q x e S

theorem Ev.block {id : Nat} {b : IC} {e : Env} {S : Stack} {Q : IX → Env → Stack → Prop} (h : Ev funs b e S (outOf id Q)) : Ev funs (.block id b) e S Q := by
  obtain ⟨k, x, e1, S1, h1, h2⟩ := h
  cases x with
  | exit j =>
    simp only [outOf] at h2
    cases hj : Nat.beq j id with
    | true => rw [hj] at h2; exact ⟨k, _, _, _, by simp only [evC, h1, hj, cond_true], h2⟩
    | false => rw [hj] at h2; exact ⟨k, _, _, _, by simp only [evC, h1, hj, cond_false], h2⟩
  | normal => exact ⟨k, _, _, _, by simp only [evC, h1], h2⟩
  | ret => exact ⟨k, _, _, _, by simp only [evC, h1], h2⟩
  | panic v => exact ⟨k, _, _, _, by simp only [evC, h1], h2⟩

theorem iter_up {f f' : Env → Stack → Out} (hf : ∀ e S r, f e S = some r → f' e S = some r) {n n' : Nat} {e : Env} {S : Stack} {r : IX × Env × Stack} (hn : n ≤ n') (h : iter f n e S = some r) : iter f' n' e S = some r := by
  have := iter_mono (f := f) (f' := f') [] (fun e S r hx => by rw [List.append_nil, outExt_nil]; exact hf e S r hx) hn h
  rwa [List.append_nil, outExt_nil] at this

/-- A loop: an invariant that bears a number, which every round lowers. -/
theorem Ev.loop {b : IC} {Q : IX → Env → Stack → Prop} (I : Nat → Env → Stack → Prop) (hround : ∀ n e S, I n e S → Ev funs b e S (onward (fun e S => ∃ m, m < n ∧ I m e S) Q)) (n : Nat) {e : Env} {S : Stack} (h : I n e S) : Ev funs (.loop b) e S Q := by
  have key : ∀ n e S, I n e S → ∃ j k x e' S', iter (evC k (callV funs k) b) j e S = some (x, e', S') ∧ Q x e' S' := by
    intro n
    induction n using Nat.strongRecOn with
    | _ n ih =>
      intro e S hI
      obtain ⟨k, x, e1, S1, h1, h2⟩ := hround n e S hI
      cases x with
      | normal =>
        obtain ⟨m, hm, hI1⟩ := h2
        obtain ⟨j, k2, x2, e2, S2, h3, h4⟩ := ih m hm e1 S1 hI1
        refine ⟨j + 1, max k k2, x2, e2, S2, ?_, h4⟩
        simp only [iter, evC_up (Nat.le_max_left k k2) h1]
        exact iter_up (fun e S r hx => evC_up (Nat.le_max_right k k2) hx) (Nat.le_refl j) h3
      | exit id => exact ⟨1, k, _, _, _, by simp only [iter, h1], h2⟩
      | ret => exact ⟨1, k, _, _, _, by simp only [iter, h1], h2⟩
      | panic v => exact ⟨1, k, _, _, _, by simp only [iter, h1], h2⟩
  obtain ⟨j, k, x, e', S', h1, h2⟩ := key n e S h
  refine ⟨max j k, x, e', S', ?_, h2⟩
  simp only [evC]
  exact iter_up (fun e S r hx => evC_up (Nat.le_max_right j k) hx) (Nat.le_max_left j k) h1

/-- Operations. -/
theorem Ev.ops {d : Bool} {l : List IOper} {dr : List Nat} {e : Env} {S : Stack} {Q : IX → Env → Stack → Prop} (h : EvO funs l e S (fun e' S' => Q .normal (Env.drop e' dr) S') (fun v S' => d = false ∧ ∀ e', Q (.panic v) e' S')) : Ev funs (.ops d l dr) e S Q := by
  obtain ⟨k, o, h1, h2⟩ := h
  cases o with
  | go e1 S1 => exact ⟨k, _, _, _, by simp only [evC, h1], h2⟩
  | pan v e1 S1 =>
    obtain ⟨rfl, h3⟩ := h2
    exact ⟨k, .panic v, e1, S1, by simp only [evC, h1, cond_false], h3 _⟩

theorem EvO.nil {e : Env} {S : Stack} {Q : Env → Stack → Prop} {N : AV → Stack → Prop} (h : Q e S) : EvO funs [] e S Q N := ⟨0, _, rfl, h⟩

/-- An operation that calls nothing. -/
theorem EvO.op {o : IOper} {l : List IOper} {e : Env} {H : Heap} {S : Stack} {Q : Env → Stack → Prop} {N : AV → Stack → Prop} {v : AV} {H' : Heap} (hg : o.guard = none) (ha : isApart o.op = false) (hv : evOp e H o.op = some (v, H')) (h : EvO funs l (putD e o.dst v) (H' :: S) Q N) : EvO funs (o :: l) e (H :: S) Q N := by
  obtain ⟨k, r, h1, h2⟩ := h
  refine ⟨k, r, ?_, h2⟩
  have : evOper (callV funs k) o e (H :: S) = some (.go (putD e o.dst v) (H' :: S)) := by
    unfold evOper
    rw [hg]
    simp only [guardA]
    split
    · rename_i x hx; rw [hx] at ha; cases ha
    · rename_i x y hx; rw [hx] at ha; cases ha
    · rename_i x y hx; rw [hx] at ha; cases ha
    · rename_i x y hx; rw [hx] at ha; cases ha
    · rename_i x y hx; rw [hx] at ha; cases ha
    · simp only [hv]
  simp only [evOps, this, h1]

/-- A guarded one. -/
theorem EvO.opg {o : IOper} {l : List IOper} {e : Env} {H : Heap} {S : Stack} {Q : Env → Stack → Prop} {N : AV → Stack → Prop} {t : Bool} (hg : guardA e o.guard = some t) (ha : t = true → EvO funs ({ o with guard := none } :: l) e (H :: S) Q N) (hb : t = false → EvO funs l (putD e o.dst (.tuple [])) (H :: S) Q N) : EvO funs (o :: l) e (H :: S) Q N := by
  cases t with
  | false =>
    obtain ⟨k, r, h1, h2⟩ := hb rfl
    exact ⟨k, r, by simp only [evOps, evOper, hg, h1], h2⟩
  | true =>
    obtain ⟨k, r, h1, h2⟩ := ha rfl
    refine ⟨k, r, ?_, h2⟩
    rw [← h1]
    simp only [evOps, evOper]
    rw [hg]
    rfl

/-- A call. -/
theorem EvO.call {o : IOper} {f : Opd} {args : List Opd} {l : List IOper} {e : Env} {S : Stack} {Q : Env → Stack → Prop} {N : AV → Stack → Prop} (hg : o.guard = none) (ho : o.op = .call f args)
    (h : Ends funs (f.ev e) (evs e args) S fun r S' => S' ≠ [] ∧ match r with | .ret v => EvO funs l (putD e o.dst v) S' Q N | .pan v => N v S') : EvO funs (o :: l) e S Q N := by
  obtain ⟨k, r, S', h1, hne, h2⟩ := h
  have hS' : ∃ H1 S1, S' = H1 :: S1 := by
    cases S' with
    | nil => exact absurd rfl hne
    | cons H1 S1 => exact ⟨H1, S1, rfl⟩
  obtain ⟨H1, S1, rfl⟩ := hS'
  cases r with
  | ret v =>
    obtain ⟨k2, o2, h3, h4⟩ := h2
    refine ⟨max k k2, o2, ?_, h4⟩
    have h1' := callV_up (Nat.le_max_left k k2) h1
    have : evOper (callV funs (max k k2)) o e S = some (.go (putD e o.dst v) (H1 :: S1)) := by
      simp only [evOper, hg, guardA, ho, h1', afterCall]
    simp only [evOps, this]
    exact evOps_up (Nat.le_max_right k k2) h3
  | pan v =>
    refine ⟨k, .pan v e (H1 :: S1), ?_, h2⟩
    simp only [evOps, evOper, hg, guardA, ho, h1, afterCall]

/-- A call of a function that is a function of its arguments. -/
theorem EvO.gives {o : IOper} {g : Nat} {args : List Opd} {l : List IOper} {e : Env} {H : Heap} {S : Stack} {Q : Env → Stack → Prop} {N : AV → Stack → Prop} {v : AV} (hg : o.guard = none) (ho : o.op = .call (.c (.func (.func g) [] [])) args)
    (hc : Gives funs g (evs e args) v) (h : EvO funs l (putD e o.dst v) (H :: S) Q N) : EvO funs (o :: l) e (H :: S) Q N :=
  EvO.call hg ho (let ⟨k, hk⟩ := hc.at; ⟨k, _, _, hk _, by simp, h⟩)

/-- A function that runs in a memory of its own. -/
theorem Gives.intro {g : Nat} {fn : IFun} {args args' : List AV} {v : AV} (hf : funs g = some fn) (hs : fn.shared = false) (hn : Nat.beq args'.length fn.nargs = true) (hu : mapO upf args = some args')
    (h : Ev funs fn.body (Env.ofArgs 0 args') [[]] fun x e' S' => (x = .normal ∨ x = .ret) ∧ ∃ H' r, S' = [H'] ∧ resultsA e' [H'] fn.results = some r ∧ leave H' r = some v) (hnn : fn.nat = none := by rfl) : Gives funs g args v := by
  obtain ⟨k, x, e', S', h1, h2, H', r, rfl, h3, h4⟩ := h
  refine ⟨k + 1, ?_⟩
  simp only [callV, hf, hnn, List.nil_append, List.append_nil, callFn, hs, cond_false, hu, runF, hn, Bool.not_true, h1]
  rcases h2 with rfl | rfl <;> simp [h3, h4]
end
end Go.AS

namespace Go.AS.Tr
open Go Go.AS Go.Proofs
def fl_l36_live : List (Nat × IFun) := [(39, ir_strings_Split), (7, ir_trace_Print), (49, ir_slices_DeleteFunc_int_int), (48, ir_trace_holding_drop), (21, ir_strings_Builder_WriteString), (37, ir_trace_holding_do), (20, ir_trace_line), (42, ir_strings_Fields), (50, ir_slices_Clone_int_int), (26, ir_strings_Cut), (51, ir_trace_holding_do_1), (27, ir_trace_move), (41, ir_trace_number), (59, ir_slices_IndexFunc_int_int), (34, ir_strings_Join), (47, ir_trace_holding_welded), (18, ir_trace_Word), (9, ir_l36_live), (35, ir_strconv_Itoa), (25, ir_trace_Held), (46, ir_trace_holding_give), (22, ir_strings_Builder_String), (32, ir_trace_words), (10, ir_trace_Parse), (33, ir_trace_in), (40, ir_slices_Index_string_string), (58, ir_trace_holding_give_1)]
theorem fl_l36_live_ok : ∀ p ∈ fl_l36_live, F p.1 = some p.2 := by
  simp only [fl_l36_live, List.forall_mem_cons]
  exact ⟨fn_strings_Split, fn_trace_Print, fn_slices_DeleteFunc_int_int, fn_trace_holding_drop, fn_strings_Builder_WriteString, fn_trace_holding_do, fn_trace_line, fn_strings_Fields, fn_slices_Clone_int_int, fn_strings_Cut, fn_trace_holding_do_1, fn_trace_move, fn_trace_number, fn_slices_IndexFunc_int_int, fn_strings_Join, fn_trace_holding_welded, fn_trace_Word, fn_l36_live, fn_strconv_Itoa, fn_trace_Held, fn_trace_holding_give, fn_strings_Builder_String, fn_trace_words, fn_trace_Parse, fn_trace_in, fn_slices_Index_string_string, fn_trace_holding_give_1, fun p hp => by cases hp⟩
theorem l36_live_ev : callV (listF fl_l36_live) 400 (.func (.func 9) [] []) [] [] = some (.ret (.bool true), []) := by kernel_rfl
theorem l36_live_true : callV F 400 (.func (.func 9) [] []) [] [] = some (.ret (.bool true), []) :=
  callV_sub (listF_sub fl_l36_live_ok) (Nat.le_refl _) _ _ _ _ _ l36_live_ev []
end Go.AS.Tr
