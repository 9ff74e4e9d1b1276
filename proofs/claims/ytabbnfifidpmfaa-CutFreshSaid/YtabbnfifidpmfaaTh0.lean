import Derived.Test.YtabbnfifidpmfaaProg
import Derived.KernelRfl
import Derived.Test.YtabbnfifidpmfaaAs1
import Derived.Test.YtabbnfifidpmfaaRn0
set_option linter.all false
namespace Go.AS.Th
open Go Go.AS Go.Proofs
set_option maxRecDepth 100000
def ann : Ann := ⟨[39, 72, 41, 105, 76, 34, 70, 161], [48, 17, 28, 69, 30, 26, 27, 44, 72, 99, 100, 101, 151, 130, 85, 149, 160, 164, 114, 163, 8, 6, 7, 31, 18, 19, 20, 16, 34, 70], [], [], [78], [(72, 34), (44, 72), (41, 70)], []⟩
noncomputable abbrev F : Nat → Option IFun := funsOf Try.prog ann

def ir_l18_CutFresh : IFun :=
  IFun.mk false 2 [IRes.tmp 4]
  (IC.seq
    (IC.ops false
      [IOper.mk (some 2) (IOp.box 1 (Opd.t 0)) none, IOper.mk (some 4) (IOp.mv (Opd.c (AV.bool false))) none] [])
    (IC.seq
      (IC.seq
      (IC.ops false
      [IOper.mk (some 7) (IOp.load (some 1) (Opd.t 2)) none,
      IOper.mk (some 8) (IOp.call (Opd.c (AV.func (Fn.func 15) [] [])) [Opd.t 7]) none,
      IOper.mk (some 9) (IOp.not (Opd.t 8)) none, IOper.mk (some 10) (IOp.mv (Opd.t 9)) none,
      IOper.mk (some 11) (IOp.load (some 1) (Opd.t 2)) (some (10, false)),
      IOper.mk (some 12) (IOp.callp 16 [Opd.t 11]) (some (10, false)),
      IOper.mk (some 13) (IOp.not (Opd.t 12)) (some (10, false)),
      IOper.mk (some 14) (IOp.pick (Opd.t 10) (Opd.c (AV.bool true)) (Opd.t 13)) none,
      IOper.mk (some 15) (IOp.mv (Opd.t 14)) none, IOper.mk (some 16) (IOp.mv (Opd.t 1)) (some (15, false)),
      IOper.mk (some 17) (IOp.bin BinOp.gtr (Opd.t 16) (Opd.c (AV.int IntKind.i64 100)))
      (some (15, false)),
      IOper.mk (some 18) (IOp.mv (Opd.t 17)) (some (15, false)),
      IOper.mk (some 19) (IOp.mv (Opd.t 1)) (some (18, true)),
      IOper.mk (some 20) (IOp.bin BinOp.leq (Opd.t 19) (Opd.c (AV.int IntKind.i64 4096)))
      (some (18, true)),
      IOper.mk (some 21) (IOp.pick (Opd.t 18) (Opd.t 20) (Opd.c (AV.bool false))) (some (15, false)),
      IOper.mk (some 22) (IOp.pick (Opd.t 15) (Opd.c (AV.bool true)) (Opd.t 21)) none]
      [7, 8, 9, 10, 11, 12, 13, 14, 15, 16, 17, 18, 19, 20, 21])
      (IC.cond (Opd.t 22)
      (IC.seq
      (IC.ops false [IOper.mk (some 23) (IOp.callp 17 []) none, IOper.mk (some 4) (IOp.mv (Opd.t 23)) none] [23])
      IC.ret)
      IC.nop))
      (IC.seq
      (IC.ops false
      [IOper.mk (some 25) (IOp.load (some 1) (Opd.t 2)) none, IOper.mk (some 26) (IOp.mv (Opd.t 1)) none,
      IOper.mk (some 27) (IOp.callp 18 [Opd.t 25, Opd.t 26]) none, IOper.mk (some 24) (IOp.mv (Opd.t 27)) none,
      IOper.mk (some 28) (IOp.extr (Opd.t 24) 0) none, IOper.mk (some 29) (IOp.extr (Opd.t 24) 1) none,
      IOper.mk (some 5) (IOp.mv (Opd.t 28)) none, IOper.mk (some 6) (IOp.mv (Opd.t 29)) none]
      [25, 26, 27, 24, 28, 29])
      (IC.seq
      (IC.seq
      (IC.ops false
      [IOper.mk (some 30) (IOp.mv (Opd.t 1)) none,
      IOper.mk (some 31) (IOp.bin BinOp.lss (Opd.t 30) (Opd.c (AV.int IntKind.i64 0))) none,
      IOper.mk (some 32) (IOp.mv (Opd.t 31)) none, IOper.mk (some 33) (IOp.mv (Opd.t 1)) (some (32, false)),
      IOper.mk (some 34) (IOp.bin BinOp.gtr (Opd.t 33) (Opd.c (AV.int IntKind.i64 4096)))
      (some (32, false)),
      IOper.mk (some 35) (IOp.pick (Opd.t 32) (Opd.c (AV.bool true)) (Opd.t 34)) none]
      [30, 31, 32, 33, 34])
      (IC.cond (Opd.t 35)
      (IC.seq
      (IC.ops false
      [IOper.mk (some 36) (IOp.callp 17 []) none, IOper.mk (some 37) (IOp.mv (Opd.t 36)) none,
      IOper.mk (some 38) (IOp.mv (Opd.t 5)) (some (37, true)),
      IOper.mk (some 39) (IOp.len (Opd.t 38)) (some (37, true)),
      IOper.mk (some 40) (IOp.bin BinOp.eql (Opd.t 39) (Opd.c (AV.int IntKind.i64 0)))
      (some (37, true)),
      IOper.mk (some 41) (IOp.pick (Opd.t 37) (Opd.t 40) (Opd.c (AV.bool false))) none,
      IOper.mk (some 42) (IOp.mv (Opd.t 41)) none,
      IOper.mk (some 43) (IOp.mv (Opd.t 6)) (some (42, true)),
      IOper.mk (some 44) (IOp.not (Opd.t 43)) (some (42, true)),
      IOper.mk (some 45) (IOp.pick (Opd.t 42) (Opd.t 44) (Opd.c (AV.bool false))) none,
      IOper.mk (some 4) (IOp.mv (Opd.t 45)) none]
      [36, 37, 38, 39, 40, 41, 42, 43, 44, 45])
      IC.ret)
      IC.nop))
      (IC.seq
      (IC.ops false
      [IOper.mk (some 46) (IOp.callp 17 []) none, IOper.mk (some 47) (IOp.mv (Opd.t 46)) none,
      IOper.mk (some 48) (IOp.mv (Opd.t 6)) (some (47, true)),
      IOper.mk (some 49) (IOp.pick (Opd.t 47) (Opd.t 48) (Opd.c (AV.bool false))) none,
      IOper.mk (some 50) (IOp.mv (Opd.t 49)) none, IOper.mk (some 51) (IOp.mv (Opd.t 5)) (some (50, true)),
      IOper.mk (some 52) (IOp.load (some 1) (Opd.t 2)) (some (50, true)),
      IOper.mk (some 53) (IOp.mv (Opd.t 1)) (some (50, true)),
      IOper.mk (some 54) (IOp.callp 20 [Opd.t 52, Opd.t 53]) (some (50, true)),
      IOper.mk (some 55) (IOp.callp 19 [Opd.t 51, Opd.t 54]) (some (50, true)),
      IOper.mk (some 56) (IOp.pick (Opd.t 50) (Opd.t 55) (Opd.c (AV.bool false))) none,
      IOper.mk (some 4) (IOp.mv (Opd.t 56)) none]
      [46, 47, 48, 49, 50, 51, 52, 53, 54, 55, 56])
      IC.ret)))))
theorem fn_l18_CutFresh : F 5 = some ir_l18_CutFresh := by kernel_rfl

def ir_r15_Small : IFun :=
  IFun.mk false 1 [IRes.tmp 2]
  (IC.seq
    (IC.ops false
      [IOper.mk (some 1) (IOp.box 1 (Opd.t 0)) none, IOper.mk (some 2) (IOp.mv (Opd.c (AV.bool false))) none] [])
    (IC.seq
      (IC.seq
      (IC.ops false
      [IOper.mk (some 7) (IOp.faddr 0 (Opd.t 1)) none, IOper.mk (some 8) (IOp.load none (Opd.t 7)) none,
      IOper.mk (some 9) (IOp.len (Opd.t 8)) none,
      IOper.mk (some 10) (IOp.bin BinOp.gtr (Opd.t 9) (Opd.c (AV.int IntKind.i64 40))) none]
      [7, 8, 9])
      (IC.cond (Opd.t 10) (IC.seq (IC.ops false [IOper.mk (some 2) (IOp.mv (Opd.c (AV.bool false))) none] []) IC.ret)
      IC.nop))
      (IC.seq (IC.ops false [IOper.mk (some 3) (IOp.mv (Opd.c (AV.int IntKind.i64 0))) none] [])
      (IC.seq
      (IC.seq (IC.ops false [IOper.mk (some 4) (IOp.mv (Opd.c (AV.int IntKind.i64 0))) none] [])
      (IC.seq
      (IC.block 0
      (IC.loop
      (IC.seq
      (IC.seq
      (IC.seq
      (IC.ops false
      [IOper.mk (some 11) (IOp.mv (Opd.t 4)) none, IOper.mk (some 12) (IOp.faddr 0 (Opd.t 1)) none,
      IOper.mk (some 13) (IOp.load none (Opd.t 12)) none,
      IOper.mk (some 14) (IOp.len (Opd.t 13)) none,
      IOper.mk (some 15) (IOp.bin BinOp.lss (Opd.t 11) (Opd.t 14)) none]
      [11, 12, 13, 14])
      (IC.cond (Opd.t 15) IC.nop (IC.exit 0)))
      (IC.seq
      (IC.seq
      (IC.block 1
      (IC.seq
      (IC.ops false
      [IOper.mk (some 18) (IOp.faddr 0 (Opd.t 1)) none,
      IOper.mk (some 19) (IOp.load none (Opd.t 18)) none,
      IOper.mk (some 20) (IOp.mv (Opd.t 4)) none,
      IOper.mk (some 21) (IOp.ixa 5 (Opd.t 19) (Opd.t 20)) none,
      IOper.mk (some 22) (IOp.load (some 5) (Opd.t 21)) none,
      IOper.mk (some 5)
      (IOp.alloc
      [AV.int IntKind.u8 0, AV.imm true 0 0 (some 0) [],
      AV.imm true 0 0 (some 0) [], AV.imm true 0 0 (some 0) [],
      AV.imm true 0 0 (some 0) []])
      none,
      IOper.mk none (IOp.store 5 (Opd.t 5) (Opd.t 22)) none]
      [18, 19, 20, 21, 22])
      (IC.seq
      (IC.seq
      (IC.ops false
      [IOper.mk (some 23) (IOp.faddr 2 (Opd.t 5)) none,
      IOper.mk (some 24) (IOp.load none (Opd.t 23)) none,
      IOper.mk (some 25) (IOp.len (Opd.t 24)) none,
      IOper.mk (some 26)
      (IOp.bin BinOp.gtr (Opd.t 25) (Opd.c (AV.int IntKind.i64 20))) none,
      IOper.mk (some 27) (IOp.mv (Opd.t 26)) none,
      IOper.mk (some 28) (IOp.faddr 1 (Opd.t 5)) (some (27, false)),
      IOper.mk (some 29) (IOp.load none (Opd.t 28)) (some (27, false)),
      IOper.mk (some 30) (IOp.len (Opd.t 29)) (some (27, false)),
      IOper.mk (some 31)
      (IOp.bin BinOp.gtr (Opd.t 30) (Opd.c (AV.int IntKind.i64 20)))
      (some (27, false)),
      IOper.mk (some 32) (IOp.pick (Opd.t 27) (Opd.c (AV.bool true)) (Opd.t 31)) none,
      IOper.mk (some 33) (IOp.mv (Opd.t 32)) none,
      IOper.mk (some 34) (IOp.faddr 3 (Opd.t 5)) (some (33, false)),
      IOper.mk (some 35) (IOp.load none (Opd.t 34)) (some (33, false)),
      IOper.mk (some 36) (IOp.len (Opd.t 35)) (some (33, false)),
      IOper.mk (some 37)
      (IOp.bin BinOp.gtr (Opd.t 36) (Opd.c (AV.int IntKind.i64 40)))
      (some (33, false)),
      IOper.mk (some 38) (IOp.pick (Opd.t 33) (Opd.c (AV.bool true)) (Opd.t 37)) none,
      IOper.mk (some 39) (IOp.mv (Opd.t 38)) none,
      IOper.mk (some 40) (IOp.faddr 4 (Opd.t 5)) (some (39, false)),
      IOper.mk (some 41) (IOp.load none (Opd.t 40)) (some (39, false)),
      IOper.mk (some 42) (IOp.len (Opd.t 41)) (some (39, false)),
      IOper.mk (some 43)
      (IOp.bin BinOp.gtr (Opd.t 42) (Opd.c (AV.int IntKind.i64 20)))
      (some (39, false)),
      IOper.mk (some 44) (IOp.pick (Opd.t 39) (Opd.c (AV.bool true)) (Opd.t 43)) none]
      [23, 24, 25, 26, 27, 28, 29, 30, 31, 32, 33, 34, 35, 36, 37, 38, 39, 40, 41, 42,
      43])
      (IC.cond (Opd.t 44)
      (IC.seq (IC.ops false [IOper.mk (some 2) (IOp.mv (Opd.c (AV.bool false))) none] [])
      IC.ret)
      IC.nop))
      (IC.seq
      (IC.ops false
      [IOper.mk (some 45) (IOp.mv (Opd.t 3)) none,
      IOper.mk (some 46) (IOp.faddr 3 (Opd.t 5)) none,
      IOper.mk (some 47) (IOp.load none (Opd.t 46)) none,
      IOper.mk (some 48) (IOp.len (Opd.t 47)) none,
      IOper.mk (some 49) (IOp.bin BinOp.add (Opd.t 45) (Opd.t 48)) none,
      IOper.mk (some 3) (IOp.mv (Opd.t 49)) none]
      [45, 46, 47, 48, 49])
      (IC.seq
      (IC.ops false
      [IOper.mk (some 6) (IOp.mv (Opd.c (AV.int IntKind.i64 0))) none] [])
      (IC.seq
      (IC.block 2
      (IC.loop
      (IC.seq
      (IC.seq
      (IC.seq
      (IC.ops false
      [IOper.mk (some 50) (IOp.mv (Opd.t 6)) none,
      IOper.mk (some 51) (IOp.faddr 4 (Opd.t 5)) none,
      IOper.mk (some 52) (IOp.load none (Opd.t 51)) none,
      IOper.mk (some 53) (IOp.len (Opd.t 52)) none,
      IOper.mk (some 54) (IOp.bin BinOp.lss (Opd.t 50) (Opd.t 53)) none]
      [50, 51, 52, 53])
      (IC.cond (Opd.t 54) IC.nop (IC.exit 2)))
      (IC.seq
      (IC.seq
      (IC.block 3
      (IC.seq
      (IC.seq
      (IC.ops false
      [IOper.mk (some 57) (IOp.faddr 4 (Opd.t 5)) none,
      IOper.mk (some 58) (IOp.load none (Opd.t 57)) none,
      IOper.mk (some 59) (IOp.mv (Opd.t 6)) none,
      IOper.mk (some 60) (IOp.ixa 1 (Opd.t 58) (Opd.t 59)) none,
      IOper.mk (some 61) (IOp.load none (Opd.t 60)) none,
      IOper.mk (some 62) (IOp.len (Opd.t 61)) none,
      IOper.mk (some 63)
      (IOp.bin BinOp.gtr (Opd.t 62)
      (Opd.c (AV.int IntKind.i64 20)))
      none]
      [57, 58, 59, 60, 61, 62])
      (IC.cond (Opd.t 63)
      (IC.seq
      (IC.ops false
      [IOper.mk (some 2) (IOp.mv (Opd.c (AV.bool false))) none]
      [])
      IC.ret)
      IC.nop))
      (IC.ops false
      [IOper.mk (some 64) (IOp.mv (Opd.t 3)) none,
      IOper.mk (some 65) (IOp.faddr 4 (Opd.t 5)) none,
      IOper.mk (some 66) (IOp.load none (Opd.t 65)) none,
      IOper.mk (some 67) (IOp.mv (Opd.t 6)) none,
      IOper.mk (some 68) (IOp.ixa 1 (Opd.t 66) (Opd.t 67)) none,
      IOper.mk (some 69) (IOp.load none (Opd.t 68)) none,
      IOper.mk (some 70) (IOp.len (Opd.t 69)) none,
      IOper.mk (some 71) (IOp.bin BinOp.add (Opd.t 64) (Opd.t 70))
      none,
      IOper.mk (some 3) (IOp.mv (Opd.t 71)) none]
      [64, 65, 66, 67, 68, 69, 70, 71])))
      (IC.ops false []
      [57, 58, 59, 60, 61, 62, 63, 64, 65, 66, 67, 68, 69, 70, 71]))
      (IC.ops false
      [IOper.mk (some 55) (IOp.mv (Opd.t 6)) none,
      IOper.mk (some 56)
      (IOp.bin BinOp.add (Opd.t 55)
      (Opd.c (AV.int IntKind.i64 1)))
      none,
      IOper.mk (some 6) (IOp.mv (Opd.t 56)) none]
      [55, 56])))
      (IC.ops false []
      [50, 51, 52, 53, 54, 57, 58, 59, 60, 61, 62, 63, 64, 65, 66, 67, 68, 69,
      70, 71, 55, 56]))))
      (IC.ops false []
      [50, 51, 52, 53, 54, 57, 58, 59, 60, 61, 62, 63, 64, 65, 66, 67, 68, 69, 70, 71,
      55, 56])))))))
      (IC.ops false []
      [18, 19, 20, 21, 22, 5, 23, 24, 25, 26, 27, 28, 29, 30, 31, 32, 33, 34, 35, 36, 37, 38, 39,
      40, 41, 42, 43, 44, 45, 46, 47, 48, 49, 50, 51, 52, 53, 54, 57, 58, 59, 60, 61, 62, 63,
      64, 65, 66, 67, 68, 69, 70, 71, 55, 56, 6]))
      (IC.ops false
      [IOper.mk (some 16) (IOp.mv (Opd.t 4)) none,
      IOper.mk (some 17) (IOp.bin BinOp.add (Opd.t 16) (Opd.c (AV.int IntKind.i64 1)))
      none,
      IOper.mk (some 4) (IOp.mv (Opd.t 17)) none]
      [16, 17])))
      (IC.ops false []
      [11, 12, 13, 14, 15, 18, 19, 20, 21, 22, 5, 23, 24, 25, 26, 27, 28, 29, 30, 31, 32, 33, 34, 35,
      36, 37, 38, 39, 40, 41, 42, 43, 44, 45, 46, 47, 48, 49, 50, 51, 52, 53, 54, 57, 58, 59, 60, 61,
      62, 63, 64, 65, 66, 67, 68, 69, 70, 71, 55, 56, 6, 16, 17]))))
      (IC.ops false []
      [11, 12, 13, 14, 15, 18, 19, 20, 21, 22, 5, 23, 24, 25, 26, 27, 28, 29, 30, 31, 32, 33, 34, 35, 36, 37,
      38, 39, 40, 41, 42, 43, 44, 45, 46, 47, 48, 49, 50, 51, 52, 53, 54, 57, 58, 59, 60, 61, 62, 63, 64,
      65, 66, 67, 68, 69, 70, 71, 55, 56, 6, 16, 17])))
      (IC.seq
      (IC.ops false
      [IOper.mk (some 72) (IOp.mv (Opd.t 3)) none,
      IOper.mk (some 73) (IOp.bin BinOp.leq (Opd.t 72) (Opd.c (AV.int IntKind.i64 200))) none,
      IOper.mk (some 2) (IOp.mv (Opd.t 73)) none]
      [72, 73])
      IC.ret)))))
theorem fn_r15_Small : F 15 = some ir_r15_Small := by kernel_rfl

def ir_r15_Sound : IFun :=
  IFun.mk false 1 [IRes.tmp 2]
  (IC.seq
    (IC.ops false
      [IOper.mk (some 1) (IOp.box 1 (Opd.t 0)) none, IOper.mk (some 2) (IOp.mv (Opd.c (AV.bool false))) none] [])
    (IC.seq
      (IC.ops false
      [IOper.mk (some 6) (IOp.load (some 1) (Opd.t 1)) none,
      IOper.mk (some 7) (IOp.call (Opd.c (AV.func (Fn.func 25) [] [])) [Opd.t 6]) none,
      IOper.mk (some 5) (IOp.mv (Opd.t 7)) none, IOper.mk (some 8) (IOp.extr (Opd.t 5) 0) none,
      IOper.mk (some 9) (IOp.extr (Opd.t 5) 1) none, IOper.mk (some 3) (IOp.mv (Opd.t 8)) none,
      IOper.mk (some 4) (IOp.mv (Opd.t 9)) none]
      [6, 7, 5, 8, 9, 3])
      (IC.seq
      (IC.ops false [IOper.mk (some 10) (IOp.mv (Opd.t 4)) none, IOper.mk (some 2) (IOp.mv (Opd.t 10)) none] [10])
      IC.ret)))
theorem fn_r15_Sound : F 16 = some ir_r15_Sound := by kernel_rfl

def ir_r15_All : IFun :=
  IFun.mk false 1 [IRes.tmp 2, IRes.tmp 3]
  (IC.seq
    (IC.ops false
      [IOper.mk (some 1) (IOp.box 1 (Opd.t 0)) none,
      IOper.mk (some 2) (IOp.mv (Opd.c (AV.imm true 0 0 (some 0) []))) none,
      IOper.mk (some 3) (IOp.mv (Opd.c (AV.bool false))) none]
      [])
    (IC.seq
      (IC.ops false
      [IOper.mk (some 4) (IOp.load (some 1) (Opd.t 1)) none,
      IOper.mk (some 5)
      (IOp.build
      [AV.int IntKind.i64 0, AV.str [], AV.str [], AV.int IntKind.i64 0,
      AV.int IntKind.i64 0]
      [(0, 1, Opd.c (AV.int IntKind.i64 1))])
      none,
      IOper.mk (some 6)
      (IOp.bsl false 5 0
      [AV.int IntKind.i64 0, AV.str [], AV.str [], AV.int IntKind.i64 0,
      AV.int IntKind.i64 0]
      [])
      none,
      IOper.mk (some 7) (IOp.call (Opd.c (AV.func (Fn.func 39) [] [])) [Opd.t 4, Opd.t 5, Opd.t 6]) none,
      IOper.mk (some 8) (IOp.extr (Opd.t 7) 0) none, IOper.mk (some 9) (IOp.extr (Opd.t 7) 1) none,
      IOper.mk (some 2) (IOp.mv (Opd.t 8)) none, IOper.mk (some 3) (IOp.mv (Opd.t 9)) none]
      [4, 5, 6, 7, 8, 9])
      IC.ret))
theorem fn_r15_All : F 25 = some ir_r15_All := by kernel_rfl

def ir_r15_below : IFun :=
  IFun.mk true 3 [IRes.tmp 6, IRes.tmp 7]
  (IC.seq
    (IC.ops false
      [IOper.mk (some 3) (IOp.box 1 (Opd.t 0)) none, IOper.mk (some 4) (IOp.box 5 (Opd.t 1)) none,
      IOper.mk (some 6) (IOp.mv (Opd.c (AV.imm true 0 0 (some 0) []))) none,
      IOper.mk (some 7) (IOp.mv (Opd.c (AV.bool false))) none]
      [])
    (IC.seq
      (IC.seq
      (IC.ops false
      [IOper.mk (some 14) (IOp.faddr 0 (Opd.t 4)) none, IOper.mk (some 15) (IOp.load none (Opd.t 14)) none,
      IOper.mk (some 16) (IOp.bin BinOp.lss (Opd.t 15) (Opd.c (AV.int IntKind.i64 1))) none,
      IOper.mk (some 17) (IOp.mv (Opd.t 16)) none, IOper.mk (some 18) (IOp.faddr 0 (Opd.t 4)) (some (17, false)),
      IOper.mk (some 19) (IOp.load none (Opd.t 18)) (some (17, false)),
      IOper.mk (some 20) (IOp.faddr 0 (Opd.t 3)) (some (17, false)),
      IOper.mk (some 21) (IOp.load none (Opd.t 20)) (some (17, false)),
      IOper.mk (some 22) (IOp.len (Opd.t 21)) (some (17, false)),
      IOper.mk (some 23) (IOp.bin BinOp.geq (Opd.t 19) (Opd.t 22)) (some (17, false)),
      IOper.mk (some 24) (IOp.pick (Opd.t 17) (Opd.c (AV.bool true)) (Opd.t 23)) none]
      [14, 15, 16, 17, 18, 19, 20, 21, 22, 23])
      (IC.cond (Opd.t 24)
      (IC.seq
      (IC.ops false
      [IOper.mk (some 25) (IOp.mv (Opd.t 2)) none, IOper.mk (some 6) (IOp.mv (Opd.t 25)) none,
      IOper.mk (some 7) (IOp.mv (Opd.c (AV.bool false))) none]
      [25])
      IC.ret)
      IC.nop))
      (IC.seq
      (IC.seq (IC.ops false [IOper.mk (some 8) (IOp.mv (Opd.c (AV.int IntKind.i64 0))) none] [])
      (IC.seq
      (IC.block 0
      (IC.loop
      (IC.seq
      (IC.seq
      (IC.seq
      (IC.ops false
      [IOper.mk (some 26) (IOp.mv (Opd.t 8)) none, IOper.mk (some 27) (IOp.mv (Opd.t 2)) none,
      IOper.mk (some 28) (IOp.len (Opd.t 27)) none,
      IOper.mk (some 29) (IOp.bin BinOp.lss (Opd.t 26) (Opd.t 28)) none]
      [26, 27, 28])
      (IC.cond (Opd.t 29) IC.nop (IC.exit 0)))
      (IC.seq
      (IC.seq
      (IC.block 1
      (IC.seq
      (IC.ops true
      [IOper.mk (some 32) (IOp.mv (Opd.t 2)) none, IOper.mk (some 33) (IOp.mv (Opd.t 8)) none,
      IOper.mk (some 34) (IOp.ixa 5 (Opd.t 32) (Opd.t 33)) none,
      IOper.mk (some 35) (IOp.faddr 0 (Opd.t 34)) none,
      IOper.mk (some 36) (IOp.load none (Opd.t 35)) none,
      IOper.mk (some 37) (IOp.faddr 0 (Opd.t 4)) none,
      IOper.mk (some 38) (IOp.load none (Opd.t 37)) none,
      IOper.mk (some 39) (IOp.bin BinOp.eql (Opd.t 36) (Opd.t 38)) none]
      [32, 33, 34, 35, 36, 37, 38])
      (IC.cond (Opd.t 39)
      (IC.seq
      (IC.ops false
      [IOper.mk (some 40) (IOp.mv (Opd.t 2)) none,
      IOper.mk (some 6) (IOp.mv (Opd.t 40)) none,
      IOper.mk (some 7) (IOp.mv (Opd.c (AV.bool false))) none]
      [40])
      IC.ret)
      IC.nop)))
      (IC.ops false [] [32, 33, 34, 35, 36, 37, 38, 39, 40]))
      (IC.ops false
      [IOper.mk (some 30) (IOp.mv (Opd.t 8)) none,
      IOper.mk (some 31) (IOp.bin BinOp.add (Opd.t 30) (Opd.c (AV.int IntKind.i64 1)))
      none,
      IOper.mk (some 8) (IOp.mv (Opd.t 31)) none]
      [30, 31])))
      (IC.ops false [] [26, 27, 28, 29, 32, 33, 34, 35, 36, 37, 38, 39, 40, 30, 31]))))
      (IC.ops false [] [26, 27, 28, 29, 32, 33, 34, 35, 36, 37, 38, 39, 40, 30, 31])))
      (IC.seq
      (IC.ops false
      [IOper.mk (some 41) (IOp.faddr 0 (Opd.t 3)) none, IOper.mk (some 42) (IOp.load none (Opd.t 41)) none,
      IOper.mk (some 43) (IOp.faddr 0 (Opd.t 4)) none, IOper.mk (some 44) (IOp.load none (Opd.t 43)) none,
      IOper.mk (some 45) (IOp.ixa 5 (Opd.t 42) (Opd.t 44)) none,
      IOper.mk (some 46) (IOp.load (some 5) (Opd.t 45)) none,
      IOper.mk (some 9)
      (IOp.alloc
      [AV.int IntKind.u8 0, AV.imm true 0 0 (some 0) [], AV.imm true 0 0 (some 0) [],
      AV.imm true 0 0 (some 0) [], AV.imm true 0 0 (some 0) []])
      none,
      IOper.mk none (IOp.store 5 (Opd.t 9) (Opd.t 46)) none]
      [41, 42, 43, 44, 45, 46])
      (IC.seq
      (IC.ops false
      [IOper.mk (some 47) (IOp.mv (Opd.t 2)) none, IOper.mk (some 48) (IOp.load (some 5) (Opd.t 4)) none,
      IOper.mk (some 49)
      (IOp.bsl false 5 1
      [AV.int IntKind.i64 0, AV.str [], AV.str [], AV.int IntKind.i64 0,
      AV.int IntKind.i64 0]
      [(0, 5, Opd.t 48)])
      none,
      IOper.mk (some 50) (IOp.append 5 56 (Opd.t 47) (Opd.t 49)) none,
      IOper.mk (some 2) (IOp.mv (Opd.t 50)) none]
      [47, 48, 49, 50])
      (IC.seq
      (IC.seq
      (IC.ops false
      [IOper.mk (some 51) (IOp.faddr 0 (Opd.t 9)) none, IOper.mk (some 52) (IOp.load none (Opd.t 51)) none,
      IOper.mk (some 53) (IOp.bin BinOp.eql (Opd.t 52) (Opd.c (AV.int IntKind.u8 1))) none,
      IOper.mk (some 54) (IOp.mv (Opd.t 53)) none,
      IOper.mk (some 55) (IOp.faddr 3 (Opd.t 4)) (some (54, true)),
      IOper.mk (some 56) (IOp.load none (Opd.t 55)) (some (54, true)),
      IOper.mk (some 57) (IOp.bin BinOp.gtr (Opd.t 56) (Opd.c (AV.int IntKind.i64 0)))
      (some (54, true)),
      IOper.mk (some 58) (IOp.pick (Opd.t 54) (Opd.t 57) (Opd.c (AV.bool false))) none]
      [51, 52, 53, 54, 55, 56, 57])
      (IC.cond (Opd.t 58)
      (IC.seq
      (IC.ops false
      [IOper.mk (some 59) (IOp.mv (Opd.t 2)) none, IOper.mk (some 6) (IOp.mv (Opd.t 59)) none,
      IOper.mk (some 7) (IOp.mv (Opd.c (AV.bool true))) none]
      [59])
      IC.ret)
      IC.nop))
      (IC.seq
      (IC.seq
      (IC.ops false
      [IOper.mk (some 60) (IOp.faddr 0 (Opd.t 9)) none,
      IOper.mk (some 61) (IOp.load none (Opd.t 60)) none,
      IOper.mk (some 62) (IOp.bin BinOp.neq (Opd.t 61) (Opd.c (AV.int IntKind.u8 2))) none,
      IOper.mk (some 63) (IOp.mv (Opd.t 62)) none,
      IOper.mk (some 64) (IOp.faddr 2 (Opd.t 9)) (some (63, false)),
      IOper.mk (some 65) (IOp.load none (Opd.t 64)) (some (63, false)),
      IOper.mk (some 66) (IOp.len (Opd.t 65)) (some (63, false)),
      IOper.mk (some 67) (IOp.faddr 1 (Opd.t 9)) (some (63, false)),
      IOper.mk (some 68) (IOp.load none (Opd.t 67)) (some (63, false)),
      IOper.mk (some 69) (IOp.len (Opd.t 68)) (some (63, false)),
      IOper.mk (some 70) (IOp.bin BinOp.add (Opd.t 69) (Opd.c (AV.int IntKind.i64 1)))
      (some (63, false)),
      IOper.mk (some 71) (IOp.bin BinOp.neq (Opd.t 66) (Opd.t 70)) (some (63, false)),
      IOper.mk (some 72) (IOp.pick (Opd.t 63) (Opd.c (AV.bool true)) (Opd.t 71)) none,
      IOper.mk (some 73) (IOp.mv (Opd.t 72)) none,
      IOper.mk (some 74) (IOp.faddr 1 (Opd.t 9)) (some (73, false)),
      IOper.mk (some 75) (IOp.load none (Opd.t 74)) (some (73, false)),
      IOper.mk (some 76) (IOp.faddr 1 (Opd.t 4)) (some (73, false)),
      IOper.mk (some 77) (IOp.load (some 2) (Opd.t 76)) (some (73, false)),
      IOper.mk (some 78) (IOp.call (Opd.c (AV.func (Fn.func 66) [] [])) [Opd.t 75, Opd.t 77])
      (some (73, false)),
      IOper.mk (some 79) (IOp.not (Opd.t 78)) (some (73, false)),
      IOper.mk (some 80) (IOp.pick (Opd.t 73) (Opd.c (AV.bool true)) (Opd.t 79)) none]
      [60, 61, 62, 63, 64, 65, 66, 67, 68, 69, 70, 71, 72, 73, 74, 75, 76, 77, 78, 79])
      (IC.cond (Opd.t 80)
      (IC.seq
      (IC.ops false
      [IOper.mk (some 81) (IOp.mv (Opd.t 2)) none, IOper.mk (some 6) (IOp.mv (Opd.t 81)) none,
      IOper.mk (some 7) (IOp.mv (Opd.c (AV.bool false))) none]
      [81])
      IC.ret)
      IC.nop))
      (IC.seq
      (IC.ops false
      [IOper.mk (some 82) (IOp.faddr 1 (Opd.t 9)) none,
      IOper.mk (some 83) (IOp.load none (Opd.t 82)) none,
      IOper.mk (some 84) (IOp.faddr 1 (Opd.t 4)) none,
      IOper.mk (some 85) (IOp.load (some 2) (Opd.t 84)) none,
      IOper.mk (some 86) (IOp.call (Opd.c (AV.func (Fn.func 67) [] [])) [Opd.t 83, Opd.t 85]) none,
      IOper.mk (some 10) (IOp.mv (Opd.t 86)) none]
      [82, 83, 84, 85, 86])
      (IC.seq
      (IC.seq
      (IC.ops false [IOper.mk (some 11) (IOp.mv (Opd.c (AV.int IntKind.i64 0))) none] [])
      (IC.seq
      (IC.block 2
      (IC.loop
      (IC.seq
      (IC.seq
      (IC.seq
      (IC.ops false
      [IOper.mk (some 87) (IOp.mv (Opd.t 11)) none,
      IOper.mk (some 88) (IOp.faddr 2 (Opd.t 9)) none,
      IOper.mk (some 89) (IOp.load none (Opd.t 88)) none,
      IOper.mk (some 90) (IOp.len (Opd.t 89)) none,
      IOper.mk (some 91) (IOp.bin BinOp.lss (Opd.t 87) (Opd.t 90)) none]
      [87, 88, 89, 90])
      (IC.cond (Opd.t 91) IC.nop (IC.exit 2)))
      (IC.seq
      (IC.seq
      (IC.block 3
      (IC.seq
      (IC.ops true
      [IOper.mk (some 95) (IOp.load (some 1) (Opd.t 3)) none,
      IOper.mk (some 96) (IOp.faddr 2 (Opd.t 9)) none,
      IOper.mk (some 97) (IOp.load none (Opd.t 96)) none,
      IOper.mk (some 98) (IOp.mv (Opd.t 11)) none,
      IOper.mk (some 99) (IOp.ixa 1 (Opd.t 97) (Opd.t 98)) none,
      IOper.mk (some 100) (IOp.load none (Opd.t 99)) none,
      IOper.mk (some 101) (IOp.mv (Opd.t 10)) none,
      IOper.mk (some 102) (IOp.mv (Opd.t 11)) none,
      IOper.mk (some 103) (IOp.ixa 2 (Opd.t 101) (Opd.t 102)) none,
      IOper.mk (some 104) (IOp.load (some 2) (Opd.t 103)) none,
      IOper.mk (some 105) (IOp.faddr 0 (Opd.t 4)) none,
      IOper.mk (some 106) (IOp.load none (Opd.t 105)) none,
      IOper.mk (some 107) (IOp.mv (Opd.t 11)) none,
      IOper.mk (some 108)
      (IOp.build
      [AV.int IntKind.i64 0, AV.str [], AV.str [],
      AV.int IntKind.i64 0, AV.int IntKind.i64 0]
      [(0, 1, Opd.t 100), (1, 2, Opd.t 104), (3, 1, Opd.t 106),
      (4, 1, Opd.t 107)])
      none,
      IOper.mk (some 109) (IOp.mv (Opd.t 2)) none,
      IOper.mk (some 110)
      (IOp.call (Opd.c (AV.func (Fn.func 39) [] []))
      [Opd.t 95, Opd.t 108, Opd.t 109])
      none,
      IOper.mk (some 94) (IOp.mv (Opd.t 110)) none,
      IOper.mk (some 111) (IOp.extr (Opd.t 94) 0) none,
      IOper.mk (some 112) (IOp.extr (Opd.t 94) 1) none,
      IOper.mk (some 12) (IOp.mv (Opd.t 111)) none,
      IOper.mk (some 13) (IOp.mv (Opd.t 112)) none]
      [95, 96, 97, 98, 99, 100, 101, 102, 103, 104, 105, 106, 107, 108, 109, 110,
      94, 111, 112])
      (IC.seq
      (IC.seq
      (IC.ops false
      [IOper.mk (some 113) (IOp.mv (Opd.t 13)) none,
      IOper.mk (some 114) (IOp.not (Opd.t 113)) none]
      [113])
      (IC.cond (Opd.t 114)
      (IC.seq
      (IC.ops false
      [IOper.mk (some 115) (IOp.mv (Opd.t 12)) none,
      IOper.mk (some 6) (IOp.mv (Opd.t 115)) none,
      IOper.mk (some 7) (IOp.mv (Opd.c (AV.bool false))) none]
      [115])
      IC.ret)
      IC.nop))
      (IC.ops false
      [IOper.mk (some 116) (IOp.mv (Opd.t 12)) none,
      IOper.mk (some 2) (IOp.mv (Opd.t 116)) none]
      [116]))))
      (IC.ops false []
      [95, 96, 97, 98, 99, 100, 101, 102, 103, 104, 105, 106, 107, 108, 109, 110, 94,
      111, 112, 12, 13, 113, 114, 115, 116]))
      (IC.ops false
      [IOper.mk (some 92) (IOp.mv (Opd.t 11)) none,
      IOper.mk (some 93)
      (IOp.bin BinOp.add (Opd.t 92) (Opd.c (AV.int IntKind.i64 1))) none,
      IOper.mk (some 11) (IOp.mv (Opd.t 93)) none]
      [92, 93])))
      (IC.ops false []
      [87, 88, 89, 90, 91, 95, 96, 97, 98, 99, 100, 101, 102, 103, 104, 105, 106, 107, 108,
      109, 110, 94, 111, 112, 12, 13, 113, 114, 115, 116, 92, 93]))))
      (IC.ops false []
      [87, 88, 89, 90, 91, 95, 96, 97, 98, 99, 100, 101, 102, 103, 104, 105, 106, 107, 108, 109,
      110, 94, 111, 112, 12, 13, 113, 114, 115, 116, 92, 93])))
      (IC.seq
      (IC.ops false
      [IOper.mk (some 117) (IOp.mv (Opd.t 2)) none, IOper.mk (some 6) (IOp.mv (Opd.t 117)) none,
      IOper.mk (some 7) (IOp.mv (Opd.c (AV.bool true))) none]
      [117])
      IC.ret))))))))))
theorem fn_r15_below : F 39 = some ir_r15_below := by kernel_rfl

def ir_tree_Sound : IFun :=
  IFun.mk false 1 [IRes.tmp 2]
  (IC.seq
    (IC.ops false
      [IOper.mk (some 1) (IOp.box 1 (Opd.t 0)) none, IOper.mk (some 2) (IOp.mv (Opd.c (AV.bool false))) none] [])
    (IC.seq
      (IC.ops false
      [IOper.mk (some 3) (IOp.load (some 1) (Opd.t 1)) none,
      IOper.mk (some 4)
      (IOp.call (Opd.c (AV.func (Fn.func 50) [] [])) [Opd.t 3, Opd.c (AV.func (Fn.func 77) [] [])]) none,
      IOper.mk (some 2) (IOp.mv (Opd.t 4)) none]
      [3, 4])
      IC.ret))
theorem fn_tree_Sound : F 45 = some ir_tree_Sound := by kernel_rfl

def ir_tree_All : IFun :=
  IFun.mk false 1 [IRes.tmp 2]
  (IC.seq
    (IC.ops false [IOper.mk (some 1) (IOp.box 1 (Opd.t 0)) none, IOper.mk (some 2) (IOp.mv (Opd.c AV.nilFunc)) none] [])
    (IC.seq
      (IC.ops false
      [IOper.mk (some 3) (IOp.mkfn (Fn.func 49) [] [Opd.t 1]) none, IOper.mk (some 2) (IOp.mv (Opd.t 3)) none] [3])
      IC.ret))
theorem fn_tree_All : F 29 = some ir_tree_All := by kernel_rfl

def ir_tree_each : IFun :=
  IFun.mk false 2 [IRes.tmp 4]
  (IC.seq
    (IC.ops false
      [IOper.mk (some 2) (IOp.box 1 (Opd.t 0)) none, IOper.mk (some 4) (IOp.mv (Opd.c (AV.bool false))) none] [])
    (IC.seq
      (IC.ops false
      [IOper.mk (some 6) (IOp.load (some 1) (Opd.t 2)) none, IOper.mk (some 7) IOp.mkmap none,
      IOper.mk (some 8) (IOp.mv (Opd.t 1)) none,
      IOper.mk (some 9)
      (IOp.build [AV.imm true 0 0 (some 0) [], AV.nilmap, AV.bool false, AV.nilFunc]
      [(0, 1, Opd.t 6), (1, 1, Opd.t 7), (3, 1, Opd.t 8)])
      none,
      IOper.mk (some 10) (IOp.box 4 (Opd.t 9)) none, IOper.mk (some 5) (IOp.mv (Opd.t 10)) none]
      [6, 7, 8, 9, 10])
      (IC.seq
      (IC.ops false
      [IOper.mk (some 11) (IOp.mv (Opd.t 5)) none, IOper.mk (some 12) (IOp.build [AV.str [], AV.str []] []) none,
      IOper.mk (some 13)
      (IOp.call (Opd.c (AV.func (Fn.func 78) [] []))
      [Opd.t 11, Opd.c (AV.int IntKind.i64 1), Opd.t 12, Opd.c (AV.imm true 0 0 (some 0) [])])
      none]
      [11, 12, 13])
      (IC.seq
      (IC.ops false
      [IOper.mk (some 14) (IOp.mv (Opd.t 5)) none, IOper.mk (some 15) (IOp.nilck (Opd.t 14)) none,
      IOper.mk (some 16) (IOp.faddr 2 (Opd.t 15)) none, IOper.mk (some 17) (IOp.load none (Opd.t 16)) none,
      IOper.mk (some 18) (IOp.not (Opd.t 17)) none, IOper.mk (some 4) (IOp.mv (Opd.t 18)) none]
      [14, 15, 16, 17, 18])
      IC.ret))))
theorem fn_tree_each : F 50 = some ir_tree_each := by kernel_rfl

def ir_tree_Sound_1 : IFun :=
  IFun.mk false 3 [IRes.tmp 6]
  (IC.seq
    (IC.ops false
      [IOper.mk (some 4) (IOp.box 2 (Opd.t 1)) none, IOper.mk (some 6) (IOp.mv (Opd.c (AV.bool false))) none] [4])
    (IC.seq (IC.ops false [IOper.mk (some 6) (IOp.mv (Opd.c (AV.bool true))) none] []) IC.ret))
theorem fn_tree_Sound_1 : F 77 = some ir_tree_Sound_1 := by kernel_rfl

def ir_tree_All_1 : IFun :=
  IFun.mk false 2 []
  (IC.seq (IC.ops false [IOper.mk (some 2) (IOp.box 1 (Opd.t 0)) none] [])
    (IC.ops false
      [IOper.mk (some 3) (IOp.load (some 1) (Opd.t 1)) none,
      IOper.mk (some 4) (IOp.mkfn (Fn.func 51) [] [Opd.t 2]) none,
      IOper.mk (some 5) (IOp.call (Opd.c (AV.func (Fn.func 50) [] [])) [Opd.t 3, Opd.t 4]) none]
      [3, 4, 5]))
theorem fn_tree_All_1 : F 49 = some ir_tree_All_1 := by kernel_rfl

def ir_tree_All_1_1 : IFun :=
  IFun.mk false 4 [IRes.tmp 7]
  (IC.seq
    (IC.ops false
      [IOper.mk (some 5) (IOp.box 2 (Opd.t 1)) none, IOper.mk (some 7) (IOp.mv (Opd.c (AV.bool false))) none] [])
    (IC.seq
      (IC.ops false
      [IOper.mk (some 8) (IOp.load none (Opd.t 3)) none, IOper.mk (some 9) (IOp.mv (Opd.t 0)) none,
      IOper.mk (some 10) (IOp.load (some 2) (Opd.t 5)) none,
      IOper.mk (some 11) (IOp.call (Opd.t 8) [Opd.t 9, Opd.t 10]) none, IOper.mk (some 7) (IOp.mv (Opd.t 11)) none]
      [8, 9, 10, 11])
      IC.ret))
theorem fn_tree_All_1_1 : F 51 = some ir_tree_All_1_1 := by kernel_rfl

def ir_r13_Right : IFun :=
  IFun.mk false 2 [IRes.tmp 4]
  (IC.seq
    (IC.ops false
      [IOper.mk (some 3) (IOp.box 2 (Opd.t 1)) none, IOper.mk (some 4) (IOp.mv (Opd.c (AV.bool false))) none] [])
    (IC.seq
      (IC.seq (IC.ops false [IOper.mk (some 5) (IOp.mv (Opd.c (AV.int IntKind.i64 0))) none] [])
      (IC.seq
      (IC.block 0
      (IC.loop
      (IC.seq
      (IC.seq
      (IC.seq
      (IC.ops false
      [IOper.mk (some 6) (IOp.mv (Opd.t 5)) none, IOper.mk (some 7) (IOp.mv (Opd.t 0)) none,
      IOper.mk (some 8) (IOp.len (Opd.t 7)) none,
      IOper.mk (some 9) (IOp.bin BinOp.lss (Opd.t 6) (Opd.t 8)) none]
      [6, 7, 8])
      (IC.cond (Opd.t 9) IC.nop (IC.exit 0)))
      (IC.seq
      (IC.seq
      (IC.block 1
      (IC.seq
      (IC.ops true
      [IOper.mk (some 12) (IOp.mv (Opd.t 0)) none, IOper.mk (some 13) (IOp.mv (Opd.t 5)) none,
      IOper.mk (some 14) (IOp.ixa 1 (Opd.t 12) (Opd.t 13)) none,
      IOper.mk (some 15) (IOp.load none (Opd.t 14)) none,
      IOper.mk (some 16) (IOp.faddr 0 (Opd.t 3)) none,
      IOper.mk (some 17) (IOp.load none (Opd.t 16)) none,
      IOper.mk (some 18) (IOp.bin BinOp.leq (Opd.t 15) (Opd.t 17)) none,
      IOper.mk (some 19) (IOp.mv (Opd.t 18)) none,
      IOper.mk (some 20) (IOp.faddr 1 (Opd.t 3)) (some (19, false)),
      IOper.mk (some 21) (IOp.load none (Opd.t 20)) (some (19, false)),
      IOper.mk (some 22) (IOp.bin BinOp.neq (Opd.t 21) (Opd.c (AV.str []))) (some (19, false)),
      IOper.mk (some 23) (IOp.mv (Opd.t 22)) (some (19, false)),
      IOper.mk (some 24) (IOp.mv (Opd.t 0)) (some (23, true)),
      IOper.mk (some 25) (IOp.mv (Opd.t 5)) (some (23, true)),
      IOper.mk (some 26) (IOp.ixa 1 (Opd.t 24) (Opd.t 25)) (some (23, true)),
      IOper.mk (some 27) (IOp.load none (Opd.t 26)) (some (23, true)),
      IOper.mk (some 28) (IOp.faddr 1 (Opd.t 3)) (some (23, true)),
      IOper.mk (some 29) (IOp.load none (Opd.t 28)) (some (23, true)),
      IOper.mk (some 30) (IOp.bin BinOp.geq (Opd.t 27) (Opd.t 29)) (some (23, true)),
      IOper.mk (some 31) (IOp.pick (Opd.t 23) (Opd.t 30) (Opd.c (AV.bool false)))
      (some (19, false)),
      IOper.mk (some 32) (IOp.pick (Opd.t 19) (Opd.c (AV.bool true)) (Opd.t 31)) none]
      [12, 13, 14, 15, 16, 17, 18, 19, 20, 21, 22, 23, 24, 25, 26, 27, 28, 29, 30, 31])
      (IC.cond (Opd.t 32)
      (IC.seq (IC.ops false [IOper.mk (some 4) (IOp.mv (Opd.c (AV.bool false))) none] []) IC.ret)
      IC.nop)))
      (IC.ops false []
      [12, 13, 14, 15, 16, 17, 18, 19, 20, 21, 22, 23, 24, 25, 26, 27, 28, 29, 30, 31, 32]))
      (IC.ops false
      [IOper.mk (some 10) (IOp.mv (Opd.t 5)) none,
      IOper.mk (some 11) (IOp.bin BinOp.add (Opd.t 10) (Opd.c (AV.int IntKind.i64 1)))
      none,
      IOper.mk (some 5) (IOp.mv (Opd.t 11)) none]
      [10, 11])))
      (IC.ops false []
      [6, 7, 8, 9, 12, 13, 14, 15, 16, 17, 18, 19, 20, 21, 22, 23, 24, 25, 26, 27, 28, 29, 30, 31, 32, 10,
      11]))))
      (IC.ops false []
      [6, 7, 8, 9, 12, 13, 14, 15, 16, 17, 18, 19, 20, 21, 22, 23, 24, 25, 26, 27, 28, 29, 30, 31, 32, 10, 11])))
      (IC.seq
      (IC.ops false
      [IOper.mk (some 33) (IOp.load (some 2) (Opd.t 3)) none,
      IOper.mk (some 34) (IOp.call (Opd.c (AV.func (Fn.func 97) [] [])) [Opd.t 33]) none,
      IOper.mk (some 35) (IOp.mv (Opd.t 34)) none, IOper.mk (some 36) (IOp.mv (Opd.t 0)) (some (35, true)),
      IOper.mk (some 37) (IOp.call (Opd.c (AV.func (Fn.func 98) [] [])) [Opd.t 36]) (some (35, true)),
      IOper.mk (some 38) (IOp.pick (Opd.t 35) (Opd.t 37) (Opd.c (AV.bool false))) none,
      IOper.mk (some 4) (IOp.mv (Opd.t 38)) none]
      [33, 34, 35, 36, 37, 38])
      IC.ret)))
theorem fn_r13_Right : F 66 = some ir_r13_Right := by kernel_rfl

def ir_r13_Spans : IFun :=
  IFun.mk false 2 [IRes.tmp 4]
  (IC.seq
    (IC.ops false
      [IOper.mk (some 3) (IOp.box 2 (Opd.t 1)) none,
      IOper.mk (some 4) (IOp.mv (Opd.c (AV.imm true 0 0 (some 0) []))) none]
      [])
    (IC.seq
      (IC.ops false
      [IOper.mk (some 8) (IOp.bsl false 2 0 [AV.str [], AV.str []] []) none,
      IOper.mk (some 5) (IOp.mv (Opd.t 8)) none]
      [8])
      (IC.seq
      (IC.seq
      (IC.ops false
      [IOper.mk (some 9) (IOp.mv (Opd.t 0)) none, IOper.mk (some 10) (IOp.load (some 2) (Opd.t 3)) none,
      IOper.mk (some 11) (IOp.call (Opd.c (AV.func (Fn.func 66) [] [])) [Opd.t 9, Opd.t 10]) none,
      IOper.mk (some 12) (IOp.not (Opd.t 11)) none]
      [9, 10, 11])
      (IC.cond (Opd.t 12)
      (IC.seq
      (IC.ops false [IOper.mk (some 13) (IOp.mv (Opd.t 5)) none, IOper.mk (some 4) (IOp.mv (Opd.t 13)) none]
      [13])
      IC.ret)
      IC.nop))
      (IC.seq
      (IC.ops false
      [IOper.mk (some 14) (IOp.faddr 0 (Opd.t 3)) none, IOper.mk (some 15) (IOp.load none (Opd.t 14)) none,
      IOper.mk (some 6) (IOp.mv (Opd.t 15)) none]
      [14, 15])
      (IC.seq
      (IC.seq (IC.ops false [IOper.mk (some 7) (IOp.mv (Opd.c (AV.int IntKind.i64 0))) none] [])
      (IC.seq
      (IC.block 0
      (IC.loop
      (IC.seq
      (IC.seq
      (IC.seq
      (IC.ops false
      [IOper.mk (some 16) (IOp.mv (Opd.t 7)) none, IOper.mk (some 17) (IOp.mv (Opd.t 0)) none,
      IOper.mk (some 18) (IOp.len (Opd.t 17)) none,
      IOper.mk (some 19) (IOp.bin BinOp.lss (Opd.t 16) (Opd.t 18)) none]
      [16, 17, 18])
      (IC.cond (Opd.t 19) IC.nop (IC.exit 0)))
      (IC.seq
      (IC.seq
      (IC.block 1
      (IC.seq
      (IC.ops false
      [IOper.mk (some 22) (IOp.mv (Opd.t 5)) none,
      IOper.mk (some 23) (IOp.mv (Opd.t 6)) none,
      IOper.mk (some 24) (IOp.mv (Opd.t 0)) none,
      IOper.mk (some 25) (IOp.mv (Opd.t 7)) none,
      IOper.mk (some 26) (IOp.ixa 1 (Opd.t 24) (Opd.t 25)) none,
      IOper.mk (some 27) (IOp.load none (Opd.t 26)) none,
      IOper.mk (some 28)
      (IOp.build [AV.str [], AV.str []] [(0, 1, Opd.t 23), (1, 1, Opd.t 27)]) none,
      IOper.mk (some 29) (IOp.bsl false 2 1 [AV.str [], AV.str []] [(0, 2, Opd.t 28)])
      none,
      IOper.mk (some 30) (IOp.append 2 32 (Opd.t 22) (Opd.t 29)) none,
      IOper.mk (some 5) (IOp.mv (Opd.t 30)) none]
      [22, 23, 24, 25, 26, 27, 28, 29, 30])
      (IC.ops false
      [IOper.mk (some 31) (IOp.mv (Opd.t 0)) none,
      IOper.mk (some 32) (IOp.mv (Opd.t 7)) none,
      IOper.mk (some 33) (IOp.ixa 1 (Opd.t 31) (Opd.t 32)) none,
      IOper.mk (some 34) (IOp.load none (Opd.t 33)) none,
      IOper.mk (some 6) (IOp.mv (Opd.t 34)) none]
      [31, 32, 33, 34])))
      (IC.ops false [] [22, 23, 24, 25, 26, 27, 28, 29, 30, 31, 32, 33, 34]))
      (IC.ops false
      [IOper.mk (some 20) (IOp.mv (Opd.t 7)) none,
      IOper.mk (some 21)
      (IOp.bin BinOp.add (Opd.t 20) (Opd.c (AV.int IntKind.i64 1))) none,
      IOper.mk (some 7) (IOp.mv (Opd.t 21)) none]
      [20, 21])))
      (IC.ops false [] [16, 17, 18, 19, 22, 23, 24, 25, 26, 27, 28, 29, 30, 31, 32, 33, 34, 20, 21]))))
      (IC.ops false [] [16, 17, 18, 19, 22, 23, 24, 25, 26, 27, 28, 29, 30, 31, 32, 33, 34, 20, 21])))
      (IC.seq
      (IC.ops false
      [IOper.mk (some 35) (IOp.mv (Opd.t 5)) none, IOper.mk (some 36) (IOp.mv (Opd.t 6)) none,
      IOper.mk (some 37) (IOp.faddr 1 (Opd.t 3)) none, IOper.mk (some 38) (IOp.load none (Opd.t 37)) none,
      IOper.mk (some 39) (IOp.build [AV.str [], AV.str []] [(0, 1, Opd.t 36), (1, 1, Opd.t 38)]) none,
      IOper.mk (some 40) (IOp.bsl false 2 1 [AV.str [], AV.str []] [(0, 2, Opd.t 39)]) none,
      IOper.mk (some 41) (IOp.append 2 32 (Opd.t 35) (Opd.t 40)) none,
      IOper.mk (some 4) (IOp.mv (Opd.t 41)) none]
      [35, 36, 37, 38, 39, 40, 41])
      IC.ret))))))
theorem fn_r13_Spans : F 67 = some ir_r13_Spans := by kernel_rfl

def ir_tree_walker_walk : IFun :=
  IFun.mk false 4 [IRes.cell 8 none]
  (IC.seq
    (IC.ops false
      [IOper.mk (some 4) (IOp.box 1 (Opd.t 0)) none, IOper.mk (some 6) (IOp.box 2 (Opd.t 2)) none,
      IOper.mk (some 7) (IOp.box 1 (Opd.t 3)) none, IOper.mk (some 8) (IOp.alloc [AV.bool false]) none]
      [])
    (IC.seq
      (IC.ops false
      [IOper.mk (some 14) (IOp.load none (Opd.t 4)) none, IOper.mk (some 15) (IOp.nilck (Opd.t 14)) none,
      IOper.mk (some 16) (IOp.faddr 0 (Opd.t 15)) none, IOper.mk (some 17) (IOp.load (some 1) (Opd.t 16)) none,
      IOper.mk (some 18) (IOp.mv (Opd.t 1)) none,
      IOper.mk (some 19) (IOp.call (Opd.c (AV.func (Fn.func 109) [] [])) [Opd.t 17, Opd.t 18]) none,
      IOper.mk (some 13) (IOp.mv (Opd.t 19)) none, IOper.mk (some 20) (IOp.extr (Opd.t 13) 0) none,
      IOper.mk (some 21) (IOp.extr (Opd.t 13) 1) none,
      IOper.mk (some 9)
      (IOp.alloc
      [AV.int IntKind.u8 0, AV.imm true 0 0 (some 0) [], AV.imm true 0 0 (some 0) [],
      AV.imm true 0 0 (some 0) [], AV.imm true 0 0 (some 0) []])
      none,
      IOper.mk none (IOp.store 5 (Opd.t 9) (Opd.t 20)) none, IOper.mk (some 10) (IOp.mv (Opd.t 21)) none]
      [14, 15, 16, 17, 18, 19, 13, 20, 21])
      (IC.seq
      (IC.seq
      (IC.ops false
      [IOper.mk (some 22) (IOp.mv (Opd.t 10)) none, IOper.mk (some 23) (IOp.not (Opd.t 22)) none,
      IOper.mk (some 24) (IOp.mv (Opd.t 23)) none,
      IOper.mk (some 25) (IOp.load none (Opd.t 4)) (some (24, false)),
      IOper.mk (some 26) (IOp.nilck (Opd.t 25)) (some (24, false)),
      IOper.mk (some 27) (IOp.faddr 1 (Opd.t 26)) (some (24, false)),
      IOper.mk (some 28) (IOp.load none (Opd.t 27)) (some (24, false)),
      IOper.mk (some 29) (IOp.mv (Opd.t 1)) (some (24, false)),
      IOper.mk (some 30) (IOp.look 0 (AV.int IntKind.i64 0) false (Opd.t 28) (Opd.t 29))
      (some (24, false)),
      IOper.mk (some 31) (IOp.bin BinOp.gtr (Opd.t 30) (Opd.c (AV.int IntKind.i64 0)))
      (some (24, false)),
      IOper.mk (some 32) (IOp.pick (Opd.t 24) (Opd.c (AV.bool true)) (Opd.t 31)) none,
      IOper.mk (some 33) (IOp.mv (Opd.t 32)) none,
      IOper.mk (some 34) (IOp.faddr 0 (Opd.t 9)) (some (33, false)),
      IOper.mk (some 35) (IOp.load none (Opd.t 34)) (some (33, false)),
      IOper.mk (some 36) (IOp.bin BinOp.eql (Opd.t 35) (Opd.c (AV.int IntKind.u8 2)))
      (some (33, false)),
      IOper.mk (some 37) (IOp.mv (Opd.t 36)) (some (33, false)),
      IOper.mk (some 38) (IOp.faddr 2 (Opd.t 9)) (some (37, true)),
      IOper.mk (some 39) (IOp.load none (Opd.t 38)) (some (37, true)),
      IOper.mk (some 40) (IOp.len (Opd.t 39)) (some (37, true)),
      IOper.mk (some 41) (IOp.faddr 1 (Opd.t 9)) (some (37, true)),
      IOper.mk (some 42) (IOp.load none (Opd.t 41)) (some (37, true)),
      IOper.mk (some 43) (IOp.len (Opd.t 42)) (some (37, true)),
      IOper.mk (some 44) (IOp.bin BinOp.add (Opd.t 43) (Opd.c (AV.int IntKind.i64 1)))
      (some (37, true)),
      IOper.mk (some 45) (IOp.bin BinOp.neq (Opd.t 40) (Opd.t 44)) (some (37, true)),
      IOper.mk (some 46) (IOp.pick (Opd.t 37) (Opd.t 45) (Opd.c (AV.bool false))) (some (33, false)),
      IOper.mk (some 47) (IOp.pick (Opd.t 33) (Opd.c (AV.bool true)) (Opd.t 46)) none,
      IOper.mk (some 48) (IOp.mv (Opd.t 47)) none,
      IOper.mk (some 49) (IOp.faddr 0 (Opd.t 9)) (some (48, false)),
      IOper.mk (some 50) (IOp.load none (Opd.t 49)) (some (48, false)),
      IOper.mk (some 51) (IOp.bin BinOp.eql (Opd.t 50) (Opd.c (AV.int IntKind.u8 2)))
      (some (48, false)),
      IOper.mk (some 52) (IOp.mv (Opd.t 51)) (some (48, false)),
      IOper.mk (some 53) (IOp.faddr 1 (Opd.t 9)) (some (52, true)),
      IOper.mk (some 54) (IOp.load none (Opd.t 53)) (some (52, true)),
      IOper.mk (some 55) (IOp.load (some 2) (Opd.t 6)) (some (52, true)),
      IOper.mk (some 56) (IOp.call (Opd.c (AV.func (Fn.func 110) [] [])) [Opd.t 54, Opd.t 55])
      (some (52, true)),
      IOper.mk (some 57) (IOp.not (Opd.t 56)) (some (52, true)),
      IOper.mk (some 58) (IOp.pick (Opd.t 52) (Opd.t 57) (Opd.c (AV.bool false))) (some (48, false)),
      IOper.mk (some 59) (IOp.pick (Opd.t 48) (Opd.c (AV.bool true)) (Opd.t 58)) none,
      IOper.mk (some 60) (IOp.mv (Opd.t 59)) none,
      IOper.mk (some 61) (IOp.load none (Opd.t 7)) (some (60, false)),
      IOper.mk (some 62) (IOp.len (Opd.t 61)) (some (60, false)),
      IOper.mk (some 63) (IOp.bin BinOp.eql (Opd.t 62) (Opd.c (AV.int IntKind.i64 0)))
      (some (60, false)),
      IOper.mk (some 64) (IOp.mv (Opd.t 63)) (some (60, false)),
      IOper.mk (some 65) (IOp.faddr 0 (Opd.t 9)) (some (64, true)),
      IOper.mk (some 66) (IOp.load none (Opd.t 65)) (some (64, true)),
      IOper.mk (some 67) (IOp.bin BinOp.neq (Opd.t 66) (Opd.c (AV.int IntKind.u8 2)))
      (some (64, true)),
      IOper.mk (some 68) (IOp.pick (Opd.t 64) (Opd.t 67) (Opd.c (AV.bool false))) (some (60, false)),
      IOper.mk (some 69) (IOp.pick (Opd.t 60) (Opd.c (AV.bool true)) (Opd.t 68)) none]
      [22, 23, 24, 25, 26, 27, 28, 29, 30, 31, 32, 33, 34, 35, 36, 37, 38, 39, 40, 41, 42, 43, 44, 45, 46, 47, 48,
      49, 50, 51, 52, 53, 54, 55, 56, 57, 58, 59, 60, 61, 62, 63, 64, 65, 66, 67, 68])
      (IC.cond (Opd.t 69)
      (IC.seq
      (IC.ops false
      [IOper.mk (some 70) (IOp.load none (Opd.t 4)) none, IOper.mk (some 71) (IOp.nilck (Opd.t 70)) none,
      IOper.mk (some 72) (IOp.faddr 2 (Opd.t 71)) none,
      IOper.mk none (IOp.store 1 (Opd.t 72) (Opd.c (AV.bool true))) none]
      [70, 71, 72])
      (IC.seq (IC.ops false [IOper.mk none (IOp.store 1 (Opd.t 8) (Opd.c (AV.bool false))) none] []) IC.ret))
      IC.nop))
      (IC.seq
      (IC.ops false
      [IOper.mk (some 73) (IOp.load none (Opd.t 4)) none, IOper.mk (some 74) (IOp.nilck (Opd.t 73)) none,
      IOper.mk (some 75) (IOp.faddr 1 (Opd.t 74)) none, IOper.mk (some 76) (IOp.load none (Opd.t 75)) none,
      IOper.mk (some 77) (IOp.mv (Opd.t 1)) none,
      IOper.mk none (IOp.mapup 0 (Opd.t 76) (Opd.t 77) (Opd.c (AV.int IntKind.i64 1))) none]
      [73, 74, 75, 76, 77])
      (IC.seq
      (IC.seq
      (IC.ops true
      [IOper.mk (some 78) (IOp.load none (Opd.t 4)) none, IOper.mk (some 79) (IOp.nilck (Opd.t 78)) none,
      IOper.mk (some 80) (IOp.faddr 3 (Opd.t 79)) none, IOper.mk (some 81) (IOp.load none (Opd.t 80)) none,
      IOper.mk (some 82) (IOp.mv (Opd.t 1)) none, IOper.mk (some 83) (IOp.load (some 2) (Opd.t 6)) none,
      IOper.mk (some 84) (IOp.load none (Opd.t 7)) none,
      IOper.mk (some 85) (IOp.call (Opd.t 81) [Opd.t 82, Opd.t 83, Opd.t 84]) none,
      IOper.mk (some 86) (IOp.not (Opd.t 85)) none]
      [78, 79, 80, 81, 82, 83, 84, 85])
      (IC.cond (Opd.t 86)
      (IC.seq (IC.ops false [IOper.mk none (IOp.store 1 (Opd.t 8) (Opd.c (AV.bool false))) none] []) IC.ret)
      IC.nop))
      (IC.seq
      (IC.seq
      (IC.ops false
      [IOper.mk (some 87) (IOp.faddr 0 (Opd.t 9)) none, IOper.mk (some 88) (IOp.load none (Opd.t 87)) none,
      IOper.mk (some 89) (IOp.bin BinOp.eql (Opd.t 88) (Opd.c (AV.int IntKind.u8 1))) none]
      [87, 88])
      (IC.cond (Opd.t 89)
      (IC.seq (IC.ops false [IOper.mk none (IOp.store 1 (Opd.t 8) (Opd.c (AV.bool true))) none] []) IC.ret)
      IC.nop))
      (IC.seq
      (IC.ops false
      [IOper.mk (some 90) (IOp.load none (Opd.t 7)) none, IOper.mk (some 91) (IOp.load none (Opd.t 7)) none,
      IOper.mk (some 92) (IOp.len (Opd.t 91)) none, IOper.mk (some 93) (IOp.load none (Opd.t 7)) none,
      IOper.mk (some 94) (IOp.len (Opd.t 93)) none,
      IOper.mk (some 95) (IOp.sub 1 (Opd.t 90) none (some (Opd.t 92)) (some (Opd.t 94))) none,
      IOper.mk (some 96) (IOp.mv (Opd.t 1)) none,
      IOper.mk (some 97) (IOp.bsl false 1 1 [AV.int IntKind.i64 0] [(0, 1, Opd.t 96)]) none,
      IOper.mk (some 98) (IOp.appi 1 8 (Opd.t 95) (Opd.t 97)) none,
      IOper.mk none (IOp.store 1 (Opd.t 7) (Opd.t 98)) none]
      [90, 91, 92, 93, 94, 95, 96, 97, 98])
      (IC.seq
      (IC.seq
      (IC.ops false
      [IOper.mk (some 99) (IOp.faddr 1 (Opd.t 9)) none,
      IOper.mk (some 100) (IOp.load none (Opd.t 99)) none,
      IOper.mk (some 101) (IOp.load (some 2) (Opd.t 6)) none,
      IOper.mk (some 102) (IOp.call (Opd.c (AV.func (Fn.func 111) [] [])) [Opd.t 100, Opd.t 101])
      none]
      [99, 100, 101])
      (IC.seq
      (IC.block 0
      (IC.rangeF (Opd.t 102) [103, 104]
      (IC.seq (IC.ops false [IOper.mk (some 11) (IOp.mv (Opd.t 103)) none] [])
      (IC.ops false
      [IOper.mk (some 12) (IOp.alloc [AV.str [], AV.str []]) none,
      IOper.mk none (IOp.store 2 (Opd.t 12) (Opd.t 104)) none]
      []))
      (IC.seq
      (IC.block 1
      (IC.seq
      (IC.ops true
      [IOper.mk (some 105) (IOp.load none (Opd.t 4)) none,
      IOper.mk (some 106) (IOp.faddr 2 (Opd.t 9)) none,
      IOper.mk (some 107) (IOp.load none (Opd.t 106)) none,
      IOper.mk (some 108) (IOp.mv (Opd.t 11)) none,
      IOper.mk (some 109) (IOp.ixa 1 (Opd.t 107) (Opd.t 108)) none,
      IOper.mk (some 110) (IOp.load none (Opd.t 109)) none,
      IOper.mk (some 111) (IOp.load (some 2) (Opd.t 12)) none,
      IOper.mk (some 112) (IOp.load none (Opd.t 7)) none,
      IOper.mk (some 113)
      (IOp.call (Opd.c (AV.func (Fn.func 78) [] []))
      [Opd.t 105, Opd.t 110, Opd.t 111, Opd.t 112])
      none,
      IOper.mk (some 114) (IOp.not (Opd.t 113)) none]
      [105, 106, 107, 108, 109, 110, 111, 112, 113])
      (IC.cond (Opd.t 114)
      (IC.seq
      (IC.ops false [IOper.mk none (IOp.store 1 (Opd.t 8) (Opd.c (AV.bool false))) none]
      [])
      IC.ret)
      IC.nop)))
      (IC.ops false [] [105, 106, 107, 108, 109, 110, 111, 112, 113, 114]))))
      (IC.ops false [] [103, 104, 11, 12, 105, 106, 107, 108, 109, 110, 111, 112, 113, 114])))
      (IC.seq (IC.ops false [IOper.mk none (IOp.store 1 (Opd.t 8) (Opd.c (AV.bool true))) none] [])
      IC.ret)))))))))
theorem fn_tree_walker_walk : F 78 = some ir_tree_walker_walk := by kernel_rfl

def ir_r02_Right : IFun :=
  IFun.mk false 1 [IRes.tmp 2]
  (IC.seq
    (IC.ops false
      [IOper.mk (some 1) (IOp.box 2 (Opd.t 0)) none, IOper.mk (some 2) (IOp.mv (Opd.c (AV.bool false))) none] [])
    (IC.seq
      (IC.ops false
      [IOper.mk (some 3) (IOp.faddr 1 (Opd.t 1)) none, IOper.mk (some 4) (IOp.load none (Opd.t 3)) none,
      IOper.mk (some 5) (IOp.bin BinOp.eql (Opd.t 4) (Opd.c (AV.str []))) none,
      IOper.mk (some 6) (IOp.mv (Opd.t 5)) none, IOper.mk (some 7) (IOp.faddr 1 (Opd.t 1)) (some (6, false)),
      IOper.mk (some 8) (IOp.load none (Opd.t 7)) (some (6, false)),
      IOper.mk (some 9) (IOp.faddr 0 (Opd.t 1)) (some (6, false)),
      IOper.mk (some 10) (IOp.load none (Opd.t 9)) (some (6, false)),
      IOper.mk (some 11) (IOp.bin BinOp.gtr (Opd.t 8) (Opd.t 10)) (some (6, false)),
      IOper.mk (some 12) (IOp.pick (Opd.t 6) (Opd.c (AV.bool true)) (Opd.t 11)) none,
      IOper.mk (some 2) (IOp.mv (Opd.t 12)) none]
      [3, 4, 5, 6, 7, 8, 9, 10, 11, 12])
      IC.ret))
theorem fn_r02_Right : F 97 = some ir_r02_Right := by kernel_rfl

def ir_r13_Rises : IFun :=
  IFun.mk false 1 [IRes.tmp 2]
  (IC.seq (IC.ops false [IOper.mk (some 2) (IOp.mv (Opd.c (AV.bool false))) none] [])
    (IC.seq
      (IC.seq (IC.ops false [IOper.mk (some 3) (IOp.mv (Opd.c (AV.int IntKind.i64 1))) none] [])
      (IC.seq
      (IC.block 0
      (IC.loop
      (IC.seq
      (IC.seq
      (IC.seq
      (IC.ops false
      [IOper.mk (some 4) (IOp.mv (Opd.t 3)) none, IOper.mk (some 5) (IOp.mv (Opd.t 0)) none,
      IOper.mk (some 6) (IOp.len (Opd.t 5)) none,
      IOper.mk (some 7) (IOp.bin BinOp.lss (Opd.t 4) (Opd.t 6)) none]
      [4, 5, 6])
      (IC.cond (Opd.t 7) IC.nop (IC.exit 0)))
      (IC.seq
      (IC.seq
      (IC.block 1
      (IC.seq
      (IC.ops true
      [IOper.mk (some 10) (IOp.mv (Opd.t 0)) none, IOper.mk (some 11) (IOp.mv (Opd.t 3)) none,
      IOper.mk (some 12)
      (IOp.bin BinOp.sub (Opd.t 11) (Opd.c (AV.int IntKind.i64 1))) none,
      IOper.mk (some 13) (IOp.ixa 1 (Opd.t 10) (Opd.t 12)) none,
      IOper.mk (some 14) (IOp.load none (Opd.t 13)) none,
      IOper.mk (some 15) (IOp.mv (Opd.t 0)) none, IOper.mk (some 16) (IOp.mv (Opd.t 3)) none,
      IOper.mk (some 17) (IOp.ixa 1 (Opd.t 15) (Opd.t 16)) none,
      IOper.mk (some 18) (IOp.load none (Opd.t 17)) none,
      IOper.mk (some 19) (IOp.bin BinOp.geq (Opd.t 14) (Opd.t 18)) none]
      [10, 11, 12, 13, 14, 15, 16, 17, 18])
      (IC.cond (Opd.t 19)
      (IC.seq (IC.ops false [IOper.mk (some 2) (IOp.mv (Opd.c (AV.bool false))) none] []) IC.ret)
      IC.nop)))
      (IC.ops false [] [10, 11, 12, 13, 14, 15, 16, 17, 18, 19]))
      (IC.ops false
      [IOper.mk (some 8) (IOp.mv (Opd.t 3)) none,
      IOper.mk (some 9) (IOp.bin BinOp.add (Opd.t 8) (Opd.c (AV.int IntKind.i64 1))) none,
      IOper.mk (some 3) (IOp.mv (Opd.t 9)) none]
      [8, 9])))
      (IC.ops false [] [4, 5, 6, 7, 10, 11, 12, 13, 14, 15, 16, 17, 18, 19, 8, 9]))))
      (IC.ops false [] [4, 5, 6, 7, 10, 11, 12, 13, 14, 15, 16, 17, 18, 19, 8, 9])))
      (IC.seq (IC.ops false [IOper.mk (some 2) (IOp.mv (Opd.c (AV.bool true))) none] []) IC.ret)))
theorem fn_r13_Rises : F 98 = some ir_r13_Rises := by kernel_rfl

def ir_tree_node : IFun :=
  IFun.mk false 2 [IRes.cell 4 (some 5), IRes.tmp 5]
  (IC.seq
    (IC.ops false
      [IOper.mk (some 2) (IOp.box 1 (Opd.t 0)) none,
      IOper.mk (some 4)
      (IOp.alloc
      [AV.int IntKind.u8 0, AV.imm true 0 0 (some 0) [], AV.imm true 0 0 (some 0) [],
      AV.imm true 0 0 (some 0) [], AV.imm true 0 0 (some 0) []])
      none,
      IOper.mk (some 5) (IOp.mv (Opd.c (AV.bool false))) none]
      [])
    (IC.seq
      (IC.seq
      (IC.ops false
      [IOper.mk (some 7) (IOp.mv (Opd.t 1)) none,
      IOper.mk (some 8) (IOp.bin BinOp.lss (Opd.t 7) (Opd.c (AV.int IntKind.i64 1))) none,
      IOper.mk (some 9) (IOp.mv (Opd.t 8)) none, IOper.mk (some 10) (IOp.mv (Opd.t 1)) (some (9, false)),
      IOper.mk (some 11) (IOp.faddr 0 (Opd.t 2)) (some (9, false)),
      IOper.mk (some 12) (IOp.load none (Opd.t 11)) (some (9, false)),
      IOper.mk (some 13) (IOp.len (Opd.t 12)) (some (9, false)),
      IOper.mk (some 14) (IOp.bin BinOp.geq (Opd.t 10) (Opd.t 13)) (some (9, false)),
      IOper.mk (some 15) (IOp.pick (Opd.t 9) (Opd.c (AV.bool true)) (Opd.t 14)) none]
      [7, 8, 9, 10, 11, 12, 13, 14])
      (IC.cond (Opd.t 15)
      (IC.seq
      (IC.ops false
      [IOper.mk (some 16)
      (IOp.build
      [AV.int IntKind.u8 0, AV.imm true 0 0 (some 0) [], AV.imm true 0 0 (some 0) [],
      AV.imm true 0 0 (some 0) [], AV.imm true 0 0 (some 0) []]
      [])
      none,
      IOper.mk none (IOp.store 5 (Opd.t 4) (Opd.t 16)) none,
      IOper.mk (some 5) (IOp.mv (Opd.c (AV.bool false))) none]
      [16])
      IC.ret)
      IC.nop))
      (IC.seq
      (IC.ops false
      [IOper.mk (some 17) (IOp.faddr 0 (Opd.t 2)) none, IOper.mk (some 18) (IOp.load none (Opd.t 17)) none,
      IOper.mk (some 19) (IOp.mv (Opd.t 1)) none, IOper.mk (some 20) (IOp.ixa 5 (Opd.t 18) (Opd.t 19)) none,
      IOper.mk (some 21) (IOp.load (some 5) (Opd.t 20)) none,
      IOper.mk (some 6)
      (IOp.alloc
      [AV.int IntKind.u8 0, AV.imm true 0 0 (some 0) [], AV.imm true 0 0 (some 0) [],
      AV.imm true 0 0 (some 0) [], AV.imm true 0 0 (some 0) []])
      none,
      IOper.mk none (IOp.store 5 (Opd.t 6) (Opd.t 21)) none]
      [17, 18, 19, 20, 21])
      (IC.seq
      (IC.ops true
      [IOper.mk (some 22) (IOp.load (some 5) (Opd.t 6)) none, IOper.mk (some 23) (IOp.faddr 0 (Opd.t 6)) none,
      IOper.mk (some 24) (IOp.load none (Opd.t 23)) none,
      IOper.mk (some 25) (IOp.bin BinOp.eql (Opd.t 24) (Opd.c (AV.int IntKind.u8 2))) none,
      IOper.mk (some 26) (IOp.mv (Opd.t 25)) none,
      IOper.mk (some 27) (IOp.faddr 0 (Opd.t 6)) (some (26, false)),
      IOper.mk (some 28) (IOp.load none (Opd.t 27)) (some (26, false)),
      IOper.mk (some 29) (IOp.bin BinOp.eql (Opd.t 28) (Opd.c (AV.int IntKind.u8 1)))
      (some (26, false)),
      IOper.mk (some 30) (IOp.pick (Opd.t 26) (Opd.c (AV.bool true)) (Opd.t 29)) none,
      IOper.mk none (IOp.store 5 (Opd.t 4) (Opd.t 22)) none, IOper.mk (some 5) (IOp.mv (Opd.t 30)) none,
      IOper.mk none (IOp.diff (Opd.t 27) (Opd.t 4)) (some (26, false))]
      [22, 23, 24, 25, 26, 27, 28, 29, 30])
      IC.ret))))
theorem fn_tree_node : F 109 = some ir_tree_node := by kernel_rfl

def ir_pivot_Right : IFun :=
  IFun.mk false 2 [IRes.tmp 4]
  (IC.seq
    (IC.ops false
      [IOper.mk (some 3) (IOp.box 2 (Opd.t 1)) none, IOper.mk (some 4) (IOp.mv (Opd.c (AV.bool false))) none] [])
    (IC.seq
      (IC.seq
      (IC.ops false
      [IOper.mk (some 6) (IOp.load (some 2) (Opd.t 3)) none,
      IOper.mk (some 7) (IOp.call (Opd.c (AV.func (Fn.func 93) [] [])) [Opd.t 6]) none,
      IOper.mk (some 8) (IOp.not (Opd.t 7)) none, IOper.mk (some 9) (IOp.mv (Opd.t 8)) none,
      IOper.mk (some 10) (IOp.mv (Opd.t 0)) (some (9, false)),
      IOper.mk (some 11) (IOp.call (Opd.c (AV.func (Fn.func 106) [] [])) [Opd.t 10]) (some (9, false)),
      IOper.mk (some 12) (IOp.not (Opd.t 11)) (some (9, false)),
      IOper.mk (some 13) (IOp.pick (Opd.t 9) (Opd.c (AV.bool true)) (Opd.t 12)) none]
      [6, 7, 8, 9, 10, 11, 12])
      (IC.cond (Opd.t 13) (IC.seq (IC.ops false [IOper.mk (some 4) (IOp.mv (Opd.c (AV.bool false))) none] []) IC.ret)
      IC.nop))
      (IC.seq
      (IC.ops false
      [IOper.mk (some 14) (IOp.mv (Opd.t 0)) none, IOper.mk (some 15) (IOp.len (Opd.t 14)) none,
      IOper.mk (some 5) (IOp.mv (Opd.t 15)) none]
      [14, 15])
      (IC.seq
      (IC.ops true
      [IOper.mk (some 16) (IOp.mv (Opd.t 5)) none,
      IOper.mk (some 17) (IOp.bin BinOp.eql (Opd.t 16) (Opd.c (AV.int IntKind.i64 0))) none,
      IOper.mk (some 18) (IOp.mv (Opd.t 17)) none, IOper.mk (some 19) (IOp.mv (Opd.t 0)) (some (18, false)),
      IOper.mk (some 20) (IOp.ixa 1 (Opd.t 19) (Opd.c (AV.int IntKind.i64 0))) (some (18, false)),
      IOper.mk (some 21) (IOp.load none (Opd.t 20)) (some (18, false)),
      IOper.mk (some 22) (IOp.faddr 0 (Opd.t 3)) (some (18, false)),
      IOper.mk (some 23) (IOp.load none (Opd.t 22)) (some (18, false)),
      IOper.mk (some 24) (IOp.bin BinOp.gtr (Opd.t 21) (Opd.t 23)) (some (18, false)),
      IOper.mk (some 25) (IOp.mv (Opd.t 24)) (some (18, false)),
      IOper.mk (some 26) (IOp.faddr 1 (Opd.t 3)) (some (25, true)),
      IOper.mk (some 27) (IOp.load none (Opd.t 26)) (some (25, true)),
      IOper.mk (some 28) (IOp.bin BinOp.eql (Opd.t 27) (Opd.c (AV.str []))) (some (25, true)),
      IOper.mk (some 29) (IOp.mv (Opd.t 28)) (some (25, true)),
      IOper.mk (some 30) (IOp.mv (Opd.t 0)) (some (29, false)),
      IOper.mk (some 31) (IOp.mv (Opd.t 5)) (some (29, false)),
      IOper.mk (some 32) (IOp.bin BinOp.sub (Opd.t 31) (Opd.c (AV.int IntKind.i64 1)))
      (some (29, false)),
      IOper.mk (some 33) (IOp.ixa 1 (Opd.t 30) (Opd.t 32)) (some (29, false)),
      IOper.mk (some 34) (IOp.load none (Opd.t 33)) (some (29, false)),
      IOper.mk (some 35) (IOp.faddr 1 (Opd.t 3)) (some (29, false)),
      IOper.mk (some 36) (IOp.load none (Opd.t 35)) (some (29, false)),
      IOper.mk (some 37) (IOp.bin BinOp.lss (Opd.t 34) (Opd.t 36)) (some (29, false)),
      IOper.mk (some 38) (IOp.pick (Opd.t 29) (Opd.c (AV.bool true)) (Opd.t 37)) (some (25, true)),
      IOper.mk (some 39) (IOp.pick (Opd.t 25) (Opd.t 38) (Opd.c (AV.bool false))) (some (18, false)),
      IOper.mk (some 40) (IOp.pick (Opd.t 18) (Opd.c (AV.bool true)) (Opd.t 39)) none,
      IOper.mk (some 4) (IOp.mv (Opd.t 40)) none]
      [16, 17, 18, 19, 20, 21, 22, 23, 24, 25, 26, 27, 28, 29, 30, 31, 32, 33, 34, 35, 36, 37, 38, 39, 40])
      IC.ret))))
theorem fn_pivot_Right : F 110 = some ir_pivot_Right := by kernel_rfl

def ir_pivot_All : IFun :=
  IFun.mk false 2 [IRes.tmp 4]
  (IC.seq
    (IC.ops false
      [IOper.mk (some 2) (IOp.box 1 (Opd.t 0)) none, IOper.mk (some 3) (IOp.box 2 (Opd.t 1)) none,
      IOper.mk (some 4) (IOp.mv (Opd.c AV.nilFunc)) none]
      [])
    (IC.seq
      (IC.ops false
      [IOper.mk (some 5) (IOp.mkfn (Fn.func 136) [] [Opd.t 2, Opd.t 3]) none,
      IOper.mk (some 4) (IOp.mv (Opd.t 5)) none]
      [5])
      IC.ret))
theorem fn_pivot_All : F 111 = some ir_pivot_All := by kernel_rfl

def ir_key_RightRange : IFun :=
  IFun.mk false 1 [IRes.tmp 2]
  (IC.seq
    (IC.ops false
      [IOper.mk (some 1) (IOp.box 2 (Opd.t 0)) none, IOper.mk (some 2) (IOp.mv (Opd.c (AV.bool false))) none] [])
    (IC.seq
      (IC.ops false
      [IOper.mk (some 3) (IOp.faddr 0 (Opd.t 1)) none, IOper.mk (some 4) (IOp.load none (Opd.t 3)) none,
      IOper.mk (some 5) (IOp.faddr 1 (Opd.t 1)) none, IOper.mk (some 6) (IOp.load none (Opd.t 5)) none,
      IOper.mk (some 7) (IOp.call (Opd.c (AV.func (Fn.func 123) [] [])) [Opd.t 4, Opd.t 6]) none,
      IOper.mk (some 2) (IOp.mv (Opd.t 7)) none]
      [3, 4, 5, 6, 7])
      IC.ret))
theorem fn_key_RightRange : F 93 = some ir_key_RightRange := by kernel_rfl

def ir_pivot_rises : IFun :=
  IFun.mk false 1 [IRes.tmp 2]
  (IC.seq (IC.ops false [IOper.mk (some 2) (IOp.mv (Opd.c (AV.bool false))) none] [])
    (IC.seq
      (IC.seq
      (IC.ops false
      [IOper.mk (some 4) (IOp.mv (Opd.t 0)) none, IOper.mk (some 5) (IOp.len (Opd.t 4)) none,
      IOper.mk (some 6) (IOp.mv (Opd.c (AV.int IntKind.i64 0))) none]
      [4])
      (IC.seq
      (IC.block 0
      (IC.loop
      (IC.seq
      (IC.seq (IC.ops false [IOper.mk (some 7) (IOp.bin BinOp.lss (Opd.t 6) (Opd.t 5)) none] [])
      (IC.seq (IC.cond (Opd.t 7) IC.nop (IC.exit 0))
      (IC.seq
      (IC.seq
      (IC.block 1
      (IC.seq
      (IC.ops false
      [IOper.mk (some 8) (IOp.mv (Opd.t 6)) none, IOper.mk (some 3) (IOp.mv (Opd.t 8)) none]
      [8])
      (IC.seq
      (IC.ops true
      [IOper.mk (some 9) (IOp.mv (Opd.t 3)) none,
      IOper.mk (some 10)
      (IOp.bin BinOp.gtr (Opd.t 9) (Opd.c (AV.int IntKind.i64 0))) none,
      IOper.mk (some 11) (IOp.mv (Opd.t 10)) none,
      IOper.mk (some 12) (IOp.mv (Opd.t 0)) (some (11, true)),
      IOper.mk (some 13) (IOp.mv (Opd.t 3)) (some (11, true)),
      IOper.mk (some 14)
      (IOp.bin BinOp.sub (Opd.t 13) (Opd.c (AV.int IntKind.i64 1)))
      (some (11, true)),
      IOper.mk (some 15) (IOp.ixa 1 (Opd.t 12) (Opd.t 14)) (some (11, true)),
      IOper.mk (some 16) (IOp.load none (Opd.t 15)) (some (11, true)),
      IOper.mk (some 17) (IOp.mv (Opd.t 0)) (some (11, true)),
      IOper.mk (some 18) (IOp.mv (Opd.t 3)) (some (11, true)),
      IOper.mk (some 19) (IOp.ixa 1 (Opd.t 17) (Opd.t 18)) (some (11, true)),
      IOper.mk (some 20) (IOp.load none (Opd.t 19)) (some (11, true)),
      IOper.mk (some 21) (IOp.bin BinOp.geq (Opd.t 16) (Opd.t 20)) (some (11, true)),
      IOper.mk (some 22) (IOp.pick (Opd.t 11) (Opd.t 21) (Opd.c (AV.bool false))) none]
      [9, 10, 11, 12, 13, 14, 15, 16, 17, 18, 19, 20, 21])
      (IC.cond (Opd.t 22)
      (IC.seq (IC.ops false [IOper.mk (some 2) (IOp.mv (Opd.c (AV.bool false))) none] [])
      IC.ret)
      IC.nop))))
      (IC.ops false [] [8, 3, 9, 10, 11, 12, 13, 14, 15, 16, 17, 18, 19, 20, 21, 22]))
      (IC.ops false
      [IOper.mk (some 23) (IOp.bin BinOp.add (Opd.t 6) (Opd.c (AV.int IntKind.i64 1)))
      none,
      IOper.mk (some 6) (IOp.mv (Opd.t 23)) none]
      [23]))))
      (IC.ops false [] [7, 8, 3, 9, 10, 11, 12, 13, 14, 15, 16, 17, 18, 19, 20, 21, 22, 23]))))
      (IC.ops false [] [7, 8, 3, 9, 10, 11, 12, 13, 14, 15, 16, 17, 18, 19, 20, 21, 22, 23])))
      (IC.seq (IC.ops false [IOper.mk (some 2) (IOp.mv (Opd.c (AV.bool true))) none] []) IC.ret)))
theorem fn_pivot_rises : F 106 = some ir_pivot_rises := by kernel_rfl

def ir_pivot_All_1 : IFun :=
  IFun.mk false 3 []
  (IC.seq
    (IC.seq
      (IC.ops false
      [IOper.mk (some 5) (IOp.load none (Opd.t 1)) none, IOper.mk (some 6) (IOp.load (some 2) (Opd.t 2)) none,
      IOper.mk (some 7) (IOp.call (Opd.c (AV.func (Fn.func 110) [] [])) [Opd.t 5, Opd.t 6]) none,
      IOper.mk (some 8) (IOp.not (Opd.t 7)) none]
      [5, 6, 7])
      (IC.cond (Opd.t 8) IC.ret IC.nop))
    (IC.seq (IC.ops false [IOper.mk (some 4) (IOp.mv (Opd.c (AV.int IntKind.i64 0))) none] [])
      (IC.seq
      (IC.block 0
      (IC.loop
      (IC.seq
      (IC.seq
      (IC.seq
      (IC.ops false
      [IOper.mk (some 9) (IOp.mv (Opd.t 4)) none, IOper.mk (some 10) (IOp.load none (Opd.t 1)) none,
      IOper.mk (some 11) (IOp.len (Opd.t 10)) none,
      IOper.mk (some 12) (IOp.bin BinOp.leq (Opd.t 9) (Opd.t 11)) none]
      [9, 10, 11])
      (IC.cond (Opd.t 12) IC.nop (IC.exit 0)))
      (IC.seq
      (IC.seq
      (IC.block 1
      (IC.seq
      (IC.ops false
      [IOper.mk (some 15) (IOp.mv (Opd.t 0)) none, IOper.mk (some 16) (IOp.mv (Opd.t 4)) none,
      IOper.mk (some 17) (IOp.load none (Opd.t 1)) none,
      IOper.mk (some 18) (IOp.load (some 2) (Opd.t 2)) none,
      IOper.mk (some 19) (IOp.mv (Opd.t 4)) none,
      IOper.mk (some 20)
      (IOp.call (Opd.c (AV.func (Fn.func 137) [] [])) [Opd.t 17, Opd.t 18, Opd.t 19]) none,
      IOper.mk (some 21) (IOp.call (Opd.t 15) [Opd.t 16, Opd.t 20]) none,
      IOper.mk (some 22) (IOp.not (Opd.t 21)) none]
      [15, 16, 17, 18, 19, 20, 21])
      (IC.cond (Opd.t 22) IC.ret IC.nop)))
      (IC.ops false [] [15, 16, 17, 18, 19, 20, 21, 22]))
      (IC.ops false
      [IOper.mk (some 13) (IOp.mv (Opd.t 4)) none,
      IOper.mk (some 14) (IOp.bin BinOp.add (Opd.t 13) (Opd.c (AV.int IntKind.i64 1))) none,
      IOper.mk (some 4) (IOp.mv (Opd.t 14)) none]
      [13, 14])))
      (IC.ops false [] [9, 10, 11, 12, 15, 16, 17, 18, 19, 20, 21, 22, 13, 14]))))
      (IC.ops false [] [9, 10, 11, 12, 15, 16, 17, 18, 19, 20, 21, 22, 13, 14]))))
theorem fn_pivot_All_1 : F 136 = some ir_pivot_All_1 := by kernel_rfl

def ir_pivot_span : IFun :=
  IFun.mk false 3 [IRes.cell 6 (some 2)]
  (IC.seq
    (IC.ops false
      [IOper.mk (some 4) (IOp.box 2 (Opd.t 1)) none, IOper.mk (some 6) (IOp.alloc [AV.str [], AV.str []]) none] [])
    (IC.seq
      (IC.seq
      (IC.ops false
      [IOper.mk (some 7) (IOp.mv (Opd.t 2)) none,
      IOper.mk (some 8) (IOp.bin BinOp.gtr (Opd.t 7) (Opd.c (AV.int IntKind.i64 0))) none]
      [7])
      (IC.cond (Opd.t 8)
      (IC.ops false
      [IOper.mk (some 9) (IOp.mv (Opd.t 0)) none, IOper.mk (some 10) (IOp.mv (Opd.t 2)) none,
      IOper.mk (some 11) (IOp.bin BinOp.sub (Opd.t 10) (Opd.c (AV.int IntKind.i64 1))) none,
      IOper.mk (some 12) (IOp.ixa 1 (Opd.t 9) (Opd.t 11)) none,
      IOper.mk (some 13) (IOp.load none (Opd.t 12)) none, IOper.mk (some 14) (IOp.faddr 0 (Opd.t 4)) none,
      IOper.mk none (IOp.store 1 (Opd.t 14) (Opd.t 13)) none]
      [9, 10, 11, 12, 13, 14])
      IC.nop))
      (IC.seq
      (IC.seq
      (IC.ops false
      [IOper.mk (some 15) (IOp.mv (Opd.t 2)) none, IOper.mk (some 16) (IOp.mv (Opd.t 0)) none,
      IOper.mk (some 17) (IOp.len (Opd.t 16)) none,
      IOper.mk (some 18) (IOp.bin BinOp.lss (Opd.t 15) (Opd.t 17)) none]
      [15, 16, 17])
      (IC.cond (Opd.t 18)
      (IC.ops false
      [IOper.mk (some 19) (IOp.mv (Opd.t 0)) none, IOper.mk (some 20) (IOp.mv (Opd.t 2)) none,
      IOper.mk (some 21) (IOp.ixa 1 (Opd.t 19) (Opd.t 20)) none,
      IOper.mk (some 22) (IOp.load none (Opd.t 21)) none, IOper.mk (some 23) (IOp.faddr 1 (Opd.t 4)) none,
      IOper.mk none (IOp.store 1 (Opd.t 23) (Opd.t 22)) none]
      [19, 20, 21, 22, 23])
      IC.nop))
      (IC.seq
      (IC.ops false
      [IOper.mk (some 24) (IOp.load (some 2) (Opd.t 4)) none,
      IOper.mk none (IOp.store 2 (Opd.t 6) (Opd.t 24)) none]
      [24])
      IC.ret))))
theorem fn_pivot_span : F 137 = some ir_pivot_span := by kernel_rfl

def ir_key_ahead : IFun :=
  IFun.mk false 2 [IRes.tmp 4]
  (IC.seq (IC.ops false [IOper.mk (some 4) (IOp.mv (Opd.c (AV.bool false))) none] [])
    (IC.seq
      (IC.ops false
      [IOper.mk (some 5) (IOp.mv (Opd.t 1)) none,
      IOper.mk (some 6) (IOp.bin BinOp.eql (Opd.t 5) (Opd.c (AV.str []))) none,
      IOper.mk (some 7) (IOp.mv (Opd.t 6)) none, IOper.mk (some 8) (IOp.mv (Opd.t 0)) (some (7, false)),
      IOper.mk (some 9) (IOp.mv (Opd.t 1)) (some (7, false)),
      IOper.mk (some 10) (IOp.bin BinOp.lss (Opd.t 8) (Opd.t 9)) (some (7, false)),
      IOper.mk (some 11) (IOp.pick (Opd.t 7) (Opd.c (AV.bool true)) (Opd.t 10)) none,
      IOper.mk (some 4) (IOp.mv (Opd.t 11)) none]
      [5, 6, 7, 8, 9, 10, 11])
      IC.ret))
theorem fn_key_ahead : F 123 = some ir_key_ahead := by kernel_rfl

def ir_cut_Fresh : IFun :=
  IFun.mk false 2 [IRes.tmp 4, IRes.tmp 5]
  (IC.seq
    (IC.ops false
      [IOper.mk (some 2) (IOp.box 1 (Opd.t 0)) none,
      IOper.mk (some 4) (IOp.mv (Opd.c (AV.imm true 0 0 (some 0) []))) none,
      IOper.mk (some 5) (IOp.mv (Opd.c (AV.bool false))) none]
      [])
    (IC.seq
      (IC.seq
      (IC.ops false
      [IOper.mk (some 10) (IOp.mv (Opd.t 1)) none,
      IOper.mk (some 11) (IOp.bin BinOp.lss (Opd.t 10) (Opd.c (AV.int IntKind.i64 0))) none]
      [10])
      (IC.cond (Opd.t 11)
      (IC.seq
      (IC.ops false
      [IOper.mk (some 4) (IOp.mv (Opd.c (AV.imm true 0 0 (some 0) []))) none,
      IOper.mk (some 5) (IOp.mv (Opd.c (AV.bool false))) none]
      [])
      IC.ret)
      IC.nop))
      (IC.seq
      (IC.ops false
      [IOper.mk (some 12) IOp.mkmap none, IOper.mk (some 6) (IOp.alloc [AV.nilmap]) none,
      IOper.mk none (IOp.store 1 (Opd.t 6) (Opd.t 12)) none]
      [12])
      (IC.seq
      (IC.seq
      (IC.ops false
      [IOper.mk (some 13) (IOp.load (some 1) (Opd.t 2)) none,
      IOper.mk (some 14) (IOp.call (Opd.c (AV.func (Fn.func 29) [] [])) [Opd.t 13]) none]
      [13])
      (IC.seq
      (IC.block 0
      (IC.rangeF (Opd.t 14) [15, 16] (IC.ops false [IOper.mk (some 7) (IOp.mv (Opd.t 15)) none] [])
      (IC.seq
      (IC.block 1
      (IC.ops false
      [IOper.mk (some 17) (IOp.load none (Opd.t 6)) none, IOper.mk (some 18) (IOp.mv (Opd.t 7)) none,
      IOper.mk none (IOp.mapup 0 (Opd.t 17) (Opd.t 18) (Opd.c (AV.int IntKind.i64 1)))
      none]
      [17, 18]))
      (IC.ops false [] [17, 18]))))
      (IC.ops false [] [15, 16, 7, 17, 18])))
      (IC.seq (IC.ops false [IOper.mk (some 8) (IOp.mv (Opd.c (AV.imm true 0 0 (some 0) []))) none] [])
      (IC.seq
      (IC.seq (IC.ops false [IOper.mk (some 9) (IOp.mv (Opd.c (AV.int IntKind.i64 2))) none] [])
      (IC.seq
      (IC.block 2
      (IC.loop
      (IC.seq
      (IC.seq
      (IC.seq
      (IC.ops false
      [IOper.mk (some 19) (IOp.mv (Opd.t 9)) none,
      IOper.mk (some 20)
      (IOp.bin BinOp.leq (Opd.t 19) (Opd.c (AV.int IntKind.i64 4096))) none,
      IOper.mk (some 21) (IOp.mv (Opd.t 20)) none,
      IOper.mk (some 22) (IOp.mv (Opd.t 8)) (some (21, true)),
      IOper.mk (some 23) (IOp.len (Opd.t 22)) (some (21, true)),
      IOper.mk (some 24) (IOp.mv (Opd.t 1)) (some (21, true)),
      IOper.mk (some 25) (IOp.bin BinOp.lss (Opd.t 23) (Opd.t 24)) (some (21, true)),
      IOper.mk (some 26) (IOp.pick (Opd.t 21) (Opd.t 25) (Opd.c (AV.bool false))) none]
      [19, 20, 21, 22, 23, 24, 25])
      (IC.cond (Opd.t 26) IC.nop (IC.exit 2)))
      (IC.seq
      (IC.seq
      (IC.block 3
      (IC.seq
      (IC.ops false
      [IOper.mk (some 29) (IOp.load none (Opd.t 6)) none,
      IOper.mk (some 30) (IOp.mv (Opd.t 9)) none,
      IOper.mk (some 31)
      (IOp.look 0 (AV.int IntKind.i64 0) false (Opd.t 29) (Opd.t 30))
      none,
      IOper.mk (some 32)
      (IOp.bin BinOp.eql (Opd.t 31) (Opd.c (AV.int IntKind.i64 0))) none]
      [29, 30, 31])
      (IC.cond (Opd.t 32)
      (IC.ops false
      [IOper.mk (some 33) (IOp.mv (Opd.t 8)) none,
      IOper.mk (some 34) (IOp.mv (Opd.t 9)) none,
      IOper.mk (some 35)
      (IOp.bsl false 1 1 [AV.int IntKind.i64 0] [(0, 1, Opd.t 34)])
      none,
      IOper.mk (some 36) (IOp.append 1 8 (Opd.t 33) (Opd.t 35)) none,
      IOper.mk (some 8) (IOp.mv (Opd.t 36)) none]
      [33, 34, 35, 36])
      IC.nop)))
      (IC.ops false [] [29, 30, 31, 32, 33, 34, 35, 36]))
      (IC.ops false
      [IOper.mk (some 27) (IOp.mv (Opd.t 9)) none,
      IOper.mk (some 28)
      (IOp.bin BinOp.add (Opd.t 27) (Opd.c (AV.int IntKind.i64 1))) none,
      IOper.mk (some 9) (IOp.mv (Opd.t 28)) none]
      [27, 28])))
      (IC.ops false [] [19, 20, 21, 22, 23, 24, 25, 26, 29, 30, 31, 32, 33, 34, 35, 36, 27, 28]))))
      (IC.ops false [] [19, 20, 21, 22, 23, 24, 25, 26, 29, 30, 31, 32, 33, 34, 35, 36, 27, 28])))
      (IC.seq
      (IC.seq
      (IC.ops false
      [IOper.mk (some 37) (IOp.mv (Opd.t 8)) none, IOper.mk (some 38) (IOp.len (Opd.t 37)) none,
      IOper.mk (some 39) (IOp.mv (Opd.t 1)) none,
      IOper.mk (some 40) (IOp.bin BinOp.lss (Opd.t 38) (Opd.t 39)) none]
      [37, 38, 39])
      (IC.cond (Opd.t 40)
      (IC.seq
      (IC.ops false
      [IOper.mk (some 4) (IOp.mv (Opd.c (AV.imm true 0 0 (some 0) []))) none,
      IOper.mk (some 5) (IOp.mv (Opd.c (AV.bool false))) none]
      [])
      IC.ret)
      IC.nop))
      (IC.seq
      (IC.ops false
      [IOper.mk (some 41) (IOp.mv (Opd.t 8)) none, IOper.mk (some 4) (IOp.mv (Opd.t 41)) none,
      IOper.mk (some 5) (IOp.mv (Opd.c (AV.bool true))) none]
      [41])
      IC.ret))))))))
theorem fn_cut_Fresh : F 18 = some ir_cut_Fresh := by kernel_rfl

def ir_r09_Same : IFun :=
  IFun.mk false 2 [IRes.tmp 4]
  (IC.seq (IC.ops false [IOper.mk (some 4) (IOp.mv (Opd.c (AV.bool false))) none] [])
    (IC.seq
      (IC.seq
      (IC.ops false
      [IOper.mk (some 6) (IOp.mv (Opd.t 0)) none, IOper.mk (some 7) (IOp.len (Opd.t 6)) none,
      IOper.mk (some 8) (IOp.mv (Opd.t 1)) none, IOper.mk (some 9) (IOp.len (Opd.t 8)) none,
      IOper.mk (some 10) (IOp.bin BinOp.neq (Opd.t 7) (Opd.t 9)) none]
      [6, 7, 8, 9])
      (IC.cond (Opd.t 10) (IC.seq (IC.ops false [IOper.mk (some 4) (IOp.mv (Opd.c (AV.bool false))) none] []) IC.ret)
      IC.nop))
      (IC.seq
      (IC.seq (IC.ops false [IOper.mk (some 5) (IOp.mv (Opd.c (AV.int IntKind.i64 0))) none] [])
      (IC.seq
      (IC.block 0
      (IC.loop
      (IC.seq
      (IC.seq
      (IC.seq
      (IC.ops false
      [IOper.mk (some 11) (IOp.mv (Opd.t 5)) none, IOper.mk (some 12) (IOp.mv (Opd.t 0)) none,
      IOper.mk (some 13) (IOp.len (Opd.t 12)) none,
      IOper.mk (some 14) (IOp.bin BinOp.lss (Opd.t 11) (Opd.t 13)) none]
      [11, 12, 13])
      (IC.cond (Opd.t 14) IC.nop (IC.exit 0)))
      (IC.seq
      (IC.seq
      (IC.block 1
      (IC.seq
      (IC.ops true
      [IOper.mk (some 17) (IOp.mv (Opd.t 0)) none, IOper.mk (some 18) (IOp.mv (Opd.t 5)) none,
      IOper.mk (some 19) (IOp.ixa 1 (Opd.t 17) (Opd.t 18)) none,
      IOper.mk (some 20) (IOp.load none (Opd.t 19)) none,
      IOper.mk (some 21) (IOp.mv (Opd.t 1)) none, IOper.mk (some 22) (IOp.mv (Opd.t 5)) none,
      IOper.mk (some 23) (IOp.ixa 1 (Opd.t 21) (Opd.t 22)) none,
      IOper.mk (some 24) (IOp.load none (Opd.t 23)) none,
      IOper.mk (some 25) (IOp.bin BinOp.neq (Opd.t 20) (Opd.t 24)) none]
      [17, 18, 19, 20, 21, 22, 23, 24])
      (IC.cond (Opd.t 25)
      (IC.seq (IC.ops false [IOper.mk (some 4) (IOp.mv (Opd.c (AV.bool false))) none] [])
      IC.ret)
      IC.nop)))
      (IC.ops false [] [17, 18, 19, 20, 21, 22, 23, 24, 25]))
      (IC.ops false
      [IOper.mk (some 15) (IOp.mv (Opd.t 5)) none,
      IOper.mk (some 16) (IOp.bin BinOp.add (Opd.t 15) (Opd.c (AV.int IntKind.i64 1)))
      none,
      IOper.mk (some 5) (IOp.mv (Opd.t 16)) none]
      [15, 16])))
      (IC.ops false [] [11, 12, 13, 14, 17, 18, 19, 20, 21, 22, 23, 24, 25, 15, 16]))))
      (IC.ops false [] [11, 12, 13, 14, 17, 18, 19, 20, 21, 22, 23, 24, 25, 15, 16])))
      (IC.seq (IC.ops false [IOper.mk (some 4) (IOp.mv (Opd.c (AV.bool true))) none] []) IC.ret))))
theorem fn_r09_Same : F 19 = some ir_r09_Same := by kernel_rfl

def ir_r18_Fresh : IFun :=
  IFun.mk false 2 [IRes.tmp 4]
  (IC.seq
    (IC.ops false
      [IOper.mk (some 2) (IOp.box 1 (Opd.t 0)) none,
      IOper.mk (some 4) (IOp.mv (Opd.c (AV.imm true 0 0 (some 0) []))) none]
      [])
    (IC.seq
      (IC.ops false
      [IOper.mk (some 7) (IOp.bsl false 1 0 [AV.int IntKind.i64 0] []) none,
      IOper.mk (some 5) (IOp.mv (Opd.t 7)) none]
      [7])
      (IC.seq
      (IC.seq (IC.ops false [IOper.mk (some 6) (IOp.mv (Opd.c (AV.int IntKind.i64 2))) none] [])
      (IC.seq
      (IC.block 0
      (IC.loop
      (IC.seq
      (IC.seq
      (IC.seq
      (IC.ops false
      [IOper.mk (some 8) (IOp.mv (Opd.t 6)) none,
      IOper.mk (some 9) (IOp.bin BinOp.leq (Opd.t 8) (Opd.c (AV.int IntKind.i64 300)))
      none,
      IOper.mk (some 10) (IOp.mv (Opd.t 9)) none,
      IOper.mk (some 11) (IOp.mv (Opd.t 5)) (some (10, true)),
      IOper.mk (some 12) (IOp.len (Opd.t 11)) (some (10, true)),
      IOper.mk (some 13) (IOp.mv (Opd.t 1)) (some (10, true)),
      IOper.mk (some 14) (IOp.bin BinOp.lss (Opd.t 12) (Opd.t 13)) (some (10, true)),
      IOper.mk (some 15) (IOp.pick (Opd.t 10) (Opd.t 14) (Opd.c (AV.bool false))) none]
      [8, 9, 10, 11, 12, 13, 14])
      (IC.cond (Opd.t 15) IC.nop (IC.exit 0)))
      (IC.seq
      (IC.seq
      (IC.block 1
      (IC.seq
      (IC.ops false
      [IOper.mk (some 18) (IOp.load (some 1) (Opd.t 2)) none,
      IOper.mk (some 19) (IOp.mv (Opd.t 6)) none,
      IOper.mk (some 20) (IOp.callp 30 [Opd.t 18, Opd.t 19]) none]
      [18, 19])
      (IC.cond (Opd.t 20)
      (IC.ops false
      [IOper.mk (some 21) (IOp.mv (Opd.t 5)) none, IOper.mk (some 22) (IOp.mv (Opd.t 6)) none,
      IOper.mk (some 23)
      (IOp.bsl false 1 1 [AV.int IntKind.i64 0] [(0, 1, Opd.t 22)]) none,
      IOper.mk (some 24) (IOp.append 1 8 (Opd.t 21) (Opd.t 23)) none,
      IOper.mk (some 5) (IOp.mv (Opd.t 24)) none]
      [21, 22, 23, 24])
      IC.nop)))
      (IC.ops false [] [18, 19, 20, 21, 22, 23, 24]))
      (IC.ops false
      [IOper.mk (some 16) (IOp.mv (Opd.t 6)) none,
      IOper.mk (some 17) (IOp.bin BinOp.add (Opd.t 16) (Opd.c (AV.int IntKind.i64 1)))
      none,
      IOper.mk (some 6) (IOp.mv (Opd.t 17)) none]
      [16, 17])))
      (IC.ops false [] [8, 9, 10, 11, 12, 13, 14, 15, 18, 19, 20, 21, 22, 23, 24, 16, 17]))))
      (IC.ops false [] [8, 9, 10, 11, 12, 13, 14, 15, 18, 19, 20, 21, 22, 23, 24, 16, 17])))
      (IC.seq
      (IC.ops false [IOper.mk (some 25) (IOp.mv (Opd.t 5)) none, IOper.mk (some 4) (IOp.mv (Opd.t 25)) none] [25])
      IC.ret))))
theorem fn_r18_Fresh : F 20 = some ir_r18_Fresh := by kernel_rfl

def ir_r18_Free : IFun :=
  IFun.mk false 2 [IRes.tmp 4]
  (IC.seq
    (IC.ops false
      [IOper.mk (some 2) (IOp.box 1 (Opd.t 0)) none, IOper.mk (some 4) (IOp.mv (Opd.c (AV.bool false))) none] [])
    (IC.seq
      (IC.ops false
      [IOper.mk (some 9) (IOp.load (some 1) (Opd.t 2)) none,
      IOper.mk (some 10) (IOp.call (Opd.c (AV.func (Fn.func 25) [] [])) [Opd.t 9]) none,
      IOper.mk (some 8) (IOp.mv (Opd.t 10)) none, IOper.mk (some 11) (IOp.extr (Opd.t 8) 0) none,
      IOper.mk (some 12) (IOp.extr (Opd.t 8) 1) none, IOper.mk (some 5) (IOp.mv (Opd.t 11)) none,
      IOper.mk (some 6) (IOp.mv (Opd.t 12)) none]
      [9, 10, 8, 11, 12, 6])
      (IC.seq
      (IC.seq (IC.ops false [IOper.mk (some 7) (IOp.mv (Opd.c (AV.int IntKind.i64 0))) none] [])
      (IC.seq
      (IC.block 0
      (IC.loop
      (IC.seq
      (IC.seq
      (IC.seq
      (IC.ops false
      [IOper.mk (some 13) (IOp.mv (Opd.t 7)) none, IOper.mk (some 14) (IOp.mv (Opd.t 5)) none,
      IOper.mk (some 15) (IOp.len (Opd.t 14)) none,
      IOper.mk (some 16) (IOp.bin BinOp.lss (Opd.t 13) (Opd.t 15)) none]
      [13, 14, 15])
      (IC.cond (Opd.t 16) IC.nop (IC.exit 0)))
      (IC.seq
      (IC.seq
      (IC.block 1
      (IC.seq
      (IC.ops false
      [IOper.mk (some 19) (IOp.mv (Opd.t 5)) none, IOper.mk (some 20) (IOp.mv (Opd.t 7)) none,
      IOper.mk (some 21) (IOp.ixa 5 (Opd.t 19) (Opd.t 20)) none,
      IOper.mk (some 22) (IOp.faddr 0 (Opd.t 21)) none,
      IOper.mk (some 23) (IOp.load none (Opd.t 22)) none,
      IOper.mk (some 24) (IOp.mv (Opd.t 1)) none,
      IOper.mk (some 25) (IOp.bin BinOp.eql (Opd.t 23) (Opd.t 24)) none]
      [19, 20, 21, 22, 23, 24])
      (IC.cond (Opd.t 25)
      (IC.seq (IC.ops false [IOper.mk (some 4) (IOp.mv (Opd.c (AV.bool false))) none] [])
      IC.ret)
      IC.nop)))
      (IC.ops false [] [19, 20, 21, 22, 23, 24, 25]))
      (IC.ops false
      [IOper.mk (some 17) (IOp.mv (Opd.t 7)) none,
      IOper.mk (some 18) (IOp.bin BinOp.add (Opd.t 17) (Opd.c (AV.int IntKind.i64 1)))
      none,
      IOper.mk (some 7) (IOp.mv (Opd.t 18)) none]
      [17, 18])))
      (IC.ops false [] [13, 14, 15, 16, 19, 20, 21, 22, 23, 24, 25, 17, 18]))))
      (IC.ops false [] [13, 14, 15, 16, 19, 20, 21, 22, 23, 24, 25, 17, 18])))
      (IC.seq
      (IC.ops false
      [IOper.mk (some 26) (IOp.mv (Opd.t 1)) none,
      IOper.mk (some 27) (IOp.bin BinOp.geq (Opd.t 26) (Opd.c (AV.int IntKind.i64 2))) none,
      IOper.mk (some 28) (IOp.mv (Opd.t 27)) none, IOper.mk (some 29) (IOp.mv (Opd.t 1)) (some (28, true)),
      IOper.mk (some 30) (IOp.bin BinOp.leq (Opd.t 29) (Opd.c (AV.int IntKind.i64 4096)))
      (some (28, true)),
      IOper.mk (some 31) (IOp.pick (Opd.t 28) (Opd.t 30) (Opd.c (AV.bool false))) none,
      IOper.mk (some 4) (IOp.mv (Opd.t 31)) none]
      [26, 27, 28, 29, 30, 31])
      IC.ret))))
theorem fn_r18_Free : F 30 = some ir_r18_Free := by kernel_rfl

end Go.AS.Th

namespace Go.AS.Th
open Go Go.AS Go.Proofs
set_option maxHeartbeats 1000000

theorem ahead_gives (s e : Str) : Gives F 123 [.str s, .str e] (.bool (decide (e = [] ∨ slt s e))) := by
  refine Gives.of fn_key_ahead rfl rfl (args' := [.str s, .str e]) (by simp only [mapO_nil, mapO_c2, consO_some, upf_v]) ?_
  simp only [ir_key_ahead]
  simp -failIfUnchanged (disch := first | assumption | omega | (refine room_i _ _ ?_ ?_ <;> omega) | (refine @_root_.id _ ?_; with_unfolding_all exact Eq.refl _) | (simp only [List.length_take, List.length_drop, List.length_append, List.length_cons, List.length_nil, List.length_replicate, List.length_map] <;> omega) | fail) only [rnL, opL, ruL, hpL, rsL, natL, outL, Nat.add_sub_cancel_left, Nat.mul_one, List.length_cons, List.length_nil, Nat.zero_add, Nat.add_zero, Nat.reduceAdd, Nat.reduceMul, Nat.reduceSub, Nat.reduceEqDiff, Nat.reduceLT, Nat.reduceLeDiff, litd_t, litd_f, decide_true, decide_false, Bool.not_true, Bool.not_false, not_true_eq_false, not_false_eq_true, true_and, and_true, false_and, and_false, true_or, or_true, false_or, or_false, Int.toNat_natCast, cond_true, cond_false, List.map_cons, List.map_nil, Option.map_some, Option.map_none]
  (first | refine RunB_i (fun h => ?_) (fun h => ?_) | refine RunG_i (fun h => ?_) (fun h => ?_) | refine RunB_ib (fun h => ?_) (fun h => ?_))
  · simp -failIfUnchanged (disch := first | assumption | omega | (refine room_i _ _ ?_ ?_ <;> omega) | (refine @_root_.id _ ?_; with_unfolding_all exact Eq.refl _) | (simp only [List.length_take, List.length_drop, List.length_append, List.length_cons, List.length_nil, List.length_replicate, List.length_map] <;> omega) | fail) only [rnL, opL, ruL, hpL, rsL, natL, outL, Nat.add_sub_cancel_left, Nat.mul_one, List.length_cons, List.length_nil, Nat.zero_add, Nat.add_zero, Nat.reduceAdd, Nat.reduceMul, Nat.reduceSub, Nat.reduceEqDiff, Nat.reduceLT, Nat.reduceLeDiff, litd_t, litd_f, decide_true, decide_false, Bool.not_true, Bool.not_false, not_true_eq_false, not_false_eq_true, true_and, and_true, false_and, and_false, true_or, or_true, false_or, or_false, Int.toNat_natCast, cond_true, cond_false, List.map_cons, List.map_nil, Option.map_some, Option.map_none]
    (refine Fin_g (.inr rfl) (by simp -failIfUnchanged (disch := first | assumption | omega | (refine room_i _ _ ?_ ?_ <;> omega) | (refine @_root_.id _ ?_; with_unfolding_all exact Eq.refl _) | (simp only [List.length_take, List.length_drop, List.length_append, List.length_cons, List.length_nil, List.length_replicate, List.length_map] <;> omega) | fail) only [rnL, opL, ruL, hpL, rsL, natL, outL, Nat.add_sub_cancel_left, Nat.mul_one, List.length_cons, List.length_nil, Nat.zero_add, Nat.add_zero, Nat.reduceAdd, Nat.reduceMul, Nat.reduceSub, Nat.reduceEqDiff, Nat.reduceLT, Nat.reduceLeDiff, litd_t, litd_f, decide_true, decide_false, Bool.not_true, Bool.not_false, not_true_eq_false, not_false_eq_true, true_and, and_true, false_and, and_false, true_or, or_true, false_or, or_false, Int.toNat_natCast, cond_true, cond_false, List.map_cons, List.map_nil, Option.map_some, Option.map_none]; rfl) ?_; simp -failIfUnchanged (disch := first | assumption | omega | (refine room_i _ _ ?_ ?_ <;> omega) | (refine @_root_.id _ ?_; with_unfolding_all exact Eq.refl _) | (simp only [List.length_take, List.length_drop, List.length_append, List.length_cons, List.length_nil, List.length_replicate, List.length_map] <;> omega) | fail) only [rnL, opL, ruL, hpL, rsL, natL, outL, Nat.add_sub_cancel_left, Nat.mul_one, List.length_cons, List.length_nil, Nat.zero_add, Nat.add_zero, Nat.reduceAdd, Nat.reduceMul, Nat.reduceSub, Nat.reduceEqDiff, Nat.reduceLT, Nat.reduceLeDiff, litd_t, litd_f, decide_true, decide_false, Bool.not_true, Bool.not_false, not_true_eq_false, not_false_eq_true, true_and, and_true, false_and, and_false, true_or, or_true, false_or, or_false, Int.toNat_natCast, cond_true, cond_false, List.map_cons, List.map_nil, Option.map_some, Option.map_none])
    simp [h]
  · simp -failIfUnchanged (disch := first | assumption | omega | (refine room_i _ _ ?_ ?_ <;> omega) | (refine @_root_.id _ ?_; with_unfolding_all exact Eq.refl _) | (simp only [List.length_take, List.length_drop, List.length_append, List.length_cons, List.length_nil, List.length_replicate, List.length_map] <;> omega) | fail) only [rnL, opL, ruL, hpL, rsL, natL, outL, Nat.add_sub_cancel_left, Nat.mul_one, List.length_cons, List.length_nil, Nat.zero_add, Nat.add_zero, Nat.reduceAdd, Nat.reduceMul, Nat.reduceSub, Nat.reduceEqDiff, Nat.reduceLT, Nat.reduceLeDiff, litd_t, litd_f, decide_true, decide_false, Bool.not_true, Bool.not_false, not_true_eq_false, not_false_eq_true, true_and, and_true, false_and, and_false, true_or, or_true, false_or, or_false, Int.toNat_natCast, cond_true, cond_false, List.map_cons, List.map_nil, Option.map_some, Option.map_none]
    (refine Fin_g (.inr rfl) (by simp -failIfUnchanged (disch := first | assumption | omega | (refine room_i _ _ ?_ ?_ <;> omega) | (refine @_root_.id _ ?_; with_unfolding_all exact Eq.refl _) | (simp only [List.length_take, List.length_drop, List.length_append, List.length_cons, List.length_nil, List.length_replicate, List.length_map] <;> omega) | fail) only [rnL, opL, ruL, hpL, rsL, natL, outL, Nat.add_sub_cancel_left, Nat.mul_one, List.length_cons, List.length_nil, Nat.zero_add, Nat.add_zero, Nat.reduceAdd, Nat.reduceMul, Nat.reduceSub, Nat.reduceEqDiff, Nat.reduceLT, Nat.reduceLeDiff, litd_t, litd_f, decide_true, decide_false, Bool.not_true, Bool.not_false, not_true_eq_false, not_false_eq_true, true_and, and_true, false_and, and_false, true_or, or_true, false_or, or_false, Int.toNat_natCast, cond_true, cond_false, List.map_cons, List.map_nil, Option.map_some, Option.map_none]; rfl) ?_; simp -failIfUnchanged (disch := first | assumption | omega | (refine room_i _ _ ?_ ?_ <;> omega) | (refine @_root_.id _ ?_; with_unfolding_all exact Eq.refl _) | (simp only [List.length_take, List.length_drop, List.length_append, List.length_cons, List.length_nil, List.length_replicate, List.length_map] <;> omega) | fail) only [rnL, opL, ruL, hpL, rsL, natL, outL, Nat.add_sub_cancel_left, Nat.mul_one, List.length_cons, List.length_nil, Nat.zero_add, Nat.add_zero, Nat.reduceAdd, Nat.reduceMul, Nat.reduceSub, Nat.reduceEqDiff, Nat.reduceLT, Nat.reduceLeDiff, litd_t, litd_f, decide_true, decide_false, Bool.not_true, Bool.not_false, not_true_eq_false, not_false_eq_true, true_and, and_true, false_and, and_false, true_or, or_true, false_or, or_false, Int.toNat_natCast, cond_true, cond_false, List.map_cons, List.map_nil, Option.map_some, Option.map_none])
    simp [h]
theorem ahead_is (s e : Str) : CallIs F 123 [.str s, .str e] (.bool (decide (e = [] ∨ slt s e))) := (ahead_gives s e).is
def okR (r : Rng) : Prop := r.hi = [] ∨ slt r.lo r.hi
instance (r : Rng) : Decidable (okR r) := by unfold okR; infer_instance
theorem rr_is (r : Rng) : CallIs F 93 [.agg (Cel.enc r)] (.bool (decide (okR r))) := by
  refine Gives.is ?_
  refine Gives.of fn_key_RightRange rfl rfl (args' := [.agg (Cel.enc r)]) (by simp only [mapO_nil, mapO_c2, consO_some, upf_v]) ?_
  simp only [ir_key_RightRange]
  simp -failIfUnchanged (disch := first | assumption | omega | (refine room_i _ _ ?_ ?_ <;> omega) | (refine @_root_.id _ ?_; with_unfolding_all exact Eq.refl _) | (simp only [List.length_take, List.length_drop, List.length_append, List.length_cons, List.length_nil, List.length_replicate, List.length_map] <;> omega) | fail) only [rnL, opL, ruL, hpL, rsL, natL, outL, Nat.add_sub_cancel_left, Nat.mul_one, List.length_cons, List.length_nil, Nat.zero_add, Nat.add_zero, Nat.reduceAdd, Nat.reduceMul, Nat.reduceSub, Nat.reduceEqDiff, Nat.reduceLT, Nat.reduceLeDiff, litd_t, litd_f, decide_true, decide_false, Bool.not_true, Bool.not_false, not_true_eq_false, not_false_eq_true, true_and, and_true, false_and, and_false, true_or, or_true, false_or, or_false, Int.toNat_natCast, cond_true, cond_false, List.map_cons, List.map_nil, Option.map_some, Option.map_none, datL, ahead_is]
  (refine Fin_g (.inr rfl) (by simp -failIfUnchanged (disch := first | assumption | omega | (refine room_i _ _ ?_ ?_ <;> omega) | (refine @_root_.id _ ?_; with_unfolding_all exact Eq.refl _) | (simp only [List.length_take, List.length_drop, List.length_append, List.length_cons, List.length_nil, List.length_replicate, List.length_map] <;> omega) | fail) only [rnL, opL, ruL, hpL, rsL, natL, outL, Nat.add_sub_cancel_left, Nat.mul_one, List.length_cons, List.length_nil, Nat.zero_add, Nat.add_zero, Nat.reduceAdd, Nat.reduceMul, Nat.reduceSub, Nat.reduceEqDiff, Nat.reduceLT, Nat.reduceLeDiff, litd_t, litd_f, decide_true, decide_false, Bool.not_true, Bool.not_false, not_true_eq_false, not_false_eq_true, true_and, and_true, false_and, and_false, true_or, or_true, false_or, or_false, Int.toNat_natCast, cond_true, cond_false, List.map_cons, List.map_nil, Option.map_some, Option.map_none]; rfl) ?_; simp -failIfUnchanged (disch := first | assumption | omega | (refine room_i _ _ ?_ ?_ <;> omega) | (refine @_root_.id _ ?_; with_unfolding_all exact Eq.refl _) | (simp only [List.length_take, List.length_drop, List.length_append, List.length_cons, List.length_nil, List.length_replicate, List.length_map] <;> omega) | fail) only [rnL, opL, ruL, hpL, rsL, natL, outL, Nat.add_sub_cancel_left, Nat.mul_one, List.length_cons, List.length_nil, Nat.zero_add, Nat.add_zero, Nat.reduceAdd, Nat.reduceMul, Nat.reduceSub, Nat.reduceEqDiff, Nat.reduceLT, Nat.reduceLeDiff, litd_t, litd_f, decide_true, decide_false, Bool.not_true, Bool.not_false, not_true_eq_false, not_false_eq_true, true_and, and_true, false_and, and_false, true_or, or_true, false_or, or_false, Int.toNat_natCast, cond_true, cond_false, List.map_cons, List.map_nil, Option.map_some, Option.map_none])
  rfl
def nd0 : Nd := ⟨0, ⟨true, []⟩, ⟨true, []⟩, ⟨true, []⟩, ⟨true, []⟩⟩
def nodeAt (T : Tr) (i : Int) : Nd := if 1 ≤ i then (T.nodes.l[i.toNat]?).getD nd0 else nd0
theorem opV_build0 {H : Heap} (z : List AV) : opV H (.build z []) = some (.agg z, H) := rfl
theorem spliceAll {α : Type} [Cel α] (a : α) (cs : List AV) (h : cs.length = Cel.n α) : splice cs 0 (Cel.enc a) = Cel.enc a := by
  simp [splice, Cel.len, h]
theorem splice5 (a b c d e : AV) (x : List AV) (h : x.length = 5) : splice [a, b, c, d, e] 0 x = x := by simp [splice, h]
theorem fgNd0 : fg (.agg [AV.int IntKind.u8 0, AV.imm true 0 0 (some 0) [], AV.imm true 0 0 (some 0) [], AV.imm true 0 0 (some 0) [], AV.imm true 0 0 (some 0) []]) = .agg (Cel.enc nd0) := rfl
theorem node_is (T : Tr) (i : Int) : CallIs F 109 [.agg (Cel.enc T), .int .i64 i] (.tuple [.agg (Cel.enc (nodeAt T i)), .bool (decide ((nodeAt T i).kind = 1 ∨ (nodeAt T i).kind = 2))]) := by
  refine Gives.is ?_
  refine Gives.of fn_tree_node rfl rfl (args' := [.agg (Cel.enc T), .int .i64 i]) (by simp only [mapO_nil, mapO_c2, consO_some, upf_v]) ?_
  simp only [ir_tree_node]
  simp -failIfUnchanged (disch := first | assumption | omega | (refine room_i _ _ ?_ ?_ <;> omega) | (refine @_root_.id _ ?_; with_unfolding_all exact Eq.refl _) | (simp only [List.length_take, List.length_drop, List.length_append, List.length_cons, List.length_nil, List.length_replicate, List.length_map] <;> omega) | fail) only [rnL, opL, ruL, hpL, rsL, natL, outL, Nat.add_sub_cancel_left, Nat.mul_one, List.length_cons, List.length_nil, Nat.zero_add, Nat.add_zero, Nat.reduceAdd, Nat.reduceMul, Nat.reduceSub, Nat.reduceEqDiff, Nat.reduceLT, Nat.reduceLeDiff, litd_t, litd_f, decide_true, decide_false, Bool.not_true, Bool.not_false, not_true_eq_false, not_false_eq_true, true_and, and_true, false_and, and_false, true_or, or_true, false_or, or_false, Int.toNat_natCast, cond_true, cond_false, List.map_cons, List.map_nil, Option.map_some, Option.map_none, datL]
  (first | refine RunB_i (fun h => ?_) (fun h => ?_) | refine RunG_i (fun h => ?_) (fun h => ?_) | refine RunB_ib (fun h => ?_) (fun h => ?_))
  · have hn : nodeAt T i = nd0 := by unfold nodeAt; rw [if_neg (by omega)]
    rw [hn]
    simp -failIfUnchanged (disch := first | assumption | omega | (refine room_i _ _ ?_ ?_ <;> omega) | (refine @_root_.id _ ?_; with_unfolding_all exact Eq.refl _) | (simp only [List.length_take, List.length_drop, List.length_append, List.length_cons, List.length_nil, List.length_replicate, List.length_map] <;> omega) | fail) only [rnL, opL, ruL, hpL, rsL, natL, outL, Nat.add_sub_cancel_left, Nat.mul_one, List.length_cons, List.length_nil, Nat.zero_add, Nat.add_zero, Nat.reduceAdd, Nat.reduceMul, Nat.reduceSub, Nat.reduceEqDiff, Nat.reduceLT, Nat.reduceLeDiff, litd_t, litd_f, decide_true, decide_false, Bool.not_true, Bool.not_false, not_true_eq_false, not_false_eq_true, true_and, and_true, false_and, and_false, true_or, or_true, false_or, or_false, Int.toNat_natCast, cond_true, cond_false, List.map_cons, List.map_nil, Option.map_some, Option.map_none, datL, opV_build0, splice5]
    (refine Fin_g (.inr rfl) (by simp -failIfUnchanged (disch := first | assumption | omega | (refine room_i _ _ ?_ ?_ <;> omega) | (refine @_root_.id _ ?_; with_unfolding_all exact Eq.refl _) | (simp only [List.length_take, List.length_drop, List.length_append, List.length_cons, List.length_nil, List.length_replicate, List.length_map] <;> omega) | fail) only [rnL, opL, ruL, hpL, rsL, natL, outL, Nat.add_sub_cancel_left, Nat.mul_one, List.length_cons, List.length_nil, Nat.zero_add, Nat.add_zero, Nat.reduceAdd, Nat.reduceMul, Nat.reduceSub, Nat.reduceEqDiff, Nat.reduceLT, Nat.reduceLeDiff, litd_t, litd_f, decide_true, decide_false, Bool.not_true, Bool.not_false, not_true_eq_false, not_false_eq_true, true_and, and_true, false_and, and_false, true_or, or_true, false_or, or_false, Int.toNat_natCast, cond_true, cond_false, List.map_cons, List.map_nil, Option.map_some, Option.map_none]; rfl) ?_; simp -failIfUnchanged (disch := first | assumption | omega | (refine room_i _ _ ?_ ?_ <;> omega) | (refine @_root_.id _ ?_; with_unfolding_all exact Eq.refl _) | (simp only [List.length_take, List.length_drop, List.length_append, List.length_cons, List.length_nil, List.length_replicate, List.length_map] <;> omega) | fail) only [rnL, opL, ruL, hpL, rsL, natL, outL, Nat.add_sub_cancel_left, Nat.mul_one, List.length_cons, List.length_nil, Nat.zero_add, Nat.add_zero, Nat.reduceAdd, Nat.reduceMul, Nat.reduceSub, Nat.reduceEqDiff, Nat.reduceLT, Nat.reduceLeDiff, litd_t, litd_f, decide_true, decide_false, Bool.not_true, Bool.not_false, not_true_eq_false, not_false_eq_true, true_and, and_true, false_and, and_false, true_or, or_true, false_or, or_false, Int.toNat_natCast, cond_true, cond_false, List.map_cons, List.map_nil, Option.map_some, Option.map_none])
    exact leave_f rfl
  · simp -failIfUnchanged (disch := first | assumption | omega | (refine room_i _ _ ?_ ?_ <;> omega) | (refine @_root_.id _ ?_; with_unfolding_all exact Eq.refl _) | (simp only [List.length_take, List.length_drop, List.length_append, List.length_cons, List.length_nil, List.length_replicate, List.length_map] <;> omega) | fail) only [rnL, opL, ruL, hpL, rsL, natL, outL, Nat.add_sub_cancel_left, Nat.mul_one, List.length_cons, List.length_nil, Nat.zero_add, Nat.add_zero, Nat.reduceAdd, Nat.reduceMul, Nat.reduceSub, Nat.reduceEqDiff, Nat.reduceLT, Nat.reduceLeDiff, litd_t, litd_f, decide_true, decide_false, Bool.not_true, Bool.not_false, not_true_eq_false, not_false_eq_true, true_and, and_true, false_and, and_false, true_or, or_true, false_or, or_false, Int.toNat_natCast, cond_true, cond_false, List.map_cons, List.map_nil, Option.map_some, Option.map_none, datL]
    (first | refine RunB_i (fun h2 => ?_) (fun h2 => ?_) | refine RunG_i (fun h2 => ?_) (fun h2 => ?_) | refine RunB_ib (fun h2 => ?_) (fun h2 => ?_))
    · have hn : nodeAt T i = nd0 := by unfold nodeAt; rw [if_pos (by omega), List.getElem?_eq_none (by omega)]; rfl
      rw [hn]
      simp -failIfUnchanged (disch := first | assumption | omega | (refine room_i _ _ ?_ ?_ <;> omega) | (refine @_root_.id _ ?_; with_unfolding_all exact Eq.refl _) | (simp only [List.length_take, List.length_drop, List.length_append, List.length_cons, List.length_nil, List.length_replicate, List.length_map] <;> omega) | fail) only [rnL, opL, ruL, hpL, rsL, natL, outL, Nat.add_sub_cancel_left, Nat.mul_one, List.length_cons, List.length_nil, Nat.zero_add, Nat.add_zero, Nat.reduceAdd, Nat.reduceMul, Nat.reduceSub, Nat.reduceEqDiff, Nat.reduceLT, Nat.reduceLeDiff, litd_t, litd_f, decide_true, decide_false, Bool.not_true, Bool.not_false, not_true_eq_false, not_false_eq_true, true_and, and_true, false_and, and_false, true_or, or_true, false_or, or_false, Int.toNat_natCast, cond_true, cond_false, List.map_cons, List.map_nil, Option.map_some, Option.map_none, datL, opV_build0, splice5]
      (refine Fin_g (.inr rfl) (by simp -failIfUnchanged (disch := first | assumption | omega | (refine room_i _ _ ?_ ?_ <;> omega) | (refine @_root_.id _ ?_; with_unfolding_all exact Eq.refl _) | (simp only [List.length_take, List.length_drop, List.length_append, List.length_cons, List.length_nil, List.length_replicate, List.length_map] <;> omega) | fail) only [rnL, opL, ruL, hpL, rsL, natL, outL, Nat.add_sub_cancel_left, Nat.mul_one, List.length_cons, List.length_nil, Nat.zero_add, Nat.add_zero, Nat.reduceAdd, Nat.reduceMul, Nat.reduceSub, Nat.reduceEqDiff, Nat.reduceLT, Nat.reduceLeDiff, litd_t, litd_f, decide_true, decide_false, Bool.not_true, Bool.not_false, not_true_eq_false, not_false_eq_true, true_and, and_true, false_and, and_false, true_or, or_true, false_or, or_false, Int.toNat_natCast, cond_true, cond_false, List.map_cons, List.map_nil, Option.map_some, Option.map_none]; rfl) ?_; simp -failIfUnchanged (disch := first | assumption | omega | (refine room_i _ _ ?_ ?_ <;> omega) | (refine @_root_.id _ ?_; with_unfolding_all exact Eq.refl _) | (simp only [List.length_take, List.length_drop, List.length_append, List.length_cons, List.length_nil, List.length_replicate, List.length_map] <;> omega) | fail) only [rnL, opL, ruL, hpL, rsL, natL, outL, Nat.add_sub_cancel_left, Nat.mul_one, List.length_cons, List.length_nil, Nat.zero_add, Nat.add_zero, Nat.reduceAdd, Nat.reduceMul, Nat.reduceSub, Nat.reduceEqDiff, Nat.reduceLT, Nat.reduceLeDiff, litd_t, litd_f, decide_true, decide_false, Bool.not_true, Bool.not_false, not_true_eq_false, not_false_eq_true, true_and, and_true, false_and, and_false, true_or, or_true, false_or, or_false, Int.toNat_natCast, cond_true, cond_false, List.map_cons, List.map_nil, Option.map_some, Option.map_none])
      exact leave_f rfl
    · have hlt : i.toNat < T.nodes.l.length := by omega
      have hn : nodeAt T i = T.nodes.l[i.toNat] := by unfold nodeAt; rw [if_pos (by omega), List.getElem?_eq_getElem hlt]; rfl
      rw [hn]
      simp -failIfUnchanged (disch := first | assumption | omega | (refine room_i _ _ ?_ ?_ <;> omega) | (refine @_root_.id _ ?_; with_unfolding_all exact Eq.refl _) | (simp only [List.length_take, List.length_drop, List.length_append, List.length_cons, List.length_nil, List.length_replicate, List.length_map] <;> omega) | fail) only [rnL, opL, ruL, hpL, rsL, natL, outL, Nat.add_sub_cancel_left, Nat.mul_one, List.length_cons, List.length_nil, Nat.zero_add, Nat.add_zero, Nat.reduceAdd, Nat.reduceMul, Nat.reduceSub, Nat.reduceEqDiff, Nat.reduceLT, Nat.reduceLeDiff, litd_t, litd_f, decide_true, decide_false, Bool.not_true, Bool.not_false, not_true_eq_false, not_false_eq_true, true_and, and_true, false_and, and_false, true_or, or_true, false_or, or_false, Int.toNat_natCast, cond_true, cond_false, List.map_cons, List.map_nil, Option.map_some, Option.map_none, datL, spliceAll]
      (first | refine RunB_i (fun h3 => ?_) (fun h3 => ?_) | refine RunG_i (fun h3 => ?_) (fun h3 => ?_) | refine RunB_ib (fun h3 => ?_) (fun h3 => ?_))
      · have h4 : T.nodes.l[i.toNat].kind = 2 := UInt8.toNat_inj.mp (by have := h3; simp only [UInt8.toNat_ofNat]; omega)
        simp -failIfUnchanged (disch := first | assumption | omega | (refine room_i _ _ ?_ ?_ <;> omega) | (refine @_root_.id _ ?_; with_unfolding_all exact Eq.refl _) | (simp only [List.length_take, List.length_drop, List.length_append, List.length_cons, List.length_nil, List.length_replicate, List.length_map] <;> omega) | fail) only [rnL, opL, ruL, hpL, rsL, natL, outL, Nat.add_sub_cancel_left, Nat.mul_one, List.length_cons, List.length_nil, Nat.zero_add, Nat.add_zero, Nat.reduceAdd, Nat.reduceMul, Nat.reduceSub, Nat.reduceEqDiff, Nat.reduceLT, Nat.reduceLeDiff, litd_t, litd_f, decide_true, decide_false, Bool.not_true, Bool.not_false, not_true_eq_false, not_false_eq_true, true_and, and_true, false_and, and_false, true_or, or_true, false_or, or_false, Int.toNat_natCast, cond_true, cond_false, List.map_cons, List.map_nil, Option.map_some, Option.map_none, datL]
        (refine Fin_g (.inr rfl) (by simp -failIfUnchanged (disch := first | assumption | omega | (refine room_i _ _ ?_ ?_ <;> omega) | (refine @_root_.id _ ?_; with_unfolding_all exact Eq.refl _) | (simp only [List.length_take, List.length_drop, List.length_append, List.length_cons, List.length_nil, List.length_replicate, List.length_map] <;> omega) | fail) only [rnL, opL, ruL, hpL, rsL, natL, outL, Nat.add_sub_cancel_left, Nat.mul_one, List.length_cons, List.length_nil, Nat.zero_add, Nat.add_zero, Nat.reduceAdd, Nat.reduceMul, Nat.reduceSub, Nat.reduceEqDiff, Nat.reduceLT, Nat.reduceLeDiff, litd_t, litd_f, decide_true, decide_false, Bool.not_true, Bool.not_false, not_true_eq_false, not_false_eq_true, true_and, and_true, false_and, and_false, true_or, or_true, false_or, or_false, Int.toNat_natCast, cond_true, cond_false, List.map_cons, List.map_nil, Option.map_some, Option.map_none]; rfl) ?_; simp -failIfUnchanged (disch := first | assumption | omega | (refine room_i _ _ ?_ ?_ <;> omega) | (refine @_root_.id _ ?_; with_unfolding_all exact Eq.refl _) | (simp only [List.length_take, List.length_drop, List.length_append, List.length_cons, List.length_nil, List.length_replicate, List.length_map] <;> omega) | fail) only [rnL, opL, ruL, hpL, rsL, natL, outL, Nat.add_sub_cancel_left, Nat.mul_one, List.length_cons, List.length_nil, Nat.zero_add, Nat.add_zero, Nat.reduceAdd, Nat.reduceMul, Nat.reduceSub, Nat.reduceEqDiff, Nat.reduceLT, Nat.reduceLeDiff, litd_t, litd_f, decide_true, decide_false, Bool.not_true, Bool.not_false, not_true_eq_false, not_false_eq_true, true_and, and_true, false_and, and_false, true_or, or_true, false_or, or_false, Int.toNat_natCast, cond_true, cond_false, List.map_cons, List.map_nil, Option.map_some, Option.map_none])
        simp [h4]
      · have h4 : ¬ T.nodes.l[i.toNat].kind = 2 := fun h => h3 (by rw [h]; rfl)
        have h5 : (T.nodes.l[i.toNat].kind = 1) ↔ ((T.nodes.l[i.toNat].kind.toNat : Int) = 1) := by
          constructor
          · intro h; rw [h]; rfl
          · intro h; exact UInt8.toNat_inj.mp (by simp only [UInt8.toNat_ofNat]; omega)
        simp -failIfUnchanged (disch := first | assumption | omega | (refine room_i _ _ ?_ ?_ <;> omega) | (refine @_root_.id _ ?_; with_unfolding_all exact Eq.refl _) | (simp only [List.length_take, List.length_drop, List.length_append, List.length_cons, List.length_nil, List.length_replicate, List.length_map] <;> omega) | fail) only [rnL, opL, ruL, hpL, rsL, natL, outL, Nat.add_sub_cancel_left, Nat.mul_one, List.length_cons, List.length_nil, Nat.zero_add, Nat.add_zero, Nat.reduceAdd, Nat.reduceMul, Nat.reduceSub, Nat.reduceEqDiff, Nat.reduceLT, Nat.reduceLeDiff, litd_t, litd_f, decide_true, decide_false, Bool.not_true, Bool.not_false, not_true_eq_false, not_false_eq_true, true_and, and_true, false_and, and_false, true_or, or_true, false_or, or_false, Int.toNat_natCast, cond_true, cond_false, List.map_cons, List.map_nil, Option.map_some, Option.map_none, datL]
        (refine Fin_g (.inr rfl) (by simp -failIfUnchanged (disch := first | assumption | omega | (refine room_i _ _ ?_ ?_ <;> omega) | (refine @_root_.id _ ?_; with_unfolding_all exact Eq.refl _) | (simp only [List.length_take, List.length_drop, List.length_append, List.length_cons, List.length_nil, List.length_replicate, List.length_map] <;> omega) | fail) only [rnL, opL, ruL, hpL, rsL, natL, outL, Nat.add_sub_cancel_left, Nat.mul_one, List.length_cons, List.length_nil, Nat.zero_add, Nat.add_zero, Nat.reduceAdd, Nat.reduceMul, Nat.reduceSub, Nat.reduceEqDiff, Nat.reduceLT, Nat.reduceLeDiff, litd_t, litd_f, decide_true, decide_false, Bool.not_true, Bool.not_false, not_true_eq_false, not_false_eq_true, true_and, and_true, false_and, and_false, true_or, or_true, false_or, or_false, Int.toNat_natCast, cond_true, cond_false, List.map_cons, List.map_nil, Option.map_some, Option.map_none]; rfl) ?_; simp -failIfUnchanged (disch := first | assumption | omega | (refine room_i _ _ ?_ ?_ <;> omega) | (refine @_root_.id _ ?_; with_unfolding_all exact Eq.refl _) | (simp only [List.length_take, List.length_drop, List.length_append, List.length_cons, List.length_nil, List.length_replicate, List.length_map] <;> omega) | fail) only [rnL, opL, ruL, hpL, rsL, natL, outL, Nat.add_sub_cancel_left, Nat.mul_one, List.length_cons, List.length_nil, Nat.zero_add, Nat.add_zero, Nat.reduceAdd, Nat.reduceMul, Nat.reduceSub, Nat.reduceEqDiff, Nat.reduceLT, Nat.reduceLeDiff, litd_t, litd_f, decide_true, decide_false, Bool.not_true, Bool.not_false, not_true_eq_false, not_false_eq_true, true_and, and_true, false_and, and_false, true_or, or_true, false_or, or_false, Int.toNat_natCast, cond_true, cond_false, List.map_cons, List.map_nil, Option.map_some, Option.map_none])

        simp only [h4, or_false, h5]
def spanAt (p : List Str) (r : Rng) (i : Nat) : Rng := ⟨if 0 < i then p.getD (i - 1) [] else r.lo, if i < p.length then p.getD i [] else r.hi⟩
theorem spliceRng0 (r : Rng) (x : Str) : splice (Cel.enc r) 0 [.str x] = Cel.enc (Rng.mk x r.hi) := rfl
theorem spliceRng1 (r : Rng) (x : Str) : splice (Cel.enc r) 1 [.str x] = Cel.enc (Rng.mk r.lo x) := rfl
theorem getD_at (p : List Str) (i : Nat) (h : i < p.length) : p.getD i [] = p[i] := by simp [List.getD, List.getElem?_eq_getElem h]
theorem span_is (nl : Bool) (p : List Str) (r : Rng) (i : Nat) (hi : i ≤ p.length) (hp : p.length ≤ 1000) : CallIs F 137 [sl nl p, .agg (Cel.enc r), .int .i64 i] (.agg (Cel.enc (spanAt p r i))) := by
  refine Gives.is ?_
  refine Gives.of fn_pivot_span rfl rfl (args' := [sl nl p, .agg (Cel.enc r), .int .i64 i]) (by simp only [mapO_nil, mapO_c2, consO_some, upf_v]) ?_
  simp only [ir_pivot_span]
  simp -failIfUnchanged (disch := first | assumption | omega | (refine room_i _ _ ?_ ?_ <;> omega) | (refine @_root_.id _ ?_; with_unfolding_all exact Eq.refl _) | (simp only [List.length_take, List.length_drop, List.length_append, List.length_cons, List.length_nil, List.length_replicate, List.length_map] <;> omega) | fail) only [rnL, opL, ruL, hpL, rsL, natL, outL, Nat.add_sub_cancel_left, Nat.mul_one, List.length_cons, List.length_nil, Nat.zero_add, Nat.add_zero, Nat.reduceAdd, Nat.reduceMul, Nat.reduceSub, Nat.reduceEqDiff, Nat.reduceLT, Nat.reduceLeDiff, litd_t, litd_f, decide_true, decide_false, Bool.not_true, Bool.not_false, not_true_eq_false, not_false_eq_true, true_and, and_true, false_and, and_false, true_or, or_true, false_or, or_false, Int.toNat_natCast, cond_true, cond_false, List.map_cons, List.map_nil, Option.map_some, Option.map_none, datL]
  (first | refine RunB_i (fun h => ?_) (fun h => ?_) | refine RunG_i (fun h => ?_) (fun h => ?_) | refine RunB_ib (fun h => ?_) (fun h => ?_))
  · have h3 : ((i : Int) - 1).toNat < p.length := by omega
    have h4 : IntKind.i64.wrap ((i : Int) - 1) = (i : Int) - 1 := wrap_i64 (by omega) (by omega)
    have e1 : ((i : Int) - 1).toNat = i - 1 := by omega
    have e2 : p[((i : Int) - 1).toNat] = p.getD (i - 1) [] := by simp only [e1]; exact (getD_at _ _ (by omega)).symm
    have e0 : 0 < i := by omega
    simp -failIfUnchanged (disch := first | assumption | omega | (refine room_i _ _ ?_ ?_ <;> omega) | (refine @_root_.id _ ?_; with_unfolding_all exact Eq.refl _) | (simp only [List.length_take, List.length_drop, List.length_append, List.length_cons, List.length_nil, List.length_replicate, List.length_map] <;> omega) | fail) only [rnL, opL, ruL, hpL, rsL, natL, outL, Nat.add_sub_cancel_left, Nat.mul_one, List.length_cons, List.length_nil, Nat.zero_add, Nat.add_zero, Nat.reduceAdd, Nat.reduceMul, Nat.reduceSub, Nat.reduceEqDiff, Nat.reduceLT, Nat.reduceLeDiff, litd_t, litd_f, decide_true, decide_false, Bool.not_true, Bool.not_false, not_true_eq_false, not_false_eq_true, true_and, and_true, false_and, and_false, true_or, or_true, false_or, or_false, Int.toNat_natCast, cond_true, cond_false, List.map_cons, List.map_nil, Option.map_some, Option.map_none, datL, h4, spliceRng0]
    (first | refine RunB_i (fun h2 => ?_) (fun h2 => ?_) | refine RunG_i (fun h2 => ?_) (fun h2 => ?_) | refine RunB_ib (fun h2 => ?_) (fun h2 => ?_))
    · have h5 : i < p.length := by omega
      have e3 : p[i] = p.getD i [] := by exact (getD_at _ _ h5).symm
      simp -failIfUnchanged (disch := first | assumption | omega | (refine room_i _ _ ?_ ?_ <;> omega) | (refine @_root_.id _ ?_; with_unfolding_all exact Eq.refl _) | (simp only [List.length_take, List.length_drop, List.length_append, List.length_cons, List.length_nil, List.length_replicate, List.length_map] <;> omega) | fail) only [rnL, opL, ruL, hpL, rsL, natL, outL, Nat.add_sub_cancel_left, Nat.mul_one, List.length_cons, List.length_nil, Nat.zero_add, Nat.add_zero, Nat.reduceAdd, Nat.reduceMul, Nat.reduceSub, Nat.reduceEqDiff, Nat.reduceLT, Nat.reduceLeDiff, litd_t, litd_f, decide_true, decide_false, Bool.not_true, Bool.not_false, not_true_eq_false, not_false_eq_true, true_and, and_true, false_and, and_false, true_or, or_true, false_or, or_false, Int.toNat_natCast, cond_true, cond_false, List.map_cons, List.map_nil, Option.map_some, Option.map_none, datL, h4, spliceRng0, spliceRng1]
      (refine Fin_g (.inr rfl) (by simp -failIfUnchanged (disch := first | assumption | omega | (refine room_i _ _ ?_ ?_ <;> omega) | (refine @_root_.id _ ?_; with_unfolding_all exact Eq.refl _) | (simp only [List.length_take, List.length_drop, List.length_append, List.length_cons, List.length_nil, List.length_replicate, List.length_map] <;> omega) | fail) only [rnL, opL, ruL, hpL, rsL, natL, outL, Nat.add_sub_cancel_left, Nat.mul_one, List.length_cons, List.length_nil, Nat.zero_add, Nat.add_zero, Nat.reduceAdd, Nat.reduceMul, Nat.reduceSub, Nat.reduceEqDiff, Nat.reduceLT, Nat.reduceLeDiff, litd_t, litd_f, decide_true, decide_false, Bool.not_true, Bool.not_false, not_true_eq_false, not_false_eq_true, true_and, and_true, false_and, and_false, true_or, or_true, false_or, or_false, Int.toNat_natCast, cond_true, cond_false, List.map_cons, List.map_nil, Option.map_some, Option.map_none]; rfl) ?_; simp -failIfUnchanged (disch := first | assumption | omega | (refine room_i _ _ ?_ ?_ <;> omega) | (refine @_root_.id _ ?_; with_unfolding_all exact Eq.refl _) | (simp only [List.length_take, List.length_drop, List.length_append, List.length_cons, List.length_nil, List.length_replicate, List.length_map] <;> omega) | fail) only [rnL, opL, ruL, hpL, rsL, natL, outL, Nat.add_sub_cancel_left, Nat.mul_one, List.length_cons, List.length_nil, Nat.zero_add, Nat.add_zero, Nat.reduceAdd, Nat.reduceMul, Nat.reduceSub, Nat.reduceEqDiff, Nat.reduceLT, Nat.reduceLeDiff, litd_t, litd_f, decide_true, decide_false, Bool.not_true, Bool.not_false, not_true_eq_false, not_false_eq_true, true_and, and_true, false_and, and_false, true_or, or_true, false_or, or_false, Int.toNat_natCast, cond_true, cond_false, List.map_cons, List.map_nil, Option.map_some, Option.map_none])
      simp only [spanAt, if_pos h5, if_pos e0, e2, e3]
    · have h5 : ¬ i < p.length := by omega
      simp -failIfUnchanged (disch := first | assumption | omega | (refine room_i _ _ ?_ ?_ <;> omega) | (refine @_root_.id _ ?_; with_unfolding_all exact Eq.refl _) | (simp only [List.length_take, List.length_drop, List.length_append, List.length_cons, List.length_nil, List.length_replicate, List.length_map] <;> omega) | fail) only [rnL, opL, ruL, hpL, rsL, natL, outL, Nat.add_sub_cancel_left, Nat.mul_one, List.length_cons, List.length_nil, Nat.zero_add, Nat.add_zero, Nat.reduceAdd, Nat.reduceMul, Nat.reduceSub, Nat.reduceEqDiff, Nat.reduceLT, Nat.reduceLeDiff, litd_t, litd_f, decide_true, decide_false, Bool.not_true, Bool.not_false, not_true_eq_false, not_false_eq_true, true_and, and_true, false_and, and_false, true_or, or_true, false_or, or_false, Int.toNat_natCast, cond_true, cond_false, List.map_cons, List.map_nil, Option.map_some, Option.map_none, datL, h4, spliceRng0, spliceRng1]
      (refine Fin_g (.inr rfl) (by simp -failIfUnchanged (disch := first | assumption | omega | (refine room_i _ _ ?_ ?_ <;> omega) | (refine @_root_.id _ ?_; with_unfolding_all exact Eq.refl _) | (simp only [List.length_take, List.length_drop, List.length_append, List.length_cons, List.length_nil, List.length_replicate, List.length_map] <;> omega) | fail) only [rnL, opL, ruL, hpL, rsL, natL, outL, Nat.add_sub_cancel_left, Nat.mul_one, List.length_cons, List.length_nil, Nat.zero_add, Nat.add_zero, Nat.reduceAdd, Nat.reduceMul, Nat.reduceSub, Nat.reduceEqDiff, Nat.reduceLT, Nat.reduceLeDiff, litd_t, litd_f, decide_true, decide_false, Bool.not_true, Bool.not_false, not_true_eq_false, not_false_eq_true, true_and, and_true, false_and, and_false, true_or, or_true, false_or, or_false, Int.toNat_natCast, cond_true, cond_false, List.map_cons, List.map_nil, Option.map_some, Option.map_none]; rfl) ?_; simp -failIfUnchanged (disch := first | assumption | omega | (refine room_i _ _ ?_ ?_ <;> omega) | (refine @_root_.id _ ?_; with_unfolding_all exact Eq.refl _) | (simp only [List.length_take, List.length_drop, List.length_append, List.length_cons, List.length_nil, List.length_replicate, List.length_map] <;> omega) | fail) only [rnL, opL, ruL, hpL, rsL, natL, outL, Nat.add_sub_cancel_left, Nat.mul_one, List.length_cons, List.length_nil, Nat.zero_add, Nat.add_zero, Nat.reduceAdd, Nat.reduceMul, Nat.reduceSub, Nat.reduceEqDiff, Nat.reduceLT, Nat.reduceLeDiff, litd_t, litd_f, decide_true, decide_false, Bool.not_true, Bool.not_false, not_true_eq_false, not_false_eq_true, true_and, and_true, false_and, and_false, true_or, or_true, false_or, or_false, Int.toNat_natCast, cond_true, cond_false, List.map_cons, List.map_nil, Option.map_some, Option.map_none])
      simp only [spanAt, if_neg h5, if_pos e0, e2]
  · simp -failIfUnchanged (disch := first | assumption | omega | (refine room_i _ _ ?_ ?_ <;> omega) | (refine @_root_.id _ ?_; with_unfolding_all exact Eq.refl _) | (simp only [List.length_take, List.length_drop, List.length_append, List.length_cons, List.length_nil, List.length_replicate, List.length_map] <;> omega) | fail) only [rnL, opL, ruL, hpL, rsL, natL, outL, Nat.add_sub_cancel_left, Nat.mul_one, List.length_cons, List.length_nil, Nat.zero_add, Nat.add_zero, Nat.reduceAdd, Nat.reduceMul, Nat.reduceSub, Nat.reduceEqDiff, Nat.reduceLT, Nat.reduceLeDiff, litd_t, litd_f, decide_true, decide_false, Bool.not_true, Bool.not_false, not_true_eq_false, not_false_eq_true, true_and, and_true, false_and, and_false, true_or, or_true, false_or, or_false, Int.toNat_natCast, cond_true, cond_false, List.map_cons, List.map_nil, Option.map_some, Option.map_none, datL, spliceRng0]
    have e0 : ¬ 0 < i := by omega
    (first | refine RunB_i (fun h2 => ?_) (fun h2 => ?_) | refine RunG_i (fun h2 => ?_) (fun h2 => ?_) | refine RunB_ib (fun h2 => ?_) (fun h2 => ?_))
    · have h5 : i < p.length := by omega
      have e3 : p[i] = p.getD i [] := by exact (getD_at _ _ h5).symm
      simp -failIfUnchanged (disch := first | assumption | omega | (refine room_i _ _ ?_ ?_ <;> omega) | (refine @_root_.id _ ?_; with_unfolding_all exact Eq.refl _) | (simp only [List.length_take, List.length_drop, List.length_append, List.length_cons, List.length_nil, List.length_replicate, List.length_map] <;> omega) | fail) only [rnL, opL, ruL, hpL, rsL, natL, outL, Nat.add_sub_cancel_left, Nat.mul_one, List.length_cons, List.length_nil, Nat.zero_add, Nat.add_zero, Nat.reduceAdd, Nat.reduceMul, Nat.reduceSub, Nat.reduceEqDiff, Nat.reduceLT, Nat.reduceLeDiff, litd_t, litd_f, decide_true, decide_false, Bool.not_true, Bool.not_false, not_true_eq_false, not_false_eq_true, true_and, and_true, false_and, and_false, true_or, or_true, false_or, or_false, Int.toNat_natCast, cond_true, cond_false, List.map_cons, List.map_nil, Option.map_some, Option.map_none, datL, spliceRng0, spliceRng1]
      (refine Fin_g (.inr rfl) (by simp -failIfUnchanged (disch := first | assumption | omega | (refine room_i _ _ ?_ ?_ <;> omega) | (refine @_root_.id _ ?_; with_unfolding_all exact Eq.refl _) | (simp only [List.length_take, List.length_drop, List.length_append, List.length_cons, List.length_nil, List.length_replicate, List.length_map] <;> omega) | fail) only [rnL, opL, ruL, hpL, rsL, natL, outL, Nat.add_sub_cancel_left, Nat.mul_one, List.length_cons, List.length_nil, Nat.zero_add, Nat.add_zero, Nat.reduceAdd, Nat.reduceMul, Nat.reduceSub, Nat.reduceEqDiff, Nat.reduceLT, Nat.reduceLeDiff, litd_t, litd_f, decide_true, decide_false, Bool.not_true, Bool.not_false, not_true_eq_false, not_false_eq_true, true_and, and_true, false_and, and_false, true_or, or_true, false_or, or_false, Int.toNat_natCast, cond_true, cond_false, List.map_cons, List.map_nil, Option.map_some, Option.map_none]; rfl) ?_; simp -failIfUnchanged (disch := first | assumption | omega | (refine room_i _ _ ?_ ?_ <;> omega) | (refine @_root_.id _ ?_; with_unfolding_all exact Eq.refl _) | (simp only [List.length_take, List.length_drop, List.length_append, List.length_cons, List.length_nil, List.length_replicate, List.length_map] <;> omega) | fail) only [rnL, opL, ruL, hpL, rsL, natL, outL, Nat.add_sub_cancel_left, Nat.mul_one, List.length_cons, List.length_nil, Nat.zero_add, Nat.add_zero, Nat.reduceAdd, Nat.reduceMul, Nat.reduceSub, Nat.reduceEqDiff, Nat.reduceLT, Nat.reduceLeDiff, litd_t, litd_f, decide_true, decide_false, Bool.not_true, Bool.not_false, not_true_eq_false, not_false_eq_true, true_and, and_true, false_and, and_false, true_or, or_true, false_or, or_false, Int.toNat_natCast, cond_true, cond_false, List.map_cons, List.map_nil, Option.map_some, Option.map_none])
      simp only [spanAt, if_pos h5, if_neg e0, e3]
    · have h5 : ¬ i < p.length := by omega
      simp -failIfUnchanged (disch := first | assumption | omega | (refine room_i _ _ ?_ ?_ <;> omega) | (refine @_root_.id _ ?_; with_unfolding_all exact Eq.refl _) | (simp only [List.length_take, List.length_drop, List.length_append, List.length_cons, List.length_nil, List.length_replicate, List.length_map] <;> omega) | fail) only [rnL, opL, ruL, hpL, rsL, natL, outL, Nat.add_sub_cancel_left, Nat.mul_one, List.length_cons, List.length_nil, Nat.zero_add, Nat.add_zero, Nat.reduceAdd, Nat.reduceMul, Nat.reduceSub, Nat.reduceEqDiff, Nat.reduceLT, Nat.reduceLeDiff, litd_t, litd_f, decide_true, decide_false, Bool.not_true, Bool.not_false, not_true_eq_false, not_false_eq_true, true_and, and_true, false_and, and_false, true_or, or_true, false_or, or_false, Int.toNat_natCast, cond_true, cond_false, List.map_cons, List.map_nil, Option.map_some, Option.map_none, datL, spliceRng0, spliceRng1]
      (refine Fin_g (.inr rfl) (by simp -failIfUnchanged (disch := first | assumption | omega | (refine room_i _ _ ?_ ?_ <;> omega) | (refine @_root_.id _ ?_; with_unfolding_all exact Eq.refl _) | (simp only [List.length_take, List.length_drop, List.length_append, List.length_cons, List.length_nil, List.length_replicate, List.length_map] <;> omega) | fail) only [rnL, opL, ruL, hpL, rsL, natL, outL, Nat.add_sub_cancel_left, Nat.mul_one, List.length_cons, List.length_nil, Nat.zero_add, Nat.add_zero, Nat.reduceAdd, Nat.reduceMul, Nat.reduceSub, Nat.reduceEqDiff, Nat.reduceLT, Nat.reduceLeDiff, litd_t, litd_f, decide_true, decide_false, Bool.not_true, Bool.not_false, not_true_eq_false, not_false_eq_true, true_and, and_true, false_and, and_false, true_or, or_true, false_or, or_false, Int.toNat_natCast, cond_true, cond_false, List.map_cons, List.map_nil, Option.map_some, Option.map_none]; rfl) ?_; simp -failIfUnchanged (disch := first | assumption | omega | (refine room_i _ _ ?_ ?_ <;> omega) | (refine @_root_.id _ ?_; with_unfolding_all exact Eq.refl _) | (simp only [List.length_take, List.length_drop, List.length_append, List.length_cons, List.length_nil, List.length_replicate, List.length_map] <;> omega) | fail) only [rnL, opL, ruL, hpL, rsL, natL, outL, Nat.add_sub_cancel_left, Nat.mul_one, List.length_cons, List.length_nil, Nat.zero_add, Nat.add_zero, Nat.reduceAdd, Nat.reduceMul, Nat.reduceSub, Nat.reduceEqDiff, Nat.reduceLT, Nat.reduceLeDiff, litd_t, litd_f, decide_true, decide_false, Bool.not_true, Bool.not_false, not_true_eq_false, not_false_eq_true, true_and, and_true, false_and, and_false, true_or, or_true, false_or, or_false, Int.toNat_natCast, cond_true, cond_false, List.map_cons, List.map_nil, Option.map_some, Option.map_none])
      simp only [spanAt, if_neg h5, if_neg e0]
end Go.AS.Th

namespace Go.AS.Th
open Go Go.AS Go.Proofs
set_option maxHeartbeats 1000000

def rises (l : List Str) : Prop := ∀ i, i < l.length → 0 < i → slt (l.getD (i - 1) []) (l.getD i [])
instance (l : List Str) : Decidable (rises l) := by unfold rises; infer_instance
theorem rises_is (nl : Bool) (l : List Str) (hl : l.length ≤ 1000) : CallIs F 106 [sl nl l] (.bool (decide (rises l))) := by
  refine Gives.is ?_
  refine Gives.of fn_pivot_rises rfl rfl (args' := [sl nl l]) (by simp only [mapO_nil, mapO_c2, consO_some, upf_v]) ?_
  simp only [ir_pivot_rises]
  simp -failIfUnchanged (disch := first | assumption | omega | (refine room_i _ _ ?_ ?_ <;> omega) | (refine @_root_.id _ ?_; with_unfolding_all exact Eq.refl _) | (simp only [List.length_take, List.length_drop, List.length_append, List.length_cons, List.length_nil, List.length_replicate, List.length_map] <;> omega) | fail) only [rnL, opL, ruL, hpL, rsL, natL, outL, Nat.add_sub_cancel_left, Nat.mul_one, List.length_cons, List.length_nil, Nat.zero_add, Nat.add_zero, Nat.reduceAdd, Nat.reduceMul, Nat.reduceSub, Nat.reduceEqDiff, Nat.reduceLT, Nat.reduceLeDiff, litd_t, litd_f, decide_true, decide_false, Bool.not_true, Bool.not_false, not_true_eq_false, not_false_eq_true, true_and, and_true, false_and, and_false, true_or, or_true, false_or, or_false, Int.toNat_natCast, cond_true, cond_false, List.map_cons, List.map_nil, Option.map_some, Option.map_none]
  refine Run_upto l.length (fun i => [(0, sl nl l), (2, .bool false), (5, AV.int IntKind.i64 l.length), (6, AV.int IntKind.i64 i)]) (fun _ => [[]]) (fun i => ∀ j, j < i → 0 < j → slt (l.getD (j - 1) []) (l.getD j [])) rfl rfl (fun j hj => absurd hj (Nat.not_lt_zero j)) ?_
  intro i hi hP
  simp -failIfUnchanged (disch := first | assumption | omega | (refine room_i _ _ ?_ ?_ <;> omega) | (refine @_root_.id _ ?_; with_unfolding_all exact Eq.refl _) | (simp only [List.length_take, List.length_drop, List.length_append, List.length_cons, List.length_nil, List.length_replicate, List.length_map] <;> omega) | fail) only [rnL, opL, ruL, hpL, rsL, natL, outL, Nat.add_sub_cancel_left, Nat.mul_one, List.length_cons, List.length_nil, Nat.zero_add, Nat.add_zero, Nat.reduceAdd, Nat.reduceMul, Nat.reduceSub, Nat.reduceEqDiff, Nat.reduceLT, Nat.reduceLeDiff, litd_t, litd_f, decide_true, decide_false, Bool.not_true, Bool.not_false, not_true_eq_false, not_false_eq_true, true_and, and_true, false_and, and_false, true_or, or_true, false_or, or_false, Int.toNat_natCast, cond_true, cond_false, List.map_cons, List.map_nil, Option.map_some, Option.map_none]
  (first | refine RunB_i (fun h => ?_) (fun h => ?_) | refine RunG_i (fun h => ?_) (fun h => ?_) | refine RunB_ib (fun h => ?_) (fun h => ?_))
  · have hlt : i < l.length := by omega
    simp -failIfUnchanged (disch := first | assumption | omega | (refine room_i _ _ ?_ ?_ <;> omega) | (refine @_root_.id _ ?_; with_unfolding_all exact Eq.refl _) | (simp only [List.length_take, List.length_drop, List.length_append, List.length_cons, List.length_nil, List.length_replicate, List.length_map] <;> omega) | fail) only [rnL, opL, ruL, hpL, rsL, natL, outL, Nat.add_sub_cancel_left, Nat.mul_one, List.length_cons, List.length_nil, Nat.zero_add, Nat.add_zero, Nat.reduceAdd, Nat.reduceMul, Nat.reduceSub, Nat.reduceEqDiff, Nat.reduceLT, Nat.reduceLeDiff, litd_t, litd_f, decide_true, decide_false, Bool.not_true, Bool.not_false, not_true_eq_false, not_false_eq_true, true_and, and_true, false_and, and_false, true_or, or_true, false_or, or_false, Int.toNat_natCast, cond_true, cond_false, List.map_cons, List.map_nil, Option.map_some, Option.map_none]
    (first | refine RunB_i (fun h2 => ?_) (fun h2 => ?_) | refine RunG_i (fun h2 => ?_) (fun h2 => ?_) | refine RunB_ib (fun h2 => ?_) (fun h2 => ?_))
    · have h4 : IntKind.i64.wrap ((i : Int) - 1) = (i : Int) - 1 := wrap_i64 (by omega) (by omega)
      have h3 : ((i : Int) - 1).toNat < l.length := by omega
      have e2 : l[((i : Int) - 1).toNat] = l.getD (i - 1) [] := by
        have e1 : ((i : Int) - 1).toNat = i - 1 := by omega
        simp only [e1]; exact (getD_at _ _ (by omega)).symm
      have e3 : l[i] = l.getD i [] := (getD_at _ _ hlt).symm
      simp -failIfUnchanged (disch := first | assumption | omega | (refine room_i _ _ ?_ ?_ <;> omega) | (refine @_root_.id _ ?_; with_unfolding_all exact Eq.refl _) | (simp only [List.length_take, List.length_drop, List.length_append, List.length_cons, List.length_nil, List.length_replicate, List.length_map] <;> omega) | fail) only [rnL, opL, ruL, hpL, rsL, natL, outL, Nat.add_sub_cancel_left, Nat.mul_one, List.length_cons, List.length_nil, Nat.zero_add, Nat.add_zero, Nat.reduceAdd, Nat.reduceMul, Nat.reduceSub, Nat.reduceEqDiff, Nat.reduceLT, Nat.reduceLeDiff, litd_t, litd_f, decide_true, decide_false, Bool.not_true, Bool.not_false, not_true_eq_false, not_false_eq_true, true_and, and_true, false_and, and_false, true_or, or_true, false_or, or_false, Int.toNat_natCast, cond_true, cond_false, List.map_cons, List.map_nil, Option.map_some, Option.map_none, h4, e2, e3]
      (first | refine RunB_i (fun h5 => ?_) (fun h5 => ?_) | refine RunG_i (fun h5 => ?_) (fun h5 => ?_) | refine RunB_ib (fun h5 => ?_) (fun h5 => ?_))
      · simp -failIfUnchanged (disch := first | assumption | omega | (refine room_i _ _ ?_ ?_ <;> omega) | (refine @_root_.id _ ?_; with_unfolding_all exact Eq.refl _) | (simp only [List.length_take, List.length_drop, List.length_append, List.length_cons, List.length_nil, List.length_replicate, List.length_map] <;> omega) | fail) only [rnL, opL, ruL, hpL, rsL, natL, outL, Nat.add_sub_cancel_left, Nat.mul_one, List.length_cons, List.length_nil, Nat.zero_add, Nat.add_zero, Nat.reduceAdd, Nat.reduceMul, Nat.reduceSub, Nat.reduceEqDiff, Nat.reduceLT, Nat.reduceLeDiff, litd_t, litd_f, decide_true, decide_false, Bool.not_true, Bool.not_false, not_true_eq_false, not_false_eq_true, true_and, and_true, false_and, and_false, true_or, or_true, false_or, or_false, Int.toNat_natCast, cond_true, cond_false, List.map_cons, List.map_nil, Option.map_some, Option.map_none]
        (refine Fin_g (.inr rfl) (by simp -failIfUnchanged (disch := first | assumption | omega | (refine room_i _ _ ?_ ?_ <;> omega) | (refine @_root_.id _ ?_; with_unfolding_all exact Eq.refl _) | (simp only [List.length_take, List.length_drop, List.length_append, List.length_cons, List.length_nil, List.length_replicate, List.length_map] <;> omega) | fail) only [rnL, opL, ruL, hpL, rsL, natL, outL, Nat.add_sub_cancel_left, Nat.mul_one, List.length_cons, List.length_nil, Nat.zero_add, Nat.add_zero, Nat.reduceAdd, Nat.reduceMul, Nat.reduceSub, Nat.reduceEqDiff, Nat.reduceLT, Nat.reduceLeDiff, litd_t, litd_f, decide_true, decide_false, Bool.not_true, Bool.not_false, not_true_eq_false, not_false_eq_true, true_and, and_true, false_and, and_false, true_or, or_true, false_or, or_false, Int.toNat_natCast, cond_true, cond_false, List.map_cons, List.map_nil, Option.map_some, Option.map_none]; rfl) ?_; simp -failIfUnchanged (disch := first | assumption | omega | (refine room_i _ _ ?_ ?_ <;> omega) | (refine @_root_.id _ ?_; with_unfolding_all exact Eq.refl _) | (simp only [List.length_take, List.length_drop, List.length_append, List.length_cons, List.length_nil, List.length_replicate, List.length_map] <;> omega) | fail) only [rnL, opL, ruL, hpL, rsL, natL, outL, Nat.add_sub_cancel_left, Nat.mul_one, List.length_cons, List.length_nil, Nat.zero_add, Nat.add_zero, Nat.reduceAdd, Nat.reduceMul, Nat.reduceSub, Nat.reduceEqDiff, Nat.reduceLT, Nat.reduceLeDiff, litd_t, litd_f, decide_true, decide_false, Bool.not_true, Bool.not_false, not_true_eq_false, not_false_eq_true, true_and, and_true, false_and, and_false, true_or, or_true, false_or, or_false, Int.toNat_natCast, cond_true, cond_false, List.map_cons, List.map_nil, Option.map_some, Option.map_none])
        rw [decide_eq_false]
        exact fun hr => h5 (hr i hlt (by omega))
      · simp -failIfUnchanged (disch := first | assumption | omega | (refine room_i _ _ ?_ ?_ <;> omega) | (refine @_root_.id _ ?_; with_unfolding_all exact Eq.refl _) | (simp only [List.length_take, List.length_drop, List.length_append, List.length_cons, List.length_nil, List.length_replicate, List.length_map] <;> omega) | fail) only [rnL, opL, ruL, hpL, rsL, natL, outL, Nat.add_sub_cancel_left, Nat.mul_one, List.length_cons, List.length_nil, Nat.zero_add, Nat.add_zero, Nat.reduceAdd, Nat.reduceMul, Nat.reduceSub, Nat.reduceEqDiff, Nat.reduceLT, Nat.reduceLeDiff, litd_t, litd_f, decide_true, decide_false, Bool.not_true, Bool.not_false, not_true_eq_false, not_false_eq_true, true_and, and_true, false_and, and_false, true_or, or_true, false_or, or_false, Int.toNat_natCast, cond_true, cond_false, List.map_cons, List.map_nil, Option.map_some, Option.map_none]
        exact .i hlt (by first | exact trivial | rfl) (by first | exact trivial | rfl) (fun j hj h0 => by
          rcases Nat.lt_succ_iff_lt_or_eq.mp hj with h6 | rfl
          · exact hP j h6 h0
          · exact Decidable.not_not.mp h5)
    · simp -failIfUnchanged (disch := first | assumption | omega | (refine room_i _ _ ?_ ?_ <;> omega) | (refine @_root_.id _ ?_; with_unfolding_all exact Eq.refl _) | (simp only [List.length_take, List.length_drop, List.length_append, List.length_cons, List.length_nil, List.length_replicate, List.length_map] <;> omega) | fail) only [rnL, opL, ruL, hpL, rsL, natL, outL, Nat.add_sub_cancel_left, Nat.mul_one, List.length_cons, List.length_nil, Nat.zero_add, Nat.add_zero, Nat.reduceAdd, Nat.reduceMul, Nat.reduceSub, Nat.reduceEqDiff, Nat.reduceLT, Nat.reduceLeDiff, litd_t, litd_f, decide_true, decide_false, Bool.not_true, Bool.not_false, not_true_eq_false, not_false_eq_true, true_and, and_true, false_and, and_false, true_or, or_true, false_or, or_false, Int.toNat_natCast, cond_true, cond_false, List.map_cons, List.map_nil, Option.map_some, Option.map_none]
      exact .i hlt (by first | exact trivial | rfl) (by first | exact trivial | rfl) (fun j hj h0 => hP j (by omega) h0)
  · have : i = l.length := by omega
    subst this
    simp -failIfUnchanged (disch := first | assumption | omega | (refine room_i _ _ ?_ ?_ <;> omega) | (refine @_root_.id _ ?_; with_unfolding_all exact Eq.refl _) | (simp only [List.length_take, List.length_drop, List.length_append, List.length_cons, List.length_nil, List.length_replicate, List.length_map] <;> omega) | fail) only [rnL, opL, ruL, hpL, rsL, natL, outL, Nat.add_sub_cancel_left, Nat.mul_one, List.length_cons, List.length_nil, Nat.zero_add, Nat.add_zero, Nat.reduceAdd, Nat.reduceMul, Nat.reduceSub, Nat.reduceEqDiff, Nat.reduceLT, Nat.reduceLeDiff, litd_t, litd_f, decide_true, decide_false, Bool.not_true, Bool.not_false, not_true_eq_false, not_false_eq_true, true_and, and_true, false_and, and_false, true_or, or_true, false_or, or_false, Int.toNat_natCast, cond_true, cond_false, List.map_cons, List.map_nil, Option.map_some, Option.map_none]
    (refine Fin_g (.inr rfl) (by simp -failIfUnchanged (disch := first | assumption | omega | (refine room_i _ _ ?_ ?_ <;> omega) | (refine @_root_.id _ ?_; with_unfolding_all exact Eq.refl _) | (simp only [List.length_take, List.length_drop, List.length_append, List.length_cons, List.length_nil, List.length_replicate, List.length_map] <;> omega) | fail) only [rnL, opL, ruL, hpL, rsL, natL, outL, Nat.add_sub_cancel_left, Nat.mul_one, List.length_cons, List.length_nil, Nat.zero_add, Nat.add_zero, Nat.reduceAdd, Nat.reduceMul, Nat.reduceSub, Nat.reduceEqDiff, Nat.reduceLT, Nat.reduceLeDiff, litd_t, litd_f, decide_true, decide_false, Bool.not_true, Bool.not_false, not_true_eq_false, not_false_eq_true, true_and, and_true, false_and, and_false, true_or, or_true, false_or, or_false, Int.toNat_natCast, cond_true, cond_false, List.map_cons, List.map_nil, Option.map_some, Option.map_none]; rfl) ?_; simp -failIfUnchanged (disch := first | assumption | omega | (refine room_i _ _ ?_ ?_ <;> omega) | (refine @_root_.id _ ?_; with_unfolding_all exact Eq.refl _) | (simp only [List.length_take, List.length_drop, List.length_append, List.length_cons, List.length_nil, List.length_replicate, List.length_map] <;> omega) | fail) only [rnL, opL, ruL, hpL, rsL, natL, outL, Nat.add_sub_cancel_left, Nat.mul_one, List.length_cons, List.length_nil, Nat.zero_add, Nat.add_zero, Nat.reduceAdd, Nat.reduceMul, Nat.reduceSub, Nat.reduceEqDiff, Nat.reduceLT, Nat.reduceLeDiff, litd_t, litd_f, decide_true, decide_false, Bool.not_true, Bool.not_false, not_true_eq_false, not_false_eq_true, true_and, and_true, false_and, and_false, true_or, or_true, false_or, or_false, Int.toNat_natCast, cond_true, cond_false, List.map_cons, List.map_nil, Option.map_some, Option.map_none])
    rw [decide_eq_true]
    exact hP
def rightP (p : List Str) (r : Rng) : Prop := okR r ∧ rises p ∧ (p.length = 0 ∨ (¬ (slt (p.getD 0 []) r.lo ∨ p.getD 0 [] = r.lo) ∧ (r.hi = [] ∨ slt (p.getD (p.length - 1) []) r.hi)))
instance (p : List Str) (r : Rng) : Decidable (rightP p r) := by unfold rightP; infer_instance
theorem right_is (nl : Bool) (p : List Str) (r : Rng) (hp : p.length ≤ 1000) : CallIs F 110 [sl nl p, .agg (Cel.enc r)] (.bool (decide (rightP p r))) := by
  refine Gives.is ?_
  refine Gives.of fn_pivot_Right rfl rfl (args' := [sl nl p, .agg (Cel.enc r)]) (by simp only [mapO_nil, mapO_c2, consO_some, upf_v]) ?_
  simp only [ir_pivot_Right]
  simp -failIfUnchanged (disch := first | assumption | omega | (refine room_i _ _ ?_ ?_ <;> omega) | (refine @_root_.id _ ?_; with_unfolding_all exact Eq.refl _) | (simp only [List.length_take, List.length_drop, List.length_append, List.length_cons, List.length_nil, List.length_replicate, List.length_map] <;> omega) | fail) only [rnL, opL, ruL, hpL, rsL, natL, outL, Nat.add_sub_cancel_left, Nat.mul_one, List.length_cons, List.length_nil, Nat.zero_add, Nat.add_zero, Nat.reduceAdd, Nat.reduceMul, Nat.reduceSub, Nat.reduceEqDiff, Nat.reduceLT, Nat.reduceLeDiff, litd_t, litd_f, decide_true, decide_false, Bool.not_true, Bool.not_false, not_true_eq_false, not_false_eq_true, true_and, and_true, false_and, and_false, true_or, or_true, false_or, or_false, Int.toNat_natCast, cond_true, cond_false, List.map_cons, List.map_nil, Option.map_some, Option.map_none, datL, rr_is]
  (first | refine RunB_i (fun h1 => ?_) (fun h1 => ?_) | refine RunG_i (fun h1 => ?_) (fun h1 => ?_) | refine RunB_ib (fun h1 => ?_) (fun h1 => ?_))
  · simp -failIfUnchanged (disch := first | assumption | omega | (refine room_i _ _ ?_ ?_ <;> omega) | (refine @_root_.id _ ?_; with_unfolding_all exact Eq.refl _) | (simp only [List.length_take, List.length_drop, List.length_append, List.length_cons, List.length_nil, List.length_replicate, List.length_map] <;> omega) | fail) only [rnL, opL, ruL, hpL, rsL, natL, outL, Nat.add_sub_cancel_left, Nat.mul_one, List.length_cons, List.length_nil, Nat.zero_add, Nat.add_zero, Nat.reduceAdd, Nat.reduceMul, Nat.reduceSub, Nat.reduceEqDiff, Nat.reduceLT, Nat.reduceLeDiff, litd_t, litd_f, decide_true, decide_false, Bool.not_true, Bool.not_false, not_true_eq_false, not_false_eq_true, true_and, and_true, false_and, and_false, true_or, or_true, false_or, or_false, Int.toNat_natCast, cond_true, cond_false, List.map_cons, List.map_nil, Option.map_some, Option.map_none]
    (refine Fin_g (.inr rfl) (by simp -failIfUnchanged (disch := first | assumption | omega | (refine room_i _ _ ?_ ?_ <;> omega) | (refine @_root_.id _ ?_; with_unfolding_all exact Eq.refl _) | (simp only [List.length_take, List.length_drop, List.length_append, List.length_cons, List.length_nil, List.length_replicate, List.length_map] <;> omega) | fail) only [rnL, opL, ruL, hpL, rsL, natL, outL, Nat.add_sub_cancel_left, Nat.mul_one, List.length_cons, List.length_nil, Nat.zero_add, Nat.add_zero, Nat.reduceAdd, Nat.reduceMul, Nat.reduceSub, Nat.reduceEqDiff, Nat.reduceLT, Nat.reduceLeDiff, litd_t, litd_f, decide_true, decide_false, Bool.not_true, Bool.not_false, not_true_eq_false, not_false_eq_true, true_and, and_true, false_and, and_false, true_or, or_true, false_or, or_false, Int.toNat_natCast, cond_true, cond_false, List.map_cons, List.map_nil, Option.map_some, Option.map_none]; rfl) ?_; simp -failIfUnchanged (disch := first | assumption | omega | (refine room_i _ _ ?_ ?_ <;> omega) | (refine @_root_.id _ ?_; with_unfolding_all exact Eq.refl _) | (simp only [List.length_take, List.length_drop, List.length_append, List.length_cons, List.length_nil, List.length_replicate, List.length_map] <;> omega) | fail) only [rnL, opL, ruL, hpL, rsL, natL, outL, Nat.add_sub_cancel_left, Nat.mul_one, List.length_cons, List.length_nil, Nat.zero_add, Nat.add_zero, Nat.reduceAdd, Nat.reduceMul, Nat.reduceSub, Nat.reduceEqDiff, Nat.reduceLT, Nat.reduceLeDiff, litd_t, litd_f, decide_true, decide_false, Bool.not_true, Bool.not_false, not_true_eq_false, not_false_eq_true, true_and, and_true, false_and, and_false, true_or, or_true, false_or, or_false, Int.toNat_natCast, cond_true, cond_false, List.map_cons, List.map_nil, Option.map_some, Option.map_none])
    rw [decide_eq_false]
    exact fun h => h1 h.1
  · simp -failIfUnchanged (disch := first | assumption | omega | (refine room_i _ _ ?_ ?_ <;> omega) | (refine @_root_.id _ ?_; with_unfolding_all exact Eq.refl _) | (simp only [List.length_take, List.length_drop, List.length_append, List.length_cons, List.length_nil, List.length_replicate, List.length_map] <;> omega) | fail) only [rnL, opL, ruL, hpL, rsL, natL, outL, Nat.add_sub_cancel_left, Nat.mul_one, List.length_cons, List.length_nil, Nat.zero_add, Nat.add_zero, Nat.reduceAdd, Nat.reduceMul, Nat.reduceSub, Nat.reduceEqDiff, Nat.reduceLT, Nat.reduceLeDiff, litd_t, litd_f, decide_true, decide_false, Bool.not_true, Bool.not_false, not_true_eq_false, not_false_eq_true, true_and, and_true, false_and, and_false, true_or, or_true, false_or, or_false, Int.toNat_natCast, cond_true, cond_false, List.map_cons, List.map_nil, Option.map_some, Option.map_none, rises_is]
    have g1 := Decidable.not_not.mp h1
    (first | refine RunB_i (fun h2 => ?_) (fun h2 => ?_) | refine RunG_i (fun h2 => ?_) (fun h2 => ?_) | refine RunB_ib (fun h2 => ?_) (fun h2 => ?_))
    · simp -failIfUnchanged (disch := first | assumption | omega | (refine room_i _ _ ?_ ?_ <;> omega) | (refine @_root_.id _ ?_; with_unfolding_all exact Eq.refl _) | (simp only [List.length_take, List.length_drop, List.length_append, List.length_cons, List.length_nil, List.length_replicate, List.length_map] <;> omega) | fail) only [rnL, opL, ruL, hpL, rsL, natL, outL, Nat.add_sub_cancel_left, Nat.mul_one, List.length_cons, List.length_nil, Nat.zero_add, Nat.add_zero, Nat.reduceAdd, Nat.reduceMul, Nat.reduceSub, Nat.reduceEqDiff, Nat.reduceLT, Nat.reduceLeDiff, litd_t, litd_f, decide_true, decide_false, Bool.not_true, Bool.not_false, not_true_eq_false, not_false_eq_true, true_and, and_true, false_and, and_false, true_or, or_true, false_or, or_false, Int.toNat_natCast, cond_true, cond_false, List.map_cons, List.map_nil, Option.map_some, Option.map_none]
      (refine Fin_g (.inr rfl) (by simp -failIfUnchanged (disch := first | assumption | omega | (refine room_i _ _ ?_ ?_ <;> omega) | (refine @_root_.id _ ?_; with_unfolding_all exact Eq.refl _) | (simp only [List.length_take, List.length_drop, List.length_append, List.length_cons, List.length_nil, List.length_replicate, List.length_map] <;> omega) | fail) only [rnL, opL, ruL, hpL, rsL, natL, outL, Nat.add_sub_cancel_left, Nat.mul_one, List.length_cons, List.length_nil, Nat.zero_add, Nat.add_zero, Nat.reduceAdd, Nat.reduceMul, Nat.reduceSub, Nat.reduceEqDiff, Nat.reduceLT, Nat.reduceLeDiff, litd_t, litd_f, decide_true, decide_false, Bool.not_true, Bool.not_false, not_true_eq_false, not_false_eq_true, true_and, and_true, false_and, and_false, true_or, or_true, false_or, or_false, Int.toNat_natCast, cond_true, cond_false, List.map_cons, List.map_nil, Option.map_some, Option.map_none]; rfl) ?_; simp -failIfUnchanged (disch := first | assumption | omega | (refine room_i _ _ ?_ ?_ <;> omega) | (refine @_root_.id _ ?_; with_unfolding_all exact Eq.refl _) | (simp only [List.length_take, List.length_drop, List.length_append, List.length_cons, List.length_nil, List.length_replicate, List.length_map] <;> omega) | fail) only [rnL, opL, ruL, hpL, rsL, natL, outL, Nat.add_sub_cancel_left, Nat.mul_one, List.length_cons, List.length_nil, Nat.zero_add, Nat.add_zero, Nat.reduceAdd, Nat.reduceMul, Nat.reduceSub, Nat.reduceEqDiff, Nat.reduceLT, Nat.reduceLeDiff, litd_t, litd_f, decide_true, decide_false, Bool.not_true, Bool.not_false, not_true_eq_false, not_false_eq_true, true_and, and_true, false_and, and_false, true_or, or_true, false_or, or_false, Int.toNat_natCast, cond_true, cond_false, List.map_cons, List.map_nil, Option.map_some, Option.map_none])
      rw [decide_eq_false]
      exact fun h => h2 h.2.1
    · have g2 := Decidable.not_not.mp h2
      simp -failIfUnchanged (disch := first | assumption | omega | (refine room_i _ _ ?_ ?_ <;> omega) | (refine @_root_.id _ ?_; with_unfolding_all exact Eq.refl _) | (simp only [List.length_take, List.length_drop, List.length_append, List.length_cons, List.length_nil, List.length_replicate, List.length_map] <;> omega) | fail) only [rnL, opL, ruL, hpL, rsL, natL, outL, Nat.add_sub_cancel_left, Nat.mul_one, List.length_cons, List.length_nil, Nat.zero_add, Nat.add_zero, Nat.reduceAdd, Nat.reduceMul, Nat.reduceSub, Nat.reduceEqDiff, Nat.reduceLT, Nat.reduceLeDiff, litd_t, litd_f, decide_true, decide_false, Bool.not_true, Bool.not_false, not_true_eq_false, not_false_eq_true, true_and, and_true, false_and, and_false, true_or, or_true, false_or, or_false, Int.toNat_natCast, cond_true, cond_false, List.map_cons, List.map_nil, Option.map_some, Option.map_none]
      (first | refine RunB_i (fun h3 => ?_) (fun h3 => ?_) | refine RunG_i (fun h3 => ?_) (fun h3 => ?_) | refine RunB_ib (fun h3 => ?_) (fun h3 => ?_))
      · simp -failIfUnchanged (disch := first | assumption | omega | (refine room_i _ _ ?_ ?_ <;> omega) | (refine @_root_.id _ ?_; with_unfolding_all exact Eq.refl _) | (simp only [List.length_take, List.length_drop, List.length_append, List.length_cons, List.length_nil, List.length_replicate, List.length_map] <;> omega) | fail) only [rnL, opL, ruL, hpL, rsL, natL, outL, Nat.add_sub_cancel_left, Nat.mul_one, List.length_cons, List.length_nil, Nat.zero_add, Nat.add_zero, Nat.reduceAdd, Nat.reduceMul, Nat.reduceSub, Nat.reduceEqDiff, Nat.reduceLT, Nat.reduceLeDiff, litd_t, litd_f, decide_true, decide_false, Bool.not_true, Bool.not_false, not_true_eq_false, not_false_eq_true, true_and, and_true, false_and, and_false, true_or, or_true, false_or, or_false, Int.toNat_natCast, cond_true, cond_false, List.map_cons, List.map_nil, Option.map_some, Option.map_none]
        (refine Fin_g (.inr rfl) (by simp -failIfUnchanged (disch := first | assumption | omega | (refine room_i _ _ ?_ ?_ <;> omega) | (refine @_root_.id _ ?_; with_unfolding_all exact Eq.refl _) | (simp only [List.length_take, List.length_drop, List.length_append, List.length_cons, List.length_nil, List.length_replicate, List.length_map] <;> omega) | fail) only [rnL, opL, ruL, hpL, rsL, natL, outL, Nat.add_sub_cancel_left, Nat.mul_one, List.length_cons, List.length_nil, Nat.zero_add, Nat.add_zero, Nat.reduceAdd, Nat.reduceMul, Nat.reduceSub, Nat.reduceEqDiff, Nat.reduceLT, Nat.reduceLeDiff, litd_t, litd_f, decide_true, decide_false, Bool.not_true, Bool.not_false, not_true_eq_false, not_false_eq_true, true_and, and_true, false_and, and_false, true_or, or_true, false_or, or_false, Int.toNat_natCast, cond_true, cond_false, List.map_cons, List.map_nil, Option.map_some, Option.map_none]; rfl) ?_; simp -failIfUnchanged (disch := first | assumption | omega | (refine room_i _ _ ?_ ?_ <;> omega) | (refine @_root_.id _ ?_; with_unfolding_all exact Eq.refl _) | (simp only [List.length_take, List.length_drop, List.length_append, List.length_cons, List.length_nil, List.length_replicate, List.length_map] <;> omega) | fail) only [rnL, opL, ruL, hpL, rsL, natL, outL, Nat.add_sub_cancel_left, Nat.mul_one, List.length_cons, List.length_nil, Nat.zero_add, Nat.add_zero, Nat.reduceAdd, Nat.reduceMul, Nat.reduceSub, Nat.reduceEqDiff, Nat.reduceLT, Nat.reduceLeDiff, litd_t, litd_f, decide_true, decide_false, Bool.not_true, Bool.not_false, not_true_eq_false, not_false_eq_true, true_and, and_true, false_and, and_false, true_or, or_true, false_or, or_false, Int.toNat_natCast, cond_true, cond_false, List.map_cons, List.map_nil, Option.map_some, Option.map_none])
        rw [decide_eq_true]
        exact ⟨g1, g2, .inl (by omega)⟩
      · have h4 : 0 < p.length := by omega
        have e0 : p[(0 : Int).toNat] = p.getD 0 [] := (getD_at p 0 h4).symm
        simp -failIfUnchanged (disch := first | assumption | omega | (refine room_i _ _ ?_ ?_ <;> omega) | (refine @_root_.id _ ?_; with_unfolding_all exact Eq.refl _) | (simp only [List.length_take, List.length_drop, List.length_append, List.length_cons, List.length_nil, List.length_replicate, List.length_map] <;> omega) | fail) only [rnL, opL, ruL, hpL, rsL, natL, outL, Nat.add_sub_cancel_left, Nat.mul_one, List.length_cons, List.length_nil, Nat.zero_add, Nat.add_zero, Nat.reduceAdd, Nat.reduceMul, Nat.reduceSub, Nat.reduceEqDiff, Nat.reduceLT, Nat.reduceLeDiff, litd_t, litd_f, decide_true, decide_false, Bool.not_true, Bool.not_false, not_true_eq_false, not_false_eq_true, true_and, and_true, false_and, and_false, true_or, or_true, false_or, or_false, Int.toNat_natCast, cond_true, cond_false, List.map_cons, List.map_nil, Option.map_some, Option.map_none, datL, e0]
        (first | refine RunB_i (fun h5 => ?_) (fun h5 => ?_) | refine RunG_i (fun h5 => ?_) (fun h5 => ?_) | refine RunB_ib (fun h5 => ?_) (fun h5 => ?_))
        · simp -failIfUnchanged (disch := first | assumption | omega | (refine room_i _ _ ?_ ?_ <;> omega) | (refine @_root_.id _ ?_; with_unfolding_all exact Eq.refl _) | (simp only [List.length_take, List.length_drop, List.length_append, List.length_cons, List.length_nil, List.length_replicate, List.length_map] <;> omega) | fail) only [rnL, opL, ruL, hpL, rsL, natL, outL, Nat.add_sub_cancel_left, Nat.mul_one, List.length_cons, List.length_nil, Nat.zero_add, Nat.add_zero, Nat.reduceAdd, Nat.reduceMul, Nat.reduceSub, Nat.reduceEqDiff, Nat.reduceLT, Nat.reduceLeDiff, litd_t, litd_f, decide_true, decide_false, Bool.not_true, Bool.not_false, not_true_eq_false, not_false_eq_true, true_and, and_true, false_and, and_false, true_or, or_true, false_or, or_false, Int.toNat_natCast, cond_true, cond_false, List.map_cons, List.map_nil, Option.map_some, Option.map_none, datL]
          (first | refine RunB_i (fun h6 => ?_) (fun h6 => ?_) | refine RunG_i (fun h6 => ?_) (fun h6 => ?_) | refine RunB_ib (fun h6 => ?_) (fun h6 => ?_))
          · simp -failIfUnchanged (disch := first | assumption | omega | (refine room_i _ _ ?_ ?_ <;> omega) | (refine @_root_.id _ ?_; with_unfolding_all exact Eq.refl _) | (simp only [List.length_take, List.length_drop, List.length_append, List.length_cons, List.length_nil, List.length_replicate, List.length_map] <;> omega) | fail) only [rnL, opL, ruL, hpL, rsL, natL, outL, Nat.add_sub_cancel_left, Nat.mul_one, List.length_cons, List.length_nil, Nat.zero_add, Nat.add_zero, Nat.reduceAdd, Nat.reduceMul, Nat.reduceSub, Nat.reduceEqDiff, Nat.reduceLT, Nat.reduceLeDiff, litd_t, litd_f, decide_true, decide_false, Bool.not_true, Bool.not_false, not_true_eq_false, not_false_eq_true, true_and, and_true, false_and, and_false, true_or, or_true, false_or, or_false, Int.toNat_natCast, cond_true, cond_false, List.map_cons, List.map_nil, Option.map_some, Option.map_none, datL]
            (refine Fin_g (.inr rfl) (by simp -failIfUnchanged (disch := first | assumption | omega | (refine room_i _ _ ?_ ?_ <;> omega) | (refine @_root_.id _ ?_; with_unfolding_all exact Eq.refl _) | (simp only [List.length_take, List.length_drop, List.length_append, List.length_cons, List.length_nil, List.length_replicate, List.length_map] <;> omega) | fail) only [rnL, opL, ruL, hpL, rsL, natL, outL, Nat.add_sub_cancel_left, Nat.mul_one, List.length_cons, List.length_nil, Nat.zero_add, Nat.add_zero, Nat.reduceAdd, Nat.reduceMul, Nat.reduceSub, Nat.reduceEqDiff, Nat.reduceLT, Nat.reduceLeDiff, litd_t, litd_f, decide_true, decide_false, Bool.not_true, Bool.not_false, not_true_eq_false, not_false_eq_true, true_and, and_true, false_and, and_false, true_or, or_true, false_or, or_false, Int.toNat_natCast, cond_true, cond_false, List.map_cons, List.map_nil, Option.map_some, Option.map_none]; rfl) ?_; simp -failIfUnchanged (disch := first | assumption | omega | (refine room_i _ _ ?_ ?_ <;> omega) | (refine @_root_.id _ ?_; with_unfolding_all exact Eq.refl _) | (simp only [List.length_take, List.length_drop, List.length_append, List.length_cons, List.length_nil, List.length_replicate, List.length_map] <;> omega) | fail) only [rnL, opL, ruL, hpL, rsL, natL, outL, Nat.add_sub_cancel_left, Nat.mul_one, List.length_cons, List.length_nil, Nat.zero_add, Nat.add_zero, Nat.reduceAdd, Nat.reduceMul, Nat.reduceSub, Nat.reduceEqDiff, Nat.reduceLT, Nat.reduceLeDiff, litd_t, litd_f, decide_true, decide_false, Bool.not_true, Bool.not_false, not_true_eq_false, not_false_eq_true, true_and, and_true, false_and, and_false, true_or, or_true, false_or, or_false, Int.toNat_natCast, cond_true, cond_false, List.map_cons, List.map_nil, Option.map_some, Option.map_none])
            rw [decide_eq_true]
            exact ⟨g1, g2, .inr ⟨h5, .inl h6⟩⟩
          · have h7 : IntKind.i64.wrap ((p.length : Int) - 1) = (p.length : Int) - 1 := wrap_i64 (by omega) (by omega)
            have h8 : ((p.length : Int) - 1).toNat < p.length := by omega
            have e1 : p[((p.length : Int) - 1).toNat] = p.getD (p.length - 1) [] := by
              have : ((p.length : Int) - 1).toNat = p.length - 1 := by omega
              simp only [this]; exact (getD_at _ _ (by omega)).symm
            simp -failIfUnchanged (disch := first | assumption | omega | (refine room_i _ _ ?_ ?_ <;> omega) | (refine @_root_.id _ ?_; with_unfolding_all exact Eq.refl _) | (simp only [List.length_take, List.length_drop, List.length_append, List.length_cons, List.length_nil, List.length_replicate, List.length_map] <;> omega) | fail) only [rnL, opL, ruL, hpL, rsL, natL, outL, Nat.add_sub_cancel_left, Nat.mul_one, List.length_cons, List.length_nil, Nat.zero_add, Nat.add_zero, Nat.reduceAdd, Nat.reduceMul, Nat.reduceSub, Nat.reduceEqDiff, Nat.reduceLT, Nat.reduceLeDiff, litd_t, litd_f, decide_true, decide_false, Bool.not_true, Bool.not_false, not_true_eq_false, not_false_eq_true, true_and, and_true, false_and, and_false, true_or, or_true, false_or, or_false, Int.toNat_natCast, cond_true, cond_false, List.map_cons, List.map_nil, Option.map_some, Option.map_none, datL, h7, e1]
            (refine Fin_g (.inr rfl) (by simp -failIfUnchanged (disch := first | assumption | omega | (refine room_i _ _ ?_ ?_ <;> omega) | (refine @_root_.id _ ?_; with_unfolding_all exact Eq.refl _) | (simp only [List.length_take, List.length_drop, List.length_append, List.length_cons, List.length_nil, List.length_replicate, List.length_map] <;> omega) | fail) only [rnL, opL, ruL, hpL, rsL, natL, outL, Nat.add_sub_cancel_left, Nat.mul_one, List.length_cons, List.length_nil, Nat.zero_add, Nat.add_zero, Nat.reduceAdd, Nat.reduceMul, Nat.reduceSub, Nat.reduceEqDiff, Nat.reduceLT, Nat.reduceLeDiff, litd_t, litd_f, decide_true, decide_false, Bool.not_true, Bool.not_false, not_true_eq_false, not_false_eq_true, true_and, and_true, false_and, and_false, true_or, or_true, false_or, or_false, Int.toNat_natCast, cond_true, cond_false, List.map_cons, List.map_nil, Option.map_some, Option.map_none]; rfl) ?_; simp -failIfUnchanged (disch := first | assumption | omega | (refine room_i _ _ ?_ ?_ <;> omega) | (refine @_root_.id _ ?_; with_unfolding_all exact Eq.refl _) | (simp only [List.length_take, List.length_drop, List.length_append, List.length_cons, List.length_nil, List.length_replicate, List.length_map] <;> omega) | fail) only [rnL, opL, ruL, hpL, rsL, natL, outL, Nat.add_sub_cancel_left, Nat.mul_one, List.length_cons, List.length_nil, Nat.zero_add, Nat.add_zero, Nat.reduceAdd, Nat.reduceMul, Nat.reduceSub, Nat.reduceEqDiff, Nat.reduceLT, Nat.reduceLeDiff, litd_t, litd_f, decide_true, decide_false, Bool.not_true, Bool.not_false, not_true_eq_false, not_false_eq_true, true_and, and_true, false_and, and_false, true_or, or_true, false_or, or_false, Int.toNat_natCast, cond_true, cond_false, List.map_cons, List.map_nil, Option.map_some, Option.map_none])
            have : decide (slt (p.getD (p.length - 1) []) r.hi) = decide (rightP p r) := decide_eq_decide.mpr ⟨fun h => ⟨g1, g2, .inr ⟨h5, .inr h⟩⟩, fun h => by
              rcases h.2.2 with h | h
              · omega
              · exact h.2.resolve_left h6⟩
            rw [this]
        · simp -failIfUnchanged (disch := first | assumption | omega | (refine room_i _ _ ?_ ?_ <;> omega) | (refine @_root_.id _ ?_; with_unfolding_all exact Eq.refl _) | (simp only [List.length_take, List.length_drop, List.length_append, List.length_cons, List.length_nil, List.length_replicate, List.length_map] <;> omega) | fail) only [rnL, opL, ruL, hpL, rsL, natL, outL, Nat.add_sub_cancel_left, Nat.mul_one, List.length_cons, List.length_nil, Nat.zero_add, Nat.add_zero, Nat.reduceAdd, Nat.reduceMul, Nat.reduceSub, Nat.reduceEqDiff, Nat.reduceLT, Nat.reduceLeDiff, litd_t, litd_f, decide_true, decide_false, Bool.not_true, Bool.not_false, not_true_eq_false, not_false_eq_true, true_and, and_true, false_and, and_false, true_or, or_true, false_or, or_false, Int.toNat_natCast, cond_true, cond_false, List.map_cons, List.map_nil, Option.map_some, Option.map_none]
          (refine Fin_g (.inr rfl) (by simp -failIfUnchanged (disch := first | assumption | omega | (refine room_i _ _ ?_ ?_ <;> omega) | (refine @_root_.id _ ?_; with_unfolding_all exact Eq.refl _) | (simp only [List.length_take, List.length_drop, List.length_append, List.length_cons, List.length_nil, List.length_replicate, List.length_map] <;> omega) | fail) only [rnL, opL, ruL, hpL, rsL, natL, outL, Nat.add_sub_cancel_left, Nat.mul_one, List.length_cons, List.length_nil, Nat.zero_add, Nat.add_zero, Nat.reduceAdd, Nat.reduceMul, Nat.reduceSub, Nat.reduceEqDiff, Nat.reduceLT, Nat.reduceLeDiff, litd_t, litd_f, decide_true, decide_false, Bool.not_true, Bool.not_false, not_true_eq_false, not_false_eq_true, true_and, and_true, false_and, and_false, true_or, or_true, false_or, or_false, Int.toNat_natCast, cond_true, cond_false, List.map_cons, List.map_nil, Option.map_some, Option.map_none]; rfl) ?_; simp -failIfUnchanged (disch := first | assumption | omega | (refine room_i _ _ ?_ ?_ <;> omega) | (refine @_root_.id _ ?_; with_unfolding_all exact Eq.refl _) | (simp only [List.length_take, List.length_drop, List.length_append, List.length_cons, List.length_nil, List.length_replicate, List.length_map] <;> omega) | fail) only [rnL, opL, ruL, hpL, rsL, natL, outL, Nat.add_sub_cancel_left, Nat.mul_one, List.length_cons, List.length_nil, Nat.zero_add, Nat.add_zero, Nat.reduceAdd, Nat.reduceMul, Nat.reduceSub, Nat.reduceEqDiff, Nat.reduceLT, Nat.reduceLeDiff, litd_t, litd_f, decide_true, decide_false, Bool.not_true, Bool.not_false, not_true_eq_false, not_false_eq_true, true_and, and_true, false_and, and_false, true_or, or_true, false_or, or_false, Int.toNat_natCast, cond_true, cond_false, List.map_cons, List.map_nil, Option.map_some, Option.map_none])
          rw [decide_eq_false]
          intro h
          rcases h.2.2 with h | h
          · omega
          · exact h5 h.1
/-- A function's value that goes through a node's kids. -/
def kidsV (nl : Bool) (p : List Str) (r : Rng) : AV := .func (.func 136) [] [.iptr [sl nl p] 0, .iptr (Cel.enc r) 0]
def spans (p : List Str) (r : Rng) : List (Nat × Rng) := if rightP p r then (List.range (p.length + 1)).map fun i => (i, spanAt p r i) else []
theorem opV_loadI {H : Heap} {n : Option Nat} {row : List AV} {off : Nat} : opV H (.load n (.c (.iptr row off))) = (one n row off).map (·, H) := rfl
theorem opV_mkfn2 {H : Heap} {f : Fn} {a b : AV} : opV H (.mkfn f [] [.c a, .c b]) = some (.func f [] [a, b], H) := rfl
theorem frz_f {H : Heap} (k : Nat) {v : AV} (h : hfree v = true) : frz H (k + 1) v = some v := by unfold frz; rw [h]; rfl
theorem frz_fs {H : Heap} (k : Nat) : ∀ {vs : List AV}, hfrees vs = true → mapO (frz H (k + 1)) vs = some vs
  | [], _ => rfl
  | v :: r, h => by
    rw [hfrees_cons, Bool.and_eq_true] at h
    rw [mapO, frz_f k h.1, frz_fs k h.2]
theorem frz_ptr {H : Heap} (k : Nat) {id lim off : Nat} {cs : List AV} (h : H[id]? = some (.cells cs)) (hl : cs.length = lim) (hf : hfrees cs = true) : frz H (k + 2) (.ptr id lim off) = some (.iptr cs off) := by
  subst hl
  have h1 : Nat.beq cs.length cs.length = true := by simp
  unfold frz
  simp only [hfree, h, h1, cond_false, cond_true, frz_fs k hf, Option.map_some]
theorem leave_fn2 {H : Heap} {f i j li lj : Nat} {ci cj : List AV} (hi : H[i]? = some (.cells ci)) (hli : ci.length = li) (hj : H[j]? = some (.cells cj)) (hlj : cj.length = lj) (hf1 : hfrees ci = true) (hf2 : hfrees cj = true) (hg1 : fgs ci = ci) (hg2 : fgs cj = cj) :
    leave H (.func (.func f) [] [.ptr i li 0, .ptr j lj 0]) = some (.func (.func f) [] [.iptr ci 0, .iptr cj 0]) := by
  have h1 : frz H 1000 (.func (.func f) [] [.ptr i li 0, .ptr j lj 0]) = some (.func (.func f) [] [.iptr ci 0, .iptr cj 0]) := by
    unfold frz
    simp only [hfree, hfrees, Bool.false_and, Bool.and_false, cond_false, mapO, frz_ptr 997 hi hli hf1, frz_ptr 997 hj hlj hf2]
  unfold leave
  rw [h1]
  simp only [down, hfree, hfrees, hf1, hf2, Bool.and_true, cond_true, Option.map_some, fg, fgs, hg1, hg2]
theorem all_is (nl : Bool) (p : List Str) (r : Rng) : CallIs F 111 [sl nl p, .agg (Cel.enc r)] (kidsV nl p r) := by
  refine Gives.is ?_
  refine Gives.of fn_pivot_All rfl rfl (args' := [sl nl p, .agg (Cel.enc r)]) (by simp only [mapO_nil, mapO_c2, consO_some, upf_v]) ?_
  simp only [ir_pivot_All]
  simp -failIfUnchanged (disch := first | assumption | omega | (refine room_i _ _ ?_ ?_ <;> omega) | (refine @_root_.id _ ?_; with_unfolding_all exact Eq.refl _) | (simp only [List.length_take, List.length_drop, List.length_append, List.length_cons, List.length_nil, List.length_replicate, List.length_map] <;> omega) | fail) only [rnL, opL, ruL, hpL, rsL, natL, outL, Nat.add_sub_cancel_left, Nat.mul_one, List.length_cons, List.length_nil, Nat.zero_add, Nat.add_zero, Nat.reduceAdd, Nat.reduceMul, Nat.reduceSub, Nat.reduceEqDiff, Nat.reduceLT, Nat.reduceLeDiff, litd_t, litd_f, decide_true, decide_false, Bool.not_true, Bool.not_false, not_true_eq_false, not_false_eq_true, true_and, and_true, false_and, and_false, true_or, or_true, false_or, or_false, Int.toNat_natCast, cond_true, cond_false, List.map_cons, List.map_nil, Option.map_some, Option.map_none, opV_mkfn2]
  (refine Fin_g (.inr rfl) (by simp -failIfUnchanged (disch := first | assumption | omega | (refine room_i _ _ ?_ ?_ <;> omega) | (refine @_root_.id _ ?_; with_unfolding_all exact Eq.refl _) | (simp only [List.length_take, List.length_drop, List.length_append, List.length_cons, List.length_nil, List.length_replicate, List.length_map] <;> omega) | fail) only [rnL, opL, ruL, hpL, rsL, natL, outL, Nat.add_sub_cancel_left, Nat.mul_one, List.length_cons, List.length_nil, Nat.zero_add, Nat.add_zero, Nat.reduceAdd, Nat.reduceMul, Nat.reduceSub, Nat.reduceEqDiff, Nat.reduceLT, Nat.reduceLeDiff, litd_t, litd_f, decide_true, decide_false, Bool.not_true, Bool.not_false, not_true_eq_false, not_false_eq_true, true_and, and_true, false_and, and_false, true_or, or_true, false_or, or_false, Int.toNat_natCast, cond_true, cond_false, List.map_cons, List.map_nil, Option.map_some, Option.map_none]; rfl) ?_; simp -failIfUnchanged (disch := first | assumption | omega | (refine room_i _ _ ?_ ?_ <;> omega) | (refine @_root_.id _ ?_; with_unfolding_all exact Eq.refl _) | (simp only [List.length_take, List.length_drop, List.length_append, List.length_cons, List.length_nil, List.length_replicate, List.length_map] <;> omega) | fail) only [rnL, opL, ruL, hpL, rsL, natL, outL, Nat.add_sub_cancel_left, Nat.mul_one, List.length_cons, List.length_nil, Nat.zero_add, Nat.add_zero, Nat.reduceAdd, Nat.reduceMul, Nat.reduceSub, Nat.reduceEqDiff, Nat.reduceLT, Nat.reduceLeDiff, litd_t, litd_f, decide_true, decide_false, Bool.not_true, Bool.not_false, not_true_eq_false, not_false_eq_true, true_and, and_true, false_and, and_false, true_or, or_true, false_or, or_false, Int.toNat_natCast, cond_true, cond_false, List.map_cons, List.map_nil, Option.map_some, Option.map_none])
  exact leave_fn2 rfl rfl rfl rfl (by rw [hfrees_cons, sl_free]; rfl) rfl (by rw [fgs_cons, sl_canon]; rfl) rfl
def itemOf (x : Nat × Rng) : List AV := [.int .i64 x.1, .agg (Cel.enc x.2)]
theorem upf_row {α : Type} [Cel α] (nl : Bool) (p : List α) : upf (.iptr [sl nl p] 0) = some (.iptr [sl nl p] 0) := by
  rw [upf_f (by simp only [hfree, hfrees_cons, sl_free]; rfl)]
  simp only [fg, fgs_cons, sl_canon]; rfl
theorem upf_enc {α : Type} [Cel α] (a : α) : upf (.iptr (Cel.enc a) 0) = some (.iptr (Cel.enc a) 0) := by
  rw [upf_f (by simpa only [hfree] using Cel.free a)]
  simp only [fg, Cel.canon]
theorem kids_iter (nl : Bool) (p : List Str) (r : Rng) (hp : p.length ≤ 1000) : Iter F (kidsV nl p r) ((spans p r).map itemOf) := by
  intro y0 y σ m stop hy _ hm hns hst hcb
  refine ⟨.tuple [], ?_⟩
  have hcb := hcb []
  unfold kidsV
  refine Rets.of (args' := [y, .iptr [sl nl p] 0, .iptr (Cel.enc r) 0]) fn_pivot_All_1 rfl rfl (by simp only [List.nil_append, List.cons_append, mapO, hy, upf_row nl p, upf_enc r]) ?_
  simp only [ir_pivot_All_1]
  simp -failIfUnchanged (disch := first | assumption | omega | (refine room_i _ _ ?_ ?_ <;> omega) | (refine @_root_.id _ ?_; with_unfolding_all exact Eq.refl _) | (simp only [List.length_take, List.length_drop, List.length_append, List.length_cons, List.length_nil, List.length_replicate, List.length_map] <;> omega) | fail) only [rnL, opL, ruL, hpL, rsL, natL, outL, Nat.add_sub_cancel_left, Nat.mul_one, List.length_cons, List.length_nil, Nat.zero_add, Nat.add_zero, Nat.reduceAdd, Nat.reduceMul, Nat.reduceSub, Nat.reduceEqDiff, Nat.reduceLT, Nat.reduceLeDiff, litd_t, litd_f, decide_true, decide_false, Bool.not_true, Bool.not_false, not_true_eq_false, not_false_eq_true, true_and, and_true, false_and, and_false, true_or, or_true, false_or, or_false, Int.toNat_natCast, cond_true, cond_false, List.map_cons, List.map_nil, Option.map_some, Option.map_none, right_is, opV_loadI]
  (first | refine RunB_i (fun h1 => ?_) (fun h1 => ?_) | refine RunG_i (fun h1 => ?_) (fun h1 => ?_) | refine RunB_ib (fun h1 => ?_) (fun h1 => ?_))
  · have e : spans p r = [] := if_neg h1
    rw [e] at hm hns
    have hm0 : m = 0 := Nat.le_zero.mp hm
    subst hm0
    simp -failIfUnchanged (disch := first | assumption | omega | (refine room_i _ _ ?_ ?_ <;> omega) | (refine @_root_.id _ ?_; with_unfolding_all exact Eq.refl _) | (simp only [List.length_take, List.length_drop, List.length_append, List.length_cons, List.length_nil, List.length_replicate, List.length_map] <;> omega) | fail) only [rnL, opL, ruL, hpL, rsL, natL, outL, Nat.add_sub_cancel_left, Nat.mul_one, List.length_cons, List.length_nil, Nat.zero_add, Nat.add_zero, Nat.reduceAdd, Nat.reduceMul, Nat.reduceSub, Nat.reduceEqDiff, Nat.reduceLT, Nat.reduceLeDiff, litd_t, litd_f, decide_true, decide_false, Bool.not_true, Bool.not_false, not_true_eq_false, not_false_eq_true, true_and, and_true, false_and, and_false, true_or, or_true, false_or, or_false, Int.toNat_natCast, cond_true, cond_false, List.map_cons, List.map_nil, Option.map_some, Option.map_none]
    exact FinS_i (.inr rfl) rfl rfl rfl
  · have e : spans p r = (List.range (p.length + 1)).map fun i => (i, spanAt p r i) := if_pos (Decidable.not_not.mp h1)
    have el : ((spans p r).map itemOf).length = p.length + 1 := by rw [e]; simp
    have ei : ∀ i (hi : i < ((spans p r).map itemOf).length), ((spans p r).map itemOf)[i] = [.int .i64 i, .agg (Cel.enc (spanAt p r i))] := fun i hi => by simp [e, itemOf]
    rw [el] at hm hns
    simp -failIfUnchanged (disch := first | assumption | omega | (refine room_i _ _ ?_ ?_ <;> omega) | (refine @_root_.id _ ?_; with_unfolding_all exact Eq.refl _) | (simp only [List.length_take, List.length_drop, List.length_append, List.length_cons, List.length_nil, List.length_replicate, List.length_map] <;> omega) | fail) only [rnL, opL, ruL, hpL, rsL, natL, outL, Nat.add_sub_cancel_left, Nat.mul_one, List.length_cons, List.length_nil, Nat.zero_add, Nat.add_zero, Nat.reduceAdd, Nat.reduceMul, Nat.reduceSub, Nat.reduceEqDiff, Nat.reduceLT, Nat.reduceLeDiff, litd_t, litd_f, decide_true, decide_false, Bool.not_true, Bool.not_false, not_true_eq_false, not_false_eq_true, true_and, and_true, false_and, and_false, true_or, or_true, false_or, or_false, Int.toNat_natCast, cond_true, cond_false, List.map_cons, List.map_nil, Option.map_some, Option.map_none]
    refine Run_upto m (fun i => [(0, y), (1, AV.iptr [sl nl p] 0), (2, AV.iptr (Cel.enc r) 0), (4, .int .i64 i), (8, .bool false)]) (fun i => [] :: σ i) (fun i => stop = true → i < m) rfl rfl hst ?_
    intro i hi hP
    simp -failIfUnchanged (disch := first | assumption | omega | (refine room_i _ _ ?_ ?_ <;> omega) | (refine @_root_.id _ ?_; with_unfolding_all exact Eq.refl _) | (simp only [List.length_take, List.length_drop, List.length_append, List.length_cons, List.length_nil, List.length_replicate, List.length_map] <;> omega) | fail) only [rnL, opL, ruL, hpL, rsL, natL, outL, Nat.add_sub_cancel_left, Nat.mul_one, List.length_cons, List.length_nil, Nat.zero_add, Nat.add_zero, Nat.reduceAdd, Nat.reduceMul, Nat.reduceSub, Nat.reduceEqDiff, Nat.reduceLT, Nat.reduceLeDiff, litd_t, litd_f, decide_true, decide_false, Bool.not_true, Bool.not_false, not_true_eq_false, not_false_eq_true, true_and, and_true, false_and, and_false, true_or, or_true, false_or, or_false, Int.toNat_natCast, cond_true, cond_false, List.map_cons, List.map_nil, Option.map_some, Option.map_none, opV_loadI]
    (first | refine RunB_i (fun h2 => ?_) (fun h2 => ?_) | refine RunG_i (fun h2 => ?_) (fun h2 => ?_) | refine RunB_ib (fun h2 => ?_) (fun h2 => ?_))
    · simp -failIfUnchanged (disch := first | assumption | omega | (refine room_i _ _ ?_ ?_ <;> omega) | (refine @_root_.id _ ?_; with_unfolding_all exact Eq.refl _) | (simp only [List.length_take, List.length_drop, List.length_append, List.length_cons, List.length_nil, List.length_replicate, List.length_map] <;> omega) | fail) only [rnL, opL, ruL, hpL, rsL, natL, outL, Nat.add_sub_cancel_left, Nat.mul_one, List.length_cons, List.length_nil, Nat.zero_add, Nat.add_zero, Nat.reduceAdd, Nat.reduceMul, Nat.reduceSub, Nat.reduceEqDiff, Nat.reduceLT, Nat.reduceLeDiff, litd_t, litd_f, decide_true, decide_false, Bool.not_true, Bool.not_false, not_true_eq_false, not_false_eq_true, true_and, and_true, false_and, and_false, true_or, or_true, false_or, or_false, Int.toNat_natCast, cond_true, cond_false, List.map_cons, List.map_nil, Option.map_some, Option.map_none, opV_loadI, span_is]
      have hlt : i < m := by
        cases hstop : stop with
        | true => exact hP hstop
        | false => have := hns hstop; omega
      have hr := hcb i hlt (by rw [el]; omega)
      rw [ei i (by rw [el]; omega)] at hr
      refine RunC_r hr ?_
      cases hq : (stop && decide (i + 1 = m)) with
      | true =>
        rw [Bool.and_eq_true, decide_eq_true_eq] at hq
        rw [hq.2]
        simp -failIfUnchanged (disch := first | assumption | omega | (refine room_i _ _ ?_ ?_ <;> omega) | (refine @_root_.id _ ?_; with_unfolding_all exact Eq.refl _) | (simp only [List.length_take, List.length_drop, List.length_append, List.length_cons, List.length_nil, List.length_replicate, List.length_map] <;> omega) | fail) only [rnL, opL, ruL, hpL, rsL, natL, outL, Nat.add_sub_cancel_left, Nat.mul_one, List.length_cons, List.length_nil, Nat.zero_add, Nat.add_zero, Nat.reduceAdd, Nat.reduceMul, Nat.reduceSub, Nat.reduceEqDiff, Nat.reduceLT, Nat.reduceLeDiff, litd_t, litd_f, decide_true, decide_false, Bool.not_true, Bool.not_false, not_true_eq_false, not_false_eq_true, true_and, and_true, false_and, and_false, true_or, or_true, false_or, or_false, Int.toNat_natCast, cond_true, cond_false, List.map_cons, List.map_nil, Option.map_some, Option.map_none]
        exact FinS_i (.inr rfl) rfl rfl rfl
      | false =>
        simp -failIfUnchanged (disch := first | assumption | omega | (refine room_i _ _ ?_ ?_ <;> omega) | (refine @_root_.id _ ?_; with_unfolding_all exact Eq.refl _) | (simp only [List.length_take, List.length_drop, List.length_append, List.length_cons, List.length_nil, List.length_replicate, List.length_map] <;> omega) | fail) only [rnL, opL, ruL, hpL, rsL, natL, outL, Nat.add_sub_cancel_left, Nat.mul_one, List.length_cons, List.length_nil, Nat.zero_add, Nat.add_zero, Nat.reduceAdd, Nat.reduceMul, Nat.reduceSub, Nat.reduceEqDiff, Nat.reduceLT, Nat.reduceLeDiff, litd_t, litd_f, decide_true, decide_false, Bool.not_true, Bool.not_false, not_true_eq_false, not_false_eq_true, true_and, and_true, false_and, and_false, true_or, or_true, false_or, or_false, Int.toNat_natCast, cond_true, cond_false, List.map_cons, List.map_nil, Option.map_some, Option.map_none]
        refine .i hlt (by first | exact trivial | rfl) (by first | exact trivial | rfl) (fun hs => ?_)
        rw [hs, Bool.true_and, decide_eq_false_iff_not] at hq
        have := hP hs
        omega
    · have hm2 : i = m := by
        cases hstop : stop with
        | true => have := hP hstop; omega
        | false => have := hns hstop; omega
      simp -failIfUnchanged (disch := first | assumption | omega | (refine room_i _ _ ?_ ?_ <;> omega) | (refine @_root_.id _ ?_; with_unfolding_all exact Eq.refl _) | (simp only [List.length_take, List.length_drop, List.length_append, List.length_cons, List.length_nil, List.length_replicate, List.length_map] <;> omega) | fail) only [rnL, opL, ruL, hpL, rsL, natL, outL, Nat.add_sub_cancel_left, Nat.mul_one, List.length_cons, List.length_nil, Nat.zero_add, Nat.add_zero, Nat.reduceAdd, Nat.reduceMul, Nat.reduceSub, Nat.reduceEqDiff, Nat.reduceLT, Nat.reduceLeDiff, litd_t, litd_f, decide_true, decide_false, Bool.not_true, Bool.not_false, not_true_eq_false, not_false_eq_true, true_and, and_true, false_and, and_false, true_or, or_true, false_or, or_false, Int.toNat_natCast, cond_true, cond_false, List.map_cons, List.map_nil, Option.map_some, Option.map_none]
      rw [hm2]
      exact FinS_i (.inl rfl) rfl rfl rfl
end Go.AS.Th
