import Derived.Test.YtefnpnokbanbkaaProg
import Derived.KernelRfl
import Derived.Test.YtefnpnokbanbkaaAs1
import Derived.Test.YtefnpnokbanbkaaRn0
set_option linter.all false
namespace Go.AS.Th
open Go Go.AS Go.Proofs
set_option maxRecDepth 100000
def ann : Ann := ⟨[70], [13, 33, 34, 35, 36, 53, 56, 58, 59, 75, 76, 77, 88], [], [], [87]⟩
noncomputable abbrev F : Nat → Option IFun := funsOf Try.prog ann

def ir_l32_FairThings : IFun :=
  IFun.mk false 5 [IRes.tmp 10]
  (IC.seq
    (IC.ops false
      [IOper.mk (some 5) (IOp.box 9 (Opd.t 0)) none, IOper.mk (some 6) (IOp.box 1 (Opd.t 1)) none,
      IOper.mk (some 10) (IOp.mv (Opd.c (AV.bool false))) none]
      [])
    (IC.seq
      (IC.seq
      (IC.ops false
      [IOper.mk (some 12) (IOp.load (some 1) (Opd.t 6)) none,
      IOper.mk (some 13) (IOp.call (Opd.c (AV.func (Fn.func 31) [] [])) [Opd.t 12]) none,
      IOper.mk (some 14) (IOp.not (Opd.t 13)) none, IOper.mk (some 15) (IOp.mv (Opd.t 14)) none,
      IOper.mk (some 16) (IOp.mv (Opd.t 2)) (some (15, false)),
      IOper.mk (some 17) (IOp.call (Opd.c (AV.func (Fn.func 32) [] [])) [Opd.t 16]) (some (15, false)),
      IOper.mk (some 18) (IOp.not (Opd.t 17)) (some (15, false)),
      IOper.mk (some 19) (IOp.pick (Opd.t 15) (Opd.c (AV.bool true)) (Opd.t 18)) none]
      [12, 13, 14, 15, 16, 17, 18])
      (IC.cond (Opd.t 19)
      (IC.seq
      (IC.ops false [IOper.mk (some 20) (IOp.callp 13 []) none, IOper.mk (some 10) (IOp.mv (Opd.t 20)) none] [20])
      IC.ret)
      IC.nop))
      (IC.seq
      (IC.ops false
      [IOper.mk (some 21) (IOp.load (some 1) (Opd.t 6)) none, IOper.mk (some 22) (IOp.mv (Opd.t 2)) none,
      IOper.mk (some 23) (IOp.callp 33 [Opd.t 21, Opd.t 22]) none, IOper.mk (some 11) (IOp.mv (Opd.t 23)) none]
      [21, 22, 23])
      (IC.seq
      (IC.ops true
      [IOper.mk (some 24) (IOp.callp 13 []) none, IOper.mk (some 25) (IOp.mv (Opd.t 24)) none,
      IOper.mk (some 26) (IOp.load (some 1) (Opd.t 6)) (some (25, true)),
      IOper.mk (some 27) (IOp.mv (Opd.t 2)) (some (25, true)),
      IOper.mk (some 28) (IOp.callp 34 [Opd.t 26, Opd.t 27]) (some (25, true)),
      IOper.mk (some 29) (IOp.mv (Opd.t 11)) (some (25, true)),
      IOper.mk (some 30) (IOp.bin BinOp.eql (Opd.t 28) (Opd.t 29)) (some (25, true)),
      IOper.mk (some 31) (IOp.pick (Opd.t 25) (Opd.t 30) (Opd.c (AV.bool false))) none,
      IOper.mk (some 32) (IOp.mv (Opd.t 31)) none,
      IOper.mk (some 33) (IOp.load (some 9) (Opd.t 5)) (some (32, true)),
      IOper.mk (some 34) (IOp.load (some 1) (Opd.t 6)) (some (32, true)),
      IOper.mk (some 35) (IOp.mv (Opd.t 2)) (some (32, true)),
      IOper.mk (some 36) (IOp.mv (Opd.t 3)) (some (32, true)),
      IOper.mk (some 37) (IOp.mv (Opd.t 4)) (some (32, true)),
      IOper.mk (some 38) (IOp.callp 35 [Opd.t 33, Opd.t 34, Opd.t 35, Opd.t 36, Opd.t 37]) (some (32, true)),
      IOper.mk (some 39) (IOp.load (some 9) (Opd.t 5)) (some (32, true)),
      IOper.mk (some 40) (IOp.mv (Opd.t 3)) (some (32, true)),
      IOper.mk (some 41) (IOp.mv (Opd.t 4)) (some (32, true)),
      IOper.mk (some 42) (IOp.mv (Opd.t 11)) (some (32, true)),
      IOper.mk (some 43) (IOp.callp 36 [Opd.t 39, Opd.t 40, Opd.t 41, Opd.t 42]) (some (32, true)),
      IOper.mk (some 44) (IOp.bin BinOp.eql (Opd.t 38) (Opd.t 43)) (some (32, true)),
      IOper.mk (some 45) (IOp.pick (Opd.t 32) (Opd.t 44) (Opd.c (AV.bool false))) none,
      IOper.mk (some 10) (IOp.mv (Opd.t 45)) none]
      [24, 25, 26, 27, 28, 29, 30, 31, 32, 33, 34, 35, 36, 37, 38, 39, 40, 41, 42, 43, 44, 45])
      IC.ret))))
theorem fn_l32_FairThings : F 6 = some ir_l32_FairThings := by kernel_rfl

def ir_r15_Small : IFun :=
  IFun.mk false 1 [IRes.tmp 2]
  (IC.seq
    (IC.ops false
      [IOper.mk (some 1) (IOp.box 1 (Opd.t 0)) none, IOper.mk (some 2) (IOp.mv (Opd.c (AV.bool false))) none] [])
    (IC.seq
      (IC.seq
      (IC.ops false
      [IOper.mk (some 7) (IOp.faddr 0 (Opd.t 1)) none, IOper.mk (some 8) (IOp.load none (Opd.t 7)) none,
      IOper.mk (some 9) (IOp.len (Opd.t 8)) none,
      IOper.mk (some 10) (IOp.bin BinOp.gtr (Opd.t 9) (Opd.c (AV.int IntKind.i64 40))) none]
      [7, 8, 9])
      (IC.cond (Opd.t 10) (IC.seq (IC.ops false [IOper.mk (some 2) (IOp.mv (Opd.c (AV.bool false))) none] []) IC.ret)
      IC.nop))
      (IC.seq (IC.ops false [IOper.mk (some 3) (IOp.mv (Opd.c (AV.int IntKind.i64 0))) none] [])
      (IC.seq
      (IC.seq (IC.ops false [IOper.mk (some 4) (IOp.mv (Opd.c (AV.int IntKind.i64 0))) none] [])
      (IC.seq
      (IC.block 0
      (IC.loop
      (IC.seq
      (IC.seq
      (IC.seq
      (IC.ops false
      [IOper.mk (some 11) (IOp.mv (Opd.t 4)) none, IOper.mk (some 12) (IOp.faddr 0 (Opd.t 1)) none,
      IOper.mk (some 13) (IOp.load none (Opd.t 12)) none,
      IOper.mk (some 14) (IOp.len (Opd.t 13)) none,
      IOper.mk (some 15) (IOp.bin BinOp.lss (Opd.t 11) (Opd.t 14)) none]
      [11, 12, 13, 14])
      (IC.cond (Opd.t 15) IC.nop (IC.exit 0)))
      (IC.seq
      (IC.seq
      (IC.block 1
      (IC.seq
      (IC.ops false
      [IOper.mk (some 18) (IOp.faddr 0 (Opd.t 1)) none,
      IOper.mk (some 19) (IOp.load none (Opd.t 18)) none,
      IOper.mk (some 20) (IOp.mv (Opd.t 4)) none,
      IOper.mk (some 21) (IOp.ixa 5 (Opd.t 19) (Opd.t 20)) none,
      IOper.mk (some 22) (IOp.load (some 5) (Opd.t 21)) none,
      IOper.mk (some 5)
      (IOp.alloc
      [AV.int IntKind.u8 0, AV.imm true 0 0 (some 0) [],
      AV.imm true 0 0 (some 0) [], AV.imm true 0 0 (some 0) [],
      AV.imm true 0 0 (some 0) []])
      none,
      IOper.mk none (IOp.store 5 (Opd.t 5) (Opd.t 22)) none]
      [18, 19, 20, 21, 22])
      (IC.seq
      (IC.seq
      (IC.ops false
      [IOper.mk (some 23) (IOp.faddr 2 (Opd.t 5)) none,
      IOper.mk (some 24) (IOp.load none (Opd.t 23)) none,
      IOper.mk (some 25) (IOp.len (Opd.t 24)) none,
      IOper.mk (some 26)
      (IOp.bin BinOp.gtr (Opd.t 25) (Opd.c (AV.int IntKind.i64 20))) none,
      IOper.mk (some 27) (IOp.mv (Opd.t 26)) none,
      IOper.mk (some 28) (IOp.faddr 1 (Opd.t 5)) (some (27, false)),
      IOper.mk (some 29) (IOp.load none (Opd.t 28)) (some (27, false)),
      IOper.mk (some 30) (IOp.len (Opd.t 29)) (some (27, false)),
      IOper.mk (some 31)
      (IOp.bin BinOp.gtr (Opd.t 30) (Opd.c (AV.int IntKind.i64 20)))
      (some (27, false)),
      IOper.mk (some 32) (IOp.pick (Opd.t 27) (Opd.c (AV.bool true)) (Opd.t 31)) none,
      IOper.mk (some 33) (IOp.mv (Opd.t 32)) none,
      IOper.mk (some 34) (IOp.faddr 3 (Opd.t 5)) (some (33, false)),
      IOper.mk (some 35) (IOp.load none (Opd.t 34)) (some (33, false)),
      IOper.mk (some 36) (IOp.len (Opd.t 35)) (some (33, false)),
      IOper.mk (some 37)
      (IOp.bin BinOp.gtr (Opd.t 36) (Opd.c (AV.int IntKind.i64 40)))
      (some (33, false)),
      IOper.mk (some 38) (IOp.pick (Opd.t 33) (Opd.c (AV.bool true)) (Opd.t 37)) none,
      IOper.mk (some 39) (IOp.mv (Opd.t 38)) none,
      IOper.mk (some 40) (IOp.faddr 4 (Opd.t 5)) (some (39, false)),
      IOper.mk (some 41) (IOp.load none (Opd.t 40)) (some (39, false)),
      IOper.mk (some 42) (IOp.len (Opd.t 41)) (some (39, false)),
      IOper.mk (some 43)
      (IOp.bin BinOp.gtr (Opd.t 42) (Opd.c (AV.int IntKind.i64 20)))
      (some (39, false)),
      IOper.mk (some 44) (IOp.pick (Opd.t 39) (Opd.c (AV.bool true)) (Opd.t 43)) none]
      [23, 24, 25, 26, 27, 28, 29, 30, 31, 32, 33, 34, 35, 36, 37, 38, 39, 40, 41, 42,
      43])
      (IC.cond (Opd.t 44)
      (IC.seq (IC.ops false [IOper.mk (some 2) (IOp.mv (Opd.c (AV.bool false))) none] [])
      IC.ret)
      IC.nop))
      (IC.seq
      (IC.ops false
      [IOper.mk (some 45) (IOp.mv (Opd.t 3)) none,
      IOper.mk (some 46) (IOp.faddr 3 (Opd.t 5)) none,
      IOper.mk (some 47) (IOp.load none (Opd.t 46)) none,
      IOper.mk (some 48) (IOp.len (Opd.t 47)) none,
      IOper.mk (some 49) (IOp.bin BinOp.add (Opd.t 45) (Opd.t 48)) none,
      IOper.mk (some 3) (IOp.mv (Opd.t 49)) none]
      [45, 46, 47, 48, 49])
      (IC.seq
      (IC.ops false
      [IOper.mk (some 6) (IOp.mv (Opd.c (AV.int IntKind.i64 0))) none] [])
      (IC.seq
      (IC.block 2
      (IC.loop
      (IC.seq
      (IC.seq
      (IC.seq
      (IC.ops false
      [IOper.mk (some 50) (IOp.mv (Opd.t 6)) none,
      IOper.mk (some 51) (IOp.faddr 4 (Opd.t 5)) none,
      IOper.mk (some 52) (IOp.load none (Opd.t 51)) none,
      IOper.mk (some 53) (IOp.len (Opd.t 52)) none,
      IOper.mk (some 54) (IOp.bin BinOp.lss (Opd.t 50) (Opd.t 53)) none]
      [50, 51, 52, 53])
      (IC.cond (Opd.t 54) IC.nop (IC.exit 2)))
      (IC.seq
      (IC.seq
      (IC.block 3
      (IC.seq
      (IC.seq
      (IC.ops false
      [IOper.mk (some 57) (IOp.faddr 4 (Opd.t 5)) none,
      IOper.mk (some 58) (IOp.load none (Opd.t 57)) none,
      IOper.mk (some 59) (IOp.mv (Opd.t 6)) none,
      IOper.mk (some 60) (IOp.ixa 1 (Opd.t 58) (Opd.t 59)) none,
      IOper.mk (some 61) (IOp.load none (Opd.t 60)) none,
      IOper.mk (some 62) (IOp.len (Opd.t 61)) none,
      IOper.mk (some 63)
      (IOp.bin BinOp.gtr (Opd.t 62)
      (Opd.c (AV.int IntKind.i64 20)))
      none]
      [57, 58, 59, 60, 61, 62])
      (IC.cond (Opd.t 63)
      (IC.seq
      (IC.ops false
      [IOper.mk (some 2) (IOp.mv (Opd.c (AV.bool false))) none]
      [])
      IC.ret)
      IC.nop))
      (IC.ops false
      [IOper.mk (some 64) (IOp.mv (Opd.t 3)) none,
      IOper.mk (some 65) (IOp.faddr 4 (Opd.t 5)) none,
      IOper.mk (some 66) (IOp.load none (Opd.t 65)) none,
      IOper.mk (some 67) (IOp.mv (Opd.t 6)) none,
      IOper.mk (some 68) (IOp.ixa 1 (Opd.t 66) (Opd.t 67)) none,
      IOper.mk (some 69) (IOp.load none (Opd.t 68)) none,
      IOper.mk (some 70) (IOp.len (Opd.t 69)) none,
      IOper.mk (some 71) (IOp.bin BinOp.add (Opd.t 64) (Opd.t 70))
      none,
      IOper.mk (some 3) (IOp.mv (Opd.t 71)) none]
      [64, 65, 66, 67, 68, 69, 70, 71])))
      (IC.ops false []
      [57, 58, 59, 60, 61, 62, 63, 64, 65, 66, 67, 68, 69, 70, 71]))
      (IC.ops false
      [IOper.mk (some 55) (IOp.mv (Opd.t 6)) none,
      IOper.mk (some 56)
      (IOp.bin BinOp.add (Opd.t 55)
      (Opd.c (AV.int IntKind.i64 1)))
      none,
      IOper.mk (some 6) (IOp.mv (Opd.t 56)) none]
      [55, 56])))
      (IC.ops false []
      [50, 51, 52, 53, 54, 57, 58, 59, 60, 61, 62, 63, 64, 65, 66, 67, 68, 69,
      70, 71, 55, 56]))))
      (IC.ops false []
      [50, 51, 52, 53, 54, 57, 58, 59, 60, 61, 62, 63, 64, 65, 66, 67, 68, 69, 70, 71,
      55, 56])))))))
      (IC.ops false []
      [18, 19, 20, 21, 22, 5, 23, 24, 25, 26, 27, 28, 29, 30, 31, 32, 33, 34, 35, 36, 37, 38, 39,
      40, 41, 42, 43, 44, 45, 46, 47, 48, 49, 50, 51, 52, 53, 54, 57, 58, 59, 60, 61, 62, 63,
      64, 65, 66, 67, 68, 69, 70, 71, 55, 56, 6]))
      (IC.ops false
      [IOper.mk (some 16) (IOp.mv (Opd.t 4)) none,
      IOper.mk (some 17) (IOp.bin BinOp.add (Opd.t 16) (Opd.c (AV.int IntKind.i64 1)))
      none,
      IOper.mk (some 4) (IOp.mv (Opd.t 17)) none]
      [16, 17])))
      (IC.ops false []
      [11, 12, 13, 14, 15, 18, 19, 20, 21, 22, 5, 23, 24, 25, 26, 27, 28, 29, 30, 31, 32, 33, 34, 35,
      36, 37, 38, 39, 40, 41, 42, 43, 44, 45, 46, 47, 48, 49, 50, 51, 52, 53, 54, 57, 58, 59, 60, 61,
      62, 63, 64, 65, 66, 67, 68, 69, 70, 71, 55, 56, 6, 16, 17]))))
      (IC.ops false []
      [11, 12, 13, 14, 15, 18, 19, 20, 21, 22, 5, 23, 24, 25, 26, 27, 28, 29, 30, 31, 32, 33, 34, 35, 36, 37,
      38, 39, 40, 41, 42, 43, 44, 45, 46, 47, 48, 49, 50, 51, 52, 53, 54, 57, 58, 59, 60, 61, 62, 63, 64,
      65, 66, 67, 68, 69, 70, 71, 55, 56, 6, 16, 17])))
      (IC.seq
      (IC.ops false
      [IOper.mk (some 72) (IOp.mv (Opd.t 3)) none,
      IOper.mk (some 73) (IOp.bin BinOp.leq (Opd.t 72) (Opd.c (AV.int IntKind.i64 200))) none,
      IOper.mk (some 2) (IOp.mv (Opd.t 73)) none]
      [72, 73])
      IC.ret)))))
theorem fn_r15_Small : F 31 = some ir_r15_Small := by kernel_rfl

def ir_r30_Few : IFun :=
  IFun.mk false 1 [IRes.tmp 2]
  (IC.seq (IC.ops false [IOper.mk (some 2) (IOp.mv (Opd.c (AV.bool false))) none] [])
    (IC.seq
      (IC.seq
      (IC.ops false
      [IOper.mk (some 4) (IOp.mv (Opd.t 0)) none, IOper.mk (some 5) (IOp.len (Opd.t 4)) none,
      IOper.mk (some 6) (IOp.bin BinOp.gtr (Opd.t 5) (Opd.c (AV.int IntKind.i64 40))) none]
      [4, 5])
      (IC.cond (Opd.t 6) (IC.seq (IC.ops false [IOper.mk (some 2) (IOp.mv (Opd.c (AV.bool false))) none] []) IC.ret)
      IC.nop))
      (IC.seq
      (IC.seq (IC.ops false [IOper.mk (some 3) (IOp.mv (Opd.c (AV.int IntKind.i64 0))) none] [])
      (IC.seq
      (IC.block 0
      (IC.loop
      (IC.seq
      (IC.seq
      (IC.seq
      (IC.ops false
      [IOper.mk (some 7) (IOp.mv (Opd.t 3)) none, IOper.mk (some 8) (IOp.mv (Opd.t 0)) none,
      IOper.mk (some 9) (IOp.len (Opd.t 8)) none,
      IOper.mk (some 10) (IOp.bin BinOp.lss (Opd.t 7) (Opd.t 9)) none]
      [7, 8, 9])
      (IC.cond (Opd.t 10) IC.nop (IC.exit 0)))
      (IC.seq
      (IC.seq
      (IC.block 1
      (IC.seq
      (IC.ops false
      [IOper.mk (some 13) (IOp.mv (Opd.t 0)) none, IOper.mk (some 14) (IOp.mv (Opd.t 3)) none,
      IOper.mk (some 15) (IOp.ixa 16 (Opd.t 13) (Opd.t 14)) none,
      IOper.mk (some 16) (IOp.faddr 2 (Opd.t 15)) none,
      IOper.mk (some 17) (IOp.faddr 4 (Opd.t 16)) none,
      IOper.mk (some 18) (IOp.load none (Opd.t 17)) none,
      IOper.mk (some 19) (IOp.len (Opd.t 18)) none,
      IOper.mk (some 20)
      (IOp.bin BinOp.gtr (Opd.t 19) (Opd.c (AV.int IntKind.i64 20))) none,
      IOper.mk (some 21) (IOp.mv (Opd.t 20)) none,
      IOper.mk (some 22) (IOp.mv (Opd.t 0)) (some (21, false)),
      IOper.mk (some 23) (IOp.mv (Opd.t 3)) (some (21, false)),
      IOper.mk (some 24) (IOp.ixa 16 (Opd.t 22) (Opd.t 23)) (some (21, false)),
      IOper.mk (some 25) (IOp.faddr 10 (Opd.t 24)) (some (21, false)),
      IOper.mk (some 26) (IOp.faddr 3 (Opd.t 25)) (some (21, false)),
      IOper.mk (some 27) (IOp.load none (Opd.t 26)) (some (21, false)),
      IOper.mk (some 28) (IOp.len (Opd.t 27)) (some (21, false)),
      IOper.mk (some 29)
      (IOp.bin BinOp.gtr (Opd.t 28) (Opd.c (AV.int IntKind.i64 40)))
      (some (21, false)),
      IOper.mk (some 30) (IOp.pick (Opd.t 21) (Opd.c (AV.bool true)) (Opd.t 29)) none]
      [13, 14, 15, 16, 17, 18, 19, 20, 21, 22, 23, 24, 25, 26, 27, 28, 29])
      (IC.cond (Opd.t 30)
      (IC.seq (IC.ops false [IOper.mk (some 2) (IOp.mv (Opd.c (AV.bool false))) none] [])
      IC.ret)
      IC.nop)))
      (IC.ops false [] [13, 14, 15, 16, 17, 18, 19, 20, 21, 22, 23, 24, 25, 26, 27, 28, 29, 30]))
      (IC.ops false
      [IOper.mk (some 11) (IOp.mv (Opd.t 3)) none,
      IOper.mk (some 12) (IOp.bin BinOp.add (Opd.t 11) (Opd.c (AV.int IntKind.i64 1)))
      none,
      IOper.mk (some 3) (IOp.mv (Opd.t 12)) none]
      [11, 12])))
      (IC.ops false []
      [7, 8, 9, 10, 13, 14, 15, 16, 17, 18, 19, 20, 21, 22, 23, 24, 25, 26, 27, 28, 29, 30, 11, 12]))))
      (IC.ops false []
      [7, 8, 9, 10, 13, 14, 15, 16, 17, 18, 19, 20, 21, 22, 23, 24, 25, 26, 27, 28, 29, 30, 11, 12])))
      (IC.seq (IC.ops false [IOper.mk (some 2) (IOp.mv (Opd.c (AV.bool true))) none] []) IC.ret))))
theorem fn_r30_Few : F 32 = some ir_r30_Few := by kernel_rfl

def ir_r32_Things : IFun :=
  IFun.mk false 2 [IRes.tmp 4]
  (IC.seq
    (IC.ops false
      [IOper.mk (some 2) (IOp.box 1 (Opd.t 0)) none,
      IOper.mk (some 4) (IOp.mv (Opd.c (AV.int IntKind.i64 0))) none]
      [])
    (IC.seq (IC.ops false [IOper.mk (some 5) (IOp.mv (Opd.c (AV.int IntKind.i64 0))) none] [])
      (IC.seq
      (IC.seq (IC.ops false [IOper.mk (some 6) (IOp.mv (Opd.c (AV.int IntKind.i64 0))) none] [])
      (IC.seq
      (IC.block 0
      (IC.loop
      (IC.seq
      (IC.seq
      (IC.seq
      (IC.ops false
      [IOper.mk (some 11) (IOp.mv (Opd.t 6)) none, IOper.mk (some 12) (IOp.mv (Opd.t 1)) none,
      IOper.mk (some 13) (IOp.len (Opd.t 12)) none,
      IOper.mk (some 14) (IOp.bin BinOp.lss (Opd.t 11) (Opd.t 13)) none]
      [11, 12, 13])
      (IC.cond (Opd.t 14) IC.nop (IC.exit 0)))
      (IC.seq
      (IC.seq
      (IC.block 1
      (IC.seq
      (IC.ops false
      [IOper.mk (some 17) (IOp.mv (Opd.t 1)) none, IOper.mk (some 18) (IOp.mv (Opd.t 6)) none,
      IOper.mk (some 19) (IOp.ixa 16 (Opd.t 17) (Opd.t 18)) none,
      IOper.mk (some 20) (IOp.faddr 9 (Opd.t 19)) none,
      IOper.mk (some 21) (IOp.load none (Opd.t 20)) none,
      IOper.mk (some 22)
      (IOp.bin BinOp.eql (Opd.t 21) (Opd.c (AV.int IntKind.i64 0))) none,
      IOper.mk (some 23) (IOp.mv (Opd.t 22)) none,
      IOper.mk (some 24) (IOp.mv (Opd.t 1)) (some (23, true)),
      IOper.mk (some 25) (IOp.mv (Opd.t 6)) (some (23, true)),
      IOper.mk (some 26) (IOp.ixa 16 (Opd.t 24) (Opd.t 25)) (some (23, true)),
      IOper.mk (some 27) (IOp.faddr 2 (Opd.t 26)) (some (23, true)),
      IOper.mk (some 28) (IOp.faddr 0 (Opd.t 27)) (some (23, true)),
      IOper.mk (some 29) (IOp.load none (Opd.t 28)) (some (23, true)),
      IOper.mk (some 30)
      (IOp.bin BinOp.eql (Opd.t 29) (Opd.c (AV.int IntKind.u8 2)))
      (some (23, true)),
      IOper.mk (some 31) (IOp.pick (Opd.t 23) (Opd.t 30) (Opd.c (AV.bool false))) none]
      [17, 18, 19, 20, 21, 22, 23, 24, 25, 26, 27, 28, 29, 30])
      (IC.cond (Opd.t 31)
      (IC.ops false
      [IOper.mk (some 32) (IOp.mv (Opd.t 5)) none, IOper.mk (some 33) (IOp.mv (Opd.t 1)) none,
      IOper.mk (some 34) (IOp.mv (Opd.t 6)) none,
      IOper.mk (some 35) (IOp.ixa 16 (Opd.t 33) (Opd.t 34)) none,
      IOper.mk (some 36) (IOp.faddr 2 (Opd.t 35)) none,
      IOper.mk (some 37) (IOp.faddr 4 (Opd.t 36)) none,
      IOper.mk (some 38) (IOp.load none (Opd.t 37)) none,
      IOper.mk (some 39) (IOp.len (Opd.t 38)) none,
      IOper.mk (some 40) (IOp.bin BinOp.add (Opd.t 32) (Opd.t 39)) none,
      IOper.mk (some 5) (IOp.mv (Opd.t 40)) none]
      [32, 33, 34, 35, 36, 37, 38, 39, 40])
      IC.nop)))
      (IC.ops false []
      [17, 18, 19, 20, 21, 22, 23, 24, 25, 26, 27, 28, 29, 30, 31, 32, 33, 34, 35, 36, 37, 38, 39,
      40]))
      (IC.ops false
      [IOper.mk (some 15) (IOp.mv (Opd.t 6)) none,
      IOper.mk (some 16) (IOp.bin BinOp.add (Opd.t 15) (Opd.c (AV.int IntKind.i64 1)))
      none,
      IOper.mk (some 6) (IOp.mv (Opd.t 16)) none]
      [15, 16])))
      (IC.ops false []
      [11, 12, 13, 14, 17, 18, 19, 20, 21, 22, 23, 24, 25, 26, 27, 28, 29, 30, 31, 32, 33, 34, 35, 36, 37,
      38, 39, 40, 15, 16]))))
      (IC.ops false []
      [11, 12, 13, 14, 17, 18, 19, 20, 21, 22, 23, 24, 25, 26, 27, 28, 29, 30, 31, 32, 33, 34, 35, 36, 37, 38,
      39, 40, 15, 16])))
      (IC.seq
      (IC.ops false
      [IOper.mk (some 42) (IOp.load (some 1) (Opd.t 2)) none,
      IOper.mk (some 43) (IOp.call (Opd.c (AV.func (Fn.func 52) [] [])) [Opd.t 42]) none,
      IOper.mk (some 41) (IOp.mv (Opd.t 43)) none, IOper.mk (some 44) (IOp.extr (Opd.t 41) 0) none,
      IOper.mk (some 45) (IOp.extr (Opd.t 41) 1) none, IOper.mk (some 7) (IOp.mv (Opd.t 44)) none,
      IOper.mk (some 8) (IOp.mv (Opd.t 45)) none]
      [42, 43, 41, 44, 45])
      (IC.seq
      (IC.seq (IC.ops false [IOper.mk (some 9) (IOp.mv (Opd.c (AV.int IntKind.i64 0))) none] [])
      (IC.seq
      (IC.block 2
      (IC.loop
      (IC.seq
      (IC.seq
      (IC.seq
      (IC.ops false
      [IOper.mk (some 46) (IOp.mv (Opd.t 8)) none, IOper.mk (some 47) (IOp.mv (Opd.t 46)) none,
      IOper.mk (some 48) (IOp.mv (Opd.t 9)) (some (47, true)),
      IOper.mk (some 49) (IOp.mv (Opd.t 7)) (some (47, true)),
      IOper.mk (some 50) (IOp.len (Opd.t 49)) (some (47, true)),
      IOper.mk (some 51) (IOp.bin BinOp.lss (Opd.t 48) (Opd.t 50)) (some (47, true)),
      IOper.mk (some 52) (IOp.pick (Opd.t 47) (Opd.t 51) (Opd.c (AV.bool false))) none]
      [46, 47, 48, 49, 50, 51])
      (IC.cond (Opd.t 52) IC.nop (IC.exit 2)))
      (IC.seq
      (IC.seq
      (IC.block 3
      (IC.seq
      (IC.ops true
      [IOper.mk (some 55) (IOp.faddr 0 (Opd.t 2)) none,
      IOper.mk (some 56) (IOp.load none (Opd.t 55)) none,
      IOper.mk (some 57) (IOp.mv (Opd.t 7)) none,
      IOper.mk (some 58) (IOp.mv (Opd.t 9)) none,
      IOper.mk (some 59) (IOp.ixa 5 (Opd.t 57) (Opd.t 58)) none,
      IOper.mk (some 60) (IOp.faddr 0 (Opd.t 59)) none,
      IOper.mk (some 61) (IOp.load none (Opd.t 60)) none,
      IOper.mk (some 62) (IOp.ixa 5 (Opd.t 56) (Opd.t 61)) none,
      IOper.mk (some 63) (IOp.load (some 5) (Opd.t 62)) none,
      IOper.mk (some 10)
      (IOp.alloc
      [AV.int IntKind.u8 0, AV.imm true 0 0 (some 0) [],
      AV.imm true 0 0 (some 0) [], AV.imm true 0 0 (some 0) [],
      AV.imm true 0 0 (some 0) []])
      none,
      IOper.mk none (IOp.store 5 (Opd.t 10) (Opd.t 63)) none]
      [55, 56, 57, 58, 59, 60, 61, 62, 63])
      (IC.ops true
      [IOper.mk (some 64) (IOp.mv (Opd.t 5)) none,
      IOper.mk (some 65)
      (IOp.bin BinOp.add (Opd.t 64) (Opd.c (AV.int IntKind.i64 1))) none,
      IOper.mk (some 66) (IOp.faddr 3 (Opd.t 10)) none,
      IOper.mk (some 67) (IOp.load none (Opd.t 66)) none,
      IOper.mk (some 68) (IOp.len (Opd.t 67)) none,
      IOper.mk (some 69) (IOp.bin BinOp.add (Opd.t 65) (Opd.t 68)) none,
      IOper.mk (some 70) (IOp.faddr 4 (Opd.t 10)) none,
      IOper.mk (some 71) (IOp.load none (Opd.t 70)) none,
      IOper.mk (some 72) (IOp.callp 53 [Opd.t 71]) none,
      IOper.mk (some 73) (IOp.len (Opd.t 72)) none,
      IOper.mk (some 74) (IOp.bin BinOp.add (Opd.t 69) (Opd.t 73)) none,
      IOper.mk (some 5) (IOp.mv (Opd.t 74)) none]
      [64, 65, 66, 67, 68, 69, 70, 71, 72, 73, 74])))
      (IC.ops false []
      [55, 56, 57, 58, 59, 60, 61, 62, 63, 10, 64, 65, 66, 67, 68, 69, 70, 71, 72, 73, 74]))
      (IC.ops false
      [IOper.mk (some 53) (IOp.mv (Opd.t 9)) none,
      IOper.mk (some 54)
      (IOp.bin BinOp.add (Opd.t 53) (Opd.c (AV.int IntKind.i64 1))) none,
      IOper.mk (some 9) (IOp.mv (Opd.t 54)) none]
      [53, 54])))
      (IC.ops false []
      [46, 47, 48, 49, 50, 51, 52, 55, 56, 57, 58, 59, 60, 61, 62, 63, 10, 64, 65, 66, 67, 68, 69, 70,
      71, 72, 73, 74, 53, 54]))))
      (IC.ops false []
      [46, 47, 48, 49, 50, 51, 52, 55, 56, 57, 58, 59, 60, 61, 62, 63, 10, 64, 65, 66, 67, 68, 69, 70, 71,
      72, 73, 74, 53, 54])))
      (IC.seq
      (IC.ops false [IOper.mk (some 75) (IOp.mv (Opd.t 5)) none, IOper.mk (some 4) (IOp.mv (Opd.t 75)) none]
      [75])
      IC.ret))))))
theorem fn_r32_Things : F 33 = some ir_r32_Things := by kernel_rfl

def ir_fair_Things : IFun :=
  IFun.mk false 2 [IRes.tmp 4]
  (IC.seq
    (IC.ops false
      [IOper.mk (some 2) (IOp.box 1 (Opd.t 0)) none,
      IOper.mk (some 4) (IOp.mv (Opd.c (AV.int IntKind.i64 0))) none]
      [])
    (IC.seq
      (IC.ops false
      [IOper.mk (some 5) (IOp.alloc [AV.int IntKind.i64 0]) none,
      IOper.mk none (IOp.store 1 (Opd.t 5) (Opd.c (AV.int IntKind.i64 0))) none]
      [])
      (IC.seq
      (IC.seq
      (IC.ops false
      [IOper.mk (some 9) (IOp.mv (Opd.t 1)) none, IOper.mk (some 10) (IOp.len (Opd.t 9)) none,
      IOper.mk (some 11) (IOp.mv (Opd.c (AV.int IntKind.i64 0))) none]
      [])
      (IC.seq
      (IC.block 0
      (IC.loop
      (IC.seq
      (IC.seq (IC.ops false [IOper.mk (some 12) (IOp.bin BinOp.lss (Opd.t 11) (Opd.t 10)) none] [])
      (IC.seq (IC.cond (Opd.t 12) IC.nop (IC.exit 0))
      (IC.seq
      (IC.seq
      (IC.block 1
      (IC.seq
      (IC.ops false
      [IOper.mk (some 13) (IOp.ixa 16 (Opd.t 9) (Opd.t 11)) none,
      IOper.mk (some 14) (IOp.load (some 16) (Opd.t 13)) none,
      IOper.mk (some 7)
      (IOp.alloc
      [AV.int IntKind.i64 0, AV.int IntKind.i64 0,
      AV.int IntKind.u8 0, AV.str [], AV.str [],
      AV.int IntKind.i64 0, AV.imm true 0 0 (some 0) [],
      AV.int IntKind.i64 0, AV.int IntKind.i64 0,
      AV.int IntKind.i64 0, AV.int IntKind.i64 0,
      AV.bool false, AV.str [], AV.imm true 0 0 (some 0) [],
      AV.int IntKind.i64 0, AV.bool false])
      none,
      IOper.mk none (IOp.store 16 (Opd.t 7) (Opd.t 14)) none]
      [13, 14])
      (IC.seq
      (IC.ops false
      [IOper.mk (some 15) (IOp.faddr 9 (Opd.t 7)) none,
      IOper.mk (some 16) (IOp.load none (Opd.t 15)) none,
      IOper.mk (some 17)
      (IOp.bin BinOp.eql (Opd.t 16) (Opd.c (AV.int IntKind.i64 0))) none,
      IOper.mk (some 18) (IOp.mv (Opd.t 17)) none,
      IOper.mk (some 19) (IOp.faddr 2 (Opd.t 7)) (some (18, true)),
      IOper.mk (some 20) (IOp.faddr 0 (Opd.t 19)) (some (18, true)),
      IOper.mk (some 21) (IOp.load none (Opd.t 20)) (some (18, true)),
      IOper.mk (some 22)
      (IOp.bin BinOp.eql (Opd.t 21) (Opd.c (AV.int IntKind.u8 2)))
      (some (18, true)),
      IOper.mk (some 23) (IOp.pick (Opd.t 18) (Opd.t 22) (Opd.c (AV.bool false))) none]
      [15, 16, 17, 18, 19, 20, 21, 22])
      (IC.cond (Opd.t 23)
      (IC.ops false
      [IOper.mk (some 24) (IOp.load none (Opd.t 5)) none,
      IOper.mk (some 25) (IOp.faddr 2 (Opd.t 7)) none,
      IOper.mk (some 26) (IOp.faddr 4 (Opd.t 25)) none,
      IOper.mk (some 27) (IOp.load none (Opd.t 26)) none,
      IOper.mk (some 28) (IOp.len (Opd.t 27)) none,
      IOper.mk (some 29) (IOp.bin BinOp.add (Opd.t 24) (Opd.t 28)) none,
      IOper.mk none (IOp.store 1 (Opd.t 5) (Opd.t 29)) none]
      [24, 25, 26, 27, 28, 29])
      IC.nop))))
      (IC.ops false [] [13, 14, 7, 15, 16, 17, 18, 19, 20, 21, 22, 23, 24, 25, 26, 27, 28, 29]))
      (IC.ops false
      [IOper.mk (some 30) (IOp.bin BinOp.add (Opd.t 11) (Opd.c (AV.int IntKind.i64 1)))
      none,
      IOper.mk (some 11) (IOp.mv (Opd.t 30)) none]
      [30]))))
      (IC.ops false [] [12, 13, 14, 7, 15, 16, 17, 18, 19, 20, 21, 22, 23, 24, 25, 26, 27, 28, 29, 30]))))
      (IC.ops false [] [12, 13, 14, 7, 15, 16, 17, 18, 19, 20, 21, 22, 23, 24, 25, 26, 27, 28, 29, 30])))
      (IC.seq
      (IC.seq
      (IC.ops false
      [IOper.mk (some 31) (IOp.load (some 1) (Opd.t 2)) none,
      IOper.mk (some 32) (IOp.call (Opd.c (AV.func (Fn.func 54) [] [])) [Opd.t 31]) none,
      IOper.mk (some 33) (IOp.not (Opd.t 32)) none]
      [31, 32])
      (IC.cond (Opd.t 33)
      (IC.seq
      (IC.ops false
      [IOper.mk (some 34) (IOp.load none (Opd.t 5)) none, IOper.mk (some 4) (IOp.mv (Opd.t 34)) none] [34])
      IC.ret)
      IC.nop))
      (IC.seq
      (IC.seq
      (IC.ops false
      [IOper.mk (some 35) (IOp.load (some 1) (Opd.t 2)) none,
      IOper.mk (some 36) (IOp.call (Opd.c (AV.func (Fn.func 55) [] [])) [Opd.t 35]) none]
      [35])
      (IC.seq
      (IC.block 2
      (IC.rangeF (Opd.t 36) [37, 38] (IC.ops false [IOper.mk (some 8) (IOp.mv (Opd.t 37)) none] [])
      (IC.seq
      (IC.block 3
      (IC.ops true
      [IOper.mk (some 39) (IOp.load none (Opd.t 5)) none,
      IOper.mk (some 40) (IOp.faddr 0 (Opd.t 2)) none,
      IOper.mk (some 41) (IOp.load none (Opd.t 40)) none,
      IOper.mk (some 42) (IOp.mv (Opd.t 8)) none,
      IOper.mk (some 43) (IOp.ixa 5 (Opd.t 41) (Opd.t 42)) none,
      IOper.mk (some 44) (IOp.faddr 3 (Opd.t 43)) none,
      IOper.mk (some 45) (IOp.load none (Opd.t 44)) none,
      IOper.mk (some 46) (IOp.len (Opd.t 45)) none,
      IOper.mk (some 47) (IOp.bin BinOp.add (Opd.c (AV.int IntKind.i64 1)) (Opd.t 46))
      none,
      IOper.mk (some 48) (IOp.faddr 0 (Opd.t 2)) none,
      IOper.mk (some 49) (IOp.load none (Opd.t 48)) none,
      IOper.mk (some 50) (IOp.mv (Opd.t 8)) none,
      IOper.mk (some 51) (IOp.ixa 5 (Opd.t 49) (Opd.t 50)) none,
      IOper.mk (some 52) (IOp.faddr 4 (Opd.t 51)) none,
      IOper.mk (some 53) (IOp.load none (Opd.t 52)) none,
      IOper.mk (some 54) (IOp.callp 56 [Opd.t 53]) none,
      IOper.mk (some 55) (IOp.bin BinOp.add (Opd.t 47) (Opd.t 54)) none,
      IOper.mk (some 56) (IOp.bin BinOp.add (Opd.t 39) (Opd.t 55)) none,
      IOper.mk none (IOp.store 1 (Opd.t 5) (Opd.t 56)) none]
      [39, 40, 41, 42, 43, 44, 45, 46, 47, 48, 49, 50, 51, 52, 53, 54, 55, 56]))
      (IC.ops false [] [39, 40, 41, 42, 43, 44, 45, 46, 47, 48, 49, 50, 51, 52, 53, 54, 55, 56]))))
      (IC.ops false [] [37, 38, 8, 39, 40, 41, 42, 43, 44, 45, 46, 47, 48, 49, 50, 51, 52, 53, 54, 55, 56])))
      (IC.seq
      (IC.ops false
      [IOper.mk (some 57) (IOp.load none (Opd.t 5)) none, IOper.mk (some 4) (IOp.mv (Opd.t 57)) none] [57])
      IC.ret))))))
theorem fn_fair_Things : F 34 = some ir_fair_Things := by kernel_rfl

def ir_fair_Bound : IFun :=
  IFun.mk false 5 [IRes.tmp 10]
  (IC.seq
    (IC.ops false
      [IOper.mk (some 5) (IOp.box 9 (Opd.t 0)) none, IOper.mk (some 6) (IOp.box 1 (Opd.t 1)) none,
      IOper.mk (some 10) (IOp.mv (Opd.c (AV.int IntKind.i64 0))) none]
      [])
    (IC.seq
      (IC.ops true
      [IOper.mk (some 11) (IOp.load (some 9) (Opd.t 5)) none, IOper.mk (some 12) (IOp.mv (Opd.t 3)) none,
      IOper.mk (some 13) (IOp.mv (Opd.t 4)) none, IOper.mk (some 14) (IOp.load (some 1) (Opd.t 6)) none,
      IOper.mk (some 15) (IOp.mv (Opd.t 2)) none, IOper.mk (some 16) (IOp.callp 34 [Opd.t 14, Opd.t 15]) none,
      IOper.mk (some 17) (IOp.call (Opd.c (AV.func (Fn.func 57) [] [])) [Opd.t 11, Opd.t 12, Opd.t 13, Opd.t 16])
      none,
      IOper.mk (some 10) (IOp.mv (Opd.t 17)) none]
      [11, 12, 13, 14, 15, 16, 17])
      IC.ret))
theorem fn_fair_Bound : F 35 = some ir_fair_Bound := by kernel_rfl

def ir_r21_Wait : IFun :=
  IFun.mk false 4 [IRes.tmp 8]
  (IC.seq
    (IC.ops false
      [IOper.mk (some 4) (IOp.box 9 (Opd.t 0)) none,
      IOper.mk (some 8) (IOp.mv (Opd.c (AV.int IntKind.i64 0))) none]
      [])
    (IC.seq
      (IC.ops false
      [IOper.mk (some 12) (IOp.mv (Opd.t 3)) none, IOper.mk (some 13) (IOp.mv (Opd.t 2)) none,
      IOper.mk (some 14) (IOp.callp 58 [Opd.t 12, Opd.t 13]) none,
      IOper.mk (some 15) (IOp.callp 58 [Opd.t 14, Opd.c (AV.int IntKind.i64 2)]) none,
      IOper.mk (some 9) (IOp.mv (Opd.t 15)) none]
      [12, 13, 14, 15])
      (IC.seq
      (IC.ops false
      [IOper.mk (some 16) (IOp.mv (Opd.t 9)) none, IOper.mk (some 17) (IOp.mv (Opd.t 9)) none,
      IOper.mk (some 18) (IOp.callp 59 [Opd.t 16, Opd.t 17]) none,
      IOper.mk (some 19) (IOp.callp 59 [Opd.c (AV.int IntKind.i64 64), Opd.t 18]) none,
      IOper.mk (some 10) (IOp.mv (Opd.t 19)) none]
      [16, 17, 18, 19])
      (IC.seq
      (IC.ops true
      [IOper.mk (some 20) (IOp.mv (Opd.t 2)) none,
      IOper.mk (some 21) (IOp.callp 59 [Opd.c (AV.int IntKind.i64 4), Opd.t 20]) none,
      IOper.mk (some 22) (IOp.faddr 7 (Opd.t 4)) none, IOper.mk (some 23) (IOp.load none (Opd.t 22)) none,
      IOper.mk (some 24) (IOp.callp 58 [Opd.t 23, Opd.c (AV.int IntKind.i64 2)]) none,
      IOper.mk (some 25) (IOp.mv (Opd.t 3)) none,
      IOper.mk (some 26) (IOp.callp 58 [Opd.t 25, Opd.c (AV.int IntKind.i64 4)]) none,
      IOper.mk (some 27) (IOp.callp 59 [Opd.t 24, Opd.t 26]) none,
      IOper.mk (some 28) (IOp.callp 59 [Opd.t 21, Opd.t 27]) none, IOper.mk (some 11) (IOp.mv (Opd.t 28)) none]
      [20, 21, 22, 23, 24, 25, 26, 27, 28])
      (IC.seq
      (IC.ops false
      [IOper.mk (some 29) (IOp.mv (Opd.t 1)) none, IOper.mk (some 30) (IOp.mv (Opd.t 10)) none,
      IOper.mk (some 31) (IOp.mv (Opd.t 11)) none,
      IOper.mk (some 32) (IOp.callp 58 [Opd.t 30, Opd.t 31]) none,
      IOper.mk (some 33) (IOp.callp 59 [Opd.t 29, Opd.t 32]) none, IOper.mk (some 8) (IOp.mv (Opd.t 33)) none]
      [29, 30, 31, 32, 33])
      IC.ret)))))
theorem fn_r21_Wait : F 36 = some ir_r21_Wait := by kernel_rfl

def ir_r15_All : IFun :=
  IFun.mk false 1 [IRes.tmp 2, IRes.tmp 3]
  (IC.seq
    (IC.ops false
      [IOper.mk (some 1) (IOp.box 1 (Opd.t 0)) none,
      IOper.mk (some 2) (IOp.mv (Opd.c (AV.imm true 0 0 (some 0) []))) none,
      IOper.mk (some 3) (IOp.mv (Opd.c (AV.bool false))) none]
      [])
    (IC.seq
      (IC.ops false
      [IOper.mk (some 4) (IOp.load (some 1) (Opd.t 1)) none,
      IOper.mk (some 5)
      (IOp.build
      [AV.int IntKind.i64 0, AV.str [], AV.str [], AV.int IntKind.i64 0,
      AV.int IntKind.i64 0]
      [(0, 1, Opd.c (AV.int IntKind.i64 1))])
      none,
      IOper.mk (some 6)
      (IOp.bsl false 5 0
      [AV.int IntKind.i64 0, AV.str [], AV.str [], AV.int IntKind.i64 0,
      AV.int IntKind.i64 0]
      [])
      none,
      IOper.mk (some 7) (IOp.call (Opd.c (AV.func (Fn.func 70) [] [])) [Opd.t 4, Opd.t 5, Opd.t 6]) none,
      IOper.mk (some 8) (IOp.extr (Opd.t 7) 0) none, IOper.mk (some 9) (IOp.extr (Opd.t 7) 1) none,
      IOper.mk (some 2) (IOp.mv (Opd.t 8)) none, IOper.mk (some 3) (IOp.mv (Opd.t 9)) none]
      [4, 5, 6, 7, 8, 9])
      IC.ret))
theorem fn_r15_All : F 52 = some ir_r15_All := by kernel_rfl

def ir_r11_Entries : IFun :=
  IFun.mk false 1 [IRes.tmp 2]
  (IC.seq (IC.ops false [IOper.mk (some 2) (IOp.mv (Opd.c (AV.imm true 0 0 (some 0) []))) none] [])
    (IC.seq
      (IC.ops false
      [IOper.mk (some 5) (IOp.bsl false 2 0 [AV.str [], AV.str []] []) none,
      IOper.mk (some 3) (IOp.mv (Opd.t 5)) none]
      [5])
      (IC.seq
      (IC.seq (IC.ops false [IOper.mk (some 4) (IOp.mv (Opd.c (AV.int IntKind.i64 0))) none] [])
      (IC.seq
      (IC.block 0
      (IC.loop
      (IC.seq
      (IC.seq
      (IC.seq
      (IC.ops false
      [IOper.mk (some 6) (IOp.mv (Opd.t 4)) none, IOper.mk (some 7) (IOp.mv (Opd.t 0)) none,
      IOper.mk (some 8) (IOp.len (Opd.t 7)) none,
      IOper.mk (some 9) (IOp.bin BinOp.lss (Opd.t 6) (Opd.t 8)) none]
      [6, 7, 8])
      (IC.cond (Opd.t 9) IC.nop (IC.exit 0)))
      (IC.seq
      (IC.seq
      (IC.block 1
      (IC.ops false
      [IOper.mk (some 12) (IOp.mv (Opd.t 3)) none, IOper.mk (some 13) (IOp.mv (Opd.t 0)) none,
      IOper.mk (some 14) (IOp.mv (Opd.t 4)) none,
      IOper.mk (some 15) (IOp.ixa 1 (Opd.t 13) (Opd.t 14)) none,
      IOper.mk (some 16) (IOp.load none (Opd.t 15)) none,
      IOper.mk (some 17) (IOp.append 2 32 (Opd.t 12) (Opd.t 16)) none,
      IOper.mk (some 3) (IOp.mv (Opd.t 17)) none]
      [12, 13, 14, 15, 16, 17]))
      (IC.ops false [] [12, 13, 14, 15, 16, 17]))
      (IC.ops false
      [IOper.mk (some 10) (IOp.mv (Opd.t 4)) none,
      IOper.mk (some 11) (IOp.bin BinOp.add (Opd.t 10) (Opd.c (AV.int IntKind.i64 1)))
      none,
      IOper.mk (some 4) (IOp.mv (Opd.t 11)) none]
      [10, 11])))
      (IC.ops false [] [6, 7, 8, 9, 12, 13, 14, 15, 16, 17, 10, 11]))))
      (IC.ops false [] [6, 7, 8, 9, 12, 13, 14, 15, 16, 17, 10, 11])))
      (IC.seq
      (IC.ops false [IOper.mk (some 18) (IOp.mv (Opd.t 3)) none, IOper.mk (some 2) (IOp.mv (Opd.t 18)) none] [18])
      IC.ret))))
theorem fn_r11_Entries : F 53 = some ir_r11_Entries := by kernel_rfl

def ir_tree_Sound : IFun :=
  IFun.mk false 1 [IRes.tmp 2]
  (IC.seq
    (IC.ops false
      [IOper.mk (some 1) (IOp.box 1 (Opd.t 0)) none, IOper.mk (some 2) (IOp.mv (Opd.c (AV.bool false))) none] [])
    (IC.seq
      (IC.ops false
      [IOper.mk (some 3) (IOp.load (some 1) (Opd.t 1)) none,
      IOper.mk (some 4)
      (IOp.call (Opd.c (AV.func (Fn.func 71) [] [])) [Opd.t 3, Opd.c (AV.func (Fn.func 72) [] [])]) none,
      IOper.mk (some 2) (IOp.mv (Opd.t 4)) none]
      [3, 4])
      IC.ret))
theorem fn_tree_Sound : F 54 = some ir_tree_Sound := by kernel_rfl

def ir_tree_All : IFun :=
  IFun.mk false 1 [IRes.tmp 2]
  (IC.seq
    (IC.ops false [IOper.mk (some 1) (IOp.box 1 (Opd.t 0)) none, IOper.mk (some 2) (IOp.mv (Opd.c AV.nilFunc)) none] [])
    (IC.seq
      (IC.ops false
      [IOper.mk (some 3) (IOp.mkfn (Fn.func 73) [] [Opd.t 1]) none, IOper.mk (some 2) (IOp.mv (Opd.t 3)) none] [3])
      IC.ret))
theorem fn_tree_All : F 55 = some ir_tree_All := by kernel_rfl

def ir_leaf_Count : IFun :=
  IFun.mk false 1 [IRes.tmp 2]
  (IC.seq (IC.ops false [IOper.mk (some 2) (IOp.mv (Opd.c (AV.int IntKind.i64 0))) none] [])
    (IC.seq (IC.ops false [IOper.mk (some 3) (IOp.mv (Opd.c (AV.int IntKind.i64 0))) none] [])
      (IC.seq
      (IC.seq
      (IC.ops false
      [IOper.mk (some 6) (IOp.mv (Opd.t 0)) none, IOper.mk (some 7) (IOp.len (Opd.t 6)) none,
      IOper.mk (some 8) (IOp.mv (Opd.c (AV.int IntKind.i64 0))) none]
      [])
      (IC.seq
      (IC.block 0
      (IC.loop
      (IC.seq
      (IC.seq (IC.ops false [IOper.mk (some 9) (IOp.bin BinOp.lss (Opd.t 8) (Opd.t 7)) none] [])
      (IC.seq (IC.cond (Opd.t 9) IC.nop (IC.exit 0))
      (IC.seq
      (IC.seq
      (IC.block 1
      (IC.seq
      (IC.ops false
      [IOper.mk (some 10) (IOp.ixa 1 (Opd.t 6) (Opd.t 8)) none,
      IOper.mk (some 11) (IOp.load none (Opd.t 10)) none,
      IOper.mk (some 5) (IOp.mv (Opd.t 11)) none]
      [10, 11])
      (IC.ops false
      [IOper.mk (some 12) (IOp.mv (Opd.t 3)) none, IOper.mk (some 13) (IOp.mv (Opd.t 5)) none,
      IOper.mk (some 14) (IOp.len (Opd.t 13)) none,
      IOper.mk (some 15) (IOp.bin BinOp.add (Opd.t 12) (Opd.t 14)) none,
      IOper.mk (some 3) (IOp.mv (Opd.t 15)) none]
      [12, 13, 14, 15])))
      (IC.ops false [] [10, 11, 5, 12, 13, 14, 15]))
      (IC.ops false
      [IOper.mk (some 16) (IOp.bin BinOp.add (Opd.t 8) (Opd.c (AV.int IntKind.i64 1)))
      none,
      IOper.mk (some 8) (IOp.mv (Opd.t 16)) none]
      [16]))))
      (IC.ops false [] [9, 10, 11, 5, 12, 13, 14, 15, 16]))))
      (IC.ops false [] [9, 10, 11, 5, 12, 13, 14, 15, 16])))
      (IC.seq
      (IC.ops false [IOper.mk (some 17) (IOp.mv (Opd.t 3)) none, IOper.mk (some 2) (IOp.mv (Opd.t 17)) none] [17])
      IC.ret))))
theorem fn_leaf_Count : F 56 = some ir_leaf_Count := by kernel_rfl

def ir_room_Wait : IFun :=
  IFun.mk false 4 [IRes.tmp 8]
  (IC.seq
    (IC.ops false
      [IOper.mk (some 4) (IOp.box 9 (Opd.t 0)) none,
      IOper.mk (some 8) (IOp.mv (Opd.c (AV.int IntKind.i64 0))) none]
      [])
    (IC.seq
      (IC.ops false
      [IOper.mk (some 10) (IOp.mv (Opd.t 3)) none, IOper.mk (some 11) (IOp.mv (Opd.t 2)) none,
      IOper.mk (some 12)
      (IOp.bsl false 1 3 [AV.int IntKind.i64 0]
      [(0, 1, Opd.t 10), (1, 1, Opd.t 11), (2, 1, Opd.c (AV.int IntKind.i64 2))])
      none,
      IOper.mk (some 13) (IOp.callp 75 [Opd.t 12]) none, IOper.mk (some 9) (IOp.mv (Opd.t 13)) none]
      [10, 11, 12, 13])
      (IC.seq
      (IC.ops true
      [IOper.mk (some 14) (IOp.mv (Opd.t 1)) none, IOper.mk (some 15) (IOp.mv (Opd.t 9)) none,
      IOper.mk (some 16) (IOp.mv (Opd.t 9)) none,
      IOper.mk (some 17)
      (IOp.bsl false 1 3 [AV.int IntKind.i64 0]
      [(0, 1, Opd.c (AV.int IntKind.i64 64)), (1, 1, Opd.t 15), (2, 1, Opd.t 16)])
      none,
      IOper.mk (some 18) (IOp.callp 76 [Opd.t 17]) none, IOper.mk (some 19) (IOp.mv (Opd.t 2)) none,
      IOper.mk (some 20) (IOp.faddr 7 (Opd.t 4)) none, IOper.mk (some 21) (IOp.load none (Opd.t 20)) none,
      IOper.mk (some 22)
      (IOp.bsl false 1 2 [AV.int IntKind.i64 0]
      [(0, 1, Opd.t 21), (1, 1, Opd.c (AV.int IntKind.i64 2))])
      none,
      IOper.mk (some 23) (IOp.callp 75 [Opd.t 22]) none, IOper.mk (some 24) (IOp.mv (Opd.t 3)) none,
      IOper.mk (some 25)
      (IOp.bsl false 1 2 [AV.int IntKind.i64 0]
      [(0, 1, Opd.t 24), (1, 1, Opd.c (AV.int IntKind.i64 4))])
      none,
      IOper.mk (some 26) (IOp.callp 75 [Opd.t 25]) none,
      IOper.mk (some 27)
      (IOp.bsl false 1 4 [AV.int IntKind.i64 0]
      [(0, 1, Opd.c (AV.int IntKind.i64 4)), (1, 1, Opd.t 19), (2, 1, Opd.t 23),
      (3, 1, Opd.t 26)])
      none,
      IOper.mk (some 28) (IOp.callp 76 [Opd.t 27]) none,
      IOper.mk (some 29)
      (IOp.bsl false 1 2 [AV.int IntKind.i64 0] [(0, 1, Opd.t 18), (1, 1, Opd.t 28)]) none,
      IOper.mk (some 30) (IOp.callp 75 [Opd.t 29]) none,
      IOper.mk (some 31)
      (IOp.bsl false 1 2 [AV.int IntKind.i64 0] [(0, 1, Opd.t 14), (1, 1, Opd.t 30)]) none,
      IOper.mk (some 32) (IOp.callp 76 [Opd.t 31]) none, IOper.mk (some 8) (IOp.mv (Opd.t 32)) none]
      [14, 15, 16, 17, 18, 19, 20, 21, 22, 23, 24, 25, 26, 27, 28, 29, 30, 31, 32])
      IC.ret)))
theorem fn_room_Wait : F 57 = some ir_room_Wait := by kernel_rfl

def ir_r21_plus : IFun :=
  IFun.mk false 2 [IRes.tmp 4]
  (IC.seq (IC.ops false [IOper.mk (some 4) (IOp.mv (Opd.c (AV.int IntKind.i64 0))) none] [])
    (IC.seq
      (IC.ops false
      [IOper.mk (some 5) (IOp.mv (Opd.t 0)) none, IOper.mk (some 6) (IOp.callp 77 [Opd.t 5]) none,
      IOper.mk (some 7) (IOp.mv (Opd.t 1)) none, IOper.mk (some 8) (IOp.callp 77 [Opd.t 7]) none,
      IOper.mk (some 9) (IOp.bin BinOp.add (Opd.t 6) (Opd.t 8)) none,
      IOper.mk (some 10) (IOp.callp 77 [Opd.t 9]) none, IOper.mk (some 4) (IOp.mv (Opd.t 10)) none]
      [5, 6, 7, 8, 9, 10])
      IC.ret))
theorem fn_r21_plus : F 58 = some ir_r21_plus := by kernel_rfl

def ir_r21_times : IFun :=
  IFun.mk false 2 [IRes.tmp 4]
  (IC.seq (IC.ops false [IOper.mk (some 4) (IOp.mv (Opd.c (AV.int IntKind.i64 0))) none] [])
    (IC.seq
      (IC.ops false
      [IOper.mk (some 5) (IOp.mv (Opd.t 0)) none, IOper.mk (some 6) (IOp.callp 77 [Opd.t 5]) none,
      IOper.mk (some 7) (IOp.mv (Opd.t 1)) none, IOper.mk (some 8) (IOp.callp 77 [Opd.t 7]) none,
      IOper.mk (some 9) (IOp.bin BinOp.mul (Opd.t 6) (Opd.t 8)) none,
      IOper.mk (some 10) (IOp.callp 77 [Opd.t 9]) none, IOper.mk (some 4) (IOp.mv (Opd.t 10)) none]
      [5, 6, 7, 8, 9, 10])
      IC.ret))
theorem fn_r21_times : F 59 = some ir_r21_times := by kernel_rfl

def ir_r15_below : IFun :=
  IFun.mk true 3 [IRes.tmp 6, IRes.tmp 7]
  (IC.seq
    (IC.ops false
      [IOper.mk (some 3) (IOp.box 1 (Opd.t 0)) none, IOper.mk (some 4) (IOp.box 5 (Opd.t 1)) none,
      IOper.mk (some 6) (IOp.mv (Opd.c (AV.imm true 0 0 (some 0) []))) none,
      IOper.mk (some 7) (IOp.mv (Opd.c (AV.bool false))) none]
      [])
    (IC.seq
      (IC.seq
      (IC.ops false
      [IOper.mk (some 14) (IOp.faddr 0 (Opd.t 4)) none, IOper.mk (some 15) (IOp.load none (Opd.t 14)) none,
      IOper.mk (some 16) (IOp.bin BinOp.lss (Opd.t 15) (Opd.c (AV.int IntKind.i64 1))) none,
      IOper.mk (some 17) (IOp.mv (Opd.t 16)) none, IOper.mk (some 18) (IOp.faddr 0 (Opd.t 4)) (some (17, false)),
      IOper.mk (some 19) (IOp.load none (Opd.t 18)) (some (17, false)),
      IOper.mk (some 20) (IOp.faddr 0 (Opd.t 3)) (some (17, false)),
      IOper.mk (some 21) (IOp.load none (Opd.t 20)) (some (17, false)),
      IOper.mk (some 22) (IOp.len (Opd.t 21)) (some (17, false)),
      IOper.mk (some 23) (IOp.bin BinOp.geq (Opd.t 19) (Opd.t 22)) (some (17, false)),
      IOper.mk (some 24) (IOp.pick (Opd.t 17) (Opd.c (AV.bool true)) (Opd.t 23)) none]
      [14, 15, 16, 17, 18, 19, 20, 21, 22, 23])
      (IC.cond (Opd.t 24)
      (IC.seq
      (IC.ops false
      [IOper.mk (some 25) (IOp.mv (Opd.t 2)) none, IOper.mk (some 6) (IOp.mv (Opd.t 25)) none,
      IOper.mk (some 7) (IOp.mv (Opd.c (AV.bool false))) none]
      [25])
      IC.ret)
      IC.nop))
      (IC.seq
      (IC.seq (IC.ops false [IOper.mk (some 8) (IOp.mv (Opd.c (AV.int IntKind.i64 0))) none] [])
      (IC.seq
      (IC.block 0
      (IC.loop
      (IC.seq
      (IC.seq
      (IC.seq
      (IC.ops false
      [IOper.mk (some 26) (IOp.mv (Opd.t 8)) none, IOper.mk (some 27) (IOp.mv (Opd.t 2)) none,
      IOper.mk (some 28) (IOp.len (Opd.t 27)) none,
      IOper.mk (some 29) (IOp.bin BinOp.lss (Opd.t 26) (Opd.t 28)) none]
      [26, 27, 28])
      (IC.cond (Opd.t 29) IC.nop (IC.exit 0)))
      (IC.seq
      (IC.seq
      (IC.block 1
      (IC.seq
      (IC.ops true
      [IOper.mk (some 32) (IOp.mv (Opd.t 2)) none, IOper.mk (some 33) (IOp.mv (Opd.t 8)) none,
      IOper.mk (some 34) (IOp.ixa 5 (Opd.t 32) (Opd.t 33)) none,
      IOper.mk (some 35) (IOp.faddr 0 (Opd.t 34)) none,
      IOper.mk (some 36) (IOp.load none (Opd.t 35)) none,
      IOper.mk (some 37) (IOp.faddr 0 (Opd.t 4)) none,
      IOper.mk (some 38) (IOp.load none (Opd.t 37)) none,
      IOper.mk (some 39) (IOp.bin BinOp.eql (Opd.t 36) (Opd.t 38)) none]
      [32, 33, 34, 35, 36, 37, 38])
      (IC.cond (Opd.t 39)
      (IC.seq
      (IC.ops false
      [IOper.mk (some 40) (IOp.mv (Opd.t 2)) none,
      IOper.mk (some 6) (IOp.mv (Opd.t 40)) none,
      IOper.mk (some 7) (IOp.mv (Opd.c (AV.bool false))) none]
      [40])
      IC.ret)
      IC.nop)))
      (IC.ops false [] [32, 33, 34, 35, 36, 37, 38, 39, 40]))
      (IC.ops false
      [IOper.mk (some 30) (IOp.mv (Opd.t 8)) none,
      IOper.mk (some 31) (IOp.bin BinOp.add (Opd.t 30) (Opd.c (AV.int IntKind.i64 1)))
      none,
      IOper.mk (some 8) (IOp.mv (Opd.t 31)) none]
      [30, 31])))
      (IC.ops false [] [26, 27, 28, 29, 32, 33, 34, 35, 36, 37, 38, 39, 40, 30, 31]))))
      (IC.ops false [] [26, 27, 28, 29, 32, 33, 34, 35, 36, 37, 38, 39, 40, 30, 31])))
      (IC.seq
      (IC.ops false
      [IOper.mk (some 41) (IOp.faddr 0 (Opd.t 3)) none, IOper.mk (some 42) (IOp.load none (Opd.t 41)) none,
      IOper.mk (some 43) (IOp.faddr 0 (Opd.t 4)) none, IOper.mk (some 44) (IOp.load none (Opd.t 43)) none,
      IOper.mk (some 45) (IOp.ixa 5 (Opd.t 42) (Opd.t 44)) none,
      IOper.mk (some 46) (IOp.load (some 5) (Opd.t 45)) none,
      IOper.mk (some 9)
      (IOp.alloc
      [AV.int IntKind.u8 0, AV.imm true 0 0 (some 0) [], AV.imm true 0 0 (some 0) [],
      AV.imm true 0 0 (some 0) [], AV.imm true 0 0 (some 0) []])
      none,
      IOper.mk none (IOp.store 5 (Opd.t 9) (Opd.t 46)) none]
      [41, 42, 43, 44, 45, 46])
      (IC.seq
      (IC.ops false
      [IOper.mk (some 47) (IOp.mv (Opd.t 2)) none, IOper.mk (some 48) (IOp.load (some 5) (Opd.t 4)) none,
      IOper.mk (some 49)
      (IOp.bsl false 5 1
      [AV.int IntKind.i64 0, AV.str [], AV.str [], AV.int IntKind.i64 0,
      AV.int IntKind.i64 0]
      [(0, 5, Opd.t 48)])
      none,
      IOper.mk (some 50) (IOp.append 5 56 (Opd.t 47) (Opd.t 49)) none,
      IOper.mk (some 2) (IOp.mv (Opd.t 50)) none]
      [47, 48, 49, 50])
      (IC.seq
      (IC.seq
      (IC.ops false
      [IOper.mk (some 51) (IOp.faddr 0 (Opd.t 9)) none, IOper.mk (some 52) (IOp.load none (Opd.t 51)) none,
      IOper.mk (some 53) (IOp.bin BinOp.eql (Opd.t 52) (Opd.c (AV.int IntKind.u8 1))) none,
      IOper.mk (some 54) (IOp.mv (Opd.t 53)) none,
      IOper.mk (some 55) (IOp.faddr 3 (Opd.t 4)) (some (54, true)),
      IOper.mk (some 56) (IOp.load none (Opd.t 55)) (some (54, true)),
      IOper.mk (some 57) (IOp.bin BinOp.gtr (Opd.t 56) (Opd.c (AV.int IntKind.i64 0)))
      (some (54, true)),
      IOper.mk (some 58) (IOp.pick (Opd.t 54) (Opd.t 57) (Opd.c (AV.bool false))) none]
      [51, 52, 53, 54, 55, 56, 57])
      (IC.cond (Opd.t 58)
      (IC.seq
      (IC.ops false
      [IOper.mk (some 59) (IOp.mv (Opd.t 2)) none, IOper.mk (some 6) (IOp.mv (Opd.t 59)) none,
      IOper.mk (some 7) (IOp.mv (Opd.c (AV.bool true))) none]
      [59])
      IC.ret)
      IC.nop))
      (IC.seq
      (IC.seq
      (IC.ops false
      [IOper.mk (some 60) (IOp.faddr 0 (Opd.t 9)) none,
      IOper.mk (some 61) (IOp.load none (Opd.t 60)) none,
      IOper.mk (some 62) (IOp.bin BinOp.neq (Opd.t 61) (Opd.c (AV.int IntKind.u8 2))) none,
      IOper.mk (some 63) (IOp.mv (Opd.t 62)) none,
      IOper.mk (some 64) (IOp.faddr 2 (Opd.t 9)) (some (63, false)),
      IOper.mk (some 65) (IOp.load none (Opd.t 64)) (some (63, false)),
      IOper.mk (some 66) (IOp.len (Opd.t 65)) (some (63, false)),
      IOper.mk (some 67) (IOp.faddr 1 (Opd.t 9)) (some (63, false)),
      IOper.mk (some 68) (IOp.load none (Opd.t 67)) (some (63, false)),
      IOper.mk (some 69) (IOp.len (Opd.t 68)) (some (63, false)),
      IOper.mk (some 70) (IOp.bin BinOp.add (Opd.t 69) (Opd.c (AV.int IntKind.i64 1)))
      (some (63, false)),
      IOper.mk (some 71) (IOp.bin BinOp.neq (Opd.t 66) (Opd.t 70)) (some (63, false)),
      IOper.mk (some 72) (IOp.pick (Opd.t 63) (Opd.c (AV.bool true)) (Opd.t 71)) none,
      IOper.mk (some 73) (IOp.mv (Opd.t 72)) none,
      IOper.mk (some 74) (IOp.faddr 1 (Opd.t 9)) (some (73, false)),
      IOper.mk (some 75) (IOp.load none (Opd.t 74)) (some (73, false)),
      IOper.mk (some 76) (IOp.faddr 1 (Opd.t 4)) (some (73, false)),
      IOper.mk (some 77) (IOp.load (some 2) (Opd.t 76)) (some (73, false)),
      IOper.mk (some 78) (IOp.call (Opd.c (AV.func (Fn.func 85) [] [])) [Opd.t 75, Opd.t 77])
      (some (73, false)),
      IOper.mk (some 79) (IOp.not (Opd.t 78)) (some (73, false)),
      IOper.mk (some 80) (IOp.pick (Opd.t 73) (Opd.c (AV.bool true)) (Opd.t 79)) none]
      [60, 61, 62, 63, 64, 65, 66, 67, 68, 69, 70, 71, 72, 73, 74, 75, 76, 77, 78, 79])
      (IC.cond (Opd.t 80)
      (IC.seq
      (IC.ops false
      [IOper.mk (some 81) (IOp.mv (Opd.t 2)) none, IOper.mk (some 6) (IOp.mv (Opd.t 81)) none,
      IOper.mk (some 7) (IOp.mv (Opd.c (AV.bool false))) none]
      [81])
      IC.ret)
      IC.nop))
      (IC.seq
      (IC.ops false
      [IOper.mk (some 82) (IOp.faddr 1 (Opd.t 9)) none,
      IOper.mk (some 83) (IOp.load none (Opd.t 82)) none,
      IOper.mk (some 84) (IOp.faddr 1 (Opd.t 4)) none,
      IOper.mk (some 85) (IOp.load (some 2) (Opd.t 84)) none,
      IOper.mk (some 86) (IOp.call (Opd.c (AV.func (Fn.func 86) [] [])) [Opd.t 83, Opd.t 85]) none,
      IOper.mk (some 10) (IOp.mv (Opd.t 86)) none]
      [82, 83, 84, 85, 86])
      (IC.seq
      (IC.seq
      (IC.ops false [IOper.mk (some 11) (IOp.mv (Opd.c (AV.int IntKind.i64 0))) none] [])
      (IC.seq
      (IC.block 2
      (IC.loop
      (IC.seq
      (IC.seq
      (IC.seq
      (IC.ops false
      [IOper.mk (some 87) (IOp.mv (Opd.t 11)) none,
      IOper.mk (some 88) (IOp.faddr 2 (Opd.t 9)) none,
      IOper.mk (some 89) (IOp.load none (Opd.t 88)) none,
      IOper.mk (some 90) (IOp.len (Opd.t 89)) none,
      IOper.mk (some 91) (IOp.bin BinOp.lss (Opd.t 87) (Opd.t 90)) none]
      [87, 88, 89, 90])
      (IC.cond (Opd.t 91) IC.nop (IC.exit 2)))
      (IC.seq
      (IC.seq
      (IC.block 3
      (IC.seq
      (IC.ops true
      [IOper.mk (some 95) (IOp.load (some 1) (Opd.t 3)) none,
      IOper.mk (some 96) (IOp.faddr 2 (Opd.t 9)) none,
      IOper.mk (some 97) (IOp.load none (Opd.t 96)) none,
      IOper.mk (some 98) (IOp.mv (Opd.t 11)) none,
      IOper.mk (some 99) (IOp.ixa 1 (Opd.t 97) (Opd.t 98)) none,
      IOper.mk (some 100) (IOp.load none (Opd.t 99)) none,
      IOper.mk (some 101) (IOp.mv (Opd.t 10)) none,
      IOper.mk (some 102) (IOp.mv (Opd.t 11)) none,
      IOper.mk (some 103) (IOp.ixa 2 (Opd.t 101) (Opd.t 102)) none,
      IOper.mk (some 104) (IOp.load (some 2) (Opd.t 103)) none,
      IOper.mk (some 105) (IOp.faddr 0 (Opd.t 4)) none,
      IOper.mk (some 106) (IOp.load none (Opd.t 105)) none,
      IOper.mk (some 107) (IOp.mv (Opd.t 11)) none,
      IOper.mk (some 108)
      (IOp.build
      [AV.int IntKind.i64 0, AV.str [], AV.str [],
      AV.int IntKind.i64 0, AV.int IntKind.i64 0]
      [(0, 1, Opd.t 100), (1, 2, Opd.t 104), (3, 1, Opd.t 106),
      (4, 1, Opd.t 107)])
      none,
      IOper.mk (some 109) (IOp.mv (Opd.t 2)) none,
      IOper.mk (some 110)
      (IOp.call (Opd.c (AV.func (Fn.func 70) [] []))
      [Opd.t 95, Opd.t 108, Opd.t 109])
      none,
      IOper.mk (some 94) (IOp.mv (Opd.t 110)) none,
      IOper.mk (some 111) (IOp.extr (Opd.t 94) 0) none,
      IOper.mk (some 112) (IOp.extr (Opd.t 94) 1) none,
      IOper.mk (some 12) (IOp.mv (Opd.t 111)) none,
      IOper.mk (some 13) (IOp.mv (Opd.t 112)) none]
      [95, 96, 97, 98, 99, 100, 101, 102, 103, 104, 105, 106, 107, 108, 109, 110,
      94, 111, 112])
      (IC.seq
      (IC.seq
      (IC.ops false
      [IOper.mk (some 113) (IOp.mv (Opd.t 13)) none,
      IOper.mk (some 114) (IOp.not (Opd.t 113)) none]
      [113])
      (IC.cond (Opd.t 114)
      (IC.seq
      (IC.ops false
      [IOper.mk (some 115) (IOp.mv (Opd.t 12)) none,
      IOper.mk (some 6) (IOp.mv (Opd.t 115)) none,
      IOper.mk (some 7) (IOp.mv (Opd.c (AV.bool false))) none]
      [115])
      IC.ret)
      IC.nop))
      (IC.ops false
      [IOper.mk (some 116) (IOp.mv (Opd.t 12)) none,
      IOper.mk (some 2) (IOp.mv (Opd.t 116)) none]
      [116]))))
      (IC.ops false []
      [95, 96, 97, 98, 99, 100, 101, 102, 103, 104, 105, 106, 107, 108, 109, 110, 94,
      111, 112, 12, 13, 113, 114, 115, 116]))
      (IC.ops false
      [IOper.mk (some 92) (IOp.mv (Opd.t 11)) none,
      IOper.mk (some 93)
      (IOp.bin BinOp.add (Opd.t 92) (Opd.c (AV.int IntKind.i64 1))) none,
      IOper.mk (some 11) (IOp.mv (Opd.t 93)) none]
      [92, 93])))
      (IC.ops false []
      [87, 88, 89, 90, 91, 95, 96, 97, 98, 99, 100, 101, 102, 103, 104, 105, 106, 107, 108,
      109, 110, 94, 111, 112, 12, 13, 113, 114, 115, 116, 92, 93]))))
      (IC.ops false []
      [87, 88, 89, 90, 91, 95, 96, 97, 98, 99, 100, 101, 102, 103, 104, 105, 106, 107, 108, 109,
      110, 94, 111, 112, 12, 13, 113, 114, 115, 116, 92, 93])))
      (IC.seq
      (IC.ops false
      [IOper.mk (some 117) (IOp.mv (Opd.t 2)) none, IOper.mk (some 6) (IOp.mv (Opd.t 117)) none,
      IOper.mk (some 7) (IOp.mv (Opd.c (AV.bool true))) none]
      [117])
      IC.ret))))))))))
theorem fn_r15_below : F 70 = some ir_r15_below := by kernel_rfl

def ir_tree_each : IFun :=
  IFun.mk false 2 [IRes.tmp 4]
  (IC.seq
    (IC.ops false
      [IOper.mk (some 2) (IOp.box 1 (Opd.t 0)) none, IOper.mk (some 4) (IOp.mv (Opd.c (AV.bool false))) none] [])
    (IC.seq
      (IC.ops false
      [IOper.mk (some 6) (IOp.load (some 1) (Opd.t 2)) none, IOper.mk (some 7) IOp.mkmap none,
      IOper.mk (some 8) (IOp.mv (Opd.t 1)) none,
      IOper.mk (some 9)
      (IOp.build [AV.imm true 0 0 (some 0) [], AV.nilmap, AV.bool false, AV.nilFunc]
      [(0, 1, Opd.t 6), (1, 1, Opd.t 7), (3, 1, Opd.t 8)])
      none,
      IOper.mk (some 10) (IOp.box 4 (Opd.t 9)) none, IOper.mk (some 5) (IOp.mv (Opd.t 10)) none]
      [6, 7, 8, 9, 10])
      (IC.seq
      (IC.ops false
      [IOper.mk (some 11) (IOp.mv (Opd.t 5)) none, IOper.mk (some 12) (IOp.build [AV.str [], AV.str []] []) none,
      IOper.mk (some 13)
      (IOp.call (Opd.c (AV.func (Fn.func 87) [] []))
      [Opd.t 11, Opd.c (AV.int IntKind.i64 1), Opd.t 12, Opd.c (AV.imm true 0 0 (some 0) [])])
      none]
      [11, 12, 13])
      (IC.seq
      (IC.ops false
      [IOper.mk (some 14) (IOp.mv (Opd.t 5)) none, IOper.mk (some 15) (IOp.nilck (Opd.t 14)) none,
      IOper.mk (some 16) (IOp.faddr 2 (Opd.t 15)) none, IOper.mk (some 17) (IOp.load none (Opd.t 16)) none,
      IOper.mk (some 18) (IOp.not (Opd.t 17)) none, IOper.mk (some 4) (IOp.mv (Opd.t 18)) none]
      [14, 15, 16, 17, 18])
      IC.ret))))
theorem fn_tree_each : F 71 = some ir_tree_each := by kernel_rfl

def ir_tree_Sound_1 : IFun :=
  IFun.mk false 3 [IRes.tmp 6]
  (IC.seq
    (IC.ops false
      [IOper.mk (some 4) (IOp.box 2 (Opd.t 1)) none, IOper.mk (some 6) (IOp.mv (Opd.c (AV.bool false))) none] [4])
    (IC.seq (IC.ops false [IOper.mk (some 6) (IOp.mv (Opd.c (AV.bool true))) none] []) IC.ret))
theorem fn_tree_Sound_1 : F 72 = some ir_tree_Sound_1 := by kernel_rfl

def ir_tree_All_1 : IFun :=
  IFun.mk false 2 []
  (IC.seq (IC.ops false [IOper.mk (some 2) (IOp.box 1 (Opd.t 0)) none] [])
    (IC.ops false
      [IOper.mk (some 3) (IOp.load (some 1) (Opd.t 1)) none,
      IOper.mk (some 4) (IOp.mkfn (Fn.func 74) [] [Opd.t 2]) none,
      IOper.mk (some 5) (IOp.call (Opd.c (AV.func (Fn.func 71) [] [])) [Opd.t 3, Opd.t 4]) none]
      [3, 4, 5]))
theorem fn_tree_All_1 : F 73 = some ir_tree_All_1 := by kernel_rfl

def ir_tree_All_1_1 : IFun :=
  IFun.mk false 4 [IRes.tmp 7]
  (IC.seq
    (IC.ops false
      [IOper.mk (some 5) (IOp.box 2 (Opd.t 1)) none, IOper.mk (some 7) (IOp.mv (Opd.c (AV.bool false))) none] [])
    (IC.seq
      (IC.ops false
      [IOper.mk (some 8) (IOp.load none (Opd.t 3)) none, IOper.mk (some 9) (IOp.mv (Opd.t 0)) none,
      IOper.mk (some 10) (IOp.load (some 2) (Opd.t 5)) none,
      IOper.mk (some 11) (IOp.call (Opd.t 8) [Opd.t 9, Opd.t 10]) none, IOper.mk (some 7) (IOp.mv (Opd.t 11)) none]
      [8, 9, 10, 11])
      IC.ret))
theorem fn_tree_All_1_1 : F 74 = some ir_tree_All_1_1 := by kernel_rfl

def ir_room_sum : IFun :=
  IFun.mk false 1 [IRes.tmp 2]
  (IC.seq (IC.ops false [IOper.mk (some 2) (IOp.mv (Opd.c (AV.int IntKind.i64 0))) none] [])
    (IC.seq (IC.ops false [IOper.mk (some 3) (IOp.mv (Opd.c (AV.int IntKind.i64 0))) none] [])
      (IC.seq
      (IC.seq
      (IC.ops false
      [IOper.mk (some 6) (IOp.mv (Opd.t 0)) none, IOper.mk (some 7) (IOp.len (Opd.t 6)) none,
      IOper.mk (some 8) (IOp.mv (Opd.c (AV.int IntKind.i64 0))) none]
      [])
      (IC.seq
      (IC.block 0
      (IC.loop
      (IC.seq
      (IC.seq (IC.ops false [IOper.mk (some 9) (IOp.bin BinOp.lss (Opd.t 8) (Opd.t 7)) none] [])
      (IC.seq (IC.cond (Opd.t 9) IC.nop (IC.exit 0))
      (IC.seq
      (IC.seq
      (IC.block 1
      (IC.seq
      (IC.ops false
      [IOper.mk (some 10) (IOp.ixa 1 (Opd.t 6) (Opd.t 8)) none,
      IOper.mk (some 11) (IOp.load none (Opd.t 10)) none,
      IOper.mk (some 5) (IOp.mv (Opd.t 11)) none]
      [10, 11])
      (IC.ops false
      [IOper.mk (some 12) (IOp.mv (Opd.t 3)) none, IOper.mk (some 13) (IOp.mv (Opd.t 5)) none,
      IOper.mk (some 14) (IOp.callp 88 [Opd.t 13]) none,
      IOper.mk (some 15) (IOp.bin BinOp.add (Opd.t 12) (Opd.t 14)) none,
      IOper.mk (some 16) (IOp.callp 88 [Opd.t 15]) none,
      IOper.mk (some 3) (IOp.mv (Opd.t 16)) none]
      [12, 13, 14, 15, 16])))
      (IC.ops false [] [10, 11, 5, 12, 13, 14, 15, 16]))
      (IC.ops false
      [IOper.mk (some 17) (IOp.bin BinOp.add (Opd.t 8) (Opd.c (AV.int IntKind.i64 1)))
      none,
      IOper.mk (some 8) (IOp.mv (Opd.t 17)) none]
      [17]))))
      (IC.ops false [] [9, 10, 11, 5, 12, 13, 14, 15, 16, 17]))))
      (IC.ops false [] [9, 10, 11, 5, 12, 13, 14, 15, 16, 17])))
      (IC.seq
      (IC.ops false [IOper.mk (some 18) (IOp.mv (Opd.t 3)) none, IOper.mk (some 2) (IOp.mv (Opd.t 18)) none] [18])
      IC.ret))))
theorem fn_room_sum : F 75 = some ir_room_sum := by kernel_rfl

def ir_room_product : IFun :=
  IFun.mk false 1 [IRes.tmp 2]
  (IC.seq (IC.ops false [IOper.mk (some 2) (IOp.mv (Opd.c (AV.int IntKind.i64 0))) none] [])
    (IC.seq (IC.ops false [IOper.mk (some 3) (IOp.mv (Opd.c (AV.int IntKind.i64 1))) none] [])
      (IC.seq
      (IC.seq
      (IC.ops false
      [IOper.mk (some 6) (IOp.mv (Opd.t 0)) none, IOper.mk (some 7) (IOp.len (Opd.t 6)) none,
      IOper.mk (some 8) (IOp.mv (Opd.c (AV.int IntKind.i64 0))) none]
      [])
      (IC.seq
      (IC.block 0
      (IC.loop
      (IC.seq
      (IC.seq (IC.ops false [IOper.mk (some 9) (IOp.bin BinOp.lss (Opd.t 8) (Opd.t 7)) none] [])
      (IC.seq (IC.cond (Opd.t 9) IC.nop (IC.exit 0))
      (IC.seq
      (IC.seq
      (IC.block 1
      (IC.seq
      (IC.ops false
      [IOper.mk (some 10) (IOp.ixa 1 (Opd.t 6) (Opd.t 8)) none,
      IOper.mk (some 11) (IOp.load none (Opd.t 10)) none,
      IOper.mk (some 5) (IOp.mv (Opd.t 11)) none]
      [10, 11])
      (IC.ops false
      [IOper.mk (some 12) (IOp.mv (Opd.t 3)) none, IOper.mk (some 13) (IOp.mv (Opd.t 5)) none,
      IOper.mk (some 14) (IOp.callp 88 [Opd.t 13]) none,
      IOper.mk (some 15) (IOp.bin BinOp.mul (Opd.t 12) (Opd.t 14)) none,
      IOper.mk (some 16) (IOp.callp 88 [Opd.t 15]) none,
      IOper.mk (some 3) (IOp.mv (Opd.t 16)) none]
      [12, 13, 14, 15, 16])))
      (IC.ops false [] [10, 11, 5, 12, 13, 14, 15, 16]))
      (IC.ops false
      [IOper.mk (some 17) (IOp.bin BinOp.add (Opd.t 8) (Opd.c (AV.int IntKind.i64 1)))
      none,
      IOper.mk (some 8) (IOp.mv (Opd.t 17)) none]
      [17]))))
      (IC.ops false [] [9, 10, 11, 5, 12, 13, 14, 15, 16, 17]))))
      (IC.ops false [] [9, 10, 11, 5, 12, 13, 14, 15, 16, 17])))
      (IC.seq
      (IC.ops false [IOper.mk (some 18) (IOp.mv (Opd.t 3)) none, IOper.mk (some 2) (IOp.mv (Opd.t 18)) none] [18])
      IC.ret))))
theorem fn_room_product : F 76 = some ir_room_product := by kernel_rfl

def ir_r21_Cap : IFun :=
  IFun.mk false 1 [IRes.tmp 2]
  (IC.seq (IC.ops false [IOper.mk (some 2) (IOp.mv (Opd.c (AV.int IntKind.i64 0))) none] [])
    (IC.seq
      (IC.seq
      (IC.ops false
      [IOper.mk (some 3) (IOp.mv (Opd.t 0)) none,
      IOper.mk (some 4) (IOp.bin BinOp.lss (Opd.t 3) (Opd.c (AV.int IntKind.i64 0))) none]
      [3])
      (IC.cond (Opd.t 4)
      (IC.seq (IC.ops false [IOper.mk (some 2) (IOp.mv (Opd.c (AV.int IntKind.i64 0))) none] []) IC.ret)
      IC.nop))
      (IC.seq
      (IC.seq
      (IC.ops false
      [IOper.mk (some 5) (IOp.mv (Opd.t 0)) none,
      IOper.mk (some 6) (IOp.bin BinOp.gtr (Opd.t 5) (Opd.c (AV.int IntKind.i64 2147483647))) none]
      [5])
      (IC.cond (Opd.t 6)
      (IC.seq
      (IC.ops false [IOper.mk (some 2) (IOp.mv (Opd.c (AV.int IntKind.i64 2147483647))) none] [])
      IC.ret)
      IC.nop))
      (IC.seq
      (IC.ops false [IOper.mk (some 7) (IOp.mv (Opd.t 0)) none, IOper.mk (some 2) (IOp.mv (Opd.t 7)) none] [7])
      IC.ret))))
theorem fn_r21_Cap : F 77 = some ir_r21_Cap := by kernel_rfl

def ir_r13_Right : IFun :=
  IFun.mk false 2 [IRes.tmp 4]
  (IC.seq
    (IC.ops false
      [IOper.mk (some 3) (IOp.box 2 (Opd.t 1)) none, IOper.mk (some 4) (IOp.mv (Opd.c (AV.bool false))) none] [])
    (IC.seq
      (IC.seq (IC.ops false [IOper.mk (some 5) (IOp.mv (Opd.c (AV.int IntKind.i64 0))) none] [])
      (IC.seq
      (IC.block 0
      (IC.loop
      (IC.seq
      (IC.seq
      (IC.seq
      (IC.ops false
      [IOper.mk (some 6) (IOp.mv (Opd.t 5)) none, IOper.mk (some 7) (IOp.mv (Opd.t 0)) none,
      IOper.mk (some 8) (IOp.len (Opd.t 7)) none,
      IOper.mk (some 9) (IOp.bin BinOp.lss (Opd.t 6) (Opd.t 8)) none]
      [6, 7, 8])
      (IC.cond (Opd.t 9) IC.nop (IC.exit 0)))
      (IC.seq
      (IC.seq
      (IC.block 1
      (IC.seq
      (IC.ops true
      [IOper.mk (some 12) (IOp.mv (Opd.t 0)) none, IOper.mk (some 13) (IOp.mv (Opd.t 5)) none,
      IOper.mk (some 14) (IOp.ixa 1 (Opd.t 12) (Opd.t 13)) none,
      IOper.mk (some 15) (IOp.load none (Opd.t 14)) none,
      IOper.mk (some 16) (IOp.faddr 0 (Opd.t 3)) none,
      IOper.mk (some 17) (IOp.load none (Opd.t 16)) none,
      IOper.mk (some 18) (IOp.bin BinOp.leq (Opd.t 15) (Opd.t 17)) none,
      IOper.mk (some 19) (IOp.mv (Opd.t 18)) none,
      IOper.mk (some 20) (IOp.faddr 1 (Opd.t 3)) (some (19, false)),
      IOper.mk (some 21) (IOp.load none (Opd.t 20)) (some (19, false)),
      IOper.mk (some 22) (IOp.bin BinOp.neq (Opd.t 21) (Opd.c (AV.str []))) (some (19, false)),
      IOper.mk (some 23) (IOp.mv (Opd.t 22)) (some (19, false)),
      IOper.mk (some 24) (IOp.mv (Opd.t 0)) (some (23, true)),
      IOper.mk (some 25) (IOp.mv (Opd.t 5)) (some (23, true)),
      IOper.mk (some 26) (IOp.ixa 1 (Opd.t 24) (Opd.t 25)) (some (23, true)),
      IOper.mk (some 27) (IOp.load none (Opd.t 26)) (some (23, true)),
      IOper.mk (some 28) (IOp.faddr 1 (Opd.t 3)) (some (23, true)),
      IOper.mk (some 29) (IOp.load none (Opd.t 28)) (some (23, true)),
      IOper.mk (some 30) (IOp.bin BinOp.geq (Opd.t 27) (Opd.t 29)) (some (23, true)),
      IOper.mk (some 31) (IOp.pick (Opd.t 23) (Opd.t 30) (Opd.c (AV.bool false)))
      (some (19, false)),
      IOper.mk (some 32) (IOp.pick (Opd.t 19) (Opd.c (AV.bool true)) (Opd.t 31)) none]
      [12, 13, 14, 15, 16, 17, 18, 19, 20, 21, 22, 23, 24, 25, 26, 27, 28, 29, 30, 31])
      (IC.cond (Opd.t 32)
      (IC.seq (IC.ops false [IOper.mk (some 4) (IOp.mv (Opd.c (AV.bool false))) none] []) IC.ret)
      IC.nop)))
      (IC.ops false []
      [12, 13, 14, 15, 16, 17, 18, 19, 20, 21, 22, 23, 24, 25, 26, 27, 28, 29, 30, 31, 32]))
      (IC.ops false
      [IOper.mk (some 10) (IOp.mv (Opd.t 5)) none,
      IOper.mk (some 11) (IOp.bin BinOp.add (Opd.t 10) (Opd.c (AV.int IntKind.i64 1)))
      none,
      IOper.mk (some 5) (IOp.mv (Opd.t 11)) none]
      [10, 11])))
      (IC.ops false []
      [6, 7, 8, 9, 12, 13, 14, 15, 16, 17, 18, 19, 20, 21, 22, 23, 24, 25, 26, 27, 28, 29, 30, 31, 32, 10,
      11]))))
      (IC.ops false []
      [6, 7, 8, 9, 12, 13, 14, 15, 16, 17, 18, 19, 20, 21, 22, 23, 24, 25, 26, 27, 28, 29, 30, 31, 32, 10, 11])))
      (IC.seq
      (IC.ops false
      [IOper.mk (some 33) (IOp.load (some 2) (Opd.t 3)) none,
      IOper.mk (some 34) (IOp.call (Opd.c (AV.func (Fn.func 91) [] [])) [Opd.t 33]) none,
      IOper.mk (some 35) (IOp.mv (Opd.t 34)) none, IOper.mk (some 36) (IOp.mv (Opd.t 0)) (some (35, true)),
      IOper.mk (some 37) (IOp.call (Opd.c (AV.func (Fn.func 92) [] [])) [Opd.t 36]) (some (35, true)),
      IOper.mk (some 38) (IOp.pick (Opd.t 35) (Opd.t 37) (Opd.c (AV.bool false))) none,
      IOper.mk (some 4) (IOp.mv (Opd.t 38)) none]
      [33, 34, 35, 36, 37, 38])
      IC.ret)))
theorem fn_r13_Right : F 85 = some ir_r13_Right := by kernel_rfl

def ir_r13_Spans : IFun :=
  IFun.mk false 2 [IRes.tmp 4]
  (IC.seq
    (IC.ops false
      [IOper.mk (some 3) (IOp.box 2 (Opd.t 1)) none,
      IOper.mk (some 4) (IOp.mv (Opd.c (AV.imm true 0 0 (some 0) []))) none]
      [])
    (IC.seq
      (IC.ops false
      [IOper.mk (some 8) (IOp.bsl false 2 0 [AV.str [], AV.str []] []) none,
      IOper.mk (some 5) (IOp.mv (Opd.t 8)) none]
      [8])
      (IC.seq
      (IC.seq
      (IC.ops false
      [IOper.mk (some 9) (IOp.mv (Opd.t 0)) none, IOper.mk (some 10) (IOp.load (some 2) (Opd.t 3)) none,
      IOper.mk (some 11) (IOp.call (Opd.c (AV.func (Fn.func 85) [] [])) [Opd.t 9, Opd.t 10]) none,
      IOper.mk (some 12) (IOp.not (Opd.t 11)) none]
      [9, 10, 11])
      (IC.cond (Opd.t 12)
      (IC.seq
      (IC.ops false [IOper.mk (some 13) (IOp.mv (Opd.t 5)) none, IOper.mk (some 4) (IOp.mv (Opd.t 13)) none]
      [13])
      IC.ret)
      IC.nop))
      (IC.seq
      (IC.ops false
      [IOper.mk (some 14) (IOp.faddr 0 (Opd.t 3)) none, IOper.mk (some 15) (IOp.load none (Opd.t 14)) none,
      IOper.mk (some 6) (IOp.mv (Opd.t 15)) none]
      [14, 15])
      (IC.seq
      (IC.seq (IC.ops false [IOper.mk (some 7) (IOp.mv (Opd.c (AV.int IntKind.i64 0))) none] [])
      (IC.seq
      (IC.block 0
      (IC.loop
      (IC.seq
      (IC.seq
      (IC.seq
      (IC.ops false
      [IOper.mk (some 16) (IOp.mv (Opd.t 7)) none, IOper.mk (some 17) (IOp.mv (Opd.t 0)) none,
      IOper.mk (some 18) (IOp.len (Opd.t 17)) none,
      IOper.mk (some 19) (IOp.bin BinOp.lss (Opd.t 16) (Opd.t 18)) none]
      [16, 17, 18])
      (IC.cond (Opd.t 19) IC.nop (IC.exit 0)))
      (IC.seq
      (IC.seq
      (IC.block 1
      (IC.seq
      (IC.ops false
      [IOper.mk (some 22) (IOp.mv (Opd.t 5)) none,
      IOper.mk (some 23) (IOp.mv (Opd.t 6)) none,
      IOper.mk (some 24) (IOp.mv (Opd.t 0)) none,
      IOper.mk (some 25) (IOp.mv (Opd.t 7)) none,
      IOper.mk (some 26) (IOp.ixa 1 (Opd.t 24) (Opd.t 25)) none,
      IOper.mk (some 27) (IOp.load none (Opd.t 26)) none,
      IOper.mk (some 28)
      (IOp.build [AV.str [], AV.str []] [(0, 1, Opd.t 23), (1, 1, Opd.t 27)]) none,
      IOper.mk (some 29) (IOp.bsl false 2 1 [AV.str [], AV.str []] [(0, 2, Opd.t 28)])
      none,
      IOper.mk (some 30) (IOp.append 2 32 (Opd.t 22) (Opd.t 29)) none,
      IOper.mk (some 5) (IOp.mv (Opd.t 30)) none]
      [22, 23, 24, 25, 26, 27, 28, 29, 30])
      (IC.ops false
      [IOper.mk (some 31) (IOp.mv (Opd.t 0)) none,
      IOper.mk (some 32) (IOp.mv (Opd.t 7)) none,
      IOper.mk (some 33) (IOp.ixa 1 (Opd.t 31) (Opd.t 32)) none,
      IOper.mk (some 34) (IOp.load none (Opd.t 33)) none,
      IOper.mk (some 6) (IOp.mv (Opd.t 34)) none]
      [31, 32, 33, 34])))
      (IC.ops false [] [22, 23, 24, 25, 26, 27, 28, 29, 30, 31, 32, 33, 34]))
      (IC.ops false
      [IOper.mk (some 20) (IOp.mv (Opd.t 7)) none,
      IOper.mk (some 21)
      (IOp.bin BinOp.add (Opd.t 20) (Opd.c (AV.int IntKind.i64 1))) none,
      IOper.mk (some 7) (IOp.mv (Opd.t 21)) none]
      [20, 21])))
      (IC.ops false [] [16, 17, 18, 19, 22, 23, 24, 25, 26, 27, 28, 29, 30, 31, 32, 33, 34, 20, 21]))))
      (IC.ops false [] [16, 17, 18, 19, 22, 23, 24, 25, 26, 27, 28, 29, 30, 31, 32, 33, 34, 20, 21])))
      (IC.seq
      (IC.ops false
      [IOper.mk (some 35) (IOp.mv (Opd.t 5)) none, IOper.mk (some 36) (IOp.mv (Opd.t 6)) none,
      IOper.mk (some 37) (IOp.faddr 1 (Opd.t 3)) none, IOper.mk (some 38) (IOp.load none (Opd.t 37)) none,
      IOper.mk (some 39) (IOp.build [AV.str [], AV.str []] [(0, 1, Opd.t 36), (1, 1, Opd.t 38)]) none,
      IOper.mk (some 40) (IOp.bsl false 2 1 [AV.str [], AV.str []] [(0, 2, Opd.t 39)]) none,
      IOper.mk (some 41) (IOp.append 2 32 (Opd.t 35) (Opd.t 40)) none,
      IOper.mk (some 4) (IOp.mv (Opd.t 41)) none]
      [35, 36, 37, 38, 39, 40, 41])
      IC.ret))))))
theorem fn_r13_Spans : F 86 = some ir_r13_Spans := by kernel_rfl

def ir_tree_walker_walk : IFun :=
  IFun.mk false 4 [IRes.cell 8 none]
  (IC.seq
    (IC.ops false
      [IOper.mk (some 4) (IOp.box 1 (Opd.t 0)) none, IOper.mk (some 6) (IOp.box 2 (Opd.t 2)) none,
      IOper.mk (some 7) (IOp.box 1 (Opd.t 3)) none, IOper.mk (some 8) (IOp.alloc [AV.bool false]) none]
      [])
    (IC.seq
      (IC.ops false
      [IOper.mk (some 14) (IOp.load none (Opd.t 4)) none, IOper.mk (some 15) (IOp.nilck (Opd.t 14)) none,
      IOper.mk (some 16) (IOp.faddr 0 (Opd.t 15)) none, IOper.mk (some 17) (IOp.load (some 1) (Opd.t 16)) none,
      IOper.mk (some 18) (IOp.mv (Opd.t 1)) none,
      IOper.mk (some 19) (IOp.call (Opd.c (AV.func (Fn.func 93) [] [])) [Opd.t 17, Opd.t 18]) none,
      IOper.mk (some 13) (IOp.mv (Opd.t 19)) none, IOper.mk (some 20) (IOp.extr (Opd.t 13) 0) none,
      IOper.mk (some 21) (IOp.extr (Opd.t 13) 1) none,
      IOper.mk (some 9)
      (IOp.alloc
      [AV.int IntKind.u8 0, AV.imm true 0 0 (some 0) [], AV.imm true 0 0 (some 0) [],
      AV.imm true 0 0 (some 0) [], AV.imm true 0 0 (some 0) []])
      none,
      IOper.mk none (IOp.store 5 (Opd.t 9) (Opd.t 20)) none, IOper.mk (some 10) (IOp.mv (Opd.t 21)) none]
      [14, 15, 16, 17, 18, 19, 13, 20, 21])
      (IC.seq
      (IC.seq
      (IC.ops false
      [IOper.mk (some 22) (IOp.mv (Opd.t 10)) none, IOper.mk (some 23) (IOp.not (Opd.t 22)) none,
      IOper.mk (some 24) (IOp.mv (Opd.t 23)) none,
      IOper.mk (some 25) (IOp.load none (Opd.t 4)) (some (24, false)),
      IOper.mk (some 26) (IOp.nilck (Opd.t 25)) (some (24, false)),
      IOper.mk (some 27) (IOp.faddr 1 (Opd.t 26)) (some (24, false)),
      IOper.mk (some 28) (IOp.load none (Opd.t 27)) (some (24, false)),
      IOper.mk (some 29) (IOp.mv (Opd.t 1)) (some (24, false)),
      IOper.mk (some 30) (IOp.look 0 (AV.int IntKind.i64 0) false (Opd.t 28) (Opd.t 29))
      (some (24, false)),
      IOper.mk (some 31) (IOp.bin BinOp.gtr (Opd.t 30) (Opd.c (AV.int IntKind.i64 0)))
      (some (24, false)),
      IOper.mk (some 32) (IOp.pick (Opd.t 24) (Opd.c (AV.bool true)) (Opd.t 31)) none,
      IOper.mk (some 33) (IOp.mv (Opd.t 32)) none,
      IOper.mk (some 34) (IOp.faddr 0 (Opd.t 9)) (some (33, false)),
      IOper.mk (some 35) (IOp.load none (Opd.t 34)) (some (33, false)),
      IOper.mk (some 36) (IOp.bin BinOp.eql (Opd.t 35) (Opd.c (AV.int IntKind.u8 2)))
      (some (33, false)),
      IOper.mk (some 37) (IOp.mv (Opd.t 36)) (some (33, false)),
      IOper.mk (some 38) (IOp.faddr 2 (Opd.t 9)) (some (37, true)),
      IOper.mk (some 39) (IOp.load none (Opd.t 38)) (some (37, true)),
      IOper.mk (some 40) (IOp.len (Opd.t 39)) (some (37, true)),
      IOper.mk (some 41) (IOp.faddr 1 (Opd.t 9)) (some (37, true)),
      IOper.mk (some 42) (IOp.load none (Opd.t 41)) (some (37, true)),
      IOper.mk (some 43) (IOp.len (Opd.t 42)) (some (37, true)),
      IOper.mk (some 44) (IOp.bin BinOp.add (Opd.t 43) (Opd.c (AV.int IntKind.i64 1)))
      (some (37, true)),
      IOper.mk (some 45) (IOp.bin BinOp.neq (Opd.t 40) (Opd.t 44)) (some (37, true)),
      IOper.mk (some 46) (IOp.pick (Opd.t 37) (Opd.t 45) (Opd.c (AV.bool false))) (some (33, false)),
      IOper.mk (some 47) (IOp.pick (Opd.t 33) (Opd.c (AV.bool true)) (Opd.t 46)) none,
      IOper.mk (some 48) (IOp.mv (Opd.t 47)) none,
      IOper.mk (some 49) (IOp.faddr 0 (Opd.t 9)) (some (48, false)),
      IOper.mk (some 50) (IOp.load none (Opd.t 49)) (some (48, false)),
      IOper.mk (some 51) (IOp.bin BinOp.eql (Opd.t 50) (Opd.c (AV.int IntKind.u8 2)))
      (some (48, false)),
      IOper.mk (some 52) (IOp.mv (Opd.t 51)) (some (48, false)),
      IOper.mk (some 53) (IOp.faddr 1 (Opd.t 9)) (some (52, true)),
      IOper.mk (some 54) (IOp.load none (Opd.t 53)) (some (52, true)),
      IOper.mk (some 55) (IOp.load (some 2) (Opd.t 6)) (some (52, true)),
      IOper.mk (some 56) (IOp.call (Opd.c (AV.func (Fn.func 94) [] [])) [Opd.t 54, Opd.t 55]) (some (52, true)),
      IOper.mk (some 57) (IOp.not (Opd.t 56)) (some (52, true)),
      IOper.mk (some 58) (IOp.pick (Opd.t 52) (Opd.t 57) (Opd.c (AV.bool false))) (some (48, false)),
      IOper.mk (some 59) (IOp.pick (Opd.t 48) (Opd.c (AV.bool true)) (Opd.t 58)) none,
      IOper.mk (some 60) (IOp.mv (Opd.t 59)) none,
      IOper.mk (some 61) (IOp.load none (Opd.t 7)) (some (60, false)),
      IOper.mk (some 62) (IOp.len (Opd.t 61)) (some (60, false)),
      IOper.mk (some 63) (IOp.bin BinOp.eql (Opd.t 62) (Opd.c (AV.int IntKind.i64 0)))
      (some (60, false)),
      IOper.mk (some 64) (IOp.mv (Opd.t 63)) (some (60, false)),
      IOper.mk (some 65) (IOp.faddr 0 (Opd.t 9)) (some (64, true)),
      IOper.mk (some 66) (IOp.load none (Opd.t 65)) (some (64, true)),
      IOper.mk (some 67) (IOp.bin BinOp.neq (Opd.t 66) (Opd.c (AV.int IntKind.u8 2)))
      (some (64, true)),
      IOper.mk (some 68) (IOp.pick (Opd.t 64) (Opd.t 67) (Opd.c (AV.bool false))) (some (60, false)),
      IOper.mk (some 69) (IOp.pick (Opd.t 60) (Opd.c (AV.bool true)) (Opd.t 68)) none]
      [22, 23, 24, 25, 26, 27, 28, 29, 30, 31, 32, 33, 34, 35, 36, 37, 38, 39, 40, 41, 42, 43, 44, 45, 46, 47, 48,
      49, 50, 51, 52, 53, 54, 55, 56, 57, 58, 59, 60, 61, 62, 63, 64, 65, 66, 67, 68])
      (IC.cond (Opd.t 69)
      (IC.seq
      (IC.ops false
      [IOper.mk (some 70) (IOp.load none (Opd.t 4)) none, IOper.mk (some 71) (IOp.nilck (Opd.t 70)) none,
      IOper.mk (some 72) (IOp.faddr 2 (Opd.t 71)) none,
      IOper.mk none (IOp.store 1 (Opd.t 72) (Opd.c (AV.bool true))) none]
      [70, 71, 72])
      (IC.seq (IC.ops false [IOper.mk none (IOp.store 1 (Opd.t 8) (Opd.c (AV.bool false))) none] []) IC.ret))
      IC.nop))
      (IC.seq
      (IC.ops false
      [IOper.mk (some 73) (IOp.load none (Opd.t 4)) none, IOper.mk (some 74) (IOp.nilck (Opd.t 73)) none,
      IOper.mk (some 75) (IOp.faddr 1 (Opd.t 74)) none, IOper.mk (some 76) (IOp.load none (Opd.t 75)) none,
      IOper.mk (some 77) (IOp.mv (Opd.t 1)) none,
      IOper.mk none (IOp.mapup 0 (Opd.t 76) (Opd.t 77) (Opd.c (AV.int IntKind.i64 1))) none]
      [73, 74, 75, 76, 77])
      (IC.seq
      (IC.seq
      (IC.ops true
      [IOper.mk (some 78) (IOp.load none (Opd.t 4)) none, IOper.mk (some 79) (IOp.nilck (Opd.t 78)) none,
      IOper.mk (some 80) (IOp.faddr 3 (Opd.t 79)) none, IOper.mk (some 81) (IOp.load none (Opd.t 80)) none,
      IOper.mk (some 82) (IOp.mv (Opd.t 1)) none, IOper.mk (some 83) (IOp.load (some 2) (Opd.t 6)) none,
      IOper.mk (some 84) (IOp.load none (Opd.t 7)) none,
      IOper.mk (some 85) (IOp.call (Opd.t 81) [Opd.t 82, Opd.t 83, Opd.t 84]) none,
      IOper.mk (some 86) (IOp.not (Opd.t 85)) none]
      [78, 79, 80, 81, 82, 83, 84, 85])
      (IC.cond (Opd.t 86)
      (IC.seq (IC.ops false [IOper.mk none (IOp.store 1 (Opd.t 8) (Opd.c (AV.bool false))) none] []) IC.ret)
      IC.nop))
      (IC.seq
      (IC.seq
      (IC.ops false
      [IOper.mk (some 87) (IOp.faddr 0 (Opd.t 9)) none, IOper.mk (some 88) (IOp.load none (Opd.t 87)) none,
      IOper.mk (some 89) (IOp.bin BinOp.eql (Opd.t 88) (Opd.c (AV.int IntKind.u8 1))) none]
      [87, 88])
      (IC.cond (Opd.t 89)
      (IC.seq (IC.ops false [IOper.mk none (IOp.store 1 (Opd.t 8) (Opd.c (AV.bool true))) none] []) IC.ret)
      IC.nop))
      (IC.seq
      (IC.ops false
      [IOper.mk (some 90) (IOp.load none (Opd.t 7)) none, IOper.mk (some 91) (IOp.load none (Opd.t 7)) none,
      IOper.mk (some 92) (IOp.len (Opd.t 91)) none, IOper.mk (some 93) (IOp.load none (Opd.t 7)) none,
      IOper.mk (some 94) (IOp.len (Opd.t 93)) none,
      IOper.mk (some 95) (IOp.sub 1 (Opd.t 90) none (some (Opd.t 92)) (some (Opd.t 94))) none,
      IOper.mk (some 96) (IOp.mv (Opd.t 1)) none,
      IOper.mk (some 97) (IOp.bsl false 1 1 [AV.int IntKind.i64 0] [(0, 1, Opd.t 96)]) none,
      IOper.mk (some 98) (IOp.appi 1 8 (Opd.t 95) (Opd.t 97)) none,
      IOper.mk none (IOp.store 1 (Opd.t 7) (Opd.t 98)) none]
      [90, 91, 92, 93, 94, 95, 96, 97, 98])
      (IC.seq
      (IC.seq
      (IC.ops false
      [IOper.mk (some 99) (IOp.faddr 1 (Opd.t 9)) none,
      IOper.mk (some 100) (IOp.load none (Opd.t 99)) none,
      IOper.mk (some 101) (IOp.load (some 2) (Opd.t 6)) none,
      IOper.mk (some 102) (IOp.call (Opd.c (AV.func (Fn.func 95) [] [])) [Opd.t 100, Opd.t 101]) none]
      [99, 100, 101])
      (IC.seq
      (IC.block 0
      (IC.rangeF (Opd.t 102) [103, 104]
      (IC.seq (IC.ops false [IOper.mk (some 11) (IOp.mv (Opd.t 103)) none] [])
      (IC.ops false
      [IOper.mk (some 12) (IOp.alloc [AV.str [], AV.str []]) none,
      IOper.mk none (IOp.store 2 (Opd.t 12) (Opd.t 104)) none]
      []))
      (IC.seq
      (IC.block 1
      (IC.seq
      (IC.ops true
      [IOper.mk (some 105) (IOp.load none (Opd.t 4)) none,
      IOper.mk (some 106) (IOp.faddr 2 (Opd.t 9)) none,
      IOper.mk (some 107) (IOp.load none (Opd.t 106)) none,
      IOper.mk (some 108) (IOp.mv (Opd.t 11)) none,
      IOper.mk (some 109) (IOp.ixa 1 (Opd.t 107) (Opd.t 108)) none,
      IOper.mk (some 110) (IOp.load none (Opd.t 109)) none,
      IOper.mk (some 111) (IOp.load (some 2) (Opd.t 12)) none,
      IOper.mk (some 112) (IOp.load none (Opd.t 7)) none,
      IOper.mk (some 113)
      (IOp.call (Opd.c (AV.func (Fn.func 87) [] []))
      [Opd.t 105, Opd.t 110, Opd.t 111, Opd.t 112])
      none,
      IOper.mk (some 114) (IOp.not (Opd.t 113)) none]
      [105, 106, 107, 108, 109, 110, 111, 112, 113])
      (IC.cond (Opd.t 114)
      (IC.seq
      (IC.ops false [IOper.mk none (IOp.store 1 (Opd.t 8) (Opd.c (AV.bool false))) none]
      [])
      IC.ret)
      IC.nop)))
      (IC.ops false [] [105, 106, 107, 108, 109, 110, 111, 112, 113, 114]))))
      (IC.ops false [] [103, 104, 11, 12, 105, 106, 107, 108, 109, 110, 111, 112, 113, 114])))
      (IC.seq (IC.ops false [IOper.mk none (IOp.store 1 (Opd.t 8) (Opd.c (AV.bool true))) none] [])
      IC.ret)))))))))
theorem fn_tree_walker_walk : F 87 = some ir_tree_walker_walk := by kernel_rfl

def ir_room_clamp : IFun :=
  IFun.mk false 1 [IRes.tmp 2]
  (IC.seq (IC.ops false [IOper.mk (some 2) (IOp.mv (Opd.c (AV.int IntKind.i64 0))) none] [])
    (IC.seq
      (IC.ops false
      [IOper.mk (some 3) (IOp.mv (Opd.t 0)) none,
      IOper.mk (some 4) (IOp.minmax true [Opd.t 3, Opd.c (AV.int IntKind.i64 0)]) none,
      IOper.mk (some 5) (IOp.minmax false [Opd.t 4, Opd.c (AV.int IntKind.i64 2147483647)]) none,
      IOper.mk (some 2) (IOp.mv (Opd.t 5)) none]
      [3, 4, 5])
      IC.ret))
theorem fn_room_clamp : F 88 = some ir_room_clamp := by kernel_rfl

def ir_r02_Right : IFun :=
  IFun.mk false 1 [IRes.tmp 2]
  (IC.seq
    (IC.ops false
      [IOper.mk (some 1) (IOp.box 2 (Opd.t 0)) none, IOper.mk (some 2) (IOp.mv (Opd.c (AV.bool false))) none] [])
    (IC.seq
      (IC.ops false
      [IOper.mk (some 3) (IOp.faddr 1 (Opd.t 1)) none, IOper.mk (some 4) (IOp.load none (Opd.t 3)) none,
      IOper.mk (some 5) (IOp.bin BinOp.eql (Opd.t 4) (Opd.c (AV.str []))) none,
      IOper.mk (some 6) (IOp.mv (Opd.t 5)) none, IOper.mk (some 7) (IOp.faddr 1 (Opd.t 1)) (some (6, false)),
      IOper.mk (some 8) (IOp.load none (Opd.t 7)) (some (6, false)),
      IOper.mk (some 9) (IOp.faddr 0 (Opd.t 1)) (some (6, false)),
      IOper.mk (some 10) (IOp.load none (Opd.t 9)) (some (6, false)),
      IOper.mk (some 11) (IOp.bin BinOp.gtr (Opd.t 8) (Opd.t 10)) (some (6, false)),
      IOper.mk (some 12) (IOp.pick (Opd.t 6) (Opd.c (AV.bool true)) (Opd.t 11)) none,
      IOper.mk (some 2) (IOp.mv (Opd.t 12)) none]
      [3, 4, 5, 6, 7, 8, 9, 10, 11, 12])
      IC.ret))
theorem fn_r02_Right : F 91 = some ir_r02_Right := by kernel_rfl

def ir_r13_Rises : IFun :=
  IFun.mk false 1 [IRes.tmp 2]
  (IC.seq (IC.ops false [IOper.mk (some 2) (IOp.mv (Opd.c (AV.bool false))) none] [])
    (IC.seq
      (IC.seq (IC.ops false [IOper.mk (some 3) (IOp.mv (Opd.c (AV.int IntKind.i64 1))) none] [])
      (IC.seq
      (IC.block 0
      (IC.loop
      (IC.seq
      (IC.seq
      (IC.seq
      (IC.ops false
      [IOper.mk (some 4) (IOp.mv (Opd.t 3)) none, IOper.mk (some 5) (IOp.mv (Opd.t 0)) none,
      IOper.mk (some 6) (IOp.len (Opd.t 5)) none,
      IOper.mk (some 7) (IOp.bin BinOp.lss (Opd.t 4) (Opd.t 6)) none]
      [4, 5, 6])
      (IC.cond (Opd.t 7) IC.nop (IC.exit 0)))
      (IC.seq
      (IC.seq
      (IC.block 1
      (IC.seq
      (IC.ops true
      [IOper.mk (some 10) (IOp.mv (Opd.t 0)) none, IOper.mk (some 11) (IOp.mv (Opd.t 3)) none,
      IOper.mk (some 12)
      (IOp.bin BinOp.sub (Opd.t 11) (Opd.c (AV.int IntKind.i64 1))) none,
      IOper.mk (some 13) (IOp.ixa 1 (Opd.t 10) (Opd.t 12)) none,
      IOper.mk (some 14) (IOp.load none (Opd.t 13)) none,
      IOper.mk (some 15) (IOp.mv (Opd.t 0)) none, IOper.mk (some 16) (IOp.mv (Opd.t 3)) none,
      IOper.mk (some 17) (IOp.ixa 1 (Opd.t 15) (Opd.t 16)) none,
      IOper.mk (some 18) (IOp.load none (Opd.t 17)) none,
      IOper.mk (some 19) (IOp.bin BinOp.geq (Opd.t 14) (Opd.t 18)) none]
      [10, 11, 12, 13, 14, 15, 16, 17, 18])
      (IC.cond (Opd.t 19)
      (IC.seq (IC.ops false [IOper.mk (some 2) (IOp.mv (Opd.c (AV.bool false))) none] []) IC.ret)
      IC.nop)))
      (IC.ops false [] [10, 11, 12, 13, 14, 15, 16, 17, 18, 19]))
      (IC.ops false
      [IOper.mk (some 8) (IOp.mv (Opd.t 3)) none,
      IOper.mk (some 9) (IOp.bin BinOp.add (Opd.t 8) (Opd.c (AV.int IntKind.i64 1))) none,
      IOper.mk (some 3) (IOp.mv (Opd.t 9)) none]
      [8, 9])))
      (IC.ops false [] [4, 5, 6, 7, 10, 11, 12, 13, 14, 15, 16, 17, 18, 19, 8, 9]))))
      (IC.ops false [] [4, 5, 6, 7, 10, 11, 12, 13, 14, 15, 16, 17, 18, 19, 8, 9])))
      (IC.seq (IC.ops false [IOper.mk (some 2) (IOp.mv (Opd.c (AV.bool true))) none] []) IC.ret)))
theorem fn_r13_Rises : F 92 = some ir_r13_Rises := by kernel_rfl

def ir_tree_node : IFun :=
  IFun.mk false 2 [IRes.cell 4 (some 5), IRes.tmp 5]
  (IC.seq
    (IC.ops false
      [IOper.mk (some 2) (IOp.box 1 (Opd.t 0)) none,
      IOper.mk (some 4)
      (IOp.alloc
      [AV.int IntKind.u8 0, AV.imm true 0 0 (some 0) [], AV.imm true 0 0 (some 0) [],
      AV.imm true 0 0 (some 0) [], AV.imm true 0 0 (some 0) []])
      none,
      IOper.mk (some 5) (IOp.mv (Opd.c (AV.bool false))) none]
      [])
    (IC.seq
      (IC.seq
      (IC.ops false
      [IOper.mk (some 7) (IOp.mv (Opd.t 1)) none,
      IOper.mk (some 8) (IOp.bin BinOp.lss (Opd.t 7) (Opd.c (AV.int IntKind.i64 1))) none,
      IOper.mk (some 9) (IOp.mv (Opd.t 8)) none, IOper.mk (some 10) (IOp.mv (Opd.t 1)) (some (9, false)),
      IOper.mk (some 11) (IOp.faddr 0 (Opd.t 2)) (some (9, false)),
      IOper.mk (some 12) (IOp.load none (Opd.t 11)) (some (9, false)),
      IOper.mk (some 13) (IOp.len (Opd.t 12)) (some (9, false)),
      IOper.mk (some 14) (IOp.bin BinOp.geq (Opd.t 10) (Opd.t 13)) (some (9, false)),
      IOper.mk (some 15) (IOp.pick (Opd.t 9) (Opd.c (AV.bool true)) (Opd.t 14)) none]
      [7, 8, 9, 10, 11, 12, 13, 14])
      (IC.cond (Opd.t 15)
      (IC.seq
      (IC.ops false
      [IOper.mk (some 16)
      (IOp.build
      [AV.int IntKind.u8 0, AV.imm true 0 0 (some 0) [], AV.imm true 0 0 (some 0) [],
      AV.imm true 0 0 (some 0) [], AV.imm true 0 0 (some 0) []]
      [])
      none,
      IOper.mk none (IOp.store 5 (Opd.t 4) (Opd.t 16)) none,
      IOper.mk (some 5) (IOp.mv (Opd.c (AV.bool false))) none]
      [16])
      IC.ret)
      IC.nop))
      (IC.seq
      (IC.ops false
      [IOper.mk (some 17) (IOp.faddr 0 (Opd.t 2)) none, IOper.mk (some 18) (IOp.load none (Opd.t 17)) none,
      IOper.mk (some 19) (IOp.mv (Opd.t 1)) none, IOper.mk (some 20) (IOp.ixa 5 (Opd.t 18) (Opd.t 19)) none,
      IOper.mk (some 21) (IOp.load (some 5) (Opd.t 20)) none,
      IOper.mk (some 6)
      (IOp.alloc
      [AV.int IntKind.u8 0, AV.imm true 0 0 (some 0) [], AV.imm true 0 0 (some 0) [],
      AV.imm true 0 0 (some 0) [], AV.imm true 0 0 (some 0) []])
      none,
      IOper.mk none (IOp.store 5 (Opd.t 6) (Opd.t 21)) none]
      [17, 18, 19, 20, 21])
      (IC.seq
      (IC.ops true
      [IOper.mk (some 22) (IOp.load (some 5) (Opd.t 6)) none, IOper.mk (some 23) (IOp.faddr 0 (Opd.t 6)) none,
      IOper.mk (some 24) (IOp.load none (Opd.t 23)) none,
      IOper.mk (some 25) (IOp.bin BinOp.eql (Opd.t 24) (Opd.c (AV.int IntKind.u8 2))) none,
      IOper.mk (some 26) (IOp.mv (Opd.t 25)) none,
      IOper.mk (some 27) (IOp.faddr 0 (Opd.t 6)) (some (26, false)),
      IOper.mk (some 28) (IOp.load none (Opd.t 27)) (some (26, false)),
      IOper.mk (some 29) (IOp.bin BinOp.eql (Opd.t 28) (Opd.c (AV.int IntKind.u8 1)))
      (some (26, false)),
      IOper.mk (some 30) (IOp.pick (Opd.t 26) (Opd.c (AV.bool true)) (Opd.t 29)) none,
      IOper.mk none (IOp.store 5 (Opd.t 4) (Opd.t 22)) none, IOper.mk (some 5) (IOp.mv (Opd.t 30)) none,
      IOper.mk none (IOp.diff (Opd.t 27) (Opd.t 4)) (some (26, false))]
      [22, 23, 24, 25, 26, 27, 28, 29, 30])
      IC.ret))))
theorem fn_tree_node : F 93 = some ir_tree_node := by kernel_rfl

def ir_pivot_Right : IFun :=
  IFun.mk false 2 [IRes.tmp 4]
  (IC.seq
    (IC.ops false
      [IOper.mk (some 3) (IOp.box 2 (Opd.t 1)) none, IOper.mk (some 4) (IOp.mv (Opd.c (AV.bool false))) none] [])
    (IC.seq
      (IC.seq
      (IC.ops false
      [IOper.mk (some 6) (IOp.load (some 2) (Opd.t 3)) none,
      IOper.mk (some 7) (IOp.call (Opd.c (AV.func (Fn.func 96) [] [])) [Opd.t 6]) none,
      IOper.mk (some 8) (IOp.not (Opd.t 7)) none, IOper.mk (some 9) (IOp.mv (Opd.t 8)) none,
      IOper.mk (some 10) (IOp.mv (Opd.t 0)) (some (9, false)),
      IOper.mk (some 11) (IOp.call (Opd.c (AV.func (Fn.func 97) [] [])) [Opd.t 10]) (some (9, false)),
      IOper.mk (some 12) (IOp.not (Opd.t 11)) (some (9, false)),
      IOper.mk (some 13) (IOp.pick (Opd.t 9) (Opd.c (AV.bool true)) (Opd.t 12)) none]
      [6, 7, 8, 9, 10, 11, 12])
      (IC.cond (Opd.t 13) (IC.seq (IC.ops false [IOper.mk (some 4) (IOp.mv (Opd.c (AV.bool false))) none] []) IC.ret)
      IC.nop))
      (IC.seq
      (IC.ops false
      [IOper.mk (some 14) (IOp.mv (Opd.t 0)) none, IOper.mk (some 15) (IOp.len (Opd.t 14)) none,
      IOper.mk (some 5) (IOp.mv (Opd.t 15)) none]
      [14, 15])
      (IC.seq
      (IC.ops true
      [IOper.mk (some 16) (IOp.mv (Opd.t 5)) none,
      IOper.mk (some 17) (IOp.bin BinOp.eql (Opd.t 16) (Opd.c (AV.int IntKind.i64 0))) none,
      IOper.mk (some 18) (IOp.mv (Opd.t 17)) none, IOper.mk (some 19) (IOp.mv (Opd.t 0)) (some (18, false)),
      IOper.mk (some 20) (IOp.ixa 1 (Opd.t 19) (Opd.c (AV.int IntKind.i64 0))) (some (18, false)),
      IOper.mk (some 21) (IOp.load none (Opd.t 20)) (some (18, false)),
      IOper.mk (some 22) (IOp.faddr 0 (Opd.t 3)) (some (18, false)),
      IOper.mk (some 23) (IOp.load none (Opd.t 22)) (some (18, false)),
      IOper.mk (some 24) (IOp.bin BinOp.gtr (Opd.t 21) (Opd.t 23)) (some (18, false)),
      IOper.mk (some 25) (IOp.mv (Opd.t 24)) (some (18, false)),
      IOper.mk (some 26) (IOp.faddr 1 (Opd.t 3)) (some (25, true)),
      IOper.mk (some 27) (IOp.load none (Opd.t 26)) (some (25, true)),
      IOper.mk (some 28) (IOp.bin BinOp.eql (Opd.t 27) (Opd.c (AV.str []))) (some (25, true)),
      IOper.mk (some 29) (IOp.mv (Opd.t 28)) (some (25, true)),
      IOper.mk (some 30) (IOp.mv (Opd.t 0)) (some (29, false)),
      IOper.mk (some 31) (IOp.mv (Opd.t 5)) (some (29, false)),
      IOper.mk (some 32) (IOp.bin BinOp.sub (Opd.t 31) (Opd.c (AV.int IntKind.i64 1)))
      (some (29, false)),
      IOper.mk (some 33) (IOp.ixa 1 (Opd.t 30) (Opd.t 32)) (some (29, false)),
      IOper.mk (some 34) (IOp.load none (Opd.t 33)) (some (29, false)),
      IOper.mk (some 35) (IOp.faddr 1 (Opd.t 3)) (some (29, false)),
      IOper.mk (some 36) (IOp.load none (Opd.t 35)) (some (29, false)),
      IOper.mk (some 37) (IOp.bin BinOp.lss (Opd.t 34) (Opd.t 36)) (some (29, false)),
      IOper.mk (some 38) (IOp.pick (Opd.t 29) (Opd.c (AV.bool true)) (Opd.t 37)) (some (25, true)),
      IOper.mk (some 39) (IOp.pick (Opd.t 25) (Opd.t 38) (Opd.c (AV.bool false))) (some (18, false)),
      IOper.mk (some 40) (IOp.pick (Opd.t 18) (Opd.c (AV.bool true)) (Opd.t 39)) none,
      IOper.mk (some 4) (IOp.mv (Opd.t 40)) none]
      [16, 17, 18, 19, 20, 21, 22, 23, 24, 25, 26, 27, 28, 29, 30, 31, 32, 33, 34, 35, 36, 37, 38, 39, 40])
      IC.ret))))
theorem fn_pivot_Right : F 94 = some ir_pivot_Right := by kernel_rfl

def ir_pivot_All : IFun :=
  IFun.mk false 2 [IRes.tmp 4]
  (IC.seq
    (IC.ops false
      [IOper.mk (some 2) (IOp.box 1 (Opd.t 0)) none, IOper.mk (some 3) (IOp.box 2 (Opd.t 1)) none,
      IOper.mk (some 4) (IOp.mv (Opd.c AV.nilFunc)) none]
      [])
    (IC.seq
      (IC.ops false
      [IOper.mk (some 5) (IOp.mkfn (Fn.func 98) [] [Opd.t 2, Opd.t 3]) none,
      IOper.mk (some 4) (IOp.mv (Opd.t 5)) none]
      [5])
      IC.ret))
theorem fn_pivot_All : F 95 = some ir_pivot_All := by kernel_rfl

def ir_key_RightRange : IFun :=
  IFun.mk false 1 [IRes.tmp 2]
  (IC.seq
    (IC.ops false
      [IOper.mk (some 1) (IOp.box 2 (Opd.t 0)) none, IOper.mk (some 2) (IOp.mv (Opd.c (AV.bool false))) none] [])
    (IC.seq
      (IC.ops false
      [IOper.mk (some 3) (IOp.faddr 0 (Opd.t 1)) none, IOper.mk (some 4) (IOp.load none (Opd.t 3)) none,
      IOper.mk (some 5) (IOp.faddr 1 (Opd.t 1)) none, IOper.mk (some 6) (IOp.load none (Opd.t 5)) none,
      IOper.mk (some 7) (IOp.call (Opd.c (AV.func (Fn.func 100) [] [])) [Opd.t 4, Opd.t 6]) none,
      IOper.mk (some 2) (IOp.mv (Opd.t 7)) none]
      [3, 4, 5, 6, 7])
      IC.ret))
theorem fn_key_RightRange : F 96 = some ir_key_RightRange := by kernel_rfl

def ir_pivot_rises : IFun :=
  IFun.mk false 1 [IRes.tmp 2]
  (IC.seq (IC.ops false [IOper.mk (some 2) (IOp.mv (Opd.c (AV.bool false))) none] [])
    (IC.seq
      (IC.seq
      (IC.ops false
      [IOper.mk (some 4) (IOp.mv (Opd.t 0)) none, IOper.mk (some 5) (IOp.len (Opd.t 4)) none,
      IOper.mk (some 6) (IOp.mv (Opd.c (AV.int IntKind.i64 0))) none]
      [4])
      (IC.seq
      (IC.block 0
      (IC.loop
      (IC.seq
      (IC.seq (IC.ops false [IOper.mk (some 7) (IOp.bin BinOp.lss (Opd.t 6) (Opd.t 5)) none] [])
      (IC.seq (IC.cond (Opd.t 7) IC.nop (IC.exit 0))
      (IC.seq
      (IC.seq
      (IC.block 1
      (IC.seq
      (IC.ops false
      [IOper.mk (some 8) (IOp.mv (Opd.t 6)) none, IOper.mk (some 3) (IOp.mv (Opd.t 8)) none]
      [8])
      (IC.seq
      (IC.ops true
      [IOper.mk (some 9) (IOp.mv (Opd.t 3)) none,
      IOper.mk (some 10)
      (IOp.bin BinOp.gtr (Opd.t 9) (Opd.c (AV.int IntKind.i64 0))) none,
      IOper.mk (some 11) (IOp.mv (Opd.t 10)) none,
      IOper.mk (some 12) (IOp.mv (Opd.t 0)) (some (11, true)),
      IOper.mk (some 13) (IOp.mv (Opd.t 3)) (some (11, true)),
      IOper.mk (some 14)
      (IOp.bin BinOp.sub (Opd.t 13) (Opd.c (AV.int IntKind.i64 1)))
      (some (11, true)),
      IOper.mk (some 15) (IOp.ixa 1 (Opd.t 12) (Opd.t 14)) (some (11, true)),
      IOper.mk (some 16) (IOp.load none (Opd.t 15)) (some (11, true)),
      IOper.mk (some 17) (IOp.mv (Opd.t 0)) (some (11, true)),
      IOper.mk (some 18) (IOp.mv (Opd.t 3)) (some (11, true)),
      IOper.mk (some 19) (IOp.ixa 1 (Opd.t 17) (Opd.t 18)) (some (11, true)),
      IOper.mk (some 20) (IOp.load none (Opd.t 19)) (some (11, true)),
      IOper.mk (some 21) (IOp.bin BinOp.geq (Opd.t 16) (Opd.t 20)) (some (11, true)),
      IOper.mk (some 22) (IOp.pick (Opd.t 11) (Opd.t 21) (Opd.c (AV.bool false))) none]
      [9, 10, 11, 12, 13, 14, 15, 16, 17, 18, 19, 20, 21])
      (IC.cond (Opd.t 22)
      (IC.seq (IC.ops false [IOper.mk (some 2) (IOp.mv (Opd.c (AV.bool false))) none] [])
      IC.ret)
      IC.nop))))
      (IC.ops false [] [8, 3, 9, 10, 11, 12, 13, 14, 15, 16, 17, 18, 19, 20, 21, 22]))
      (IC.ops false
      [IOper.mk (some 23) (IOp.bin BinOp.add (Opd.t 6) (Opd.c (AV.int IntKind.i64 1)))
      none,
      IOper.mk (some 6) (IOp.mv (Opd.t 23)) none]
      [23]))))
      (IC.ops false [] [7, 8, 3, 9, 10, 11, 12, 13, 14, 15, 16, 17, 18, 19, 20, 21, 22, 23]))))
      (IC.ops false [] [7, 8, 3, 9, 10, 11, 12, 13, 14, 15, 16, 17, 18, 19, 20, 21, 22, 23])))
      (IC.seq (IC.ops false [IOper.mk (some 2) (IOp.mv (Opd.c (AV.bool true))) none] []) IC.ret)))
theorem fn_pivot_rises : F 97 = some ir_pivot_rises := by kernel_rfl

def ir_pivot_All_1 : IFun :=
  IFun.mk false 3 []
  (IC.seq
    (IC.seq
      (IC.ops false
      [IOper.mk (some 5) (IOp.load none (Opd.t 1)) none, IOper.mk (some 6) (IOp.load (some 2) (Opd.t 2)) none,
      IOper.mk (some 7) (IOp.call (Opd.c (AV.func (Fn.func 94) [] [])) [Opd.t 5, Opd.t 6]) none,
      IOper.mk (some 8) (IOp.not (Opd.t 7)) none]
      [5, 6, 7])
      (IC.cond (Opd.t 8) IC.ret IC.nop))
    (IC.seq (IC.ops false [IOper.mk (some 4) (IOp.mv (Opd.c (AV.int IntKind.i64 0))) none] [])
      (IC.seq
      (IC.block 0
      (IC.loop
      (IC.seq
      (IC.seq
      (IC.seq
      (IC.ops false
      [IOper.mk (some 9) (IOp.mv (Opd.t 4)) none, IOper.mk (some 10) (IOp.load none (Opd.t 1)) none,
      IOper.mk (some 11) (IOp.len (Opd.t 10)) none,
      IOper.mk (some 12) (IOp.bin BinOp.leq (Opd.t 9) (Opd.t 11)) none]
      [9, 10, 11])
      (IC.cond (Opd.t 12) IC.nop (IC.exit 0)))
      (IC.seq
      (IC.seq
      (IC.block 1
      (IC.seq
      (IC.ops false
      [IOper.mk (some 15) (IOp.mv (Opd.t 0)) none, IOper.mk (some 16) (IOp.mv (Opd.t 4)) none,
      IOper.mk (some 17) (IOp.load none (Opd.t 1)) none,
      IOper.mk (some 18) (IOp.load (some 2) (Opd.t 2)) none,
      IOper.mk (some 19) (IOp.mv (Opd.t 4)) none,
      IOper.mk (some 20)
      (IOp.call (Opd.c (AV.func (Fn.func 99) [] [])) [Opd.t 17, Opd.t 18, Opd.t 19]) none,
      IOper.mk (some 21) (IOp.call (Opd.t 15) [Opd.t 16, Opd.t 20]) none,
      IOper.mk (some 22) (IOp.not (Opd.t 21)) none]
      [15, 16, 17, 18, 19, 20, 21])
      (IC.cond (Opd.t 22) IC.ret IC.nop)))
      (IC.ops false [] [15, 16, 17, 18, 19, 20, 21, 22]))
      (IC.ops false
      [IOper.mk (some 13) (IOp.mv (Opd.t 4)) none,
      IOper.mk (some 14) (IOp.bin BinOp.add (Opd.t 13) (Opd.c (AV.int IntKind.i64 1))) none,
      IOper.mk (some 4) (IOp.mv (Opd.t 14)) none]
      [13, 14])))
      (IC.ops false [] [9, 10, 11, 12, 15, 16, 17, 18, 19, 20, 21, 22, 13, 14]))))
      (IC.ops false [] [9, 10, 11, 12, 15, 16, 17, 18, 19, 20, 21, 22, 13, 14]))))
theorem fn_pivot_All_1 : F 98 = some ir_pivot_All_1 := by kernel_rfl

def ir_pivot_span : IFun :=
  IFun.mk false 3 [IRes.cell 6 (some 2)]
  (IC.seq
    (IC.ops false
      [IOper.mk (some 4) (IOp.box 2 (Opd.t 1)) none, IOper.mk (some 6) (IOp.alloc [AV.str [], AV.str []]) none] [])
    (IC.seq
      (IC.seq
      (IC.ops false
      [IOper.mk (some 7) (IOp.mv (Opd.t 2)) none,
      IOper.mk (some 8) (IOp.bin BinOp.gtr (Opd.t 7) (Opd.c (AV.int IntKind.i64 0))) none]
      [7])
      (IC.cond (Opd.t 8)
      (IC.ops false
      [IOper.mk (some 9) (IOp.mv (Opd.t 0)) none, IOper.mk (some 10) (IOp.mv (Opd.t 2)) none,
      IOper.mk (some 11) (IOp.bin BinOp.sub (Opd.t 10) (Opd.c (AV.int IntKind.i64 1))) none,
      IOper.mk (some 12) (IOp.ixa 1 (Opd.t 9) (Opd.t 11)) none,
      IOper.mk (some 13) (IOp.load none (Opd.t 12)) none, IOper.mk (some 14) (IOp.faddr 0 (Opd.t 4)) none,
      IOper.mk none (IOp.store 1 (Opd.t 14) (Opd.t 13)) none]
      [9, 10, 11, 12, 13, 14])
      IC.nop))
      (IC.seq
      (IC.seq
      (IC.ops false
      [IOper.mk (some 15) (IOp.mv (Opd.t 2)) none, IOper.mk (some 16) (IOp.mv (Opd.t 0)) none,
      IOper.mk (some 17) (IOp.len (Opd.t 16)) none,
      IOper.mk (some 18) (IOp.bin BinOp.lss (Opd.t 15) (Opd.t 17)) none]
      [15, 16, 17])
      (IC.cond (Opd.t 18)
      (IC.ops false
      [IOper.mk (some 19) (IOp.mv (Opd.t 0)) none, IOper.mk (some 20) (IOp.mv (Opd.t 2)) none,
      IOper.mk (some 21) (IOp.ixa 1 (Opd.t 19) (Opd.t 20)) none,
      IOper.mk (some 22) (IOp.load none (Opd.t 21)) none, IOper.mk (some 23) (IOp.faddr 1 (Opd.t 4)) none,
      IOper.mk none (IOp.store 1 (Opd.t 23) (Opd.t 22)) none]
      [19, 20, 21, 22, 23])
      IC.nop))
      (IC.seq
      (IC.ops false
      [IOper.mk (some 24) (IOp.load (some 2) (Opd.t 4)) none,
      IOper.mk none (IOp.store 2 (Opd.t 6) (Opd.t 24)) none]
      [24])
      IC.ret))))
theorem fn_pivot_span : F 99 = some ir_pivot_span := by kernel_rfl

def ir_key_ahead : IFun :=
  IFun.mk false 2 [IRes.tmp 4]
  (IC.seq (IC.ops false [IOper.mk (some 4) (IOp.mv (Opd.c (AV.bool false))) none] [])
    (IC.seq
      (IC.ops false
      [IOper.mk (some 5) (IOp.mv (Opd.t 1)) none,
      IOper.mk (some 6) (IOp.bin BinOp.eql (Opd.t 5) (Opd.c (AV.str []))) none,
      IOper.mk (some 7) (IOp.mv (Opd.t 6)) none, IOper.mk (some 8) (IOp.mv (Opd.t 0)) (some (7, false)),
      IOper.mk (some 9) (IOp.mv (Opd.t 1)) (some (7, false)),
      IOper.mk (some 10) (IOp.bin BinOp.lss (Opd.t 8) (Opd.t 9)) (some (7, false)),
      IOper.mk (some 11) (IOp.pick (Opd.t 7) (Opd.c (AV.bool true)) (Opd.t 10)) none,
      IOper.mk (some 4) (IOp.mv (Opd.t 11)) none]
      [5, 6, 7, 8, 9, 10, 11])
      IC.ret))
theorem fn_key_ahead : F 100 = some ir_key_ahead := by kernel_rfl

end Go.AS.Th

namespace Go.AS.Th
open Go Go.AS Go.Proofs
set_option maxHeartbeats 1000000

/-! ### Numbers that can be reckoned with -/
def cap (n : Int) : Int := min (max n 0) 2147483647
theorem cap_range (n : Int) : 0 ≤ cap n ∧ cap n ≤ 2147483647 := by unfold cap; omega
theorem clamp_gives (n : Int) : Gives F 88 [.int .i64 n] (.int .i64 (cap n)) := by
  refine Gives.of fn_room_clamp rfl rfl (args' := [.int .i64 n]) (by simp only [mapO_nil, mapO_c2, consO_some, upf_v]) ?_
  simp only [ir_room_clamp]
  simp -failIfUnchanged (disch := first | assumption | omega | (refine room_i _ _ ?_ ?_ <;> omega) | (refine @_root_.id _ ?_; with_unfolding_all exact Eq.refl _) | (simp only [List.length_take, List.length_drop, List.length_append, List.length_cons, List.length_nil, List.length_replicate, List.length_map] <;> omega) | fail) only [rnL, opL, ruL, hpL, rsL, natL, outL, Nat.add_sub_cancel_left, Nat.mul_one, List.length_cons, List.length_nil, Nat.zero_add, Nat.add_zero, Nat.reduceAdd, Nat.reduceMul, Nat.reduceSub, Nat.reduceEqDiff, Nat.reduceLT, Nat.reduceLeDiff, litd_t, litd_f, decide_true, decide_false, Bool.not_true, Bool.not_false, not_true_eq_false, not_false_eq_true, true_and, and_true, false_and, and_false, true_or, or_true, false_or, or_false, Int.toNat_natCast, cond_true, cond_false, List.map_cons, List.map_nil, Option.map_some, Option.map_none]
  (refine Fin_g (.inr rfl) (by simp -failIfUnchanged (disch := first | assumption | omega | (refine room_i _ _ ?_ ?_ <;> omega) | (refine @_root_.id _ ?_; with_unfolding_all exact Eq.refl _) | (simp only [List.length_take, List.length_drop, List.length_append, List.length_cons, List.length_nil, List.length_replicate, List.length_map] <;> omega) | fail) only [rnL, opL, ruL, hpL, rsL, natL, outL, Nat.add_sub_cancel_left, Nat.mul_one, List.length_cons, List.length_nil, Nat.zero_add, Nat.add_zero, Nat.reduceAdd, Nat.reduceMul, Nat.reduceSub, Nat.reduceEqDiff, Nat.reduceLT, Nat.reduceLeDiff, litd_t, litd_f, decide_true, decide_false, Bool.not_true, Bool.not_false, not_true_eq_false, not_false_eq_true, true_and, and_true, false_and, and_false, true_or, or_true, false_or, or_false, Int.toNat_natCast, cond_true, cond_false, List.map_cons, List.map_nil, Option.map_some, Option.map_none]; rfl) ?_; simp -failIfUnchanged (disch := first | assumption | omega | (refine room_i _ _ ?_ ?_ <;> omega) | (refine @_root_.id _ ?_; with_unfolding_all exact Eq.refl _) | (simp only [List.length_take, List.length_drop, List.length_append, List.length_cons, List.length_nil, List.length_replicate, List.length_map] <;> omega) | fail) only [rnL, opL, ruL, hpL, rsL, natL, outL, Nat.add_sub_cancel_left, Nat.mul_one, List.length_cons, List.length_nil, Nat.zero_add, Nat.add_zero, Nat.reduceAdd, Nat.reduceMul, Nat.reduceSub, Nat.reduceEqDiff, Nat.reduceLT, Nat.reduceLeDiff, litd_t, litd_f, decide_true, decide_false, Bool.not_true, Bool.not_false, not_true_eq_false, not_false_eq_true, true_and, and_true, false_and, and_false, true_or, or_true, false_or, or_false, Int.toNat_natCast, cond_true, cond_false, List.map_cons, List.map_nil, Option.map_some, Option.map_none])
  rfl
theorem refcap_gives (n : Int) : Gives F 77 [.int .i64 n] (.int .i64 (cap n)) := by
  refine Gives.of fn_r21_Cap rfl rfl (args' := [.int .i64 n]) (by simp only [mapO_nil, mapO_c2, consO_some, upf_v]) ?_
  simp only [ir_r21_Cap]
  simp -failIfUnchanged (disch := first | assumption | omega | (refine room_i _ _ ?_ ?_ <;> omega) | (refine @_root_.id _ ?_; with_unfolding_all exact Eq.refl _) | (simp only [List.length_take, List.length_drop, List.length_append, List.length_cons, List.length_nil, List.length_replicate, List.length_map] <;> omega) | fail) only [rnL, opL, ruL, hpL, rsL, natL, outL, Nat.add_sub_cancel_left, Nat.mul_one, List.length_cons, List.length_nil, Nat.zero_add, Nat.add_zero, Nat.reduceAdd, Nat.reduceMul, Nat.reduceSub, Nat.reduceEqDiff, Nat.reduceLT, Nat.reduceLeDiff, litd_t, litd_f, decide_true, decide_false, Bool.not_true, Bool.not_false, not_true_eq_false, not_false_eq_true, true_and, and_true, false_and, and_false, true_or, or_true, false_or, or_false, Int.toNat_natCast, cond_true, cond_false, List.map_cons, List.map_nil, Option.map_some, Option.map_none]
  (first | refine RunB_i (fun h => ?_) (fun h => ?_) | refine RunG_i (fun h => ?_) (fun h => ?_) | refine RunB_ib (fun h => ?_) (fun h => ?_))
  · simp -failIfUnchanged (disch := first | assumption | omega | (refine room_i _ _ ?_ ?_ <;> omega) | (refine @_root_.id _ ?_; with_unfolding_all exact Eq.refl _) | (simp only [List.length_take, List.length_drop, List.length_append, List.length_cons, List.length_nil, List.length_replicate, List.length_map] <;> omega) | fail) only [rnL, opL, ruL, hpL, rsL, natL, outL, Nat.add_sub_cancel_left, Nat.mul_one, List.length_cons, List.length_nil, Nat.zero_add, Nat.add_zero, Nat.reduceAdd, Nat.reduceMul, Nat.reduceSub, Nat.reduceEqDiff, Nat.reduceLT, Nat.reduceLeDiff, litd_t, litd_f, decide_true, decide_false, Bool.not_true, Bool.not_false, not_true_eq_false, not_false_eq_true, true_and, and_true, false_and, and_false, true_or, or_true, false_or, or_false, Int.toNat_natCast, cond_true, cond_false, List.map_cons, List.map_nil, Option.map_some, Option.map_none]
    (refine Fin_g (.inr rfl) (by simp -failIfUnchanged (disch := first | assumption | omega | (refine room_i _ _ ?_ ?_ <;> omega) | (refine @_root_.id _ ?_; with_unfolding_all exact Eq.refl _) | (simp only [List.length_take, List.length_drop, List.length_append, List.length_cons, List.length_nil, List.length_replicate, List.length_map] <;> omega) | fail) only [rnL, opL, ruL, hpL, rsL, natL, outL, Nat.add_sub_cancel_left, Nat.mul_one, List.length_cons, List.length_nil, Nat.zero_add, Nat.add_zero, Nat.reduceAdd, Nat.reduceMul, Nat.reduceSub, Nat.reduceEqDiff, Nat.reduceLT, Nat.reduceLeDiff, litd_t, litd_f, decide_true, decide_false, Bool.not_true, Bool.not_false, not_true_eq_false, not_false_eq_true, true_and, and_true, false_and, and_false, true_or, or_true, false_or, or_false, Int.toNat_natCast, cond_true, cond_false, List.map_cons, List.map_nil, Option.map_some, Option.map_none]; rfl) ?_; simp -failIfUnchanged (disch := first | assumption | omega | (refine room_i _ _ ?_ ?_ <;> omega) | (refine @_root_.id _ ?_; with_unfolding_all exact Eq.refl _) | (simp only [List.length_take, List.length_drop, List.length_append, List.length_cons, List.length_nil, List.length_replicate, List.length_map] <;> omega) | fail) only [rnL, opL, ruL, hpL, rsL, natL, outL, Nat.add_sub_cancel_left, Nat.mul_one, List.length_cons, List.length_nil, Nat.zero_add, Nat.add_zero, Nat.reduceAdd, Nat.reduceMul, Nat.reduceSub, Nat.reduceEqDiff, Nat.reduceLT, Nat.reduceLeDiff, litd_t, litd_f, decide_true, decide_false, Bool.not_true, Bool.not_false, not_true_eq_false, not_false_eq_true, true_and, and_true, false_and, and_false, true_or, or_true, false_or, or_false, Int.toNat_natCast, cond_true, cond_false, List.map_cons, List.map_nil, Option.map_some, Option.map_none])
    simp [cap]; omega
  · simp -failIfUnchanged (disch := first | assumption | omega | (refine room_i _ _ ?_ ?_ <;> omega) | (refine @_root_.id _ ?_; with_unfolding_all exact Eq.refl _) | (simp only [List.length_take, List.length_drop, List.length_append, List.length_cons, List.length_nil, List.length_replicate, List.length_map] <;> omega) | fail) only [rnL, opL, ruL, hpL, rsL, natL, outL, Nat.add_sub_cancel_left, Nat.mul_one, List.length_cons, List.length_nil, Nat.zero_add, Nat.add_zero, Nat.reduceAdd, Nat.reduceMul, Nat.reduceSub, Nat.reduceEqDiff, Nat.reduceLT, Nat.reduceLeDiff, litd_t, litd_f, decide_true, decide_false, Bool.not_true, Bool.not_false, not_true_eq_false, not_false_eq_true, true_and, and_true, false_and, and_false, true_or, or_true, false_or, or_false, Int.toNat_natCast, cond_true, cond_false, List.map_cons, List.map_nil, Option.map_some, Option.map_none]
    (first | refine RunB_i (fun h2 => ?_) (fun h2 => ?_) | refine RunG_i (fun h2 => ?_) (fun h2 => ?_) | refine RunB_ib (fun h2 => ?_) (fun h2 => ?_))
    · simp -failIfUnchanged (disch := first | assumption | omega | (refine room_i _ _ ?_ ?_ <;> omega) | (refine @_root_.id _ ?_; with_unfolding_all exact Eq.refl _) | (simp only [List.length_take, List.length_drop, List.length_append, List.length_cons, List.length_nil, List.length_replicate, List.length_map] <;> omega) | fail) only [rnL, opL, ruL, hpL, rsL, natL, outL, Nat.add_sub_cancel_left, Nat.mul_one, List.length_cons, List.length_nil, Nat.zero_add, Nat.add_zero, Nat.reduceAdd, Nat.reduceMul, Nat.reduceSub, Nat.reduceEqDiff, Nat.reduceLT, Nat.reduceLeDiff, litd_t, litd_f, decide_true, decide_false, Bool.not_true, Bool.not_false, not_true_eq_false, not_false_eq_true, true_and, and_true, false_and, and_false, true_or, or_true, false_or, or_false, Int.toNat_natCast, cond_true, cond_false, List.map_cons, List.map_nil, Option.map_some, Option.map_none]
      (refine Fin_g (.inr rfl) (by simp -failIfUnchanged (disch := first | assumption | omega | (refine room_i _ _ ?_ ?_ <;> omega) | (refine @_root_.id _ ?_; with_unfolding_all exact Eq.refl _) | (simp only [List.length_take, List.length_drop, List.length_append, List.length_cons, List.length_nil, List.length_replicate, List.length_map] <;> omega) | fail) only [rnL, opL, ruL, hpL, rsL, natL, outL, Nat.add_sub_cancel_left, Nat.mul_one, List.length_cons, List.length_nil, Nat.zero_add, Nat.add_zero, Nat.reduceAdd, Nat.reduceMul, Nat.reduceSub, Nat.reduceEqDiff, Nat.reduceLT, Nat.reduceLeDiff, litd_t, litd_f, decide_true, decide_false, Bool.not_true, Bool.not_false, not_true_eq_false, not_false_eq_true, true_and, and_true, false_and, and_false, true_or, or_true, false_or, or_false, Int.toNat_natCast, cond_true, cond_false, List.map_cons, List.map_nil, Option.map_some, Option.map_none]; rfl) ?_; simp -failIfUnchanged (disch := first | assumption | omega | (refine room_i _ _ ?_ ?_ <;> omega) | (refine @_root_.id _ ?_; with_unfolding_all exact Eq.refl _) | (simp only [List.length_take, List.length_drop, List.length_append, List.length_cons, List.length_nil, List.length_replicate, List.length_map] <;> omega) | fail) only [rnL, opL, ruL, hpL, rsL, natL, outL, Nat.add_sub_cancel_left, Nat.mul_one, List.length_cons, List.length_nil, Nat.zero_add, Nat.add_zero, Nat.reduceAdd, Nat.reduceMul, Nat.reduceSub, Nat.reduceEqDiff, Nat.reduceLT, Nat.reduceLeDiff, litd_t, litd_f, decide_true, decide_false, Bool.not_true, Bool.not_false, not_true_eq_false, not_false_eq_true, true_and, and_true, false_and, and_false, true_or, or_true, false_or, or_false, Int.toNat_natCast, cond_true, cond_false, List.map_cons, List.map_nil, Option.map_some, Option.map_none])
      simp [cap]; omega
    · simp -failIfUnchanged (disch := first | assumption | omega | (refine room_i _ _ ?_ ?_ <;> omega) | (refine @_root_.id _ ?_; with_unfolding_all exact Eq.refl _) | (simp only [List.length_take, List.length_drop, List.length_append, List.length_cons, List.length_nil, List.length_replicate, List.length_map] <;> omega) | fail) only [rnL, opL, ruL, hpL, rsL, natL, outL, Nat.add_sub_cancel_left, Nat.mul_one, List.length_cons, List.length_nil, Nat.zero_add, Nat.add_zero, Nat.reduceAdd, Nat.reduceMul, Nat.reduceSub, Nat.reduceEqDiff, Nat.reduceLT, Nat.reduceLeDiff, litd_t, litd_f, decide_true, decide_false, Bool.not_true, Bool.not_false, not_true_eq_false, not_false_eq_true, true_and, and_true, false_and, and_false, true_or, or_true, false_or, or_false, Int.toNat_natCast, cond_true, cond_false, List.map_cons, List.map_nil, Option.map_some, Option.map_none]
      (refine Fin_g (.inr rfl) (by simp -failIfUnchanged (disch := first | assumption | omega | (refine room_i _ _ ?_ ?_ <;> omega) | (refine @_root_.id _ ?_; with_unfolding_all exact Eq.refl _) | (simp only [List.length_take, List.length_drop, List.length_append, List.length_cons, List.length_nil, List.length_replicate, List.length_map] <;> omega) | fail) only [rnL, opL, ruL, hpL, rsL, natL, outL, Nat.add_sub_cancel_left, Nat.mul_one, List.length_cons, List.length_nil, Nat.zero_add, Nat.add_zero, Nat.reduceAdd, Nat.reduceMul, Nat.reduceSub, Nat.reduceEqDiff, Nat.reduceLT, Nat.reduceLeDiff, litd_t, litd_f, decide_true, decide_false, Bool.not_true, Bool.not_false, not_true_eq_false, not_false_eq_true, true_and, and_true, false_and, and_false, true_or, or_true, false_or, or_false, Int.toNat_natCast, cond_true, cond_false, List.map_cons, List.map_nil, Option.map_some, Option.map_none]; rfl) ?_; simp -failIfUnchanged (disch := first | assumption | omega | (refine room_i _ _ ?_ ?_ <;> omega) | (refine @_root_.id _ ?_; with_unfolding_all exact Eq.refl _) | (simp only [List.length_take, List.length_drop, List.length_append, List.length_cons, List.length_nil, List.length_replicate, List.length_map] <;> omega) | fail) only [rnL, opL, ruL, hpL, rsL, natL, outL, Nat.add_sub_cancel_left, Nat.mul_one, List.length_cons, List.length_nil, Nat.zero_add, Nat.add_zero, Nat.reduceAdd, Nat.reduceMul, Nat.reduceSub, Nat.reduceEqDiff, Nat.reduceLT, Nat.reduceLeDiff, litd_t, litd_f, decide_true, decide_false, Bool.not_true, Bool.not_false, not_true_eq_false, not_false_eq_true, true_and, and_true, false_and, and_false, true_or, or_true, false_or, or_false, Int.toNat_natCast, cond_true, cond_false, List.map_cons, List.map_nil, Option.map_some, Option.map_none])
      simp [cap]; omega
theorem refcap_p (n : Int) : CallpIs F 77 [.int .i64 n] (.int .i64 (cap n)) := (refcap_gives n).isp rfl rfl
theorem plus_gives (a b : Int) : Gives F 58 [.int .i64 a, .int .i64 b] (.int .i64 (cap (cap a + cap b))) := by
  have h1 := cap_range a
  have h2 := cap_range b
  refine Gives.of fn_r21_plus rfl rfl (args' := [.int .i64 a, .int .i64 b]) (by simp only [mapO_nil, mapO_c2, consO_some, upf_v]) ?_
  simp only [ir_r21_plus]
  simp -failIfUnchanged (disch := first | assumption | omega | (refine room_i _ _ ?_ ?_ <;> omega) | (refine @_root_.id _ ?_; with_unfolding_all exact Eq.refl _) | (simp only [List.length_take, List.length_drop, List.length_append, List.length_cons, List.length_nil, List.length_replicate, List.length_map] <;> omega) | fail) only [rnL, opL, ruL, hpL, rsL, natL, outL, Nat.add_sub_cancel_left, Nat.mul_one, List.length_cons, List.length_nil, Nat.zero_add, Nat.add_zero, Nat.reduceAdd, Nat.reduceMul, Nat.reduceSub, Nat.reduceEqDiff, Nat.reduceLT, Nat.reduceLeDiff, litd_t, litd_f, decide_true, decide_false, Bool.not_true, Bool.not_false, not_true_eq_false, not_false_eq_true, true_and, and_true, false_and, and_false, true_or, or_true, false_or, or_false, Int.toNat_natCast, cond_true, cond_false, List.map_cons, List.map_nil, Option.map_some, Option.map_none, refcap_p]
  (refine Fin_g (.inr rfl) (by simp -failIfUnchanged (disch := first | assumption | omega | (refine room_i _ _ ?_ ?_ <;> omega) | (refine @_root_.id _ ?_; with_unfolding_all exact Eq.refl _) | (simp only [List.length_take, List.length_drop, List.length_append, List.length_cons, List.length_nil, List.length_replicate, List.length_map] <;> omega) | fail) only [rnL, opL, ruL, hpL, rsL, natL, outL, Nat.add_sub_cancel_left, Nat.mul_one, List.length_cons, List.length_nil, Nat.zero_add, Nat.add_zero, Nat.reduceAdd, Nat.reduceMul, Nat.reduceSub, Nat.reduceEqDiff, Nat.reduceLT, Nat.reduceLeDiff, litd_t, litd_f, decide_true, decide_false, Bool.not_true, Bool.not_false, not_true_eq_false, not_false_eq_true, true_and, and_true, false_and, and_false, true_or, or_true, false_or, or_false, Int.toNat_natCast, cond_true, cond_false, List.map_cons, List.map_nil, Option.map_some, Option.map_none]; rfl) ?_; simp -failIfUnchanged (disch := first | assumption | omega | (refine room_i _ _ ?_ ?_ <;> omega) | (refine @_root_.id _ ?_; with_unfolding_all exact Eq.refl _) | (simp only [List.length_take, List.length_drop, List.length_append, List.length_cons, List.length_nil, List.length_replicate, List.length_map] <;> omega) | fail) only [rnL, opL, ruL, hpL, rsL, natL, outL, Nat.add_sub_cancel_left, Nat.mul_one, List.length_cons, List.length_nil, Nat.zero_add, Nat.add_zero, Nat.reduceAdd, Nat.reduceMul, Nat.reduceSub, Nat.reduceEqDiff, Nat.reduceLT, Nat.reduceLeDiff, litd_t, litd_f, decide_true, decide_false, Bool.not_true, Bool.not_false, not_true_eq_false, not_false_eq_true, true_and, and_true, false_and, and_false, true_or, or_true, false_or, or_false, Int.toNat_natCast, cond_true, cond_false, List.map_cons, List.map_nil, Option.map_some, Option.map_none])
theorem times_gives (a b : Int) : Gives F 59 [.int .i64 a, .int .i64 b] (.int .i64 (cap (cap a * cap b))) := by
  have h1 := cap_range a
  have h2 := cap_range b
  have h3 : 0 ≤ cap a * cap b := Int.mul_nonneg h1.1 h2.1
  have h4 : cap a * cap b ≤ 2147483647 * 2147483647 := Int.mul_le_mul h1.2 h2.2 h2.1 (by decide)
  refine Gives.of fn_r21_times rfl rfl (args' := [.int .i64 a, .int .i64 b]) (by simp only [mapO_nil, mapO_c2, consO_some, upf_v]) ?_
  simp only [ir_r21_times]
  simp -failIfUnchanged (disch := first | assumption | omega | (refine room_i _ _ ?_ ?_ <;> omega) | (refine @_root_.id _ ?_; with_unfolding_all exact Eq.refl _) | (simp only [List.length_take, List.length_drop, List.length_append, List.length_cons, List.length_nil, List.length_replicate, List.length_map] <;> omega) | fail) only [rnL, opL, ruL, hpL, rsL, natL, outL, Nat.add_sub_cancel_left, Nat.mul_one, List.length_cons, List.length_nil, Nat.zero_add, Nat.add_zero, Nat.reduceAdd, Nat.reduceMul, Nat.reduceSub, Nat.reduceEqDiff, Nat.reduceLT, Nat.reduceLeDiff, litd_t, litd_f, decide_true, decide_false, Bool.not_true, Bool.not_false, not_true_eq_false, not_false_eq_true, true_and, and_true, false_and, and_false, true_or, or_true, false_or, or_false, Int.toNat_natCast, cond_true, cond_false, List.map_cons, List.map_nil, Option.map_some, Option.map_none, refcap_p]
  (refine Fin_g (.inr rfl) (by simp -failIfUnchanged (disch := first | assumption | omega | (refine room_i _ _ ?_ ?_ <;> omega) | (refine @_root_.id _ ?_; with_unfolding_all exact Eq.refl _) | (simp only [List.length_take, List.length_drop, List.length_append, List.length_cons, List.length_nil, List.length_replicate, List.length_map] <;> omega) | fail) only [rnL, opL, ruL, hpL, rsL, natL, outL, Nat.add_sub_cancel_left, Nat.mul_one, List.length_cons, List.length_nil, Nat.zero_add, Nat.add_zero, Nat.reduceAdd, Nat.reduceMul, Nat.reduceSub, Nat.reduceEqDiff, Nat.reduceLT, Nat.reduceLeDiff, litd_t, litd_f, decide_true, decide_false, Bool.not_true, Bool.not_false, not_true_eq_false, not_false_eq_true, true_and, and_true, false_and, and_false, true_or, or_true, false_or, or_false, Int.toNat_natCast, cond_true, cond_false, List.map_cons, List.map_nil, Option.map_some, Option.map_none]; rfl) ?_; simp -failIfUnchanged (disch := first | assumption | omega | (refine room_i _ _ ?_ ?_ <;> omega) | (refine @_root_.id _ ?_; with_unfolding_all exact Eq.refl _) | (simp only [List.length_take, List.length_drop, List.length_append, List.length_cons, List.length_nil, List.length_replicate, List.length_map] <;> omega) | fail) only [rnL, opL, ruL, hpL, rsL, natL, outL, Nat.add_sub_cancel_left, Nat.mul_one, List.length_cons, List.length_nil, Nat.zero_add, Nat.add_zero, Nat.reduceAdd, Nat.reduceMul, Nat.reduceSub, Nat.reduceEqDiff, Nat.reduceLT, Nat.reduceLeDiff, litd_t, litd_f, decide_true, decide_false, Bool.not_true, Bool.not_false, not_true_eq_false, not_false_eq_true, true_and, and_true, false_and, and_false, true_or, or_true, false_or, or_false, Int.toNat_natCast, cond_true, cond_false, List.map_cons, List.map_nil, Option.map_some, Option.map_none])
theorem plus_p (a b : Int) : CallpIs F 58 [.int .i64 a, .int .i64 b] (.int .i64 (cap (cap a + cap b))) := (plus_gives a b).isp rfl rfl
theorem times_p (a b : Int) : CallpIs F 59 [.int .i64 a, .int .i64 b] (.int .i64 (cap (cap a * cap b))) := (times_gives a b).isp rfl rfl
def sums (l : List Int) : Int := l.foldl (fun n x => cap (n + cap x)) 0
def prods (l : List Int) : Int := l.foldl (fun n x => cap (n * cap x)) 1
theorem sums_snoc (l : List Int) (x : Int) : sums (l ++ [x]) = cap (sums l + cap x) := by simp [sums]
theorem prods_snoc (l : List Int) (x : Int) : prods (l ++ [x]) = cap (prods l * cap x) := by simp [prods]
theorem sums_range (l : List Int) : 0 ≤ sums l ∧ sums l ≤ 2147483647 := by
  rcases List.eq_nil_or_concat l with rfl | ⟨r, x, rfl⟩
  · simp [sums]
  · rw [List.concat_eq_append, sums_snoc]; exact cap_range _
theorem prods_range (l : List Int) : 0 ≤ prods l ∧ prods l ≤ 2147483647 := by
  rcases List.eq_nil_or_concat l with rfl | ⟨r, x, rfl⟩
  · simp [prods]
  · rw [List.concat_eq_append, prods_snoc]; exact cap_range _
theorem clamp_p (n : Int) : CallpIs F 88 [.int .i64 n] (.int .i64 (cap n)) := (clamp_gives n).isp rfl rfl
theorem sum_gives (nl : Bool) (l : List Int) (hl : l.length ≤ 1000) : Gives F 75 [sl nl l] (.int .i64 (sums l)) := by
  refine Gives.of fn_room_sum rfl rfl (args' := [sl nl l]) (by simp only [mapO_nil, mapO_c2, consO_some, upf_v]) ?_
  simp only [ir_room_sum]
  simp -failIfUnchanged (disch := first | assumption | omega | (refine room_i _ _ ?_ ?_ <;> omega) | (refine @_root_.id _ ?_; with_unfolding_all exact Eq.refl _) | (simp only [List.length_take, List.length_drop, List.length_append, List.length_cons, List.length_nil, List.length_replicate, List.length_map] <;> omega) | fail) only [rnL, opL, ruL, hpL, rsL, natL, outL, Nat.add_sub_cancel_left, Nat.mul_one, List.length_cons, List.length_nil, Nat.zero_add, Nat.add_zero, Nat.reduceAdd, Nat.reduceMul, Nat.reduceSub, Nat.reduceEqDiff, Nat.reduceLT, Nat.reduceLeDiff, litd_t, litd_f, decide_true, decide_false, Bool.not_true, Bool.not_false, not_true_eq_false, not_false_eq_true, true_and, and_true, false_and, and_false, true_or, or_true, false_or, or_false, Int.toNat_natCast, cond_true, cond_false, List.map_cons, List.map_nil, Option.map_some, Option.map_none]
  refine Run_upto l.length (fun i => [(0, sl nl l), (2, AV.int IntKind.i64 0), (3, AV.int IntKind.i64 (sums (l.take i))), (6, sl nl l), (7, AV.int IntKind.i64 l.length), (8, AV.int IntKind.i64 i)]) (fun _ => [[]]) (fun _ => True) rfl rfl trivial ?_
  intro i hi _
  have h1 := sums_range (l.take i)
  simp -failIfUnchanged (disch := first | assumption | omega | (refine room_i _ _ ?_ ?_ <;> omega) | (refine @_root_.id _ ?_; with_unfolding_all exact Eq.refl _) | (simp only [List.length_take, List.length_drop, List.length_append, List.length_cons, List.length_nil, List.length_replicate, List.length_map] <;> omega) | fail) only [rnL, opL, ruL, hpL, rsL, natL, outL, Nat.add_sub_cancel_left, Nat.mul_one, List.length_cons, List.length_nil, Nat.zero_add, Nat.add_zero, Nat.reduceAdd, Nat.reduceMul, Nat.reduceSub, Nat.reduceEqDiff, Nat.reduceLT, Nat.reduceLeDiff, litd_t, litd_f, decide_true, decide_false, Bool.not_true, Bool.not_false, not_true_eq_false, not_false_eq_true, true_and, and_true, false_and, and_false, true_or, or_true, false_or, or_false, Int.toNat_natCast, cond_true, cond_false, List.map_cons, List.map_nil, Option.map_some, Option.map_none]
  (first | refine RunB_i (fun h => ?_) (fun h => ?_) | refine RunG_i (fun h => ?_) (fun h => ?_) | refine RunB_ib (fun h => ?_) (fun h => ?_))
  · have hlt : i < l.length := by omega
    have h2 := cap_range l[i]
    simp -failIfUnchanged (disch := first | assumption | omega | (refine room_i _ _ ?_ ?_ <;> omega) | (refine @_root_.id _ ?_; with_unfolding_all exact Eq.refl _) | (simp only [List.length_take, List.length_drop, List.length_append, List.length_cons, List.length_nil, List.length_replicate, List.length_map] <;> omega) | fail) only [rnL, opL, ruL, hpL, rsL, natL, outL, Nat.add_sub_cancel_left, Nat.mul_one, List.length_cons, List.length_nil, Nat.zero_add, Nat.add_zero, Nat.reduceAdd, Nat.reduceMul, Nat.reduceSub, Nat.reduceEqDiff, Nat.reduceLT, Nat.reduceLeDiff, litd_t, litd_f, decide_true, decide_false, Bool.not_true, Bool.not_false, not_true_eq_false, not_false_eq_true, true_and, and_true, false_and, and_false, true_or, or_true, false_or, or_false, Int.toNat_natCast, cond_true, cond_false, List.map_cons, List.map_nil, Option.map_some, Option.map_none, clamp_p]
    rw [take_snoc l i hlt, sums_snoc]
    exact .i hlt (by first | exact trivial | rfl) (by first | exact trivial | rfl) trivial
  · have : i = l.length := by omega
    subst this
    simp -failIfUnchanged (disch := first | assumption | omega | (refine room_i _ _ ?_ ?_ <;> omega) | (refine @_root_.id _ ?_; with_unfolding_all exact Eq.refl _) | (simp only [List.length_take, List.length_drop, List.length_append, List.length_cons, List.length_nil, List.length_replicate, List.length_map] <;> omega) | fail) only [rnL, opL, ruL, hpL, rsL, natL, outL, Nat.add_sub_cancel_left, Nat.mul_one, List.length_cons, List.length_nil, Nat.zero_add, Nat.add_zero, Nat.reduceAdd, Nat.reduceMul, Nat.reduceSub, Nat.reduceEqDiff, Nat.reduceLT, Nat.reduceLeDiff, litd_t, litd_f, decide_true, decide_false, Bool.not_true, Bool.not_false, not_true_eq_false, not_false_eq_true, true_and, and_true, false_and, and_false, true_or, or_true, false_or, or_false, Int.toNat_natCast, cond_true, cond_false, List.map_cons, List.map_nil, Option.map_some, Option.map_none]
    (refine Fin_g (.inr rfl) (by simp -failIfUnchanged (disch := first | assumption | omega | (refine room_i _ _ ?_ ?_ <;> omega) | (refine @_root_.id _ ?_; with_unfolding_all exact Eq.refl _) | (simp only [List.length_take, List.length_drop, List.length_append, List.length_cons, List.length_nil, List.length_replicate, List.length_map] <;> omega) | fail) only [rnL, opL, ruL, hpL, rsL, natL, outL, Nat.add_sub_cancel_left, Nat.mul_one, List.length_cons, List.length_nil, Nat.zero_add, Nat.add_zero, Nat.reduceAdd, Nat.reduceMul, Nat.reduceSub, Nat.reduceEqDiff, Nat.reduceLT, Nat.reduceLeDiff, litd_t, litd_f, decide_true, decide_false, Bool.not_true, Bool.not_false, not_true_eq_false, not_false_eq_true, true_and, and_true, false_and, and_false, true_or, or_true, false_or, or_false, Int.toNat_natCast, cond_true, cond_false, List.map_cons, List.map_nil, Option.map_some, Option.map_none]; rfl) ?_; simp -failIfUnchanged (disch := first | assumption | omega | (refine room_i _ _ ?_ ?_ <;> omega) | (refine @_root_.id _ ?_; with_unfolding_all exact Eq.refl _) | (simp only [List.length_take, List.length_drop, List.length_append, List.length_cons, List.length_nil, List.length_replicate, List.length_map] <;> omega) | fail) only [rnL, opL, ruL, hpL, rsL, natL, outL, Nat.add_sub_cancel_left, Nat.mul_one, List.length_cons, List.length_nil, Nat.zero_add, Nat.add_zero, Nat.reduceAdd, Nat.reduceMul, Nat.reduceSub, Nat.reduceEqDiff, Nat.reduceLT, Nat.reduceLeDiff, litd_t, litd_f, decide_true, decide_false, Bool.not_true, Bool.not_false, not_true_eq_false, not_false_eq_true, true_and, and_true, false_and, and_false, true_or, or_true, false_or, or_false, Int.toNat_natCast, cond_true, cond_false, List.map_cons, List.map_nil, Option.map_some, Option.map_none])
    rw [List.take_length]
theorem prod_gives (nl : Bool) (l : List Int) (hl : l.length ≤ 1000) : Gives F 76 [sl nl l] (.int .i64 (prods l)) := by
  refine Gives.of fn_room_product rfl rfl (args' := [sl nl l]) (by simp only [mapO_nil, mapO_c2, consO_some, upf_v]) ?_
  simp only [ir_room_product]
  simp -failIfUnchanged (disch := first | assumption | omega | (refine room_i _ _ ?_ ?_ <;> omega) | (refine @_root_.id _ ?_; with_unfolding_all exact Eq.refl _) | (simp only [List.length_take, List.length_drop, List.length_append, List.length_cons, List.length_nil, List.length_replicate, List.length_map] <;> omega) | fail) only [rnL, opL, ruL, hpL, rsL, natL, outL, Nat.add_sub_cancel_left, Nat.mul_one, List.length_cons, List.length_nil, Nat.zero_add, Nat.add_zero, Nat.reduceAdd, Nat.reduceMul, Nat.reduceSub, Nat.reduceEqDiff, Nat.reduceLT, Nat.reduceLeDiff, litd_t, litd_f, decide_true, decide_false, Bool.not_true, Bool.not_false, not_true_eq_false, not_false_eq_true, true_and, and_true, false_and, and_false, true_or, or_true, false_or, or_false, Int.toNat_natCast, cond_true, cond_false, List.map_cons, List.map_nil, Option.map_some, Option.map_none]
  refine Run_upto l.length (fun i => [(0, sl nl l), (2, AV.int IntKind.i64 0), (3, AV.int IntKind.i64 (prods (l.take i))), (6, sl nl l), (7, AV.int IntKind.i64 l.length), (8, AV.int IntKind.i64 i)]) (fun _ => [[]]) (fun _ => True) rfl rfl trivial ?_
  intro i hi _
  have h1 := prods_range (l.take i)
  simp -failIfUnchanged (disch := first | assumption | omega | (refine room_i _ _ ?_ ?_ <;> omega) | (refine @_root_.id _ ?_; with_unfolding_all exact Eq.refl _) | (simp only [List.length_take, List.length_drop, List.length_append, List.length_cons, List.length_nil, List.length_replicate, List.length_map] <;> omega) | fail) only [rnL, opL, ruL, hpL, rsL, natL, outL, Nat.add_sub_cancel_left, Nat.mul_one, List.length_cons, List.length_nil, Nat.zero_add, Nat.add_zero, Nat.reduceAdd, Nat.reduceMul, Nat.reduceSub, Nat.reduceEqDiff, Nat.reduceLT, Nat.reduceLeDiff, litd_t, litd_f, decide_true, decide_false, Bool.not_true, Bool.not_false, not_true_eq_false, not_false_eq_true, true_and, and_true, false_and, and_false, true_or, or_true, false_or, or_false, Int.toNat_natCast, cond_true, cond_false, List.map_cons, List.map_nil, Option.map_some, Option.map_none]
  (first | refine RunB_i (fun h => ?_) (fun h => ?_) | refine RunG_i (fun h => ?_) (fun h => ?_) | refine RunB_ib (fun h => ?_) (fun h => ?_))
  · have hlt : i < l.length := by omega
    have h2 := cap_range l[i]
    have h3 : 0 ≤ prods (l.take i) * cap l[i] := Int.mul_nonneg h1.1 h2.1
    have h4 : prods (l.take i) * cap l[i] ≤ 2147483647 * 2147483647 := Int.mul_le_mul h1.2 h2.2 h2.1 (by decide)
    simp -failIfUnchanged (disch := first | assumption | omega | (refine room_i _ _ ?_ ?_ <;> omega) | (refine @_root_.id _ ?_; with_unfolding_all exact Eq.refl _) | (simp only [List.length_take, List.length_drop, List.length_append, List.length_cons, List.length_nil, List.length_replicate, List.length_map] <;> omega) | fail) only [rnL, opL, ruL, hpL, rsL, natL, outL, Nat.add_sub_cancel_left, Nat.mul_one, List.length_cons, List.length_nil, Nat.zero_add, Nat.add_zero, Nat.reduceAdd, Nat.reduceMul, Nat.reduceSub, Nat.reduceEqDiff, Nat.reduceLT, Nat.reduceLeDiff, litd_t, litd_f, decide_true, decide_false, Bool.not_true, Bool.not_false, not_true_eq_false, not_false_eq_true, true_and, and_true, false_and, and_false, true_or, or_true, false_or, or_false, Int.toNat_natCast, cond_true, cond_false, List.map_cons, List.map_nil, Option.map_some, Option.map_none, clamp_p]
    rw [take_snoc l i hlt, prods_snoc]
    exact .i hlt (by first | exact trivial | rfl) (by first | exact trivial | rfl) trivial
  · have : i = l.length := by omega
    subst this
    simp -failIfUnchanged (disch := first | assumption | omega | (refine room_i _ _ ?_ ?_ <;> omega) | (refine @_root_.id _ ?_; with_unfolding_all exact Eq.refl _) | (simp only [List.length_take, List.length_drop, List.length_append, List.length_cons, List.length_nil, List.length_replicate, List.length_map] <;> omega) | fail) only [rnL, opL, ruL, hpL, rsL, natL, outL, Nat.add_sub_cancel_left, Nat.mul_one, List.length_cons, List.length_nil, Nat.zero_add, Nat.add_zero, Nat.reduceAdd, Nat.reduceMul, Nat.reduceSub, Nat.reduceEqDiff, Nat.reduceLT, Nat.reduceLeDiff, litd_t, litd_f, decide_true, decide_false, Bool.not_true, Bool.not_false, not_true_eq_false, not_false_eq_true, true_and, and_true, false_and, and_false, true_or, or_true, false_or, or_false, Int.toNat_natCast, cond_true, cond_false, List.map_cons, List.map_nil, Option.map_some, Option.map_none]
    (refine Fin_g (.inr rfl) (by simp -failIfUnchanged (disch := first | assumption | omega | (refine room_i _ _ ?_ ?_ <;> omega) | (refine @_root_.id _ ?_; with_unfolding_all exact Eq.refl _) | (simp only [List.length_take, List.length_drop, List.length_append, List.length_cons, List.length_nil, List.length_replicate, List.length_map] <;> omega) | fail) only [rnL, opL, ruL, hpL, rsL, natL, outL, Nat.add_sub_cancel_left, Nat.mul_one, List.length_cons, List.length_nil, Nat.zero_add, Nat.add_zero, Nat.reduceAdd, Nat.reduceMul, Nat.reduceSub, Nat.reduceEqDiff, Nat.reduceLT, Nat.reduceLeDiff, litd_t, litd_f, decide_true, decide_false, Bool.not_true, Bool.not_false, not_true_eq_false, not_false_eq_true, true_and, and_true, false_and, and_false, true_or, or_true, false_or, or_false, Int.toNat_natCast, cond_true, cond_false, List.map_cons, List.map_nil, Option.map_some, Option.map_none]; rfl) ?_; simp -failIfUnchanged (disch := first | assumption | omega | (refine room_i _ _ ?_ ?_ <;> omega) | (refine @_root_.id _ ?_; with_unfolding_all exact Eq.refl _) | (simp only [List.length_take, List.length_drop, List.length_append, List.length_cons, List.length_nil, List.length_replicate, List.length_map] <;> omega) | fail) only [rnL, opL, ruL, hpL, rsL, natL, outL, Nat.add_sub_cancel_left, Nat.mul_one, List.length_cons, List.length_nil, Nat.zero_add, Nat.add_zero, Nat.reduceAdd, Nat.reduceMul, Nat.reduceSub, Nat.reduceEqDiff, Nat.reduceLT, Nat.reduceLeDiff, litd_t, litd_f, decide_true, decide_false, Bool.not_true, Bool.not_false, not_true_eq_false, not_false_eq_true, true_and, and_true, false_and, and_false, true_or, or_true, false_or, or_false, Int.toNat_natCast, cond_true, cond_false, List.map_cons, List.map_nil, Option.map_some, Option.map_none])
    rw [List.take_length]
theorem ahead_gives (s e : Str) : Gives F 100 [.str s, .str e] (.bool (decide (e = [] ∨ slt s e))) := by
  refine Gives.of fn_key_ahead rfl rfl (args' := [.str s, .str e]) (by simp only [mapO_nil, mapO_c2, consO_some, upf_v]) ?_
  simp only [ir_key_ahead]
  simp -failIfUnchanged (disch := first | assumption | omega | (refine room_i _ _ ?_ ?_ <;> omega) | (refine @_root_.id _ ?_; with_unfolding_all exact Eq.refl _) | (simp only [List.length_take, List.length_drop, List.length_append, List.length_cons, List.length_nil, List.length_replicate, List.length_map] <;> omega) | fail) only [rnL, opL, ruL, hpL, rsL, natL, outL, Nat.add_sub_cancel_left, Nat.mul_one, List.length_cons, List.length_nil, Nat.zero_add, Nat.add_zero, Nat.reduceAdd, Nat.reduceMul, Nat.reduceSub, Nat.reduceEqDiff, Nat.reduceLT, Nat.reduceLeDiff, litd_t, litd_f, decide_true, decide_false, Bool.not_true, Bool.not_false, not_true_eq_false, not_false_eq_true, true_and, and_true, false_and, and_false, true_or, or_true, false_or, or_false, Int.toNat_natCast, cond_true, cond_false, List.map_cons, List.map_nil, Option.map_some, Option.map_none]
  (first | refine RunB_i (fun h => ?_) (fun h => ?_) | refine RunG_i (fun h => ?_) (fun h => ?_) | refine RunB_ib (fun h => ?_) (fun h => ?_))
  · simp -failIfUnchanged (disch := first | assumption | omega | (refine room_i _ _ ?_ ?_ <;> omega) | (refine @_root_.id _ ?_; with_unfolding_all exact Eq.refl _) | (simp only [List.length_take, List.length_drop, List.length_append, List.length_cons, List.length_nil, List.length_replicate, List.length_map] <;> omega) | fail) only [rnL, opL, ruL, hpL, rsL, natL, outL, Nat.add_sub_cancel_left, Nat.mul_one, List.length_cons, List.length_nil, Nat.zero_add, Nat.add_zero, Nat.reduceAdd, Nat.reduceMul, Nat.reduceSub, Nat.reduceEqDiff, Nat.reduceLT, Nat.reduceLeDiff, litd_t, litd_f, decide_true, decide_false, Bool.not_true, Bool.not_false, not_true_eq_false, not_false_eq_true, true_and, and_true, false_and, and_false, true_or, or_true, false_or, or_false, Int.toNat_natCast, cond_true, cond_false, List.map_cons, List.map_nil, Option.map_some, Option.map_none]
    (refine Fin_g (.inr rfl) (by simp -failIfUnchanged (disch := first | assumption | omega | (refine room_i _ _ ?_ ?_ <;> omega) | (refine @_root_.id _ ?_; with_unfolding_all exact Eq.refl _) | (simp only [List.length_take, List.length_drop, List.length_append, List.length_cons, List.length_nil, List.length_replicate, List.length_map] <;> omega) | fail) only [rnL, opL, ruL, hpL, rsL, natL, outL, Nat.add_sub_cancel_left, Nat.mul_one, List.length_cons, List.length_nil, Nat.zero_add, Nat.add_zero, Nat.reduceAdd, Nat.reduceMul, Nat.reduceSub, Nat.reduceEqDiff, Nat.reduceLT, Nat.reduceLeDiff, litd_t, litd_f, decide_true, decide_false, Bool.not_true, Bool.not_false, not_true_eq_false, not_false_eq_true, true_and, and_true, false_and, and_false, true_or, or_true, false_or, or_false, Int.toNat_natCast, cond_true, cond_false, List.map_cons, List.map_nil, Option.map_some, Option.map_none]; rfl) ?_; simp -failIfUnchanged (disch := first | assumption | omega | (refine room_i _ _ ?_ ?_ <;> omega) | (refine @_root_.id _ ?_; with_unfolding_all exact Eq.refl _) | (simp only [List.length_take, List.length_drop, List.length_append, List.length_cons, List.length_nil, List.length_replicate, List.length_map] <;> omega) | fail) only [rnL, opL, ruL, hpL, rsL, natL, outL, Nat.add_sub_cancel_left, Nat.mul_one, List.length_cons, List.length_nil, Nat.zero_add, Nat.add_zero, Nat.reduceAdd, Nat.reduceMul, Nat.reduceSub, Nat.reduceEqDiff, Nat.reduceLT, Nat.reduceLeDiff, litd_t, litd_f, decide_true, decide_false, Bool.not_true, Bool.not_false, not_true_eq_false, not_false_eq_true, true_and, and_true, false_and, and_false, true_or, or_true, false_or, or_false, Int.toNat_natCast, cond_true, cond_false, List.map_cons, List.map_nil, Option.map_some, Option.map_none])
    simp [h]
  · simp -failIfUnchanged (disch := first | assumption | omega | (refine room_i _ _ ?_ ?_ <;> omega) | (refine @_root_.id _ ?_; with_unfolding_all exact Eq.refl _) | (simp only [List.length_take, List.length_drop, List.length_append, List.length_cons, List.length_nil, List.length_replicate, List.length_map] <;> omega) | fail) only [rnL, opL, ruL, hpL, rsL, natL, outL, Nat.add_sub_cancel_left, Nat.mul_one, List.length_cons, List.length_nil, Nat.zero_add, Nat.add_zero, Nat.reduceAdd, Nat.reduceMul, Nat.reduceSub, Nat.reduceEqDiff, Nat.reduceLT, Nat.reduceLeDiff, litd_t, litd_f, decide_true, decide_false, Bool.not_true, Bool.not_false, not_true_eq_false, not_false_eq_true, true_and, and_true, false_and, and_false, true_or, or_true, false_or, or_false, Int.toNat_natCast, cond_true, cond_false, List.map_cons, List.map_nil, Option.map_some, Option.map_none]
    (refine Fin_g (.inr rfl) (by simp -failIfUnchanged (disch := first | assumption | omega | (refine room_i _ _ ?_ ?_ <;> omega) | (refine @_root_.id _ ?_; with_unfolding_all exact Eq.refl _) | (simp only [List.length_take, List.length_drop, List.length_append, List.length_cons, List.length_nil, List.length_replicate, List.length_map] <;> omega) | fail) only [rnL, opL, ruL, hpL, rsL, natL, outL, Nat.add_sub_cancel_left, Nat.mul_one, List.length_cons, List.length_nil, Nat.zero_add, Nat.add_zero, Nat.reduceAdd, Nat.reduceMul, Nat.reduceSub, Nat.reduceEqDiff, Nat.reduceLT, Nat.reduceLeDiff, litd_t, litd_f, decide_true, decide_false, Bool.not_true, Bool.not_false, not_true_eq_false, not_false_eq_true, true_and, and_true, false_and, and_false, true_or, or_true, false_or, or_false, Int.toNat_natCast, cond_true, cond_false, List.map_cons, List.map_nil, Option.map_some, Option.map_none]; rfl) ?_; simp -failIfUnchanged (disch := first | assumption | omega | (refine room_i _ _ ?_ ?_ <;> omega) | (refine @_root_.id _ ?_; with_unfolding_all exact Eq.refl _) | (simp only [List.length_take, List.length_drop, List.length_append, List.length_cons, List.length_nil, List.length_replicate, List.length_map] <;> omega) | fail) only [rnL, opL, ruL, hpL, rsL, natL, outL, Nat.add_sub_cancel_left, Nat.mul_one, List.length_cons, List.length_nil, Nat.zero_add, Nat.add_zero, Nat.reduceAdd, Nat.reduceMul, Nat.reduceSub, Nat.reduceEqDiff, Nat.reduceLT, Nat.reduceLeDiff, litd_t, litd_f, decide_true, decide_false, Bool.not_true, Bool.not_false, not_true_eq_false, not_false_eq_true, true_and, and_true, false_and, and_false, true_or, or_true, false_or, or_false, Int.toNat_natCast, cond_true, cond_false, List.map_cons, List.map_nil, Option.map_some, Option.map_none])
    simp [h]
theorem ahead_is (s e : Str) : CallIs F 100 [.str s, .str e] (.bool (decide (e = [] ∨ slt s e))) := (ahead_gives s e).is
def okR (r : Rng) : Prop := r.hi = [] ∨ slt r.lo r.hi
instance (r : Rng) : Decidable (okR r) := by unfold okR; infer_instance
theorem rr_is (r : Rng) : CallIs F 96 [.agg (Cel.enc r)] (.bool (decide (okR r))) := by
  refine Gives.is ?_
  refine Gives.of fn_key_RightRange rfl rfl (args' := [.agg (Cel.enc r)]) (by simp only [mapO_nil, mapO_c2, consO_some, upf_v]) ?_
  simp only [ir_key_RightRange]
  simp -failIfUnchanged (disch := first | assumption | omega | (refine room_i _ _ ?_ ?_ <;> omega) | (refine @_root_.id _ ?_; with_unfolding_all exact Eq.refl _) | (simp only [List.length_take, List.length_drop, List.length_append, List.length_cons, List.length_nil, List.length_replicate, List.length_map] <;> omega) | fail) only [rnL, opL, ruL, hpL, rsL, natL, outL, Nat.add_sub_cancel_left, Nat.mul_one, List.length_cons, List.length_nil, Nat.zero_add, Nat.add_zero, Nat.reduceAdd, Nat.reduceMul, Nat.reduceSub, Nat.reduceEqDiff, Nat.reduceLT, Nat.reduceLeDiff, litd_t, litd_f, decide_true, decide_false, Bool.not_true, Bool.not_false, not_true_eq_false, not_false_eq_true, true_and, and_true, false_and, and_false, true_or, or_true, false_or, or_false, Int.toNat_natCast, cond_true, cond_false, List.map_cons, List.map_nil, Option.map_some, Option.map_none, datL, ahead_is]
  (refine Fin_g (.inr rfl) (by simp -failIfUnchanged (disch := first | assumption | omega | (refine room_i _ _ ?_ ?_ <;> omega) | (refine @_root_.id _ ?_; with_unfolding_all exact Eq.refl _) | (simp only [List.length_take, List.length_drop, List.length_append, List.length_cons, List.length_nil, List.length_replicate, List.length_map] <;> omega) | fail) only [rnL, opL, ruL, hpL, rsL, natL, outL, Nat.add_sub_cancel_left, Nat.mul_one, List.length_cons, List.length_nil, Nat.zero_add, Nat.add_zero, Nat.reduceAdd, Nat.reduceMul, Nat.reduceSub, Nat.reduceEqDiff, Nat.reduceLT, Nat.reduceLeDiff, litd_t, litd_f, decide_true, decide_false, Bool.not_true, Bool.not_false, not_true_eq_false, not_false_eq_true, true_and, and_true, false_and, and_false, true_or, or_true, false_or, or_false, Int.toNat_natCast, cond_true, cond_false, List.map_cons, List.map_nil, Option.map_some, Option.map_none]; rfl) ?_; simp -failIfUnchanged (disch := first | assumption | omega | (refine room_i _ _ ?_ ?_ <;> omega) | (refine @_root_.id _ ?_; with_unfolding_all exact Eq.refl _) | (simp only [List.length_take, List.length_drop, List.length_append, List.length_cons, List.length_nil, List.length_replicate, List.length_map] <;> omega) | fail) only [rnL, opL, ruL, hpL, rsL, natL, outL, Nat.add_sub_cancel_left, Nat.mul_one, List.length_cons, List.length_nil, Nat.zero_add, Nat.add_zero, Nat.reduceAdd, Nat.reduceMul, Nat.reduceSub, Nat.reduceEqDiff, Nat.reduceLT, Nat.reduceLeDiff, litd_t, litd_f, decide_true, decide_false, Bool.not_true, Bool.not_false, not_true_eq_false, not_false_eq_true, true_and, and_true, false_and, and_false, true_or, or_true, false_or, or_false, Int.toNat_natCast, cond_true, cond_false, List.map_cons, List.map_nil, Option.map_some, Option.map_none])
  rfl
def nd0 : Nd := ⟨0, ⟨true, []⟩, ⟨true, []⟩, ⟨true, []⟩, ⟨true, []⟩⟩
def nodeAt (T : Tr) (i : Int) : Nd := if 1 ≤ i then (T.nodes.l[i.toNat]?).getD nd0 else nd0
theorem opV_build0 {H : Heap} (z : List AV) : opV H (.build z []) = some (.agg z, H) := rfl
theorem spliceAll {α : Type} [Cel α] (a : α) (cs : List AV) (h : cs.length = Cel.n α) : splice cs 0 (Cel.enc a) = Cel.enc a := by
  simp [splice, Cel.len, h]
theorem splice5 (a b c d e : AV) (x : List AV) (h : x.length = 5) : splice [a, b, c, d, e] 0 x = x := by simp [splice, h]
theorem fgNd0 : fg (.agg [AV.int IntKind.u8 0, AV.imm true 0 0 (some 0) [], AV.imm true 0 0 (some 0) [], AV.imm true 0 0 (some 0) [], AV.imm true 0 0 (some 0) []]) = .agg (Cel.enc nd0) := rfl
theorem node_is (T : Tr) (i : Int) : CallIs F 93 [.agg (Cel.enc T), .int .i64 i] (.tuple [.agg (Cel.enc (nodeAt T i)), .bool (decide ((nodeAt T i).kind = 1 ∨ (nodeAt T i).kind = 2))]) := by
  refine Gives.is ?_
  refine Gives.of fn_tree_node rfl rfl (args' := [.agg (Cel.enc T), .int .i64 i]) (by simp only [mapO_nil, mapO_c2, consO_some, upf_v]) ?_
  simp only [ir_tree_node]
  simp -failIfUnchanged (disch := first | assumption | omega | (refine room_i _ _ ?_ ?_ <;> omega) | (refine @_root_.id _ ?_; with_unfolding_all exact Eq.refl _) | (simp only [List.length_take, List.length_drop, List.length_append, List.length_cons, List.length_nil, List.length_replicate, List.length_map] <;> omega) | fail) only [rnL, opL, ruL, hpL, rsL, natL, outL, Nat.add_sub_cancel_left, Nat.mul_one, List.length_cons, List.length_nil, Nat.zero_add, Nat.add_zero, Nat.reduceAdd, Nat.reduceMul, Nat.reduceSub, Nat.reduceEqDiff, Nat.reduceLT, Nat.reduceLeDiff, litd_t, litd_f, decide_true, decide_false, Bool.not_true, Bool.not_false, not_true_eq_false, not_false_eq_true, true_and, and_true, false_and, and_false, true_or, or_true, false_or, or_false, Int.toNat_natCast, cond_true, cond_false, List.map_cons, List.map_nil, Option.map_some, Option.map_none, datL]
  (first | refine RunB_i (fun h => ?_) (fun h => ?_) | refine RunG_i (fun h => ?_) (fun h => ?_) | refine RunB_ib (fun h => ?_) (fun h => ?_))
  · have hn : nodeAt T i = nd0 := by unfold nodeAt; rw [if_neg (by omega)]
    rw [hn]
    simp -failIfUnchanged (disch := first | assumption | omega | (refine room_i _ _ ?_ ?_ <;> omega) | (refine @_root_.id _ ?_; with_unfolding_all exact Eq.refl _) | (simp only [List.length_take, List.length_drop, List.length_append, List.length_cons, List.length_nil, List.length_replicate, List.length_map] <;> omega) | fail) only [rnL, opL, ruL, hpL, rsL, natL, outL, Nat.add_sub_cancel_left, Nat.mul_one, List.length_cons, List.length_nil, Nat.zero_add, Nat.add_zero, Nat.reduceAdd, Nat.reduceMul, Nat.reduceSub, Nat.reduceEqDiff, Nat.reduceLT, Nat.reduceLeDiff, litd_t, litd_f, decide_true, decide_false, Bool.not_true, Bool.not_false, not_true_eq_false, not_false_eq_true, true_and, and_true, false_and, and_false, true_or, or_true, false_or, or_false, Int.toNat_natCast, cond_true, cond_false, List.map_cons, List.map_nil, Option.map_some, Option.map_none, datL, opV_build0, splice5]
    (refine Fin_g (.inr rfl) (by simp -failIfUnchanged (disch := first | assumption | omega | (refine room_i _ _ ?_ ?_ <;> omega) | (refine @_root_.id _ ?_; with_unfolding_all exact Eq.refl _) | (simp only [List.length_take, List.length_drop, List.length_append, List.length_cons, List.length_nil, List.length_replicate, List.length_map] <;> omega) | fail) only [rnL, opL, ruL, hpL, rsL, natL, outL, Nat.add_sub_cancel_left, Nat.mul_one, List.length_cons, List.length_nil, Nat.zero_add, Nat.add_zero, Nat.reduceAdd, Nat.reduceMul, Nat.reduceSub, Nat.reduceEqDiff, Nat.reduceLT, Nat.reduceLeDiff, litd_t, litd_f, decide_true, decide_false, Bool.not_true, Bool.not_false, not_true_eq_false, not_false_eq_true, true_and, and_true, false_and, and_false, true_or, or_true, false_or, or_false, Int.toNat_natCast, cond_true, cond_false, List.map_cons, List.map_nil, Option.map_some, Option.map_none]; rfl) ?_; simp -failIfUnchanged (disch := first | assumption | omega | (refine room_i _ _ ?_ ?_ <;> omega) | (refine @_root_.id _ ?_; with_unfolding_all exact Eq.refl _) | (simp only [List.length_take, List.length_drop, List.length_append, List.length_cons, List.length_nil, List.length_replicate, List.length_map] <;> omega) | fail) only [rnL, opL, ruL, hpL, rsL, natL, outL, Nat.add_sub_cancel_left, Nat.mul_one, List.length_cons, List.length_nil, Nat.zero_add, Nat.add_zero, Nat.reduceAdd, Nat.reduceMul, Nat.reduceSub, Nat.reduceEqDiff, Nat.reduceLT, Nat.reduceLeDiff, litd_t, litd_f, decide_true, decide_false, Bool.not_true, Bool.not_false, not_true_eq_false, not_false_eq_true, true_and, and_true, false_and, and_false, true_or, or_true, false_or, or_false, Int.toNat_natCast, cond_true, cond_false, List.map_cons, List.map_nil, Option.map_some, Option.map_none])
    exact leave_f rfl
  · simp -failIfUnchanged (disch := first | assumption | omega | (refine room_i _ _ ?_ ?_ <;> omega) | (refine @_root_.id _ ?_; with_unfolding_all exact Eq.refl _) | (simp only [List.length_take, List.length_drop, List.length_append, List.length_cons, List.length_nil, List.length_replicate, List.length_map] <;> omega) | fail) only [rnL, opL, ruL, hpL, rsL, natL, outL, Nat.add_sub_cancel_left, Nat.mul_one, List.length_cons, List.length_nil, Nat.zero_add, Nat.add_zero, Nat.reduceAdd, Nat.reduceMul, Nat.reduceSub, Nat.reduceEqDiff, Nat.reduceLT, Nat.reduceLeDiff, litd_t, litd_f, decide_true, decide_false, Bool.not_true, Bool.not_false, not_true_eq_false, not_false_eq_true, true_and, and_true, false_and, and_false, true_or, or_true, false_or, or_false, Int.toNat_natCast, cond_true, cond_false, List.map_cons, List.map_nil, Option.map_some, Option.map_none, datL]
    (first | refine RunB_i (fun h2 => ?_) (fun h2 => ?_) | refine RunG_i (fun h2 => ?_) (fun h2 => ?_) | refine RunB_ib (fun h2 => ?_) (fun h2 => ?_))
    · have hn : nodeAt T i = nd0 := by unfold nodeAt; rw [if_pos (by omega), List.getElem?_eq_none (by omega)]; rfl
      rw [hn]
      simp -failIfUnchanged (disch := first | assumption | omega | (refine room_i _ _ ?_ ?_ <;> omega) | (refine @_root_.id _ ?_; with_unfolding_all exact Eq.refl _) | (simp only [List.length_take, List.length_drop, List.length_append, List.length_cons, List.length_nil, List.length_replicate, List.length_map] <;> omega) | fail) only [rnL, opL, ruL, hpL, rsL, natL, outL, Nat.add_sub_cancel_left, Nat.mul_one, List.length_cons, List.length_nil, Nat.zero_add, Nat.add_zero, Nat.reduceAdd, Nat.reduceMul, Nat.reduceSub, Nat.reduceEqDiff, Nat.reduceLT, Nat.reduceLeDiff, litd_t, litd_f, decide_true, decide_false, Bool.not_true, Bool.not_false, not_true_eq_false, not_false_eq_true, true_and, and_true, false_and, and_false, true_or, or_true, false_or, or_false, Int.toNat_natCast, cond_true, cond_false, List.map_cons, List.map_nil, Option.map_some, Option.map_none, datL, opV_build0, splice5]
      (refine Fin_g (.inr rfl) (by simp -failIfUnchanged (disch := first | assumption | omega | (refine room_i _ _ ?_ ?_ <;> omega) | (refine @_root_.id _ ?_; with_unfolding_all exact Eq.refl _) | (simp only [List.length_take, List.length_drop, List.length_append, List.length_cons, List.length_nil, List.length_replicate, List.length_map] <;> omega) | fail) only [rnL, opL, ruL, hpL, rsL, natL, outL, Nat.add_sub_cancel_left, Nat.mul_one, List.length_cons, List.length_nil, Nat.zero_add, Nat.add_zero, Nat.reduceAdd, Nat.reduceMul, Nat.reduceSub, Nat.reduceEqDiff, Nat.reduceLT, Nat.reduceLeDiff, litd_t, litd_f, decide_true, decide_false, Bool.not_true, Bool.not_false, not_true_eq_false, not_false_eq_true, true_and, and_true, false_and, and_false, true_or, or_true, false_or, or_false, Int.toNat_natCast, cond_true, cond_false, List.map_cons, List.map_nil, Option.map_some, Option.map_none]; rfl) ?_; simp -failIfUnchanged (disch := first | assumption | omega | (refine room_i _ _ ?_ ?_ <;> omega) | (refine @_root_.id _ ?_; with_unfolding_all exact Eq.refl _) | (simp only [List.length_take, List.length_drop, List.length_append, List.length_cons, List.length_nil, List.length_replicate, List.length_map] <;> omega) | fail) only [rnL, opL, ruL, hpL, rsL, natL, outL, Nat.add_sub_cancel_left, Nat.mul_one, List.length_cons, List.length_nil, Nat.zero_add, Nat.add_zero, Nat.reduceAdd, Nat.reduceMul, Nat.reduceSub, Nat.reduceEqDiff, Nat.reduceLT, Nat.reduceLeDiff, litd_t, litd_f, decide_true, decide_false, Bool.not_true, Bool.not_false, not_true_eq_false, not_false_eq_true, true_and, and_true, false_and, and_false, true_or, or_true, false_or, or_false, Int.toNat_natCast, cond_true, cond_false, List.map_cons, List.map_nil, Option.map_some, Option.map_none])
      exact leave_f rfl
    · have hlt : i.toNat < T.nodes.l.length := by omega
      have hn : nodeAt T i = T.nodes.l[i.toNat] := by unfold nodeAt; rw [if_pos (by omega), List.getElem?_eq_getElem hlt]; rfl
      rw [hn]
      simp -failIfUnchanged (disch := first | assumption | omega | (refine room_i _ _ ?_ ?_ <;> omega) | (refine @_root_.id _ ?_; with_unfolding_all exact Eq.refl _) | (simp only [List.length_take, List.length_drop, List.length_append, List.length_cons, List.length_nil, List.length_replicate, List.length_map] <;> omega) | fail) only [rnL, opL, ruL, hpL, rsL, natL, outL, Nat.add_sub_cancel_left, Nat.mul_one, List.length_cons, List.length_nil, Nat.zero_add, Nat.add_zero, Nat.reduceAdd, Nat.reduceMul, Nat.reduceSub, Nat.reduceEqDiff, Nat.reduceLT, Nat.reduceLeDiff, litd_t, litd_f, decide_true, decide_false, Bool.not_true, Bool.not_false, not_true_eq_false, not_false_eq_true, true_and, and_true, false_and, and_false, true_or, or_true, false_or, or_false, Int.toNat_natCast, cond_true, cond_false, List.map_cons, List.map_nil, Option.map_some, Option.map_none, datL, spliceAll]
      (first | refine RunB_i (fun h3 => ?_) (fun h3 => ?_) | refine RunG_i (fun h3 => ?_) (fun h3 => ?_) | refine RunB_ib (fun h3 => ?_) (fun h3 => ?_))
      · have h4 : T.nodes.l[i.toNat].kind = 2 := UInt8.toNat_inj.mp (by have := h3; simp only [UInt8.toNat_ofNat]; omega)
        simp -failIfUnchanged (disch := first | assumption | omega | (refine room_i _ _ ?_ ?_ <;> omega) | (refine @_root_.id _ ?_; with_unfolding_all exact Eq.refl _) | (simp only [List.length_take, List.length_drop, List.length_append, List.length_cons, List.length_nil, List.length_replicate, List.length_map] <;> omega) | fail) only [rnL, opL, ruL, hpL, rsL, natL, outL, Nat.add_sub_cancel_left, Nat.mul_one, List.length_cons, List.length_nil, Nat.zero_add, Nat.add_zero, Nat.reduceAdd, Nat.reduceMul, Nat.reduceSub, Nat.reduceEqDiff, Nat.reduceLT, Nat.reduceLeDiff, litd_t, litd_f, decide_true, decide_false, Bool.not_true, Bool.not_false, not_true_eq_false, not_false_eq_true, true_and, and_true, false_and, and_false, true_or, or_true, false_or, or_false, Int.toNat_natCast, cond_true, cond_false, List.map_cons, List.map_nil, Option.map_some, Option.map_none, datL]
        (refine Fin_g (.inr rfl) (by simp -failIfUnchanged (disch := first | assumption | omega | (refine room_i _ _ ?_ ?_ <;> omega) | (refine @_root_.id _ ?_; with_unfolding_all exact Eq.refl _) | (simp only [List.length_take, List.length_drop, List.length_append, List.length_cons, List.length_nil, List.length_replicate, List.length_map] <;> omega) | fail) only [rnL, opL, ruL, hpL, rsL, natL, outL, Nat.add_sub_cancel_left, Nat.mul_one, List.length_cons, List.length_nil, Nat.zero_add, Nat.add_zero, Nat.reduceAdd, Nat.reduceMul, Nat.reduceSub, Nat.reduceEqDiff, Nat.reduceLT, Nat.reduceLeDiff, litd_t, litd_f, decide_true, decide_false, Bool.not_true, Bool.not_false, not_true_eq_false, not_false_eq_true, true_and, and_true, false_and, and_false, true_or, or_true, false_or, or_false, Int.toNat_natCast, cond_true, cond_false, List.map_cons, List.map_nil, Option.map_some, Option.map_none]; rfl) ?_; simp -failIfUnchanged (disch := first | assumption | omega | (refine room_i _ _ ?_ ?_ <;> omega) | (refine @_root_.id _ ?_; with_unfolding_all exact Eq.refl _) | (simp only [List.length_take, List.length_drop, List.length_append, List.length_cons, List.length_nil, List.length_replicate, List.length_map] <;> omega) | fail) only [rnL, opL, ruL, hpL, rsL, natL, outL, Nat.add_sub_cancel_left, Nat.mul_one, List.length_cons, List.length_nil, Nat.zero_add, Nat.add_zero, Nat.reduceAdd, Nat.reduceMul, Nat.reduceSub, Nat.reduceEqDiff, Nat.reduceLT, Nat.reduceLeDiff, litd_t, litd_f, decide_true, decide_false, Bool.not_true, Bool.not_false, not_true_eq_false, not_false_eq_true, true_and, and_true, false_and, and_false, true_or, or_true, false_or, or_false, Int.toNat_natCast, cond_true, cond_false, List.map_cons, List.map_nil, Option.map_some, Option.map_none])
        simp [h4]
      · have h4 : ¬ T.nodes.l[i.toNat].kind = 2 := fun h => h3 (by rw [h]; rfl)
        have h5 : (T.nodes.l[i.toNat].kind = 1) ↔ ((T.nodes.l[i.toNat].kind.toNat : Int) = 1) := by
          constructor
          · intro h; rw [h]; rfl
          · intro h; exact UInt8.toNat_inj.mp (by simp only [UInt8.toNat_ofNat]; omega)
        simp -failIfUnchanged (disch := first | assumption | omega | (refine room_i _ _ ?_ ?_ <;> omega) | (refine @_root_.id _ ?_; with_unfolding_all exact Eq.refl _) | (simp only [List.length_take, List.length_drop, List.length_append, List.length_cons, List.length_nil, List.length_replicate, List.length_map] <;> omega) | fail) only [rnL, opL, ruL, hpL, rsL, natL, outL, Nat.add_sub_cancel_left, Nat.mul_one, List.length_cons, List.length_nil, Nat.zero_add, Nat.add_zero, Nat.reduceAdd, Nat.reduceMul, Nat.reduceSub, Nat.reduceEqDiff, Nat.reduceLT, Nat.reduceLeDiff, litd_t, litd_f, decide_true, decide_false, Bool.not_true, Bool.not_false, not_true_eq_false, not_false_eq_true, true_and, and_true, false_and, and_false, true_or, or_true, false_or, or_false, Int.toNat_natCast, cond_true, cond_false, List.map_cons, List.map_nil, Option.map_some, Option.map_none, datL]
        (refine Fin_g (.inr rfl) (by simp -failIfUnchanged (disch := first | assumption | omega | (refine room_i _ _ ?_ ?_ <;> omega) | (refine @_root_.id _ ?_; with_unfolding_all exact Eq.refl _) | (simp only [List.length_take, List.length_drop, List.length_append, List.length_cons, List.length_nil, List.length_replicate, List.length_map] <;> omega) | fail) only [rnL, opL, ruL, hpL, rsL, natL, outL, Nat.add_sub_cancel_left, Nat.mul_one, List.length_cons, List.length_nil, Nat.zero_add, Nat.add_zero, Nat.reduceAdd, Nat.reduceMul, Nat.reduceSub, Nat.reduceEqDiff, Nat.reduceLT, Nat.reduceLeDiff, litd_t, litd_f, decide_true, decide_false, Bool.not_true, Bool.not_false, not_true_eq_false, not_false_eq_true, true_and, and_true, false_and, and_false, true_or, or_true, false_or, or_false, Int.toNat_natCast, cond_true, cond_false, List.map_cons, List.map_nil, Option.map_some, Option.map_none]; rfl) ?_; simp -failIfUnchanged (disch := first | assumption | omega | (refine room_i _ _ ?_ ?_ <;> omega) | (refine @_root_.id _ ?_; with_unfolding_all exact Eq.refl _) | (simp only [List.length_take, List.length_drop, List.length_append, List.length_cons, List.length_nil, List.length_replicate, List.length_map] <;> omega) | fail) only [rnL, opL, ruL, hpL, rsL, natL, outL, Nat.add_sub_cancel_left, Nat.mul_one, List.length_cons, List.length_nil, Nat.zero_add, Nat.add_zero, Nat.reduceAdd, Nat.reduceMul, Nat.reduceSub, Nat.reduceEqDiff, Nat.reduceLT, Nat.reduceLeDiff, litd_t, litd_f, decide_true, decide_false, Bool.not_true, Bool.not_false, not_true_eq_false, not_false_eq_true, true_and, and_true, false_and, and_false, true_or, or_true, false_or, or_false, Int.toNat_natCast, cond_true, cond_false, List.map_cons, List.map_nil, Option.map_some, Option.map_none])

        simp only [h4, or_false, h5]
def spanAt (p : List Str) (r : Rng) (i : Nat) : Rng := ⟨if 0 < i then p.getD (i - 1) [] else r.lo, if i < p.length then p.getD i [] else r.hi⟩
theorem spliceRng0 (r : Rng) (x : Str) : splice (Cel.enc r) 0 [.str x] = Cel.enc (Rng.mk x r.hi) := rfl
theorem spliceRng1 (r : Rng) (x : Str) : splice (Cel.enc r) 1 [.str x] = Cel.enc (Rng.mk r.lo x) := rfl
theorem getD_at (p : List Str) (i : Nat) (h : i < p.length) : p.getD i [] = p[i] := by simp [List.getD, List.getElem?_eq_getElem h]
theorem span_is (nl : Bool) (p : List Str) (r : Rng) (i : Nat) (hi : i ≤ p.length) (hp : p.length ≤ 1000) : CallIs F 99 [sl nl p, .agg (Cel.enc r), .int .i64 i] (.agg (Cel.enc (spanAt p r i))) := by
  refine Gives.is ?_
  refine Gives.of fn_pivot_span rfl rfl (args' := [sl nl p, .agg (Cel.enc r), .int .i64 i]) (by simp only [mapO_nil, mapO_c2, consO_some, upf_v]) ?_
  simp only [ir_pivot_span]
  simp -failIfUnchanged (disch := first | assumption | omega | (refine room_i _ _ ?_ ?_ <;> omega) | (refine @_root_.id _ ?_; with_unfolding_all exact Eq.refl _) | (simp only [List.length_take, List.length_drop, List.length_append, List.length_cons, List.length_nil, List.length_replicate, List.length_map] <;> omega) | fail) only [rnL, opL, ruL, hpL, rsL, natL, outL, Nat.add_sub_cancel_left, Nat.mul_one, List.length_cons, List.length_nil, Nat.zero_add, Nat.add_zero, Nat.reduceAdd, Nat.reduceMul, Nat.reduceSub, Nat.reduceEqDiff, Nat.reduceLT, Nat.reduceLeDiff, litd_t, litd_f, decide_true, decide_false, Bool.not_true, Bool.not_false, not_true_eq_false, not_false_eq_true, true_and, and_true, false_and, and_false, true_or, or_true, false_or, or_false, Int.toNat_natCast, cond_true, cond_false, List.map_cons, List.map_nil, Option.map_some, Option.map_none, datL]
  (first | refine RunB_i (fun h => ?_) (fun h => ?_) | refine RunG_i (fun h => ?_) (fun h => ?_) | refine RunB_ib (fun h => ?_) (fun h => ?_))
  · have h3 : ((i : Int) - 1).toNat < p.length := by omega
    have h4 : IntKind.i64.wrap ((i : Int) - 1) = (i : Int) - 1 := wrap_i64 (by omega) (by omega)
    have e1 : ((i : Int) - 1).toNat = i - 1 := by omega
    have e2 : p[((i : Int) - 1).toNat] = p.getD (i - 1) [] := by simp only [e1]; exact (getD_at _ _ (by omega)).symm
    have e0 : 0 < i := by omega
    simp -failIfUnchanged (disch := first | assumption | omega | (refine room_i _ _ ?_ ?_ <;> omega) | (refine @_root_.id _ ?_; with_unfolding_all exact Eq.refl _) | (simp only [List.length_take, List.length_drop, List.length_append, List.length_cons, List.length_nil, List.length_replicate, List.length_map] <;> omega) | fail) only [rnL, opL, ruL, hpL, rsL, natL, outL, Nat.add_sub_cancel_left, Nat.mul_one, List.length_cons, List.length_nil, Nat.zero_add, Nat.add_zero, Nat.reduceAdd, Nat.reduceMul, Nat.reduceSub, Nat.reduceEqDiff, Nat.reduceLT, Nat.reduceLeDiff, litd_t, litd_f, decide_true, decide_false, Bool.not_true, Bool.not_false, not_true_eq_false, not_false_eq_true, true_and, and_true, false_and, and_false, true_or, or_true, false_or, or_false, Int.toNat_natCast, cond_true, cond_false, List.map_cons, List.map_nil, Option.map_some, Option.map_none, datL, h4, spliceRng0]
    (first | refine RunB_i (fun h2 => ?_) (fun h2 => ?_) | refine RunG_i (fun h2 => ?_) (fun h2 => ?_) | refine RunB_ib (fun h2 => ?_) (fun h2 => ?_))
    · have h5 : i < p.length := by omega
      have e3 : p[i] = p.getD i [] := by exact (getD_at _ _ h5).symm
      simp -failIfUnchanged (disch := first | assumption | omega | (refine room_i _ _ ?_ ?_ <;> omega) | (refine @_root_.id _ ?_; with_unfolding_all exact Eq.refl _) | (simp only [List.length_take, List.length_drop, List.length_append, List.length_cons, List.length_nil, List.length_replicate, List.length_map] <;> omega) | fail) only [rnL, opL, ruL, hpL, rsL, natL, outL, Nat.add_sub_cancel_left, Nat.mul_one, List.length_cons, List.length_nil, Nat.zero_add, Nat.add_zero, Nat.reduceAdd, Nat.reduceMul, Nat.reduceSub, Nat.reduceEqDiff, Nat.reduceLT, Nat.reduceLeDiff, litd_t, litd_f, decide_true, decide_false, Bool.not_true, Bool.not_false, not_true_eq_false, not_false_eq_true, true_and, and_true, false_and, and_false, true_or, or_true, false_or, or_false, Int.toNat_natCast, cond_true, cond_false, List.map_cons, List.map_nil, Option.map_some, Option.map_none, datL, h4, spliceRng0, spliceRng1]
      (refine Fin_g (.inr rfl) (by simp -failIfUnchanged (disch := first | assumption | omega | (refine room_i _ _ ?_ ?_ <;> omega) | (refine @_root_.id _ ?_; with_unfolding_all exact Eq.refl _) | (simp only [List.length_take, List.length_drop, List.length_append, List.length_cons, List.length_nil, List.length_replicate, List.length_map] <;> omega) | fail) only [rnL, opL, ruL, hpL, rsL, natL, outL, Nat.add_sub_cancel_left, Nat.mul_one, List.length_cons, List.length_nil, Nat.zero_add, Nat.add_zero, Nat.reduceAdd, Nat.reduceMul, Nat.reduceSub, Nat.reduceEqDiff, Nat.reduceLT, Nat.reduceLeDiff, litd_t, litd_f, decide_true, decide_false, Bool.not_true, Bool.not_false, not_true_eq_false, not_false_eq_true, true_and, and_true, false_and, and_false, true_or, or_true, false_or, or_false, Int.toNat_natCast, cond_true, cond_false, List.map_cons, List.map_nil, Option.map_some, Option.map_none]; rfl) ?_; simp -failIfUnchanged (disch := first | assumption | omega | (refine room_i _ _ ?_ ?_ <;> omega) | (refine @_root_.id _ ?_; with_unfolding_all exact Eq.refl _) | (simp only [List.length_take, List.length_drop, List.length_append, List.length_cons, List.length_nil, List.length_replicate, List.length_map] <;> omega) | fail) only [rnL, opL, ruL, hpL, rsL, natL, outL, Nat.add_sub_cancel_left, Nat.mul_one, List.length_cons, List.length_nil, Nat.zero_add, Nat.add_zero, Nat.reduceAdd, Nat.reduceMul, Nat.reduceSub, Nat.reduceEqDiff, Nat.reduceLT, Nat.reduceLeDiff, litd_t, litd_f, decide_true, decide_false, Bool.not_true, Bool.not_false, not_true_eq_false, not_false_eq_true, true_and, and_true, false_and, and_false, true_or, or_true, false_or, or_false, Int.toNat_natCast, cond_true, cond_false, List.map_cons, List.map_nil, Option.map_some, Option.map_none])
      simp only [spanAt, if_pos h5, if_pos e0, e2, e3]
    · have h5 : ¬ i < p.length := by omega
      simp -failIfUnchanged (disch := first | assumption | omega | (refine room_i _ _ ?_ ?_ <;> omega) | (refine @_root_.id _ ?_; with_unfolding_all exact Eq.refl _) | (simp only [List.length_take, List.length_drop, List.length_append, List.length_cons, List.length_nil, List.length_replicate, List.length_map] <;> omega) | fail) only [rnL, opL, ruL, hpL, rsL, natL, outL, Nat.add_sub_cancel_left, Nat.mul_one, List.length_cons, List.length_nil, Nat.zero_add, Nat.add_zero, Nat.reduceAdd, Nat.reduceMul, Nat.reduceSub, Nat.reduceEqDiff, Nat.reduceLT, Nat.reduceLeDiff, litd_t, litd_f, decide_true, decide_false, Bool.not_true, Bool.not_false, not_true_eq_false, not_false_eq_true, true_and, and_true, false_and, and_false, true_or, or_true, false_or, or_false, Int.toNat_natCast, cond_true, cond_false, List.map_cons, List.map_nil, Option.map_some, Option.map_none, datL, h4, spliceRng0, spliceRng1]
      (refine Fin_g (.inr rfl) (by simp -failIfUnchanged (disch := first | assumption | omega | (refine room_i _ _ ?_ ?_ <;> omega) | (refine @_root_.id _ ?_; with_unfolding_all exact Eq.refl _) | (simp only [List.length_take, List.length_drop, List.length_append, List.length_cons, List.length_nil, List.length_replicate, List.length_map] <;> omega) | fail) only [rnL, opL, ruL, hpL, rsL, natL, outL, Nat.add_sub_cancel_left, Nat.mul_one, List.length_cons, List.length_nil, Nat.zero_add, Nat.add_zero, Nat.reduceAdd, Nat.reduceMul, Nat.reduceSub, Nat.reduceEqDiff, Nat.reduceLT, Nat.reduceLeDiff, litd_t, litd_f, decide_true, decide_false, Bool.not_true, Bool.not_false, not_true_eq_false, not_false_eq_true, true_and, and_true, false_and, and_false, true_or, or_true, false_or, or_false, Int.toNat_natCast, cond_true, cond_false, List.map_cons, List.map_nil, Option.map_some, Option.map_none]; rfl) ?_; simp -failIfUnchanged (disch := first | assumption | omega | (refine room_i _ _ ?_ ?_ <;> omega) | (refine @_root_.id _ ?_; with_unfolding_all exact Eq.refl _) | (simp only [List.length_take, List.length_drop, List.length_append, List.length_cons, List.length_nil, List.length_replicate, List.length_map] <;> omega) | fail) only [rnL, opL, ruL, hpL, rsL, natL, outL, Nat.add_sub_cancel_left, Nat.mul_one, List.length_cons, List.length_nil, Nat.zero_add, Nat.add_zero, Nat.reduceAdd, Nat.reduceMul, Nat.reduceSub, Nat.reduceEqDiff, Nat.reduceLT, Nat.reduceLeDiff, litd_t, litd_f, decide_true, decide_false, Bool.not_true, Bool.not_false, not_true_eq_false, not_false_eq_true, true_and, and_true, false_and, and_false, true_or, or_true, false_or, or_false, Int.toNat_natCast, cond_true, cond_false, List.map_cons, List.map_nil, Option.map_some, Option.map_none])
      simp only [spanAt, if_neg h5, if_pos e0, e2]
  · simp -failIfUnchanged (disch := first | assumption | omega | (refine room_i _ _ ?_ ?_ <;> omega) | (refine @_root_.id _ ?_; with_unfolding_all exact Eq.refl _) | (simp only [List.length_take, List.length_drop, List.length_append, List.length_cons, List.length_nil, List.length_replicate, List.length_map] <;> omega) | fail) only [rnL, opL, ruL, hpL, rsL, natL, outL, Nat.add_sub_cancel_left, Nat.mul_one, List.length_cons, List.length_nil, Nat.zero_add, Nat.add_zero, Nat.reduceAdd, Nat.reduceMul, Nat.reduceSub, Nat.reduceEqDiff, Nat.reduceLT, Nat.reduceLeDiff, litd_t, litd_f, decide_true, decide_false, Bool.not_true, Bool.not_false, not_true_eq_false, not_false_eq_true, true_and, and_true, false_and, and_false, true_or, or_true, false_or, or_false, Int.toNat_natCast, cond_true, cond_false, List.map_cons, List.map_nil, Option.map_some, Option.map_none, datL, spliceRng0]
    have e0 : ¬ 0 < i := by omega
    (first | refine RunB_i (fun h2 => ?_) (fun h2 => ?_) | refine RunG_i (fun h2 => ?_) (fun h2 => ?_) | refine RunB_ib (fun h2 => ?_) (fun h2 => ?_))
    · have h5 : i < p.length := by omega
      have e3 : p[i] = p.getD i [] := by exact (getD_at _ _ h5).symm
      simp -failIfUnchanged (disch := first | assumption | omega | (refine room_i _ _ ?_ ?_ <;> omega) | (refine @_root_.id _ ?_; with_unfolding_all exact Eq.refl _) | (simp only [List.length_take, List.length_drop, List.length_append, List.length_cons, List.length_nil, List.length_replicate, List.length_map] <;> omega) | fail) only [rnL, opL, ruL, hpL, rsL, natL, outL, Nat.add_sub_cancel_left, Nat.mul_one, List.length_cons, List.length_nil, Nat.zero_add, Nat.add_zero, Nat.reduceAdd, Nat.reduceMul, Nat.reduceSub, Nat.reduceEqDiff, Nat.reduceLT, Nat.reduceLeDiff, litd_t, litd_f, decide_true, decide_false, Bool.not_true, Bool.not_false, not_true_eq_false, not_false_eq_true, true_and, and_true, false_and, and_false, true_or, or_true, false_or, or_false, Int.toNat_natCast, cond_true, cond_false, List.map_cons, List.map_nil, Option.map_some, Option.map_none, datL, spliceRng0, spliceRng1]
      (refine Fin_g (.inr rfl) (by simp -failIfUnchanged (disch := first | assumption | omega | (refine room_i _ _ ?_ ?_ <;> omega) | (refine @_root_.id _ ?_; with_unfolding_all exact Eq.refl _) | (simp only [List.length_take, List.length_drop, List.length_append, List.length_cons, List.length_nil, List.length_replicate, List.length_map] <;> omega) | fail) only [rnL, opL, ruL, hpL, rsL, natL, outL, Nat.add_sub_cancel_left, Nat.mul_one, List.length_cons, List.length_nil, Nat.zero_add, Nat.add_zero, Nat.reduceAdd, Nat.reduceMul, Nat.reduceSub, Nat.reduceEqDiff, Nat.reduceLT, Nat.reduceLeDiff, litd_t, litd_f, decide_true, decide_false, Bool.not_true, Bool.not_false, not_true_eq_false, not_false_eq_true, true_and, and_true, false_and, and_false, true_or, or_true, false_or, or_false, Int.toNat_natCast, cond_true, cond_false, List.map_cons, List.map_nil, Option.map_some, Option.map_none]; rfl) ?_; simp -failIfUnchanged (disch := first | assumption | omega | (refine room_i _ _ ?_ ?_ <;> omega) | (refine @_root_.id _ ?_; with_unfolding_all exact Eq.refl _) | (simp only [List.length_take, List.length_drop, List.length_append, List.length_cons, List.length_nil, List.length_replicate, List.length_map] <;> omega) | fail) only [rnL, opL, ruL, hpL, rsL, natL, outL, Nat.add_sub_cancel_left, Nat.mul_one, List.length_cons, List.length_nil, Nat.zero_add, Nat.add_zero, Nat.reduceAdd, Nat.reduceMul, Nat.reduceSub, Nat.reduceEqDiff, Nat.reduceLT, Nat.reduceLeDiff, litd_t, litd_f, decide_true, decide_false, Bool.not_true, Bool.not_false, not_true_eq_false, not_false_eq_true, true_and, and_true, false_and, and_false, true_or, or_true, false_or, or_false, Int.toNat_natCast, cond_true, cond_false, List.map_cons, List.map_nil, Option.map_some, Option.map_none])
      simp only [spanAt, if_pos h5, if_neg e0, e3]
    · have h5 : ¬ i < p.length := by omega
      simp -failIfUnchanged (disch := first | assumption | omega | (refine room_i _ _ ?_ ?_ <;> omega) | (refine @_root_.id _ ?_; with_unfolding_all exact Eq.refl _) | (simp only [List.length_take, List.length_drop, List.length_append, List.length_cons, List.length_nil, List.length_replicate, List.length_map] <;> omega) | fail) only [rnL, opL, ruL, hpL, rsL, natL, outL, Nat.add_sub_cancel_left, Nat.mul_one, List.length_cons, List.length_nil, Nat.zero_add, Nat.add_zero, Nat.reduceAdd, Nat.reduceMul, Nat.reduceSub, Nat.reduceEqDiff, Nat.reduceLT, Nat.reduceLeDiff, litd_t, litd_f, decide_true, decide_false, Bool.not_true, Bool.not_false, not_true_eq_false, not_false_eq_true, true_and, and_true, false_and, and_false, true_or, or_true, false_or, or_false, Int.toNat_natCast, cond_true, cond_false, List.map_cons, List.map_nil, Option.map_some, Option.map_none, datL, spliceRng0, spliceRng1]
      (refine Fin_g (.inr rfl) (by simp -failIfUnchanged (disch := first | assumption | omega | (refine room_i _ _ ?_ ?_ <;> omega) | (refine @_root_.id _ ?_; with_unfolding_all exact Eq.refl _) | (simp only [List.length_take, List.length_drop, List.length_append, List.length_cons, List.length_nil, List.length_replicate, List.length_map] <;> omega) | fail) only [rnL, opL, ruL, hpL, rsL, natL, outL, Nat.add_sub_cancel_left, Nat.mul_one, List.length_cons, List.length_nil, Nat.zero_add, Nat.add_zero, Nat.reduceAdd, Nat.reduceMul, Nat.reduceSub, Nat.reduceEqDiff, Nat.reduceLT, Nat.reduceLeDiff, litd_t, litd_f, decide_true, decide_false, Bool.not_true, Bool.not_false, not_true_eq_false, not_false_eq_true, true_and, and_true, false_and, and_false, true_or, or_true, false_or, or_false, Int.toNat_natCast, cond_true, cond_false, List.map_cons, List.map_nil, Option.map_some, Option.map_none]; rfl) ?_; simp -failIfUnchanged (disch := first | assumption | omega | (refine room_i _ _ ?_ ?_ <;> omega) | (refine @_root_.id _ ?_; with_unfolding_all exact Eq.refl _) | (simp only [List.length_take, List.length_drop, List.length_append, List.length_cons, List.length_nil, List.length_replicate, List.length_map] <;> omega) | fail) only [rnL, opL, ruL, hpL, rsL, natL, outL, Nat.add_sub_cancel_left, Nat.mul_one, List.length_cons, List.length_nil, Nat.zero_add, Nat.add_zero, Nat.reduceAdd, Nat.reduceMul, Nat.reduceSub, Nat.reduceEqDiff, Nat.reduceLT, Nat.reduceLeDiff, litd_t, litd_f, decide_true, decide_false, Bool.not_true, Bool.not_false, not_true_eq_false, not_false_eq_true, true_and, and_true, false_and, and_false, true_or, or_true, false_or, or_false, Int.toNat_natCast, cond_true, cond_false, List.map_cons, List.map_nil, Option.map_some, Option.map_none])
      simp only [spanAt, if_neg h5, if_neg e0]
end Go.AS.Th
