import Derived.Test.YtckjahijnckgnaaGreatProg
import Derived.KernelRfl
import Derived.Test.YtckjahijnckgnaaGreatAs1
set_option linter.all false
namespace Go.AS.Wi
open Go Go.AS Go.Proofs
set_option maxRecDepth 100000
def ann : Ann := ⟨[38, 64, 97, 60, 99, 101, 92, 94, 125, 127, 118, 119, 141, 142, 145, 149, 150, 151, 20, 66, 102], [29, 35, 36, 98, 32, 122, 49, 10, 43], [], [], [], [], [], []⟩
noncomputable abbrev F : Nat → Option IFun := funsOf Tryz.prog ann

def ir_l30_WitnessPrefix : IFun :=
  IFun.mk false 2 [IRes.tmp 4]
  (IC.seq (IC.ops false [IOper.mk (some 4) (IOp.mv (Opd.c (AV.bool false))) none] [])
    (IC.seq
      (IC.seq
      (IC.ops false
      [IOper.mk (some 5) (IOp.mv (Opd.t 0)) none,
      IOper.mk (some 6) (IOp.call (Opd.c (AV.func (Fn.func 6) [] [])) [Opd.t 5]) none,
      IOper.mk (some 7) (IOp.not (Opd.t 6)) none]
      [5, 6])
      (IC.cond (Opd.t 7)
      (IC.seq
      (IC.ops false
      [IOper.mk (some 8) (IOp.call (Opd.c (AV.func (Fn.func 7) [] [])) []) none,
      IOper.mk (some 4) (IOp.mv (Opd.t 8)) none]
      [8])
      IC.ret)
      IC.nop))
      (IC.seq
      (IC.ops false
      [IOper.mk (some 9) (IOp.call (Opd.c (AV.func (Fn.func 7) [] [])) []) none,
      IOper.mk (some 10) (IOp.mv (Opd.t 9)) none, IOper.mk (some 11) (IOp.mv (Opd.t 0)) (some (10, true)),
      IOper.mk (some 12) (IOp.mv (Opd.t 1)) (some (10, true)),
      IOper.mk (some 13) (IOp.call (Opd.c (AV.func (Fn.func 17) [] [])) [Opd.t 11, Opd.t 12]) (some (10, true)),
      IOper.mk (some 14) (IOp.mv (Opd.t 0)) (some (10, true)),
      IOper.mk (some 15) (IOp.mv (Opd.t 1)) (some (10, true)),
      IOper.mk (some 16) (IOp.call (Opd.c (AV.func (Fn.func 18) [] [])) [Opd.t 14, Opd.t 15]) (some (10, true)),
      IOper.mk (some 17) (IOp.call (Opd.c (AV.func (Fn.func 16) [] [])) [Opd.t 13, Opd.t 16]) (some (10, true)),
      IOper.mk (some 18) (IOp.pick (Opd.t 10) (Opd.t 17) (Opd.c (AV.bool false))) none,
      IOper.mk (some 4) (IOp.mv (Opd.t 18)) none]
      [9, 10, 11, 12, 13, 14, 15, 16, 17, 18])
      IC.ret)))
theorem fn_l30_WitnessPrefix : F 4 = some ir_l30_WitnessPrefix := by kernel_rfl

def ir_r30_Few : IFun :=
  IFun.mk false 1 [IRes.tmp 2]
  (IC.seq (IC.ops false [IOper.mk (some 2) (IOp.mv (Opd.c (AV.bool false))) none] [])
    (IC.seq
      (IC.seq
      (IC.ops false
      [IOper.mk (some 4) (IOp.mv (Opd.t 0)) none, IOper.mk (some 5) (IOp.len (Opd.t 4)) none,
      IOper.mk (some 6) (IOp.bin BinOp.gtr (Opd.t 5) (Opd.c (AV.int IntKind.i64 40))) none]
      [4, 5])
      (IC.cond (Opd.t 6) (IC.seq (IC.ops false [IOper.mk (some 2) (IOp.mv (Opd.c (AV.bool false))) none] []) IC.ret)
      IC.nop))
      (IC.seq
      (IC.seq (IC.ops false [IOper.mk (some 3) (IOp.mv (Opd.c (AV.int IntKind.i64 0))) none] [])
      (IC.seq
      (IC.block 0
      (IC.loop
      (IC.seq
      (IC.seq
      (IC.seq
      (IC.ops false
      [IOper.mk (some 7) (IOp.mv (Opd.t 3)) none, IOper.mk (some 8) (IOp.mv (Opd.t 0)) none,
      IOper.mk (some 9) (IOp.len (Opd.t 8)) none,
      IOper.mk (some 10) (IOp.bin BinOp.lss (Opd.t 7) (Opd.t 9)) none]
      [7, 8, 9])
      (IC.cond (Opd.t 10) IC.nop (IC.exit 0)))
      (IC.seq
      (IC.seq
      (IC.block 1
      (IC.seq
      (IC.ops false
      [IOper.mk (some 13) (IOp.mv (Opd.t 0)) none, IOper.mk (some 14) (IOp.mv (Opd.t 3)) none,
      IOper.mk (some 15) (IOp.ixa 16 (Opd.t 13) (Opd.t 14)) none,
      IOper.mk (some 16) (IOp.faddr 2 (Opd.t 15)) none,
      IOper.mk (some 17) (IOp.faddr 4 (Opd.t 16)) none,
      IOper.mk (some 18) (IOp.load none (Opd.t 17)) none,
      IOper.mk (some 19) (IOp.len (Opd.t 18)) none,
      IOper.mk (some 20)
      (IOp.bin BinOp.gtr (Opd.t 19) (Opd.c (AV.int IntKind.i64 20))) none,
      IOper.mk (some 21) (IOp.mv (Opd.t 20)) none,
      IOper.mk (some 22) (IOp.mv (Opd.t 0)) (some (21, false)),
      IOper.mk (some 23) (IOp.mv (Opd.t 3)) (some (21, false)),
      IOper.mk (some 24) (IOp.ixa 16 (Opd.t 22) (Opd.t 23)) (some (21, false)),
      IOper.mk (some 25) (IOp.faddr 10 (Opd.t 24)) (some (21, false)),
      IOper.mk (some 26) (IOp.faddr 3 (Opd.t 25)) (some (21, false)),
      IOper.mk (some 27) (IOp.load none (Opd.t 26)) (some (21, false)),
      IOper.mk (some 28) (IOp.len (Opd.t 27)) (some (21, false)),
      IOper.mk (some 29)
      (IOp.bin BinOp.gtr (Opd.t 28) (Opd.c (AV.int IntKind.i64 40)))
      (some (21, false)),
      IOper.mk (some 30) (IOp.pick (Opd.t 21) (Opd.c (AV.bool true)) (Opd.t 29)) none]
      [13, 14, 15, 16, 17, 18, 19, 20, 21, 22, 23, 24, 25, 26, 27, 28, 29])
      (IC.cond (Opd.t 30)
      (IC.seq (IC.ops false [IOper.mk (some 2) (IOp.mv (Opd.c (AV.bool false))) none] [])
      IC.ret)
      IC.nop)))
      (IC.ops false [] [13, 14, 15, 16, 17, 18, 19, 20, 21, 22, 23, 24, 25, 26, 27, 28, 29, 30]))
      (IC.ops false
      [IOper.mk (some 11) (IOp.mv (Opd.t 3)) none,
      IOper.mk (some 12) (IOp.bin BinOp.add (Opd.t 11) (Opd.c (AV.int IntKind.i64 1)))
      none,
      IOper.mk (some 3) (IOp.mv (Opd.t 12)) none]
      [11, 12])))
      (IC.ops false []
      [7, 8, 9, 10, 13, 14, 15, 16, 17, 18, 19, 20, 21, 22, 23, 24, 25, 26, 27, 28, 29, 30, 11, 12]))))
      (IC.ops false []
      [7, 8, 9, 10, 13, 14, 15, 16, 17, 18, 19, 20, 21, 22, 23, 24, 25, 26, 27, 28, 29, 30, 11, 12])))
      (IC.seq (IC.ops false [IOper.mk (some 2) (IOp.mv (Opd.c (AV.bool true))) none] []) IC.ret))))
theorem fn_r30_Few : F 6 = some ir_r30_Few := by kernel_rfl

def ir_r30_Same : IFun :=
  IFun.mk false 2 [IRes.tmp 4]
  (IC.seq (IC.ops false [IOper.mk (some 4) (IOp.mv (Opd.c (AV.bool false))) none] [])
    (IC.seq
      (IC.seq
      (IC.ops false
      [IOper.mk (some 8) (IOp.mv (Opd.t 0)) none, IOper.mk (some 9) (IOp.len (Opd.t 8)) none,
      IOper.mk (some 10) (IOp.mv (Opd.t 1)) none, IOper.mk (some 11) (IOp.len (Opd.t 10)) none,
      IOper.mk (some 12) (IOp.bin BinOp.neq (Opd.t 9) (Opd.t 11)) none]
      [8, 9, 10, 11])
      (IC.cond (Opd.t 12) (IC.seq (IC.ops false [IOper.mk (some 4) (IOp.mv (Opd.c (AV.bool false))) none] []) IC.ret)
      IC.nop))
      (IC.seq
      (IC.seq (IC.ops false [IOper.mk (some 5) (IOp.mv (Opd.c (AV.int IntKind.i64 0))) none] [])
      (IC.seq
      (IC.block 0
      (IC.loop
      (IC.seq
      (IC.seq
      (IC.seq
      (IC.ops false
      [IOper.mk (some 13) (IOp.mv (Opd.t 5)) none, IOper.mk (some 14) (IOp.mv (Opd.t 0)) none,
      IOper.mk (some 15) (IOp.len (Opd.t 14)) none,
      IOper.mk (some 16) (IOp.bin BinOp.lss (Opd.t 13) (Opd.t 15)) none]
      [13, 14, 15])
      (IC.cond (Opd.t 16) IC.nop (IC.exit 0)))
      (IC.seq
      (IC.seq
      (IC.block 1
      (IC.seq
      (IC.seq (IC.ops false [IOper.mk none (IOp.slots 2) none] [])
      (IC.ops true
      [IOper.mk (some 19) (IOp.mv (Opd.t 0)) none, IOper.mk (some 20) (IOp.mv (Opd.t 5)) none,
      IOper.mk (some 21) (IOp.ixa 16 (Opd.t 19) (Opd.t 20)) none,
      IOper.mk (some 22) (IOp.load (some 16) (Opd.t 21)) none,
      IOper.mk (some 23) (IOp.mv (Opd.t 1)) none,
      IOper.mk (some 24) (IOp.mv (Opd.t 5)) none,
      IOper.mk (some 25) (IOp.ixa 16 (Opd.t 23) (Opd.t 24)) none,
      IOper.mk (some 26) (IOp.load (some 16) (Opd.t 25)) none,
      IOper.mk (some 6)
      (IOp.allocA 2
      [AV.int IntKind.i64 0, AV.int IntKind.i64 0,
      AV.int IntKind.u8 0, AV.str [], AV.str [],
      AV.int IntKind.i64 0, AV.imm true 0 0 (some 0) [],
      AV.int IntKind.i64 0, AV.int IntKind.i64 0,
      AV.int IntKind.i64 0, AV.int IntKind.i64 0,
      AV.bool false, AV.str [], AV.imm true 0 0 (some 0) [],
      AV.int IntKind.i64 0, AV.bool false])
      none,
      IOper.mk (some 7)
      (IOp.allocA 1
      [AV.int IntKind.i64 0, AV.int IntKind.i64 0,
      AV.int IntKind.u8 0, AV.str [], AV.str [],
      AV.int IntKind.i64 0, AV.imm true 0 0 (some 0) [],
      AV.int IntKind.i64 0, AV.int IntKind.i64 0,
      AV.int IntKind.i64 0, AV.int IntKind.i64 0,
      AV.bool false, AV.str [], AV.imm true 0 0 (some 0) [],
      AV.int IntKind.i64 0, AV.bool false])
      none,
      IOper.mk none (IOp.store 16 (Opd.t 6) (Opd.t 22)) none,
      IOper.mk none (IOp.store 16 (Opd.t 7) (Opd.t 26)) none,
      IOper.mk none (IOp.diff (Opd.t 21) (Opd.t 6)) none,
      IOper.mk none (IOp.diff (Opd.t 21) (Opd.t 7)) none,
      IOper.mk none (IOp.diff (Opd.t 25) (Opd.t 6)) none,
      IOper.mk none (IOp.diff (Opd.t 25) (Opd.t 7)) none,
      IOper.mk none (IOp.diff (Opd.t 25) (Opd.t 6)) none]
      [19, 20, 21, 22, 23, 24, 25, 26]))
      (IC.seq
      (IC.ops false
      [IOper.mk (some 27) (IOp.faddr 0 (Opd.t 6)) none,
      IOper.mk (some 28) (IOp.load none (Opd.t 27)) none,
      IOper.mk (some 29) (IOp.faddr 0 (Opd.t 7)) none,
      IOper.mk (some 30) (IOp.load none (Opd.t 29)) none,
      IOper.mk (some 31) (IOp.bin BinOp.neq (Opd.t 28) (Opd.t 30)) none,
      IOper.mk (some 32) (IOp.mv (Opd.t 31)) none,
      IOper.mk (some 33) (IOp.faddr 1 (Opd.t 6)) (some (32, false)),
      IOper.mk (some 34) (IOp.load none (Opd.t 33)) (some (32, false)),
      IOper.mk (some 35) (IOp.faddr 1 (Opd.t 7)) (some (32, false)),
      IOper.mk (some 36) (IOp.load none (Opd.t 35)) (some (32, false)),
      IOper.mk (some 37) (IOp.bin BinOp.neq (Opd.t 34) (Opd.t 36)) (some (32, false)),
      IOper.mk (some 38) (IOp.pick (Opd.t 32) (Opd.c (AV.bool true)) (Opd.t 37)) none,
      IOper.mk (some 39) (IOp.mv (Opd.t 38)) none,
      IOper.mk (some 40) (IOp.faddr 7 (Opd.t 6)) (some (39, false)),
      IOper.mk (some 41) (IOp.load none (Opd.t 40)) (some (39, false)),
      IOper.mk (some 42) (IOp.faddr 7 (Opd.t 7)) (some (39, false)),
      IOper.mk (some 43) (IOp.load none (Opd.t 42)) (some (39, false)),
      IOper.mk (some 44) (IOp.bin BinOp.neq (Opd.t 41) (Opd.t 43)) (some (39, false)),
      IOper.mk (some 45) (IOp.pick (Opd.t 39) (Opd.c (AV.bool true)) (Opd.t 44)) none,
      IOper.mk (some 46) (IOp.mv (Opd.t 45)) none,
      IOper.mk (some 47) (IOp.faddr 8 (Opd.t 6)) (some (46, false)),
      IOper.mk (some 48) (IOp.load none (Opd.t 47)) (some (46, false)),
      IOper.mk (some 49) (IOp.faddr 8 (Opd.t 7)) (some (46, false)),
      IOper.mk (some 50) (IOp.load none (Opd.t 49)) (some (46, false)),
      IOper.mk (some 51) (IOp.bin BinOp.neq (Opd.t 48) (Opd.t 50)) (some (46, false)),
      IOper.mk (some 52) (IOp.pick (Opd.t 46) (Opd.c (AV.bool true)) (Opd.t 51)) none,
      IOper.mk (some 53) (IOp.mv (Opd.t 52)) none,
      IOper.mk (some 54) (IOp.faddr 9 (Opd.t 6)) (some (53, false)),
      IOper.mk (some 55) (IOp.load none (Opd.t 54)) (some (53, false)),
      IOper.mk (some 56) (IOp.faddr 9 (Opd.t 7)) (some (53, false)),
      IOper.mk (some 57) (IOp.load none (Opd.t 56)) (some (53, false)),
      IOper.mk (some 58) (IOp.bin BinOp.neq (Opd.t 55) (Opd.t 57)) (some (53, false)),
      IOper.mk (some 59) (IOp.pick (Opd.t 53) (Opd.c (AV.bool true)) (Opd.t 58)) none,
      IOper.mk (some 60) (IOp.mv (Opd.t 59)) none,
      IOper.mk (some 61) (IOp.faddr 10 (Opd.t 6)) (some (60, false)),
      IOper.mk (some 62) (IOp.load (some 6) (Opd.t 61)) (some (60, false)),
      IOper.mk (some 63) (IOp.faddr 10 (Opd.t 7)) (some (60, false)),
      IOper.mk (some 64) (IOp.load (some 6) (Opd.t 63)) (some (60, false)),
      IOper.mk (some 65) (IOp.callp 29 [Opd.t 62, Opd.t 64]) (some (60, false)),
      IOper.mk (some 66) (IOp.not (Opd.t 65)) (some (60, false)),
      IOper.mk (some 67) (IOp.pick (Opd.t 60) (Opd.c (AV.bool true)) (Opd.t 66)) none]
      [27, 28, 29, 30, 31, 32, 33, 34, 35, 36, 37, 38, 39, 40, 41, 42, 43, 44, 45, 46, 47, 48,
      49, 50, 51, 52, 53, 54, 55, 56, 57, 58, 59, 60, 61, 62, 63, 64, 65, 66])
      (IC.cond (Opd.t 67)
      (IC.seq (IC.ops false [IOper.mk (some 4) (IOp.mv (Opd.c (AV.bool false))) none] [])
      IC.ret)
      IC.nop))))
      (IC.ops false []
      [19, 20, 21, 22, 23, 24, 25, 26, 6, 7, 27, 28, 29, 30, 31, 32, 33, 34, 35, 36, 37, 38, 39, 40,
      41, 42, 43, 44, 45, 46, 47, 48, 49, 50, 51, 52, 53, 54, 55, 56, 57, 58, 59, 60, 61, 62, 63,
      64, 65, 66, 67]))
      (IC.ops false
      [IOper.mk (some 17) (IOp.mv (Opd.t 5)) none,
      IOper.mk (some 18) (IOp.bin BinOp.add (Opd.t 17) (Opd.c (AV.int IntKind.i64 1)))
      none,
      IOper.mk (some 5) (IOp.mv (Opd.t 18)) none]
      [17, 18])))
      (IC.ops false []
      [13, 14, 15, 16, 19, 20, 21, 22, 23, 24, 25, 26, 6, 7, 27, 28, 29, 30, 31, 32, 33, 34, 35, 36, 37,
      38, 39, 40, 41, 42, 43, 44, 45, 46, 47, 48, 49, 50, 51, 52, 53, 54, 55, 56, 57, 58, 59, 60, 61,
      62, 63, 64, 65, 66, 67, 17, 18]))))
      (IC.ops false []
      [13, 14, 15, 16, 19, 20, 21, 22, 23, 24, 25, 26, 6, 7, 27, 28, 29, 30, 31, 32, 33, 34, 35, 36, 37, 38, 39,
      40, 41, 42, 43, 44, 45, 46, 47, 48, 49, 50, 51, 52, 53, 54, 55, 56, 57, 58, 59, 60, 61, 62, 63, 64, 65,
      66, 67, 17, 18])))
      (IC.seq (IC.ops false [IOper.mk (some 4) (IOp.mv (Opd.c (AV.bool true))) none] []) IC.ret))))
theorem fn_r30_Same : F 16 = some ir_r30_Same := by kernel_rfl

def ir_witness_Prefix : IFun :=
  IFun.mk false 2 [IRes.tmp 4]
  (IC.seq (IC.ops false [IOper.mk (some 4) (IOp.mv (Opd.c (AV.imm true 0 0 (some 0) []))) none] [])
    (IC.seq (IC.ops false [IOper.mk (some 5) (IOp.mv (Opd.c (AV.imm true 0 0 (some 0) []))) none] [])
      (IC.seq
      (IC.seq
      (IC.ops false
      [IOper.mk (some 8) (IOp.mv (Opd.t 0)) none, IOper.mk (some 9) (IOp.len (Opd.t 8)) none,
      IOper.mk (some 10) (IOp.mv (Opd.c (AV.int IntKind.i64 0))) none]
      [])
      (IC.seq
      (IC.block 0
      (IC.loop
      (IC.seq
      (IC.seq (IC.ops false [IOper.mk (some 11) (IOp.bin BinOp.lss (Opd.t 10) (Opd.t 9)) none] [])
      (IC.seq (IC.cond (Opd.t 11) IC.nop (IC.exit 0))
      (IC.seq
      (IC.seq
      (IC.block 1
      (IC.seq
      (IC.ops false
      [IOper.mk (some 12) (IOp.ixa 16 (Opd.t 8) (Opd.t 10)) none,
      IOper.mk (some 13) (IOp.load (some 16) (Opd.t 12)) none,
      IOper.mk (some 7)
      (IOp.alloc
      [AV.int IntKind.i64 0, AV.int IntKind.i64 0,
      AV.int IntKind.u8 0, AV.str [], AV.str [],
      AV.int IntKind.i64 0, AV.imm true 0 0 (some 0) [],
      AV.int IntKind.i64 0, AV.int IntKind.i64 0,
      AV.int IntKind.i64 0, AV.int IntKind.i64 0,
      AV.bool false, AV.str [], AV.imm true 0 0 (some 0) [],
      AV.int IntKind.i64 0, AV.bool false])
      none,
      IOper.mk none (IOp.store 16 (Opd.t 7) (Opd.t 13)) none]
      [12, 13])
      (IC.seq
      (IC.seq
      (IC.ops false
      [IOper.mk (some 14) (IOp.faddr 7 (Opd.t 7)) none,
      IOper.mk (some 15) (IOp.load none (Opd.t 14)) none,
      IOper.mk (some 16) (IOp.mv (Opd.t 1)) none,
      IOper.mk (some 17) (IOp.bin BinOp.gtr (Opd.t 15) (Opd.t 16)) none]
      [14, 15, 16])
      (IC.cond (Opd.t 17) (IC.exit 1) IC.nop))
      (IC.seq
      (IC.seq
      (IC.ops false
      [IOper.mk (some 18) (IOp.faddr 9 (Opd.t 7)) none,
      IOper.mk (some 19) (IOp.load none (Opd.t 18)) none,
      IOper.mk (some 20) (IOp.mv (Opd.t 1)) none,
      IOper.mk (some 21) (IOp.bin BinOp.gtr (Opd.t 19) (Opd.t 20)) none]
      [18, 19, 20])
      (IC.cond (Opd.t 21)
      (IC.ops false
      [IOper.mk (some 22)
      (IOp.build
      [AV.int IntKind.i64 0, AV.bool false, AV.str [],
      AV.imm true 0 0 (some 0) [], AV.int IntKind.i64 0,
      AV.bool false]
      [])
      none,
      IOper.mk (some 23) (IOp.faddr 9 (Opd.t 7)) none,
      IOper.mk none
      (IOp.store 1 (Opd.t 23) (Opd.c (AV.int IntKind.i64 0))) none,
      IOper.mk (some 24) (IOp.faddr 10 (Opd.t 7)) none,
      IOper.mk none (IOp.store 6 (Opd.t 24) (Opd.t 22)) none]
      [22, 23, 24])
      IC.nop))
      (IC.seq
      (IC.seq
      (IC.ops false
      [IOper.mk (some 25) (IOp.faddr 8 (Opd.t 7)) none,
      IOper.mk (some 26) (IOp.load none (Opd.t 25)) none,
      IOper.mk (some 27) (IOp.mv (Opd.t 1)) none,
      IOper.mk (some 28) (IOp.bin BinOp.gtr (Opd.t 26) (Opd.t 27)) none]
      [25, 26, 27])
      (IC.cond (Opd.t 28)
      (IC.ops false
      [IOper.mk (some 29) (IOp.faddr 8 (Opd.t 7)) none,
      IOper.mk none
      (IOp.store 1 (Opd.t 29) (Opd.c (AV.int IntKind.i64 0))) none]
      [29])
      IC.nop))
      (IC.seq
      (IC.ops false
      [IOper.mk (some 30) (IOp.faddr 2 (Opd.t 7)) none,
      IOper.mk (some 31) (IOp.faddr 4 (Opd.t 30)) none,
      IOper.mk (some 32) (IOp.load none (Opd.t 31)) none,
      IOper.mk (some 33) (IOp.callp 35 [Opd.t 32]) none,
      IOper.mk (some 34) (IOp.faddr 2 (Opd.t 7)) none,
      IOper.mk (some 35) (IOp.faddr 4 (Opd.t 34)) none,
      IOper.mk none (IOp.store 1 (Opd.t 35) (Opd.t 33)) none]
      [30, 31, 32, 33, 34, 35])
      (IC.seq
      (IC.ops false
      [IOper.mk (some 36) (IOp.faddr 10 (Opd.t 7)) none,
      IOper.mk (some 37) (IOp.faddr 3 (Opd.t 36)) none,
      IOper.mk (some 38) (IOp.load none (Opd.t 37)) none,
      IOper.mk (some 39) (IOp.callp 36 [Opd.t 38]) none,
      IOper.mk (some 40) (IOp.faddr 10 (Opd.t 7)) none,
      IOper.mk (some 41) (IOp.faddr 3 (Opd.t 40)) none,
      IOper.mk none (IOp.store 1 (Opd.t 41) (Opd.t 39)) none]
      [36, 37, 38, 39, 40, 41])
      (IC.ops false
      [IOper.mk (some 42) (IOp.mv (Opd.t 5)) none,
      IOper.mk (some 43) (IOp.load (some 16) (Opd.t 7)) none,
      IOper.mk (some 44)
      (IOp.bsl false 16 1
      [AV.int IntKind.i64 0, AV.int IntKind.i64 0,
      AV.int IntKind.u8 0, AV.str [], AV.str [],
      AV.int IntKind.i64 0, AV.imm true 0 0 (some 0) [],
      AV.int IntKind.i64 0, AV.int IntKind.i64 0,
      AV.int IntKind.i64 0, AV.int IntKind.i64 0,
      AV.bool false, AV.str [], AV.imm true 0 0 (some 0) [],
      AV.int IntKind.i64 0, AV.bool false]
      [(0, 16, Opd.t 43)])
      none,
      IOper.mk (some 45) (IOp.append 16 184 (Opd.t 42) (Opd.t 44)) none,
      IOper.mk (some 5) (IOp.mv (Opd.t 45)) none]
      [42, 43, 44, 45]))))))))
      (IC.ops false []
      [12, 13, 7, 14, 15, 16, 17, 18, 19, 20, 21, 22, 23, 24, 25, 26, 27, 28, 29, 30, 31, 32, 33,
      34, 35, 36, 37, 38, 39, 40, 41, 42, 43, 44, 45]))
      (IC.ops false
      [IOper.mk (some 46) (IOp.bin BinOp.add (Opd.t 10) (Opd.c (AV.int IntKind.i64 1)))
      none,
      IOper.mk (some 10) (IOp.mv (Opd.t 46)) none]
      [46]))))
      (IC.ops false []
      [11, 12, 13, 7, 14, 15, 16, 17, 18, 19, 20, 21, 22, 23, 24, 25, 26, 27, 28, 29, 30, 31, 32, 33, 34,
      35, 36, 37, 38, 39, 40, 41, 42, 43, 44, 45, 46]))))
      (IC.ops false []
      [11, 12, 13, 7, 14, 15, 16, 17, 18, 19, 20, 21, 22, 23, 24, 25, 26, 27, 28, 29, 30, 31, 32, 33, 34, 35,
      36, 37, 38, 39, 40, 41, 42, 43, 44, 45, 46])))
      (IC.seq
      (IC.ops false [IOper.mk (some 47) (IOp.mv (Opd.t 5)) none, IOper.mk (some 4) (IOp.mv (Opd.t 47)) none] [47])
      IC.ret))))
theorem fn_witness_Prefix : F 17 = some ir_witness_Prefix := by kernel_rfl

def ir_r30_Prefix : IFun :=
  IFun.mk false 2 [IRes.tmp 4]
  (IC.seq (IC.ops false [IOper.mk (some 4) (IOp.mv (Opd.c (AV.imm true 0 0 (some 0) []))) none] [])
    (IC.seq
      (IC.ops false
      [IOper.mk (some 8)
      (IOp.bsl false 16 0
      [AV.int IntKind.i64 0, AV.int IntKind.i64 0, AV.int IntKind.u8 0,
      AV.str [], AV.str [], AV.int IntKind.i64 0, AV.imm true 0 0 (some 0) [],
      AV.int IntKind.i64 0, AV.int IntKind.i64 0, AV.int IntKind.i64 0,
      AV.int IntKind.i64 0, AV.bool false, AV.str [], AV.imm true 0 0 (some 0) [],
      AV.int IntKind.i64 0, AV.bool false]
      [])
      none,
      IOper.mk (some 5) (IOp.mv (Opd.t 8)) none]
      [8])
      (IC.seq
      (IC.seq (IC.ops false [IOper.mk (some 6) (IOp.mv (Opd.c (AV.int IntKind.i64 0))) none] [])
      (IC.seq
      (IC.block 0
      (IC.loop
      (IC.seq
      (IC.seq
      (IC.seq
      (IC.ops false
      [IOper.mk (some 9) (IOp.mv (Opd.t 6)) none, IOper.mk (some 10) (IOp.mv (Opd.t 0)) none,
      IOper.mk (some 11) (IOp.len (Opd.t 10)) none,
      IOper.mk (some 12) (IOp.bin BinOp.lss (Opd.t 9) (Opd.t 11)) none]
      [9, 10, 11])
      (IC.cond (Opd.t 12) IC.nop (IC.exit 0)))
      (IC.seq
      (IC.seq
      (IC.block 1
      (IC.seq
      (IC.ops false
      [IOper.mk (some 15) (IOp.mv (Opd.t 0)) none, IOper.mk (some 16) (IOp.mv (Opd.t 6)) none,
      IOper.mk (some 17) (IOp.ixa 16 (Opd.t 15) (Opd.t 16)) none,
      IOper.mk (some 18) (IOp.load (some 16) (Opd.t 17)) none,
      IOper.mk (some 7)
      (IOp.alloc
      [AV.int IntKind.i64 0, AV.int IntKind.i64 0,
      AV.int IntKind.u8 0, AV.str [], AV.str [],
      AV.int IntKind.i64 0, AV.imm true 0 0 (some 0) [],
      AV.int IntKind.i64 0, AV.int IntKind.i64 0,
      AV.int IntKind.i64 0, AV.int IntKind.i64 0, AV.bool false,
      AV.str [], AV.imm true 0 0 (some 0) [], AV.int IntKind.i64 0,
      AV.bool false])
      none,
      IOper.mk none (IOp.store 16 (Opd.t 7) (Opd.t 18)) none]
      [15, 16, 17, 18])
      (IC.seq
      (IC.seq
      (IC.ops false
      [IOper.mk (some 19) (IOp.faddr 7 (Opd.t 7)) none,
      IOper.mk (some 20) (IOp.load none (Opd.t 19)) none,
      IOper.mk (some 21) (IOp.mv (Opd.t 1)) none,
      IOper.mk (some 22) (IOp.bin BinOp.gtr (Opd.t 20) (Opd.t 21)) none]
      [19, 20, 21])
      (IC.cond (Opd.t 22) (IC.exit 1) IC.nop))
      (IC.seq
      (IC.seq
      (IC.ops false
      [IOper.mk (some 23) (IOp.faddr 9 (Opd.t 7)) none,
      IOper.mk (some 24) (IOp.load none (Opd.t 23)) none,
      IOper.mk (some 25) (IOp.mv (Opd.t 1)) none,
      IOper.mk (some 26) (IOp.bin BinOp.gtr (Opd.t 24) (Opd.t 25)) none]
      [23, 24, 25])
      (IC.cond (Opd.t 26)
      (IC.ops false
      [IOper.mk (some 27) (IOp.faddr 0 (Opd.t 7)) none,
      IOper.mk (some 28) (IOp.load none (Opd.t 27)) none,
      IOper.mk (some 29) (IOp.faddr 1 (Opd.t 7)) none,
      IOper.mk (some 30) (IOp.load none (Opd.t 29)) none,
      IOper.mk (some 31) (IOp.faddr 2 (Opd.t 7)) none,
      IOper.mk (some 32) (IOp.load (some 5) (Opd.t 31)) none,
      IOper.mk (some 33) (IOp.faddr 7 (Opd.t 7)) none,
      IOper.mk (some 34) (IOp.load none (Opd.t 33)) none,
      IOper.mk (some 35) (IOp.faddr 8 (Opd.t 7)) none,
      IOper.mk (some 36) (IOp.load none (Opd.t 35)) none,
      IOper.mk (some 37)
      (IOp.build
      [AV.int IntKind.i64 0, AV.int IntKind.i64 0,
      AV.int IntKind.u8 0, AV.str [], AV.str [],
      AV.int IntKind.i64 0, AV.imm true 0 0 (some 0) [],
      AV.int IntKind.i64 0, AV.int IntKind.i64 0,
      AV.int IntKind.i64 0, AV.int IntKind.i64 0,
      AV.bool false, AV.str [], AV.imm true 0 0 (some 0) [],
      AV.int IntKind.i64 0, AV.bool false]
      [(0, 1, Opd.t 28), (1, 1, Opd.t 30), (2, 5, Opd.t 32), (7, 1, Opd.t 34),
      (8, 1, Opd.t 36)])
      none,
      IOper.mk none (IOp.store 16 (Opd.t 7) (Opd.t 37)) none]
      [27, 28, 29, 30, 31, 32, 33, 34, 35, 36, 37])
      IC.nop))
      (IC.seq
      (IC.seq
      (IC.ops false
      [IOper.mk (some 38) (IOp.faddr 8 (Opd.t 7)) none,
      IOper.mk (some 39) (IOp.load none (Opd.t 38)) none,
      IOper.mk (some 40) (IOp.mv (Opd.t 1)) none,
      IOper.mk (some 41) (IOp.bin BinOp.gtr (Opd.t 39) (Opd.t 40)) none]
      [38, 39, 40])
      (IC.cond (Opd.t 41)
      (IC.ops false
      [IOper.mk (some 42) (IOp.faddr 0 (Opd.t 7)) none,
      IOper.mk (some 43) (IOp.load none (Opd.t 42)) none,
      IOper.mk (some 44) (IOp.faddr 1 (Opd.t 7)) none,
      IOper.mk (some 45) (IOp.load none (Opd.t 44)) none,
      IOper.mk (some 46) (IOp.faddr 2 (Opd.t 7)) none,
      IOper.mk (some 47) (IOp.load (some 5) (Opd.t 46)) none,
      IOper.mk (some 48) (IOp.faddr 7 (Opd.t 7)) none,
      IOper.mk (some 49) (IOp.load none (Opd.t 48)) none,
      IOper.mk (some 50) (IOp.faddr 9 (Opd.t 7)) none,
      IOper.mk (some 51) (IOp.load none (Opd.t 50)) none,
      IOper.mk (some 52) (IOp.faddr 10 (Opd.t 7)) none,
      IOper.mk (some 53) (IOp.load (some 6) (Opd.t 52)) none,
      IOper.mk (some 54)
      (IOp.build
      [AV.int IntKind.i64 0, AV.int IntKind.i64 0,
      AV.int IntKind.u8 0, AV.str [], AV.str [],
      AV.int IntKind.i64 0, AV.imm true 0 0 (some 0) [],
      AV.int IntKind.i64 0, AV.int IntKind.i64 0,
      AV.int IntKind.i64 0, AV.int IntKind.i64 0,
      AV.bool false, AV.str [], AV.imm true 0 0 (some 0) [],
      AV.int IntKind.i64 0, AV.bool false]
      [(0, 1, Opd.t 43), (1, 1, Opd.t 45), (2, 5, Opd.t 47), (7, 1, Opd.t 49),
      (9, 1, Opd.t 51), (10, 6, Opd.t 53)])
      none,
      IOper.mk none (IOp.store 16 (Opd.t 7) (Opd.t 54)) none]
      [42, 43, 44, 45, 46, 47, 48, 49, 50, 51, 52, 53, 54])
      IC.nop))
      (IC.ops false
      [IOper.mk (some 55) (IOp.mv (Opd.t 5)) none,
      IOper.mk (some 56) (IOp.load (some 16) (Opd.t 7)) none,
      IOper.mk (some 57)
      (IOp.bsl false 16 1
      [AV.int IntKind.i64 0, AV.int IntKind.i64 0,
      AV.int IntKind.u8 0, AV.str [], AV.str [],
      AV.int IntKind.i64 0, AV.imm true 0 0 (some 0) [],
      AV.int IntKind.i64 0, AV.int IntKind.i64 0,
      AV.int IntKind.i64 0, AV.int IntKind.i64 0,
      AV.bool false, AV.str [], AV.imm true 0 0 (some 0) [],
      AV.int IntKind.i64 0, AV.bool false]
      [(0, 16, Opd.t 56)])
      none,
      IOper.mk (some 58) (IOp.append 16 184 (Opd.t 55) (Opd.t 57)) none,
      IOper.mk (some 5) (IOp.mv (Opd.t 58)) none]
      [55, 56, 57, 58]))))))
      (IC.ops false []
      [15, 16, 17, 18, 7, 19, 20, 21, 22, 23, 24, 25, 26, 27, 28, 29, 30, 31, 32, 33, 34, 35, 36,
      37, 38, 39, 40, 41, 42, 43, 44, 45, 46, 47, 48, 49, 50, 51, 52, 53, 54, 55, 56, 57, 58]))
      (IC.ops false
      [IOper.mk (some 13) (IOp.mv (Opd.t 6)) none,
      IOper.mk (some 14) (IOp.bin BinOp.add (Opd.t 13) (Opd.c (AV.int IntKind.i64 1)))
      none,
      IOper.mk (some 6) (IOp.mv (Opd.t 14)) none]
      [13, 14])))
      (IC.ops false []
      [9, 10, 11, 12, 15, 16, 17, 18, 7, 19, 20, 21, 22, 23, 24, 25, 26, 27, 28, 29, 30, 31, 32, 33, 34,
      35, 36, 37, 38, 39, 40, 41, 42, 43, 44, 45, 46, 47, 48, 49, 50, 51, 52, 53, 54, 55, 56, 57, 58,
      13, 14]))))
      (IC.ops false []
      [9, 10, 11, 12, 15, 16, 17, 18, 7, 19, 20, 21, 22, 23, 24, 25, 26, 27, 28, 29, 30, 31, 32, 33, 34, 35, 36,
      37, 38, 39, 40, 41, 42, 43, 44, 45, 46, 47, 48, 49, 50, 51, 52, 53, 54, 55, 56, 57, 58, 13, 14])))
      (IC.seq
      (IC.ops false [IOper.mk (some 59) (IOp.mv (Opd.t 5)) none, IOper.mk (some 4) (IOp.mv (Opd.t 59)) none] [59])
      IC.ret))))
theorem fn_r30_Prefix : F 18 = some ir_r30_Prefix := by kernel_rfl

def ir_r24_Same : IFun :=
  IFun.mk false 2 [IRes.tmp 4]
  (IC.seq
    (IC.ops false
      [IOper.mk (some 2) (IOp.box 6 (Opd.t 0)) none, IOper.mk (some 3) (IOp.box 6 (Opd.t 1)) none,
      IOper.mk (some 4) (IOp.mv (Opd.c (AV.bool false))) none]
      [])
    (IC.seq
      (IC.seq
      (IC.ops false
      [IOper.mk (some 6) (IOp.faddr 0 (Opd.t 2)) none, IOper.mk (some 7) (IOp.load none (Opd.t 6)) none,
      IOper.mk (some 8) (IOp.faddr 0 (Opd.t 3)) none, IOper.mk (some 9) (IOp.load none (Opd.t 8)) none,
      IOper.mk (some 10) (IOp.bin BinOp.neq (Opd.t 7) (Opd.t 9)) none,
      IOper.mk (some 11) (IOp.mv (Opd.t 10)) none, IOper.mk (some 12) (IOp.faddr 1 (Opd.t 2)) (some (11, false)),
      IOper.mk (some 13) (IOp.load none (Opd.t 12)) (some (11, false)),
      IOper.mk (some 14) (IOp.faddr 1 (Opd.t 3)) (some (11, false)),
      IOper.mk (some 15) (IOp.load none (Opd.t 14)) (some (11, false)),
      IOper.mk (some 16) (IOp.eqb true (Opd.t 13) (Opd.t 15)) (some (11, false)),
      IOper.mk (some 17) (IOp.pick (Opd.t 11) (Opd.c (AV.bool true)) (Opd.t 16)) none,
      IOper.mk (some 18) (IOp.mv (Opd.t 17)) none, IOper.mk (some 19) (IOp.faddr 2 (Opd.t 2)) (some (18, false)),
      IOper.mk (some 20) (IOp.load none (Opd.t 19)) (some (18, false)),
      IOper.mk (some 21) (IOp.faddr 2 (Opd.t 3)) (some (18, false)),
      IOper.mk (some 22) (IOp.load none (Opd.t 21)) (some (18, false)),
      IOper.mk (some 23) (IOp.bin BinOp.neq (Opd.t 20) (Opd.t 22)) (some (18, false)),
      IOper.mk (some 24) (IOp.pick (Opd.t 18) (Opd.c (AV.bool true)) (Opd.t 23)) none,
      IOper.mk (some 25) (IOp.mv (Opd.t 24)) none, IOper.mk (some 26) (IOp.faddr 4 (Opd.t 2)) (some (25, false)),
      IOper.mk (some 27) (IOp.load none (Opd.t 26)) (some (25, false)),
      IOper.mk (some 28) (IOp.faddr 4 (Opd.t 3)) (some (25, false)),
      IOper.mk (some 29) (IOp.load none (Opd.t 28)) (some (25, false)),
      IOper.mk (some 30) (IOp.bin BinOp.neq (Opd.t 27) (Opd.t 29)) (some (25, false)),
      IOper.mk (some 31) (IOp.pick (Opd.t 25) (Opd.c (AV.bool true)) (Opd.t 30)) none,
      IOper.mk (some 32) (IOp.mv (Opd.t 31)) none, IOper.mk (some 33) (IOp.faddr 5 (Opd.t 2)) (some (32, false)),
      IOper.mk (some 34) (IOp.load none (Opd.t 33)) (some (32, false)),
      IOper.mk (some 35) (IOp.faddr 5 (Opd.t 3)) (some (32, false)),
      IOper.mk (some 36) (IOp.load none (Opd.t 35)) (some (32, false)),
      IOper.mk (some 37) (IOp.eqb true (Opd.t 34) (Opd.t 36)) (some (32, false)),
      IOper.mk (some 38) (IOp.pick (Opd.t 32) (Opd.c (AV.bool true)) (Opd.t 37)) none,
      IOper.mk (some 39) (IOp.mv (Opd.t 38)) none, IOper.mk (some 40) (IOp.faddr 3 (Opd.t 2)) (some (39, false)),
      IOper.mk (some 41) (IOp.load none (Opd.t 40)) (some (39, false)),
      IOper.mk (some 42) (IOp.len (Opd.t 41)) (some (39, false)),
      IOper.mk (some 43) (IOp.faddr 3 (Opd.t 3)) (some (39, false)),
      IOper.mk (some 44) (IOp.load none (Opd.t 43)) (some (39, false)),
      IOper.mk (some 45) (IOp.len (Opd.t 44)) (some (39, false)),
      IOper.mk (some 46) (IOp.bin BinOp.neq (Opd.t 42) (Opd.t 45)) (some (39, false)),
      IOper.mk (some 47) (IOp.pick (Opd.t 39) (Opd.c (AV.bool true)) (Opd.t 46)) none]
      [6, 7, 8, 9, 10, 11, 12, 13, 14, 15, 16, 17, 18, 19, 20, 21, 22, 23, 24, 25, 26, 27, 28, 29, 30, 31, 32, 33,
      34, 35, 36, 37, 38, 39, 40, 41, 42, 43, 44, 45, 46])
      (IC.cond (Opd.t 47) (IC.seq (IC.ops false [IOper.mk (some 4) (IOp.mv (Opd.c (AV.bool false))) none] []) IC.ret)
      IC.nop))
      (IC.seq
      (IC.seq (IC.ops false [IOper.mk (some 5) (IOp.mv (Opd.c (AV.int IntKind.i64 0))) none] [])
      (IC.seq
      (IC.block 0
      (IC.loop
      (IC.seq
      (IC.seq
      (IC.seq
      (IC.ops false
      [IOper.mk (some 48) (IOp.mv (Opd.t 5)) none, IOper.mk (some 49) (IOp.faddr 3 (Opd.t 2)) none,
      IOper.mk (some 50) (IOp.load none (Opd.t 49)) none,
      IOper.mk (some 51) (IOp.len (Opd.t 50)) none,
      IOper.mk (some 52) (IOp.bin BinOp.lss (Opd.t 48) (Opd.t 51)) none]
      [48, 49, 50, 51])
      (IC.cond (Opd.t 52) IC.nop (IC.exit 0)))
      (IC.seq
      (IC.seq
      (IC.block 1
      (IC.seq
      (IC.ops true
      [IOper.mk (some 55) (IOp.faddr 3 (Opd.t 2)) none,
      IOper.mk (some 56) (IOp.load none (Opd.t 55)) none,
      IOper.mk (some 57) (IOp.mv (Opd.t 5)) none,
      IOper.mk (some 58) (IOp.ixa 2 (Opd.t 56) (Opd.t 57)) none,
      IOper.mk (some 59) (IOp.load (some 2) (Opd.t 58)) none,
      IOper.mk (some 60) (IOp.faddr 3 (Opd.t 3)) none,
      IOper.mk (some 61) (IOp.load none (Opd.t 60)) none,
      IOper.mk (some 62) (IOp.mv (Opd.t 5)) none,
      IOper.mk (some 63) (IOp.ixa 2 (Opd.t 61) (Opd.t 62)) none,
      IOper.mk (some 64) (IOp.load (some 2) (Opd.t 63)) none,
      IOper.mk (some 65) (IOp.eqa true [(0, 1), (1, 1)] (Opd.t 59) (Opd.t 64)) none]
      [55, 56, 57, 58, 59, 60, 61, 62, 63, 64])
      (IC.cond (Opd.t 65)
      (IC.seq (IC.ops false [IOper.mk (some 4) (IOp.mv (Opd.c (AV.bool false))) none] [])
      IC.ret)
      IC.nop)))
      (IC.ops false [] [55, 56, 57, 58, 59, 60, 61, 62, 63, 64, 65]))
      (IC.ops false
      [IOper.mk (some 53) (IOp.mv (Opd.t 5)) none,
      IOper.mk (some 54) (IOp.bin BinOp.add (Opd.t 53) (Opd.c (AV.int IntKind.i64 1)))
      none,
      IOper.mk (some 5) (IOp.mv (Opd.t 54)) none]
      [53, 54])))
      (IC.ops false [] [48, 49, 50, 51, 52, 55, 56, 57, 58, 59, 60, 61, 62, 63, 64, 65, 53, 54]))))
      (IC.ops false [] [48, 49, 50, 51, 52, 55, 56, 57, 58, 59, 60, 61, 62, 63, 64, 65, 53, 54])))
      (IC.seq (IC.ops false [IOper.mk (some 4) (IOp.mv (Opd.c (AV.bool true))) none] []) IC.ret))))
theorem fn_r24_Same : F 29 = some ir_r24_Same := by kernel_rfl

def ir_slices_Clone_api_Msg_api_Msg : IFun :=
  IFun.mk false 1 [IRes.tmp 2]
  (IC.seq (IC.ops false [IOper.mk (some 2) (IOp.mv (Opd.c (AV.imm true 0 0 (some 0) []))) none] [])
    (IC.seq
      (IC.seq
      (IC.ops false
      [IOper.mk (some 3) (IOp.mv (Opd.t 0)) none,
      IOper.mk (some 4) (IOp.eqn 1 false (Opd.t 3) (Opd.c (AV.imm true 0 0 (some 0) []))) none]
      [3])
      (IC.cond (Opd.t 4)
      (IC.seq (IC.ops false [IOper.mk (some 2) (IOp.mv (Opd.c (AV.imm true 0 0 (some 0) []))) none] []) IC.ret)
      IC.nop))
      (IC.seq
      (IC.ops false
      [IOper.mk (some 5)
      (IOp.bsl false 6 0
      [AV.int IntKind.u8 0, AV.int IntKind.i64 0, AV.str [], AV.str [], AV.str [],
      AV.int IntKind.u64 0]
      [])
      none,
      IOper.mk (some 6) (IOp.mv (Opd.t 0)) none, IOper.mk (some 7) (IOp.append 6 72 (Opd.t 5) (Opd.t 6)) none,
      IOper.mk (some 2) (IOp.mv (Opd.t 7)) none]
      [5, 6, 7])
      IC.ret)))
theorem fn_slices_Clone_api_Msg_api_Msg : F 35 = some ir_slices_Clone_api_Msg_api_Msg := by kernel_rfl

def ir_slices_Clone_api_Entry_api_Entry : IFun :=
  IFun.mk false 1 [IRes.tmp 2]
  (IC.seq (IC.ops false [IOper.mk (some 2) (IOp.mv (Opd.c (AV.imm true 0 0 (some 0) []))) none] [])
    (IC.seq
      (IC.seq
      (IC.ops false
      [IOper.mk (some 3) (IOp.mv (Opd.t 0)) none,
      IOper.mk (some 4) (IOp.eqn 1 false (Opd.t 3) (Opd.c (AV.imm true 0 0 (some 0) []))) none]
      [3])
      (IC.cond (Opd.t 4)
      (IC.seq (IC.ops false [IOper.mk (some 2) (IOp.mv (Opd.c (AV.imm true 0 0 (some 0) []))) none] []) IC.ret)
      IC.nop))
      (IC.seq
      (IC.ops false
      [IOper.mk (some 5) (IOp.bsl false 2 0 [AV.str [], AV.str []] []) none,
      IOper.mk (some 6) (IOp.mv (Opd.t 0)) none, IOper.mk (some 7) (IOp.append 2 32 (Opd.t 5) (Opd.t 6)) none,
      IOper.mk (some 2) (IOp.mv (Opd.t 7)) none]
      [5, 6, 7])
      IC.ret)))
theorem fn_slices_Clone_api_Entry_api_Entry : F 36 = some ir_slices_Clone_api_Entry_api_Entry := by kernel_rfl

end Go.AS.Wi

/-
  More steps do no harm; nor does more memory below. By an AI agent.
-/
namespace Go.AS
open Go

def CallLe (c c' : CallT) : Prop := ∀ f args S r S', c f args S = some (r, S') → ∀ T, c' f args (S ++ T) = some (r, S' ++ T)

def OR.ext (T : Stack) : OR → OR
  | .go e S => .go e (S ++ T)
  | .pan v e S => .pan v e (S ++ T)

def outExt (T : Stack) (r : IX × Env × Stack) : IX × Env × Stack := (r.1, r.2.1, r.2.2 ++ T)

theorem afterCall_mono {c c' : CallT} (h : CallLe c c') {e : Env} {d : Option Nat} {f : AV} {args : List AV} {S : Stack} {r : OR} (T : Stack) (hc : afterCall e d (c f args S) = some r) : afterCall e d (c' f args (S ++ T)) = some (r.ext T) := by
  cases hx : c f args S with
  | none => rw [hx] at hc; cases hc
  | some p =>
    obtain ⟨q, S'⟩ := p
    rw [h _ _ _ _ _ hx T]
    rw [hx] at hc
    cases S' with
    | nil => cases q <;> cases hc
    | cons H1 S1 => cases q <;> (cases hc; rfl)

theorem evOper_mono {c c' : CallT} (h : CallLe c c') {o : IOper} {e : Env} {S : Stack} {r : OR} (T : Stack) (hr : evOper c o e S = some r) : evOper c' o e (S ++ T) = some (r.ext T) := by
  unfold evOper at hr ⊢
  split at hr
  · cases hr
  · cases hr; rfl
  · split at hr
    · split at hr
      · cases hr; rfl
      · cases hr
    · rename_i f azs _
      cases hf : hfrees (evs e azs) with
      | false => rw [hf] at hr; cases hr
      | true =>
        rw [hf] at hr
        simp only [cond_true] at hr ⊢
        split at hr
        · rename_i v H1 hv
          have := h _ _ _ _ _ hv []
          simp only [List.append_nil] at this
          rw [this]
          split at hr
          · rename_i v' hlv
            cases hv2 : hfree v' with
            | false => rw [hv2] at hr; cases hr
            | true => rw [hv2] at hr; cases hr; simp only [hlv, hv2, cond_true]; rfl
          · cases hr
        · cases hr
    · rename_i f azs _
      split at hr
      · cases hr
      · simp only [List.cons_append]
        cases hf : hfrees (evs e azs) with
        | false => rw [hf] at hr; cases hr
        | true =>
          rw [hf] at hr
          simp only [cond_true] at hr ⊢
          split at hr
          · rename_i v H1 hv
            have := h _ _ _ _ _ hv []
            simp only [List.append_nil] at this
            rw [this]
            split at hr
            · rename_i v' H2 hfr
              cases hr
              simp only [hfr]; rfl
            · cases hr
          · cases hr
    · split at hr
      · cases hr
      · simp only [List.cons_append]
        split at hr
        · rename_i azs has
          cases hf : hfrees azs with
          | false => rw [hf] at hr; cases hr
          | true =>
            rw [hf] at hr
            simp only [cond_true] at hr
            split at hr
            · rename_i v hv
              have := h _ _ _ _ _ hv []
              simp only [List.append_nil] at this
              cases hv2 : scal v with
              | false => rw [hv2] at hr; cases hr
              | true =>
                rw [hv2] at hr
                cases hr
                simp only [has, hf, cond_true, this, hv2]; rfl
            · cases hr
        · cases hr
    · exact afterCall_mono h T hr
    · split at hr
      · cases hr
      · simp only [List.cons_append]
        split at hr
        · cases hr; rfl
        · cases hr

theorem evOps_mono {c c' : CallT} (h : CallLe c c') (T : Stack) : ∀ {l : List IOper} {e : Env} {S : Stack} {r : OR}, evOps c l e S = some r → evOps c' l e (S ++ T) = some (r.ext T)
  | [], _, _, _, hr => by cases hr; rfl
  | o :: l, e, S, r, hr => by
    unfold evOps at hr ⊢
    split at hr
    · rename_i e1 S1 h1
      rw [evOper_mono h T h1]
      exact evOps_mono h T hr
    · rename_i hno
      rw [evOper_mono h T hr]
      cases r with
      | go e1 S1 => exact absurd hr (hno _ _)
      | pan => rfl

theorem iter_mono {f f' : Env → Stack → Out} (T : Stack) (hf : ∀ e S r, f e S = some r → f' e (S ++ T) = some (outExt T r)) : ∀ {n n' : Nat} {e : Env} {S : Stack} {r : IX × Env × Stack}, n ≤ n' → iter f n e S = some r → iter f' n' e (S ++ T) = some (outExt T r)
  | 0, _, _, _, _, _, h => by simp [iter] at h
  | n + 1, 0, _, _, _, hn, _ => by omega
  | n + 1, n' + 1, e, S, r, hn, h => by
    simp only [iter] at h ⊢
    split at h
    · rename_i e1 S1 h1
      rw [hf _ _ _ h1]
      exact iter_mono T hf (Nat.le_of_succ_le_succ hn) h
    · rename_i hno
      rw [hf _ _ _ h]
      obtain ⟨x, e1, S1⟩ := r
      cases x with
      | normal => exact absurd h (hno _ _)
      | _ => rfl

theorem agree_mono {c c' : CallT} (h : CallLe c c') (T : Stack) {e e1 : Env} {S S1 : Stack} : ∀ {ls : List (List IOper)}, agree c e S e1 S1 ls = true → agree c' e (S ++ T) e1 (S1 ++ T) ls = true
  | [], _ => rfl
  | l :: r, hr => by
    simp only [agree] at hr ⊢
    split at hr
    · rename_i e2 S2 h2
      rw [evOps_mono h T h2]
      cases hb : (decide (e2 = e1) && decide (S2 = S1)) with
      | false => rw [hb] at hr; cases hr
      | true =>
        rw [hb] at hr
        simp only [Bool.and_eq_true, decide_eq_true_eq] at hb
        obtain ⟨rfl, rfl⟩ := hb
        simp only [OR.ext, decide_true, Bool.and_self, cond_true]
        exact agree_mono h T hr
    · cases hr
theorem evAll_mono {c c' : CallT} (h : CallLe c c') (T : Stack) {e e1 : Env} {S S1 : Stack} {ls : List (List IOper)} (hr : evAll c e S ls = some (e1, S1)) : evAll c' e (S ++ T) ls = some (e1, S1 ++ T) := by
  cases ls with
  | nil => cases hr
  | cons l r =>
    simp only [evAll] at hr ⊢
    split at hr
    · rename_i e2 S2 h2
      rw [evOps_mono h T h2]
      cases hb : agree c e S e2 S2 r with
      | false => rw [hb] at hr; cases hr
      | true =>
        rw [hb] at hr
        simp only [cond_true, Option.some.injEq, Prod.mk.injEq] at hr
        obtain ⟨rfl, rfl⟩ := hr
        simp only [OR.ext, agree_mono h T hb, cond_true]
    · cases hr

theorem evC_mono {k k' : Nat} {c c' : CallT} (hk : k ≤ k') (h : CallLe c c') (T : Stack) : ∀ (ir : IC) {e : Env} {S : Stack} {r : IX × Env × Stack}, evC k c ir e S = some r → evC k' c' ir e (S ++ T) = some (outExt T r) := by
  intro ir
  induction ir with
  | nop => intro e S r hr; cases hr; rfl
  | exit => intro e S r hr; cases hr; rfl
  | ret => intro e S r hr; cases hr; rfl
  | ops d l dr =>
    intro e S r hr
    simp only [evC] at hr ⊢
    cases h1 : evOps c l e S with
    | none => rw [h1] at hr; cases hr
    | some o =>
      rw [evOps_mono h T h1]
      rw [h1] at hr
      cases o with
      | go e1 S1 => cases hr; rfl
      | pan v e1 S1 =>
        cases d with
        | true => cases hr
        | false => cases hr; rfl
  | multi ls dr =>
    intro e S r hr
    simp only [evC] at hr ⊢
    split at hr
    · rename_i e1 S1 h1
      have h2 : evM c' e (S ++ T) ls = some (e1, S1 ++ T) := by
        unfold evM at h1 ⊢
        cases S with
        | nil => cases h1
        | cons H S0 => exact evAll_mono h T h1
      rw [h2]
      cases hr; rfl
    · cases hr
  | seq a b iha ihb =>
    intro e S r hr
    simp only [evC] at hr ⊢
    split at hr
    · rename_i e1 S1 h1
      rw [iha h1]
      exact ihb hr
    · rename_i hno
      rw [iha hr]
      obtain ⟨x, e1, S1⟩ := r
      cases x with
      | normal => exact absurd hr (hno _ _)
      | _ => rfl
  | cond co a b iha ihb =>
    intro e S r hr
    simp only [evC] at hr ⊢
    split at hr
    · rename_i t ht
      cases t with
      | true => exact iha hr
      | false => exact ihb hr
    · cases hr
  | block id b ih =>
    intro e S r hr
    simp only [evC] at hr ⊢
    split at hr
    · rename_i j e1 S1 h1
      rw [ih h1]
      simp only [outExt]
      cases hj : Nat.beq j id with
      | true => rw [hj] at hr; cases hr; rfl
      | false => rw [hj] at hr; cases hr; rfl
    · rename_i hno
      rw [ih hr]
      obtain ⟨x, e1, S1⟩ := r
      cases x with
      | exit => exact absurd hr (hno _ _ _)
      | _ => rfl
  | loop b ih =>
    intro e S r hr
    simp only [evC] at hr ⊢
    exact iter_mono T (fun e S r hx => ih hx) hk hr
  | rangeF g ps a b _ _ =>
    intro e S r hr
    simp only [evC] at hr ⊢
    split at hr
    · cases hr
    · rename_i H S'
      simp only [List.cons_append]
      cases hg : isFnF (g.ev e) with
      | false => rw [hg] at hr; cases hr
      | true =>
        rw [hg] at hr
        simp only [Bool.not_true, cond_false] at hr ⊢
        split at hr
        · rename_i v H2 S2 h1
          have := h _ _ _ _ _ h1 T
          simp only [List.cons_append] at this
          rw [this]
          simp only
          split at hr
          · rename_i L hL
            split at hr
            · cases hr
            · cases hr; rfl
          · cases hr
        · cases hr

theorem resultsA_ext {e : Env} {S : Stack} {rs : List IRes} {v : AV} (T : Stack) (h : resultsA e S rs = some v) : resultsA e (S ++ T) rs = some v := by
  cases S with
  | nil => cases h
  | cons H S => exact h

def crExt (T : Stack) (r : CR × Stack) : CR × Stack := (r.1, r.2 ++ T)

theorem runF_mono {k k' : Nat} {c c' : CallT} (hk : k ≤ k') (h : CallLe c c') (T : Stack) {fn : IFun} {args : List AV} {S : Stack} {r : CR × Stack} (hr : runF k c fn args S = some r) : runF k' c' fn args (S ++ T) = some (crExt T r) := by
  unfold runF at hr ⊢
  cases hb : (!(Nat.beq args.length fn.nargs)) with
  | true => rw [hb] at hr; cases hr
  | false =>
    rw [hb] at hr
    simp only [cond_false] at hr ⊢
    cases h1 : evC k c fn.body (Env.ofArgs 0 args) S with
    | none => rw [h1] at hr; cases hr
    | some o =>
      rw [evC_mono hk h T fn.body h1]
      rw [h1] at hr
      obtain ⟨x, e1, S1⟩ := o
      cases x with
      | exit => cases hr
      | panic v => cases hr; rfl
      | normal =>
        simp only [Option.map_eq_some_iff] at hr
        obtain ⟨v, h2, rfl⟩ := hr
        simp only [outExt, resultsA_ext T h2, Option.map_some, crExt]
      | ret =>
        simp only [Option.map_eq_some_iff] at hr
        obtain ⟨v, h2, rfl⟩ := hr
        simp only [outExt, resultsA_ext T h2, Option.map_some, crExt]

theorem callFn_mono {k k' : Nat} {c c' : CallT} (hk : k ≤ k') (h : CallLe c c') (T : Stack) {fn : IFun} {args : List AV} {S : Stack} {r : CR × Stack} (hr : callFn k c fn args S = some r) : callFn k' c' fn args (S ++ T) = some (crExt T r) := by
  unfold callFn at hr ⊢
  split at hr
  · split at hr
    · cases hr
    · simp only [List.cons_append]
      exact runF_mono hk h T hr
  · rename_i args' hargs
    cases h1 : runF k c fn args' ([] :: S) with
    | none => rw [h1] at hr; cases hr
    | some o =>
      have := runF_mono hk h T h1
      simp only [List.cons_append] at this
      rw [this]
      rw [h1] at hr
      obtain ⟨q, S1⟩ := o
      cases S1 with
      | nil => cases q <;> cases hr
      | cons H1 S1 =>
        cases q with
        | ret v =>
          simp only [Option.map_eq_some_iff] at hr
          obtain ⟨v2, h2, rfl⟩ := hr
          simp only [crExt, List.cons_append, h2, Option.map_some]
        | pan v =>
          simp only [Option.map_eq_some_iff] at hr
          obtain ⟨v2, h2, rfl⟩ := hr
          simp only [crExt, List.cons_append, h2, Option.map_some]

theorem endRound_ext {l : Nat} {o : IX × Env × Stack} {r : CR × Stack} (T : Stack) (h : endRound l (some o) = some r) : endRound l (some (outExt T o)) = some (crExt T r) := by
  obtain ⟨x, e, S⟩ := o
  cases S with
  | nil => cases h
  | cons H2 S2 =>
    simp only [outExt, List.cons_append, endRound] at h ⊢
    split at h
    · rename_i L2 hL
      cases x with
      | panic v => cases h
      | normal => cases h; rfl
      | exit id => cases h; rfl
      | ret => cases h; rfl
    · cases h

theorem round_mono {k k' : Nat} {c c' : CallT} (hk : k ≤ k') (h : CallLe c c') (T : Stack) {l : Nat} {args : List AV} {S : Stack} {r : CR × Stack} (hr : round k c l args S = some r) : round k' c' l args (S ++ T) = some (crExt T r) := by
  unfold round at hr ⊢
  split at hr
  · cases hr
  · rename_i H S0
    simp only [List.cons_append]
    split at hr
    · rename_i L hL
      cases hb : (!(Nat.beq args.length L.params.length)) with
      | true => rw [hb] at hr; cases hr
      | false =>
        rw [hb] at hr
        simp only [cond_false] at hr ⊢
        split at hr
        · rename_i e1 H1 S1 h1
          have := evC_mono hk h T _ h1
          simp only [List.cons_append, outExt] at this
          rw [this]
          simp only
          split at hr
          · rename_i L1 hL1
            split at hr
            · rename_i hst
              cases h2 : evC k c L.body e1 (H1.set l (.loop { L1 with state := .busy }) :: S1) with
              | none => rw [h2] at hr; simp [endRound] at hr
              | some o =>
                have := evC_mono hk h T _ h2
                simp only [List.cons_append] at this
                rw [this]
                rw [h2] at hr
                exact endRound_ext T hr
            · cases hr
          · cases hr
        · cases hr
    · cases hr

theorem callV_mono (funs : Nat → Option IFun) : ∀ {k k' : Nat}, k ≤ k' → CallLe (callV funs k) (callV funs k')
  | 0, _, _ => fun f args S r S' h => by simp [callV] at h
  | k + 1, 0, hk => by omega
  | k + 1, k' + 1, hk => by
    have ih := callV_mono funs (Nat.le_of_succ_le_succ hk)
    intro v args S r S' h T
    unfold callV at h ⊢
    split at h
    · split at h
      · rename_i fn hfn
        exact callFn_mono (Nat.le_of_succ_le_succ hk) ih T h
      · cases h
    · exact round_mono (Nat.le_of_succ_le_succ hk) ih T h
    · split at h
      · cases h
      · simp only [List.cons_append]
        split at h
        · cases h
        · rename_i args' hargs
          split at h
          · rename_i v S2 h1
            rw [ih _ _ _ _ _ h1 T]
            simp only [Option.map_eq_some_iff, Prod.mk.injEq] at h
            obtain ⟨v2, h2, rfl, rfl⟩ := h
            simp only [h2, Option.map_some, List.cons_append]
          · rename_i v S2 h1
            rw [ih _ _ _ _ _ h1 T]
            simp only [Option.map_eq_some_iff, Prod.mk.injEq] at h
            obtain ⟨v2, h2, rfl, rfl⟩ := h
            simp only [h2, Option.map_some, List.cons_append]
          · cases h
    · cases h
/-- Fewer functions do what all do. -/
theorem callV_sub {funs' funs : Nat → Option IFun} (hs : ∀ g fn, funs' g = some fn → funs g = some fn) : ∀ {k k' : Nat}, k ≤ k' → CallLe (callV funs' k) (callV funs k')
  | 0, _, _ => fun f args S r S' h => by simp [callV] at h
  | k + 1, 0, hk => by omega
  | k + 1, k' + 1, hk => by
    have ih := callV_sub hs (Nat.le_of_succ_le_succ hk)
    intro v args S r S' h T
    unfold callV at h ⊢
    split at h
    · split at h
      · rename_i fn hfn
        rw [hs _ _ hfn]
        exact callFn_mono (Nat.le_of_succ_le_succ hk) ih T h
      · cases h
    · exact round_mono (Nat.le_of_succ_le_succ hk) ih T h
    · split at h
      · cases h
      · simp only [List.cons_append]
        split at h
        · cases h
        · rename_i args' hargs
          split at h
          · rename_i v S2 h1
            rw [ih _ _ _ _ _ h1 T]
            simp only [Option.map_eq_some_iff, Prod.mk.injEq] at h
            obtain ⟨v2, h2, rfl, rfl⟩ := h
            simp only [h2, Option.map_some, List.cons_append]
          · rename_i v S2 h1
            rw [ih _ _ _ _ _ h1 T]
            simp only [Option.map_eq_some_iff, Prod.mk.injEq] at h
            obtain ⟨v2, h2, rfl, rfl⟩ := h
            simp only [h2, Option.map_some, List.cons_append]
          · cases h
    · cases h
def listF : List (Nat × IFun) → Nat → Option IFun
  | [], _ => none
  | (i, f) :: r, g => bif Nat.beq i g then some f else listF r g
theorem listF_sub {funs : Nat → Option IFun} : ∀ {L : List (Nat × IFun)}, (∀ p ∈ L, funs p.1 = some p.2) → ∀ g fn, listF L g = some fn → funs g = some fn
  | [], _, _, _, h => by cases h
  | (i, f) :: r, hl, g, fn, h => by
    simp only [listF] at h
    cases hb : Nat.beq i g with
    | true =>
      rw [hb] at h
      simp only [cond_true, Option.some.injEq] at h
      have := Nat.eq_of_beq_eq_true hb
      subst this
      subst h
      exact hl (i, f) (by simp)
    | false =>
      rw [hb] at h
      exact listF_sub (fun p hp => hl p (by simp [hp])) g fn h
end Go.AS

/-
  A logic of the evaluator: what code comes to, whatever number of steps it takes. By an AI agent.
-/
namespace Go.AS
open Go

/-- The operations that call or panic. -/
def isApart : IOp → Bool
  | .panic _ | .callp .. | .callf .. | .calls .. | .call .. => true
  | _ => false

section
variable {funs : Nat → Option IFun}

/-- Code c comes to an end that Q takes. -/
def Ev (funs : Nat → Option IFun) (c : IC) (e : Env) (S : Stack) (Q : IX → Env → Stack → Prop) : Prop :=
  ∃ k x e' S', evC k (callV funs k) c e S = some (x, e', S') ∧ Q x e' S'

/-- So do operations. -/
def EvO (funs : Nat → Option IFun) (l : List IOper) (e : Env) (S : Stack) (Q : Env → Stack → Prop) (N : AV → Stack → Prop) : Prop :=
  ∃ k o, evOps (callV funs k) l e S = some o ∧ (match o with | .go e' S' => Q e' S' | .pan v _ S' => N v S')

/-- So does a call. -/
def Ends (funs : Nat → Option IFun) (f : AV) (args : List AV) (S : Stack) (R : CR → Stack → Prop) : Prop :=
  ∃ k r S', callV funs k f args S = some (r, S') ∧ R r S'

/-- A function of the program's that is a function of its arguments. -/
def Gives (funs : Nat → Option IFun) (g : Nat) (args : List AV) (v : AV) : Prop :=
  ∃ k, callV funs k (.func (.func g) [] []) args [] = some (.ret v, [])

theorem Ev.mono {c : IC} {e : Env} {S : Stack} {Q Q' : IX → Env → Stack → Prop} (h : Ev funs c e S Q) (hQ : ∀ x e' S', Q x e' S' → Q' x e' S') : Ev funs c e S Q' :=
  let ⟨k, x, e', S', h1, h2⟩ := h; ⟨k, x, e', S', h1, hQ _ _ _ h2⟩

theorem outExt_nil (r : IX × Env × Stack) : outExt [] r = r := by simp [outExt]
theorem evC_up {k k' : Nat} (hk : k ≤ k') {c : IC} {e : Env} {S : Stack} {r : IX × Env × Stack} (h : evC k (callV funs k) c e S = some r) : evC k' (callV funs k') c e S = some r := by
  have := evC_mono hk (callV_mono funs hk) [] c h
  rwa [List.append_nil, outExt_nil] at this
theorem evOps_up {k k' : Nat} (hk : k ≤ k') {l : List IOper} {e : Env} {S : Stack} {r : OR} (h : evOps (callV funs k) l e S = some r) : evOps (callV funs k') l e S = some r := by
  have := evOps_mono (callV_mono funs hk) [] h
  cases r <;> simpa [OR.ext] using this
theorem callV_up {k k' : Nat} (hk : k ≤ k') {f : AV} {args : List AV} {S S' : Stack} {r : CR} (h : callV funs k f args S = some (r, S')) : callV funs k' f args S = some (r, S') := by
  simpa using callV_mono funs hk _ _ _ _ _ h []
theorem Gives.at {g : Nat} {args : List AV} {v : AV} (h : Gives funs g args v) : ∃ k, ∀ S, callV funs k (.func (.func g) [] []) args S = some (.ret v, S) :=
  let ⟨k, hk⟩ := h; ⟨k, fun S => by simpa using callV_mono funs (Nat.le_refl k) _ _ _ _ _ hk S⟩

theorem Ev.nop {e : Env} {S : Stack} {Q : IX → Env → Stack → Prop} (h : Q .normal e S) : Ev funs .nop e S Q := ⟨0, _, _, _, rfl, h⟩
theorem Ev.exit {id : Nat} {e : Env} {S : Stack} {Q : IX → Env → Stack → Prop} (h : Q (.exit id) e S) : Ev funs (.exit id) e S Q := ⟨0, _, _, _, rfl, h⟩
theorem Ev.ret {e : Env} {S : Stack} {Q : IX → Env → Stack → Prop} (h : Q .ret e S) : Ev funs .ret e S Q := ⟨0, _, _, _, rfl, h⟩

/-- On, where code ends as it ought to. -/
def onward (K : Env → Stack → Prop) (Q : IX → Env → Stack → Prop) : IX → Env → Stack → Prop
  | .normal, e, S => K e S
  | x, e, S => Q x e S

theorem Ev.seq {a b : IC} {e : Env} {S : Stack} {Q : IX → Env → Stack → Prop} (h : Ev funs a e S (onward (fun e S => Ev funs b e S Q) Q)) : Ev funs (.seq a b) e S Q := by
  obtain ⟨k, x, e1, S1, h1, h2⟩ := h
  cases x with
  | normal =>
    obtain ⟨k2, x2, e2, S2, h3, h4⟩ := h2
    refine ⟨max k k2, x2, e2, S2, ?_, h4⟩
    simp only [evC, evC_up (Nat.le_max_left k k2) h1]
    exact evC_up (Nat.le_max_right k k2) h3
  | exit id => exact ⟨k, _, _, _, by simp only [evC, h1], h2⟩
  | ret => exact ⟨k, _, _, _, by simp only [evC, h1], h2⟩
  | panic v => exact ⟨k, _, _, _, by simp only [evC, h1], h2⟩

theorem Ev.cond {c : Opd} {a b : IC} {e : Env} {S : Stack} {Q : IX → Env → Stack → Prop} {t : Bool} (hc : c.ev e = .bool t) (h1 : t = true → Ev funs a e S Q) (h2 : t = false → Ev funs b e S Q) : Ev funs (.cond c a b) e S Q := by
  cases t with
  | true =>
    obtain ⟨k, x, e1, S1, h3, h4⟩ := h1 rfl
    exact ⟨k, x, e1, S1, by simp only [evC, hc, cond_true, h3], h4⟩
  | false =>
    obtain ⟨k, x, e1, S1, h3, h4⟩ := h2 rfl
    exact ⟨k, x, e1, S1, by simp only [evC, hc, cond_false, h3], h4⟩

/-- Out of a block. -/
def outOf (id : Nat) (Q : IX → Env → Stack → Prop) : IX → Env → Stack → Prop
  | .exit j, e, S => bif Nat.beq j id then Q .normal e S else Q (.exit j) e S
  | x, e, S => Q x e S

theorem Ev.block {id : Nat} {b : IC} {e : Env} {S : Stack} {Q : IX → Env → Stack → Prop} (h : Ev funs b e S (outOf id Q)) : Ev funs (.block id b) e S Q := by
  obtain ⟨k, x, e1, S1, h1, h2⟩ := h
  cases x with
  | exit j =>
    simp only [outOf] at h2
    cases hj : Nat.beq j id with
    | true => rw [hj] at h2; exact ⟨k, _, _, _, by simp only [evC, h1, hj, cond_true], h2⟩
    | false => rw [hj] at h2; exact ⟨k, _, _, _, by simp only [evC, h1, hj, cond_false], h2⟩
  | normal => exact ⟨k, _, _, _, by simp only [evC, h1], h2⟩
  | ret => exact ⟨k, _, _, _, by simp only [evC, h1], h2⟩
  | panic v => exact ⟨k, _, _, _, by simp only [evC, h1], h2⟩

theorem iter_up {f f' : Env → Stack → Out} (hf : ∀ e S r, f e S = some r → f' e S = some r) {n n' : Nat} {e : Env} {S : Stack} {r : IX × Env × Stack} (hn : n ≤ n') (h : iter f n e S = some r) : iter f' n' e S = some r := by
  have := iter_mono (f := f) (f' := f') [] (fun e S r hx => by rw [List.append_nil, outExt_nil]; exact hf e S r hx) hn h
  rwa [List.append_nil, outExt_nil] at this

/-- A loop: an invariant that bears a number, which every round lowers. -/
theorem Ev.loop {b : IC} {Q : IX → Env → Stack → Prop} (I : Nat → Env → Stack → Prop) (hround : ∀ n e S, I n e S → Ev funs b e S (onward (fun e S => ∃ m, m < n ∧ I m e S) Q)) (n : Nat) {e : Env} {S : Stack} (h : I n e S) : Ev funs (.loop b) e S Q := by
  have key : ∀ n e S, I n e S → ∃ j k x e' S', iter (evC k (callV funs k) b) j e S = some (x, e', S') ∧ Q x e' S' := by
    intro n
    induction n using Nat.strongRecOn with
    | _ n ih =>
      intro e S hI
      obtain ⟨k, x, e1, S1, h1, h2⟩ := hround n e S hI
      cases x with
      | normal =>
        obtain ⟨m, hm, hI1⟩ := h2
        obtain ⟨j, k2, x2, e2, S2, h3, h4⟩ := ih m hm e1 S1 hI1
        refine ⟨j + 1, max k k2, x2, e2, S2, ?_, h4⟩
        simp only [iter, evC_up (Nat.le_max_left k k2) h1]
        exact iter_up (fun e S r hx => evC_up (Nat.le_max_right k k2) hx) (Nat.le_refl j) h3
      | exit id => exact ⟨1, k, _, _, _, by simp only [iter, h1], h2⟩
      | ret => exact ⟨1, k, _, _, _, by simp only [iter, h1], h2⟩
      | panic v => exact ⟨1, k, _, _, _, by simp only [iter, h1], h2⟩
  obtain ⟨j, k, x, e', S', h1, h2⟩ := key n e S h
  refine ⟨max j k, x, e', S', ?_, h2⟩
  simp only [evC]
  exact iter_up (fun e S r hx => evC_up (Nat.le_max_right j k) hx) (Nat.le_max_left j k) h1

/-- Operations. -/
theorem Ev.ops {d : Bool} {l : List IOper} {dr : List Nat} {e : Env} {S : Stack} {Q : IX → Env → Stack → Prop} (h : EvO funs l e S (fun e' S' => Q .normal (Env.drop e' dr) S') (fun v S' => d = false ∧ ∀ e', Q (.panic v) e' S')) : Ev funs (.ops d l dr) e S Q := by
  obtain ⟨k, o, h1, h2⟩ := h
  cases o with
  | go e1 S1 => exact ⟨k, _, _, _, by simp only [evC, h1], h2⟩
  | pan v e1 S1 =>
    obtain ⟨rfl, h3⟩ := h2
    exact ⟨k, .panic v, e1, S1, by simp only [evC, h1, cond_false], h3 _⟩

theorem EvO.nil {e : Env} {S : Stack} {Q : Env → Stack → Prop} {N : AV → Stack → Prop} (h : Q e S) : EvO funs [] e S Q N := ⟨0, _, rfl, h⟩

/-- An operation that calls nothing. -/
theorem EvO.op {o : IOper} {l : List IOper} {e : Env} {H : Heap} {S : Stack} {Q : Env → Stack → Prop} {N : AV → Stack → Prop} {v : AV} {H' : Heap} (hg : o.guard = none) (ha : isApart o.op = false) (hv : evOp e H o.op = some (v, H')) (h : EvO funs l (putD e o.dst v) (H' :: S) Q N) : EvO funs (o :: l) e (H :: S) Q N := by
  obtain ⟨k, r, h1, h2⟩ := h
  refine ⟨k, r, ?_, h2⟩
  have : evOper (callV funs k) o e (H :: S) = some (.go (putD e o.dst v) (H' :: S)) := by
    unfold evOper
    rw [hg]
    simp only [guardA]
    split
    · rename_i x hx; rw [hx] at ha; cases ha
    · rename_i x y hx; rw [hx] at ha; cases ha
    · rename_i x y hx; rw [hx] at ha; cases ha
    · rename_i x y hx; rw [hx] at ha; cases ha
    · rename_i x y hx; rw [hx] at ha; cases ha
    · simp only [hv]
  simp only [evOps, this, h1]

/-- A guarded one. -/
theorem EvO.opg {o : IOper} {l : List IOper} {e : Env} {H : Heap} {S : Stack} {Q : Env → Stack → Prop} {N : AV → Stack → Prop} {t : Bool} (hg : guardA e o.guard = some t) (ha : t = true → EvO funs ({ o with guard := none } :: l) e (H :: S) Q N) (hb : t = false → EvO funs l (putD e o.dst (.tuple [])) (H :: S) Q N) : EvO funs (o :: l) e (H :: S) Q N := by
  cases t with
  | false =>
    obtain ⟨k, r, h1, h2⟩ := hb rfl
    exact ⟨k, r, by simp only [evOps, evOper, hg, h1], h2⟩
  | true =>
    obtain ⟨k, r, h1, h2⟩ := ha rfl
    refine ⟨k, r, ?_, h2⟩
    rw [← h1]
    simp only [evOps, evOper]
    rw [hg]
    rfl

/-- A call. -/
theorem EvO.call {o : IOper} {f : Opd} {args : List Opd} {l : List IOper} {e : Env} {S : Stack} {Q : Env → Stack → Prop} {N : AV → Stack → Prop} (hg : o.guard = none) (ho : o.op = .call f args)
    (h : Ends funs (f.ev e) (evs e args) S fun r S' => S' ≠ [] ∧ match r with | .ret v => EvO funs l (putD e o.dst v) S' Q N | .pan v => N v S') : EvO funs (o :: l) e S Q N := by
  obtain ⟨k, r, S', h1, hne, h2⟩ := h
  have hS' : ∃ H1 S1, S' = H1 :: S1 := by
    cases S' with
    | nil => exact absurd rfl hne
    | cons H1 S1 => exact ⟨H1, S1, rfl⟩
  obtain ⟨H1, S1, rfl⟩ := hS'
  cases r with
  | ret v =>
    obtain ⟨k2, o2, h3, h4⟩ := h2
    refine ⟨max k k2, o2, ?_, h4⟩
    have h1' := callV_up (Nat.le_max_left k k2) h1
    have : evOper (callV funs (max k k2)) o e S = some (.go (putD e o.dst v) (H1 :: S1)) := by
      simp only [evOper, hg, guardA, ho, h1', afterCall]
    simp only [evOps, this]
    exact evOps_up (Nat.le_max_right k k2) h3
  | pan v =>
    refine ⟨k, .pan v e (H1 :: S1), ?_, h2⟩
    simp only [evOps, evOper, hg, guardA, ho, h1, afterCall]

/-- A call of a function that is a function of its arguments. -/
theorem EvO.gives {o : IOper} {g : Nat} {args : List Opd} {l : List IOper} {e : Env} {H : Heap} {S : Stack} {Q : Env → Stack → Prop} {N : AV → Stack → Prop} {v : AV} (hg : o.guard = none) (ho : o.op = .call (.c (.func (.func g) [] [])) args)
    (hc : Gives funs g (evs e args) v) (h : EvO funs l (putD e o.dst v) (H :: S) Q N) : EvO funs (o :: l) e (H :: S) Q N :=
  EvO.call hg ho (let ⟨k, hk⟩ := hc.at; ⟨k, _, _, hk _, by simp, h⟩)

/-- A function that runs in a memory of its own. -/
theorem Gives.intro {g : Nat} {fn : IFun} {args args' : List AV} {v : AV} (hf : funs g = some fn) (hs : fn.shared = false) (hn : Nat.beq args'.length fn.nargs = true) (hu : mapO upf args = some args')
    (h : Ev funs fn.body (Env.ofArgs 0 args') [[]] fun x e' S' => (x = .normal ∨ x = .ret) ∧ ∃ H' r, S' = [H'] ∧ resultsA e' [H'] fn.results = some r ∧ leave H' r = some v) : Gives funs g args v := by
  obtain ⟨k, x, e', S', h1, h2, H', r, rfl, h3, h4⟩ := h
  refine ⟨k + 1, ?_⟩
  simp only [callV, hf, List.nil_append, List.append_nil, callFn, hs, cond_false, hu, runF, hn, Bool.not_true, h1]
  rcases h2 with rfl | rfl <;> simp [h3, h4]
end
end Go.AS
