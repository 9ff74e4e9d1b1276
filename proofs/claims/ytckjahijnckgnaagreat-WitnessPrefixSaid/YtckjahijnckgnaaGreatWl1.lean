import Derived.Test.YtckjahijnckgnaaGreatWi0
set_option linter.all false
namespace Go.AS.Wi
open Go Go.AS Go.Proofs
set_option maxRecDepth 100000

def ir_l30_live : IFun :=
  IFun.mk false 0 [IRes.tmp 0]
  (IC.seq (IC.ops false [IOper.mk (some 0) (IOp.mv (Opd.c (AV.bool false))) none] [])
    (IC.seq
      (IC.ops false
      [IOper.mk (some 4)
      (IOp.build
      [AV.int IntKind.i64 0, AV.int IntKind.i64 0, AV.int IntKind.i64 0,
      AV.int IntKind.i64 0, AV.int IntKind.i64 0, AV.int IntKind.i64 0,
      AV.int IntKind.i64 0, AV.int IntKind.i64 0, AV.int IntKind.i64 0]
      [(0, 1, Opd.c (AV.int IntKind.i64 2)), (1, 1, Opd.c (AV.int IntKind.i64 8)),
      (2, 1, Opd.c (AV.int IntKind.i64 4)), (4, 1, Opd.c (AV.int IntKind.i64 4)),
      (5, 1, Opd.c (AV.int IntKind.i64 2)), (6, 1, Opd.c (AV.int IntKind.i64 4)),
      (8, 1, Opd.c (AV.int IntKind.i64 1))])
      none,
      IOper.mk (some 1)
      (IOp.alloc
      [AV.int IntKind.i64 0, AV.int IntKind.i64 0, AV.int IntKind.i64 0,
      AV.int IntKind.i64 0, AV.int IntKind.i64 0, AV.int IntKind.i64 0,
      AV.int IntKind.i64 0, AV.int IntKind.i64 0, AV.int IntKind.i64 0])
      none,
      IOper.mk none (IOp.store 9 (Opd.t 1) (Opd.t 4)) none]
      [4])
      (IC.seq
      (IC.ops false
      [IOper.mk (some 5)
      (IOp.build
      [AV.int IntKind.u8 0, AV.str [], AV.str [], AV.int IntKind.i64 0,
      AV.imm true 0 0 (some 0) []]
      [(0, 1, Opd.c (AV.int IntKind.u8 1)), (1, 1, Opd.c (AV.str [UInt8.ofNat 97]))])
      none,
      IOper.mk (some 6)
      (IOp.build
      [AV.int IntKind.i64 0, AV.bool false, AV.str [], AV.imm true 0 0 (some 0) [],
      AV.int IntKind.i64 0, AV.bool false]
      [(1, 1, Opd.c (AV.bool true))])
      none,
      IOper.mk (some 7)
      (IOp.build
      [AV.int IntKind.i64 0, AV.int IntKind.i64 0, AV.int IntKind.u8 0,
      AV.str [], AV.str [], AV.int IntKind.i64 0, AV.imm true 0 0 (some 0) [],
      AV.int IntKind.i64 0, AV.int IntKind.i64 0, AV.int IntKind.i64 0,
      AV.int IntKind.i64 0, AV.bool false, AV.str [], AV.imm true 0 0 (some 0) [],
      AV.int IntKind.i64 0, AV.bool false]
      [(0, 1, Opd.c (AV.int IntKind.i64 1)), (1, 1, Opd.c (AV.int IntKind.i64 1)),
      (2, 5, Opd.t 5), (7, 1, Opd.c (AV.int IntKind.i64 1)),
      (8, 1, Opd.c (AV.int IntKind.i64 2)), (9, 1, Opd.c (AV.int IntKind.i64 3)),
      (10, 6, Opd.t 6)])
      none,
      IOper.mk (some 2)
      (IOp.alloc
      [AV.int IntKind.i64 0, AV.int IntKind.i64 0, AV.int IntKind.u8 0,
      AV.str [], AV.str [], AV.int IntKind.i64 0, AV.imm true 0 0 (some 0) [],
      AV.int IntKind.i64 0, AV.int IntKind.i64 0, AV.int IntKind.i64 0,
      AV.int IntKind.i64 0, AV.bool false, AV.str [], AV.imm true 0 0 (some 0) [],
      AV.int IntKind.i64 0, AV.bool false])
      none,
      IOper.mk none (IOp.store 16 (Opd.t 2) (Opd.t 7)) none]
      [5, 6, 7])
      (IC.seq
      (IC.ops false
      [IOper.mk (some 8) (IOp.load (some 9) (Opd.t 1)) none,
      IOper.mk (some 9) (IOp.load (some 16) (Opd.t 2)) none,
      IOper.mk (some 10)
      (IOp.bsl false 16 1
      [AV.int IntKind.i64 0, AV.int IntKind.i64 0, AV.int IntKind.u8 0,
      AV.str [], AV.str [], AV.int IntKind.i64 0, AV.imm true 0 0 (some 0) [],
      AV.int IntKind.i64 0, AV.int IntKind.i64 0,
      AV.int IntKind.i64 0, AV.int IntKind.i64 0, AV.bool false, AV.str [],
      AV.imm true 0 0 (some 0) [], AV.int IntKind.i64 0, AV.bool false]
      [(0, 16, Opd.t 9)])
      none,
      IOper.mk (some 11)
      (IOp.call (Opd.c (AV.func (Fn.func 8) [] []))
      [Opd.t 8, Opd.c (AV.int IntKind.i64 1), Opd.t 10])
      none,
      IOper.mk (some 3) (IOp.mv (Opd.t 11)) none]
      [8, 9, 10, 11])
      (IC.seq
      (IC.ops false
      [IOper.mk (some 12) (IOp.faddr 10 (Opd.t 2)) none, IOper.mk (some 13) (IOp.faddr 1 (Opd.t 12)) none,
      IOper.mk none (IOp.store 1 (Opd.t 13) (Opd.c (AV.bool false))) none]
      [12, 13])
      (IC.seq
      (IC.ops false
      [IOper.mk (some 14) (IOp.mv (Opd.t 3)) none, IOper.mk (some 15) (IOp.len (Opd.t 14)) none,
      IOper.mk (some 16) (IOp.bin BinOp.eql (Opd.t 15) (Opd.c (AV.int IntKind.i64 1))) none,
      IOper.mk (some 17) (IOp.mv (Opd.t 16)) none, IOper.mk (some 18) (IOp.mv (Opd.t 3)) (some (17, true)),
      IOper.mk (some 19) (IOp.ixa 2 (Opd.t 18) (Opd.c (AV.int IntKind.i64 0)))
      (some (17, true)),
      IOper.mk (some 20) (IOp.load (some 2) (Opd.t 19)) (some (17, true)),
      IOper.mk (some 21)
      (IOp.build [AV.int IntKind.i64 0, AV.int IntKind.i64 0]
      [(0, 1, Opd.c (AV.int IntKind.i64 0)),
      (1, 1, Opd.c (AV.int IntKind.i64 4))])
      (some (17, true)),
      IOper.mk (some 22) (IOp.eqa false [(0, 0), (1, 0)] (Opd.t 20) (Opd.t 21)) (some (17, true)),
      IOper.mk (some 23) (IOp.pick (Opd.t 17) (Opd.t 22) (Opd.c (AV.bool false))) none,
      IOper.mk (some 24) (IOp.mv (Opd.t 23)) none,
      IOper.mk (some 25) (IOp.load (some 9) (Opd.t 1)) (some (24, true)),
      IOper.mk (some 26) (IOp.load (some 16) (Opd.t 2)) (some (24, true)),
      IOper.mk (some 27)
      (IOp.bsl false 16 1
      [AV.int IntKind.i64 0, AV.int IntKind.i64 0,
      AV.int IntKind.u8 0, AV.str [], AV.str [], AV.int IntKind.i64 0,
      AV.imm true 0 0 (some 0) [], AV.int IntKind.i64 0, AV.int IntKind.i64 0,
      AV.int IntKind.i64 0, AV.int IntKind.i64 0, AV.bool false, AV.str [],
      AV.imm true 0 0 (some 0) [], AV.int IntKind.i64 0, AV.bool false]
      [(0, 16, Opd.t 26)])
      (some (24, true)),
      IOper.mk (some 28)
      (IOp.call (Opd.c (AV.func (Fn.func 19) [] []))
      [Opd.t 25, Opd.c (AV.int IntKind.i64 1), Opd.t 27])
      (some (24, true)),
      IOper.mk (some 29) (IOp.pick (Opd.t 24) (Opd.t 28) (Opd.c (AV.bool false))) none,
      IOper.mk (some 30) (IOp.mv (Opd.t 29)) none,
      IOper.mk (some 31) (IOp.load (some 16) (Opd.t 2)) (some (30, true)),
      IOper.mk (some 32)
      (IOp.bsl false 16 1
      [AV.int IntKind.i64 0, AV.int IntKind.i64 0,
      AV.int IntKind.u8 0, AV.str [], AV.str [], AV.int IntKind.i64 0,
      AV.imm true 0 0 (some 0) [], AV.int IntKind.i64 0, AV.int IntKind.i64 0,
      AV.int IntKind.i64 0, AV.int IntKind.i64 0, AV.bool false, AV.str [],
      AV.imm true 0 0 (some 0) [], AV.int IntKind.i64 0, AV.bool false]
      [(0, 16, Opd.t 31)])
      (some (30, true)),
      IOper.mk (some 33) (IOp.call (Opd.c (AV.func (Fn.func 11) [] [])) [Opd.t 32]) (some (30, true)),
      IOper.mk (some 34) (IOp.len (Opd.t 33)) (some (30, true)),
      IOper.mk (some 35) (IOp.bin BinOp.eql (Opd.t 34) (Opd.c (AV.int IntKind.i64 1)))
      (some (30, true)),
      IOper.mk (some 36) (IOp.pick (Opd.t 30) (Opd.t 35) (Opd.c (AV.bool false))) none,
      IOper.mk (some 0) (IOp.mv (Opd.t 36)) none]
      [14, 15, 16, 17, 18, 19, 20, 21, 22, 23, 24, 25, 26, 27, 28, 29, 30, 31, 32, 33, 34, 35, 36])
      IC.ret))))))
theorem fn_l30_live : F 7 = some ir_l30_live := by kernel_rfl

def ir_witness_Check : IFun :=
  IFun.mk false 3 [IRes.tmp 6]
  (IC.seq
    (IC.ops false
      [IOper.mk (some 3) (IOp.box 9 (Opd.t 0)) none, IOper.mk (some 6) (IOp.mv (Opd.c (AV.bool false))) none] [])
    (IC.seq
      (IC.ops false
      [IOper.mk (some 10) (IOp.load (some 9) (Opd.t 3)) none, IOper.mk (some 11) (IOp.mv (Opd.t 1)) none,
      IOper.mk (some 12) (IOp.call (Opd.c (AV.func (Fn.func 20) [] [])) [Opd.t 10, Opd.t 11]) none,
      IOper.mk (some 9) (IOp.mv (Opd.t 12)) none, IOper.mk (some 13) (IOp.extr (Opd.t 9) 0) none,
      IOper.mk (some 14) (IOp.extr (Opd.t 9) 1) none, IOper.mk (some 7) (IOp.mv (Opd.t 13)) none,
      IOper.mk (some 8) (IOp.mv (Opd.t 14)) none]
      [10, 11, 12, 9, 13, 14, 7])
      (IC.seq
      (IC.ops false
      [IOper.mk (some 15) (IOp.mv (Opd.t 8)) none,
      IOper.mk (some 16) (IOp.bin BinOp.eql (Opd.t 15) (Opd.c (AV.int IntKind.i64 0))) none,
      IOper.mk (some 17) (IOp.mv (Opd.t 16)) none,
      IOper.mk (some 18) (IOp.load (some 9) (Opd.t 3)) (some (17, true)),
      IOper.mk (some 19) (IOp.mv (Opd.t 1)) (some (17, true)),
      IOper.mk (some 20) (IOp.mv (Opd.t 2)) (some (17, true)),
      IOper.mk (some 21) (IOp.call (Opd.c (AV.func (Fn.func 8) [] [])) [Opd.t 18, Opd.t 19, Opd.t 20])
      (some (17, true)),
      IOper.mk (some 22) (IOp.len (Opd.t 21)) (some (17, true)),
      IOper.mk (some 23) (IOp.bin BinOp.eql (Opd.t 22) (Opd.c (AV.int IntKind.i64 0)))
      (some (17, true)),
      IOper.mk (some 24) (IOp.pick (Opd.t 17) (Opd.t 23) (Opd.c (AV.bool false))) none,
      IOper.mk (some 6) (IOp.mv (Opd.t 24)) none]
      [15, 16, 17, 18, 19, 20, 21, 22, 23, 24])
      IC.ret)))
theorem fn_witness_Check : F 19 = some ir_witness_Check := by kernel_rfl

def ir_witness_Faults : IFun :=
  IFun.mk false 3 [IRes.tmp 6]
  (IC.seq
    (IC.ops false
      [IOper.mk (some 3) (IOp.box 9 (Opd.t 0)) none,
      IOper.mk (some 6) (IOp.mv (Opd.c (AV.imm true 0 0 (some 0) []))) none]
      [])
    (IC.seq
      (IC.ops false
      [IOper.mk (some 13) (IOp.load (some 9) (Opd.t 3)) none, IOper.mk (some 14) (IOp.mv (Opd.t 1)) none,
      IOper.mk (some 15) (IOp.call (Opd.c (AV.func (Fn.func 20) [] [])) [Opd.t 13, Opd.t 14]) none,
      IOper.mk (some 12) (IOp.mv (Opd.t 15)) none, IOper.mk (some 16) (IOp.extr (Opd.t 12) 0) none,
      IOper.mk (some 17) (IOp.extr (Opd.t 12) 1) none, IOper.mk (some 7) (IOp.mv (Opd.t 16)) none,
      IOper.mk (some 8) (IOp.mv (Opd.t 17)) none]
      [13, 14, 15, 12, 16, 17])
      (IC.seq
      (IC.seq
      (IC.ops false
      [IOper.mk (some 18) (IOp.mv (Opd.t 8)) none,
      IOper.mk (some 19) (IOp.bin BinOp.neq (Opd.t 18) (Opd.c (AV.int IntKind.i64 0))) none]
      [18])
      (IC.cond (Opd.t 19)
      (IC.seq (IC.ops false [IOper.mk (some 6) (IOp.mv (Opd.c (AV.imm true 0 0 (some 0) []))) none] []) IC.ret)
      IC.nop))
      (IC.seq (IC.ops false [IOper.mk (some 9) (IOp.alloc [AV.imm true 0 0 (some 0) []]) none] [])
      (IC.seq
      (IC.seq
      (IC.ops false
      [IOper.mk (some 20) (IOp.mv (Opd.t 2)) none, IOper.mk (some 21) (IOp.len (Opd.t 20)) none,
      IOper.mk (some 22) (IOp.mv (Opd.c (AV.int IntKind.i64 0))) none]
      [20])
      (IC.seq
      (IC.block 0
      (IC.loop
      (IC.seq
      (IC.seq (IC.ops false [IOper.mk (some 23) (IOp.bin BinOp.lss (Opd.t 22) (Opd.t 21)) none] [])
      (IC.seq (IC.cond (Opd.t 23) IC.nop (IC.exit 0))
      (IC.seq
      (IC.seq
      (IC.block 1
      (IC.seq
      (IC.ops false
      [IOper.mk (some 24) (IOp.mv (Opd.t 22)) none,
      IOper.mk (some 10) (IOp.mv (Opd.t 24)) none]
      [24])
      (IC.seq
      (IC.ops false
      [IOper.mk (some 25) (IOp.mv (Opd.t 2)) none,
      IOper.mk (some 26) (IOp.mv (Opd.t 10)) none,
      IOper.mk (some 27) (IOp.mv (Opd.t 1)) none,
      IOper.mk (some 28)
      (IOp.call (Opd.c (AV.func (Fn.func 21) [] [])) [Opd.t 25, Opd.t 26, Opd.t 27])
      none,
      IOper.mk (some 11) (IOp.mv (Opd.t 28)) none]
      [25, 26, 27, 28])
      (IC.seq
      (IC.ops false
      [IOper.mk (some 29) (IOp.mv (Opd.t 11)) none,
      IOper.mk (some 30)
      (IOp.bin BinOp.gtr (Opd.t 29) (Opd.c (AV.int IntKind.i64 0)))
      none]
      [29])
      (IC.cond (Opd.t 30)
      (IC.ops false
      [IOper.mk (some 31) (IOp.load none (Opd.t 9)) none,
      IOper.mk (some 32) (IOp.mv (Opd.t 10)) none,
      IOper.mk (some 33) (IOp.mv (Opd.t 11)) none,
      IOper.mk (some 34)
      (IOp.build
      [AV.int IntKind.i64 0, AV.int IntKind.i64 0]
      [(0, 1, Opd.t 32), (1, 1, Opd.t 33)])
      none,
      IOper.mk (some 35)
      (IOp.bsl false 2 1
      [AV.int IntKind.i64 0, AV.int IntKind.i64 0]
      [(0, 2, Opd.t 34)])
      none,
      IOper.mk (some 36) (IOp.append 2 16 (Opd.t 31) (Opd.t 35)) none,
      IOper.mk none (IOp.store 1 (Opd.t 9) (Opd.t 36)) none]
      [31, 32, 33, 34, 35, 36])
      IC.nop)))))
      (IC.ops false [] [24, 10, 25, 26, 27, 28, 11, 29, 30, 31, 32, 33, 34, 35, 36]))
      (IC.ops false
      [IOper.mk (some 37)
      (IOp.bin BinOp.add (Opd.t 22) (Opd.c (AV.int IntKind.i64 1))) none,
      IOper.mk (some 22) (IOp.mv (Opd.t 37)) none]
      [37]))))
      (IC.ops false [] [23, 24, 10, 25, 26, 27, 28, 11, 29, 30, 31, 32, 33, 34, 35, 36, 37]))))
      (IC.ops false [] [23, 24, 10, 25, 26, 27, 28, 11, 29, 30, 31, 32, 33, 34, 35, 36, 37])))
      (IC.seq
      (IC.seq
      (IC.ops false
      [IOper.mk (some 38) (IOp.load none (Opd.t 9)) none, IOper.mk (some 39) (IOp.len (Opd.t 38)) none,
      IOper.mk (some 40) (IOp.bin BinOp.eql (Opd.t 39) (Opd.c (AV.int IntKind.i64 0))) none]
      [38, 39])
      (IC.cond (Opd.t 40)
      (IC.seq
      (IC.ops false
      [IOper.mk (some 41) (IOp.mv (Opd.t 7)) none, IOper.mk (some 42) (IOp.mv (Opd.t 2)) none,
      IOper.mk (some 43) (IOp.mkfn (Fn.func 23) [] [Opd.t 9]) none,
      IOper.mk (some 44)
      (IOp.call (Opd.c (AV.func (Fn.func 22) [] [])) [Opd.t 41, Opd.t 42, Opd.t 43]) none]
      [41, 42, 43, 44])
      (IC.ops false
      [IOper.mk (some 45) (IOp.load none (Opd.t 9)) none,
      IOper.mk (some 46)
      (IOp.call (Opd.c (AV.func (Fn.func 24) [] [])) [Opd.t 45, Opd.c (AV.func (Fn.func 25) [] [])])
      none]
      [45, 46]))
      IC.nop))
      (IC.seq
      (IC.ops false
      [IOper.mk (some 47) (IOp.load none (Opd.t 9)) none, IOper.mk (some 6) (IOp.mv (Opd.t 47)) none] [47])
      IC.ret)))))))
theorem fn_witness_Faults : F 8 = some ir_witness_Faults := by kernel_rfl

def ir_witness_Order : IFun :=
  IFun.mk false 1 [IRes.tmp 2]
  (IC.seq
    (IC.ops false
      [IOper.mk (some 1) (IOp.box 1 (Opd.t 0)) none,
      IOper.mk (some 2) (IOp.mv (Opd.c (AV.imm true 0 0 (some 0) []))) none]
      [])
    (IC.seq (IC.ops false [IOper.mk (some 3) (IOp.mv (Opd.c (AV.imm true 0 0 (some 0) []))) none] [])
      (IC.seq
      (IC.seq
      (IC.ops false
      [IOper.mk (some 6) (IOp.load none (Opd.t 1)) none, IOper.mk (some 7) (IOp.len (Opd.t 6)) none,
      IOper.mk (some 8) (IOp.mv (Opd.c (AV.int IntKind.i64 0))) none]
      [])
      (IC.seq
      (IC.block 0
      (IC.loop
      (IC.seq
      (IC.seq (IC.ops false [IOper.mk (some 9) (IOp.bin BinOp.lss (Opd.t 8) (Opd.t 7)) none] [])
      (IC.seq (IC.cond (Opd.t 9) IC.nop (IC.exit 0))
      (IC.seq
      (IC.seq
      (IC.block 1
      (IC.seq
      (IC.ops false
      [IOper.mk (some 10) (IOp.mv (Opd.t 8)) none,
      IOper.mk (some 11) (IOp.ixa 16 (Opd.t 6) (Opd.t 8)) none,
      IOper.mk (some 12) (IOp.load (some 16) (Opd.t 11)) none,
      IOper.mk (some 5)
      (IOp.alloc
      [AV.int IntKind.i64 0, AV.int IntKind.i64 0,
      AV.int IntKind.u8 0, AV.str [], AV.str [],
      AV.int IntKind.i64 0, AV.imm true 0 0 (some 0) [],
      AV.int IntKind.i64 0, AV.int IntKind.i64 0,
      AV.int IntKind.i64 0, AV.int IntKind.i64 0,
      AV.bool false, AV.str [], AV.imm true 0 0 (some 0) [],
      AV.int IntKind.i64 0, AV.bool false])
      none,
      IOper.mk (some 4) (IOp.mv (Opd.t 10)) none,
      IOper.mk none (IOp.store 16 (Opd.t 5) (Opd.t 12)) none]
      [10, 11, 12])
      (IC.seq
      (IC.ops false
      [IOper.mk (some 13) (IOp.faddr 8 (Opd.t 5)) none,
      IOper.mk (some 14) (IOp.load none (Opd.t 13)) none,
      IOper.mk (some 15)
      (IOp.bin BinOp.gtr (Opd.t 14) (Opd.c (AV.int IntKind.i64 0))) none]
      [13, 14])
      (IC.cond (Opd.t 15)
      (IC.ops false
      [IOper.mk (some 16) (IOp.mv (Opd.t 3)) none,
      IOper.mk (some 17) (IOp.mv (Opd.t 4)) none,
      IOper.mk (some 18)
      (IOp.bsl false 1 1 [AV.int IntKind.i64 0] [(0, 1, Opd.t 17)]) none,
      IOper.mk (some 19) (IOp.append 1 8 (Opd.t 16) (Opd.t 18)) none,
      IOper.mk (some 3) (IOp.mv (Opd.t 19)) none]
      [16, 17, 18, 19])
      IC.nop))))
      (IC.ops false [] [10, 11, 12, 5, 4, 13, 14, 15, 16, 17, 18, 19]))
      (IC.ops false
      [IOper.mk (some 20) (IOp.bin BinOp.add (Opd.t 8) (Opd.c (AV.int IntKind.i64 1)))
      none,
      IOper.mk (some 8) (IOp.mv (Opd.t 20)) none]
      [20]))))
      (IC.ops false [] [9, 10, 11, 12, 5, 4, 13, 14, 15, 16, 17, 18, 19, 20]))))
      (IC.ops false [] [9, 10, 11, 12, 5, 4, 13, 14, 15, 16, 17, 18, 19, 20])))
      (IC.seq
      (IC.ops false
      [IOper.mk (some 21) (IOp.mv (Opd.t 3)) none, IOper.mk (some 22) (IOp.mkfn (Fn.func 31) [] [Opd.t 1]) none,
      IOper.mk (some 23) (IOp.call (Opd.c (AV.func (Fn.func 30) [] [])) [Opd.t 21, Opd.t 22]) none]
      [21, 22, 23])
      (IC.seq
      (IC.ops false [IOper.mk (some 24) (IOp.mv (Opd.t 3)) none, IOper.mk (some 2) (IOp.mv (Opd.t 24)) none] [24])
      IC.ret)))))
theorem fn_witness_Order : F 11 = some ir_witness_Order := by kernel_rfl

def ir_model_New : IFun :=
  IFun.mk true 2 [IRes.tmp 4, IRes.tmp 5]
  (IC.seq
    (IC.ops false
      [IOper.mk (some 2) (IOp.box 9 (Opd.t 0)) none, IOper.mk (some 4) (IOp.mv (Opd.c AV.nilptr)) none,
      IOper.mk (some 5) (IOp.mv (Opd.c (AV.int IntKind.i64 0))) none]
      [])
    (IC.seq
      (IC.seq
      (IC.ops false
      [IOper.mk (some 6) (IOp.load (some 9) (Opd.t 2)) none,
      IOper.mk (some 7) (IOp.call (Opd.c (AV.func (Fn.func 37) [] [])) [Opd.t 6]) none,
      IOper.mk (some 8) (IOp.bin BinOp.neq (Opd.t 7) (Opd.c (AV.int IntKind.i64 0))) none,
      IOper.mk (some 9) (IOp.mv (Opd.t 8)) none, IOper.mk (some 10) (IOp.mv (Opd.t 1)) (some (9, false)),
      IOper.mk (some 11) (IOp.bin BinOp.lss (Opd.t 10) (Opd.c (AV.int IntKind.i64 1)))
      (some (9, false)),
      IOper.mk (some 12) (IOp.pick (Opd.t 9) (Opd.c (AV.bool true)) (Opd.t 11)) none,
      IOper.mk (some 13) (IOp.mv (Opd.t 12)) none, IOper.mk (some 14) (IOp.mv (Opd.t 1)) (some (13, false)),
      IOper.mk (some 15) (IOp.bin BinOp.gtr (Opd.t 14) (Opd.c (AV.int IntKind.i64 64)))
      (some (13, false)),
      IOper.mk (some 16) (IOp.pick (Opd.t 13) (Opd.c (AV.bool true)) (Opd.t 15)) none]
      [6, 7, 8, 9, 10, 11, 12, 13, 14, 15])
      (IC.cond (Opd.t 16)
      (IC.seq
      (IC.ops false
      [IOper.mk (some 4) (IOp.mv (Opd.c AV.nilptr)) none,
      IOper.mk (some 5) (IOp.mv (Opd.c (AV.int IntKind.i64 2))) none]
      [])
      IC.ret)
      IC.nop))
      (IC.seq
      (IC.seq (IC.ops false [IOper.mk none (IOp.slots 1) none] [])
      (IC.multi
      [[IOper.mk (some 18) (IOp.mv (Opd.t 1)) none, IOper.mk (some 17) (IOp.load (some 9) (Opd.t 2)) none,
      IOper.mk (some 19) (IOp.call (Opd.c (AV.func (Fn.func 38) [] [])) []) none,
      IOper.mk (some 20) (IOp.mapA 1) none,
      IOper.mk (some 21)
      (IOp.build
      [AV.int IntKind.i64 0, AV.int IntKind.i64 0,
      AV.int IntKind.i64 0, AV.int IntKind.i64 0,
      AV.int IntKind.i64 0, AV.int IntKind.i64 0,
      AV.int IntKind.i64 0, AV.int IntKind.i64 0,
      AV.int IntKind.i64 0, AV.int IntKind.i64 0, AV.nilptr, AV.nilmap,
      AV.int IntKind.i64 0]
      [(0, 9, Opd.t 17), (9, 1, Opd.t 18), (10, 1, Opd.t 19), (11, 1, Opd.t 20)])
      none,
      IOper.mk (some 22) (IOp.box 13 (Opd.t 21)) none, IOper.mk (some 4) (IOp.mv (Opd.t 22)) none,
      IOper.mk (some 5) (IOp.mv (Opd.c (AV.int IntKind.i64 0))) none],
      [IOper.mk (some 18) (IOp.mv (Opd.t 1)) none, IOper.mk (some 17) (IOp.load (some 9) (Opd.t 2)) none,
      IOper.mk (some 20) (IOp.mapA 1) none,
      IOper.mk (some 19) (IOp.call (Opd.c (AV.func (Fn.func 38) [] [])) []) none,
      IOper.mk (some 21)
      (IOp.build
      [AV.int IntKind.i64 0, AV.int IntKind.i64 0,
      AV.int IntKind.i64 0, AV.int IntKind.i64 0,
      AV.int IntKind.i64 0, AV.int IntKind.i64 0,
      AV.int IntKind.i64 0, AV.int IntKind.i64 0,
      AV.int IntKind.i64 0, AV.int IntKind.i64 0, AV.nilptr, AV.nilmap,
      AV.int IntKind.i64 0]
      [(0, 9, Opd.t 17), (9, 1, Opd.t 18), (10, 1, Opd.t 19), (11, 1, Opd.t 20)])
      none,
      IOper.mk (some 22) (IOp.box 13 (Opd.t 21)) none, IOper.mk (some 4) (IOp.mv (Opd.t 22)) none,
      IOper.mk (some 5) (IOp.mv (Opd.c (AV.int IntKind.i64 0))) none],
      [IOper.mk (some 18) (IOp.mv (Opd.t 1)) none,
      IOper.mk (some 19) (IOp.call (Opd.c (AV.func (Fn.func 38) [] [])) []) none,
      IOper.mk (some 17) (IOp.load (some 9) (Opd.t 2)) none, IOper.mk (some 20) (IOp.mapA 1) none,
      IOper.mk (some 21)
      (IOp.build
      [AV.int IntKind.i64 0, AV.int IntKind.i64 0,
      AV.int IntKind.i64 0, AV.int IntKind.i64 0,
      AV.int IntKind.i64 0, AV.int IntKind.i64 0,
      AV.int IntKind.i64 0, AV.int IntKind.i64 0,
      AV.int IntKind.i64 0, AV.int IntKind.i64 0, AV.nilptr, AV.nilmap,
      AV.int IntKind.i64 0]
      [(0, 9, Opd.t 17), (9, 1, Opd.t 18), (10, 1, Opd.t 19), (11, 1, Opd.t 20)])
      none,
      IOper.mk (some 22) (IOp.box 13 (Opd.t 21)) none, IOper.mk (some 4) (IOp.mv (Opd.t 22)) none,
      IOper.mk (some 5) (IOp.mv (Opd.c (AV.int IntKind.i64 0))) none],
      [IOper.mk (some 18) (IOp.mv (Opd.t 1)) none,
      IOper.mk (some 19) (IOp.call (Opd.c (AV.func (Fn.func 38) [] [])) []) none,
      IOper.mk (some 20) (IOp.mapA 1) none, IOper.mk (some 17) (IOp.load (some 9) (Opd.t 2)) none,
      IOper.mk (some 21)
      (IOp.build
      [AV.int IntKind.i64 0, AV.int IntKind.i64 0,
      AV.int IntKind.i64 0, AV.int IntKind.i64 0,
      AV.int IntKind.i64 0, AV.int IntKind.i64 0,
      AV.int IntKind.i64 0, AV.int IntKind.i64 0,
      AV.int IntKind.i64 0, AV.int IntKind.i64 0, AV.nilptr, AV.nilmap,
      AV.int IntKind.i64 0]
      [(0, 9, Opd.t 17), (9, 1, Opd.t 18), (10, 1, Opd.t 19), (11, 1, Opd.t 20)])
      none,
      IOper.mk (some 22) (IOp.box 13 (Opd.t 21)) none, IOper.mk (some 4) (IOp.mv (Opd.t 22)) none,
      IOper.mk (some 5) (IOp.mv (Opd.c (AV.int IntKind.i64 0))) none],
      [IOper.mk (some 18) (IOp.mv (Opd.t 1)) none, IOper.mk (some 20) (IOp.mapA 1) none,
      IOper.mk (some 17) (IOp.load (some 9) (Opd.t 2)) none,
      IOper.mk (some 19) (IOp.call (Opd.c (AV.func (Fn.func 38) [] [])) []) none,
      IOper.mk (some 21)
      (IOp.build
      [AV.int IntKind.i64 0, AV.int IntKind.i64 0,
      AV.int IntKind.i64 0, AV.int IntKind.i64 0,
      AV.int IntKind.i64 0, AV.int IntKind.i64 0,
      AV.int IntKind.i64 0, AV.int IntKind.i64 0,
      AV.int IntKind.i64 0, AV.int IntKind.i64 0, AV.nilptr, AV.nilmap,
      AV.int IntKind.i64 0]
      [(0, 9, Opd.t 17), (9, 1, Opd.t 18), (10, 1, Opd.t 19), (11, 1, Opd.t 20)])
      none,
      IOper.mk (some 22) (IOp.box 13 (Opd.t 21)) none, IOper.mk (some 4) (IOp.mv (Opd.t 22)) none,
      IOper.mk (some 5) (IOp.mv (Opd.c (AV.int IntKind.i64 0))) none],
      [IOper.mk (some 18) (IOp.mv (Opd.t 1)) none, IOper.mk (some 20) (IOp.mapA 1) none,
      IOper.mk (some 19) (IOp.call (Opd.c (AV.func (Fn.func 38) [] [])) []) none,
      IOper.mk (some 17) (IOp.load (some 9) (Opd.t 2)) none,
      IOper.mk (some 21)
      (IOp.build
      [AV.int IntKind.i64 0, AV.int IntKind.i64 0,
      AV.int IntKind.i64 0, AV.int IntKind.i64 0,
      AV.int IntKind.i64 0, AV.int IntKind.i64 0,
      AV.int IntKind.i64 0, AV.int IntKind.i64 0,
      AV.int IntKind.i64 0, AV.int IntKind.i64 0, AV.nilptr, AV.nilmap,
      AV.int IntKind.i64 0]
      [(0, 9, Opd.t 17), (9, 1, Opd.t 18), (10, 1, Opd.t 19), (11, 1, Opd.t 20)])
      none,
      IOper.mk (some 22) (IOp.box 13 (Opd.t 21)) none, IOper.mk (some 4) (IOp.mv (Opd.t 22)) none,
      IOper.mk (some 5) (IOp.mv (Opd.c (AV.int IntKind.i64 0))) none]]
      [17, 18, 19, 20, 21, 22]))
      IC.ret)))
theorem fn_model_New : F 20 = some ir_model_New := by kernel_rfl

def ir_slices_SortFunc_api_Fault_api_Fault : IFun :=
  IFun.mk false 2 []
  (IC.seq
    (IC.ops false
      [IOper.mk (some 5) (IOp.mv (Opd.t 0)) none, IOper.mk (some 6) (IOp.len (Opd.t 5)) none,
      IOper.mk (some 4) (IOp.mv (Opd.t 6)) none]
      [5, 6])
    (IC.ops false
      [IOper.mk (some 7) (IOp.mv (Opd.t 0)) none, IOper.mk (some 8) (IOp.mv (Opd.t 4)) none,
      IOper.mk (some 9) (IOp.mv (Opd.t 4)) none, IOper.mk (some 10) (IOp.conv IntKind.u64 (Opd.t 9)) none,
      IOper.mk (some 11) (IOp.call (Opd.c (AV.func (Fn.func 47) [] [])) [Opd.t 10]) none,
      IOper.mk (some 12) (IOp.mv (Opd.t 1)) none,
      IOper.mk (some 13)
      (IOp.call (Opd.c (AV.func (Fn.func 46) [] []))
      [Opd.t 7, Opd.c (AV.int IntKind.i64 0), Opd.t 8, Opd.t 11, Opd.t 12])
      none]
      [7, 8, 9, 10, 11, 12, 13]))
theorem fn_slices_SortFunc_api_Fault_api_Fault : F 24 = some ir_slices_SortFunc_api_Fault_api_Fault := by kernel_rfl

def ir_slices_SortStableFunc_int_int : IFun :=
  IFun.mk false 2 []
  (IC.ops false
    [IOper.mk (some 4) (IOp.mv (Opd.t 0)) none, IOper.mk (some 5) (IOp.mv (Opd.t 0)) none,
      IOper.mk (some 6) (IOp.len (Opd.t 5)) none, IOper.mk (some 7) (IOp.mv (Opd.t 1)) none,
      IOper.mk (some 8) (IOp.call (Opd.c (AV.func (Fn.func 57) [] [])) [Opd.t 4, Opd.t 6, Opd.t 7]) none]
    [4, 5, 6, 7, 8])
theorem fn_slices_SortStableFunc_int_int : F 30 = some ir_slices_SortStableFunc_int_int := by kernel_rfl

def ir_witness_Faults_1 : IFun :=
  IFun.mk false 2 []
  (IC.ops false
    [IOper.mk (some 3) (IOp.load none (Opd.t 1)) none, IOper.mk (some 4) (IOp.mv (Opd.t 0)) none,
      IOper.mk (some 5)
      (IOp.build [AV.int IntKind.i64 0, AV.int IntKind.i64 0]
      [(0, 1, Opd.t 4), (1, 1, Opd.c (AV.int IntKind.i64 4))])
      none,
      IOper.mk (some 6)
      (IOp.bsl false 2 1 [AV.int IntKind.i64 0, AV.int IntKind.i64 0] [(0, 2, Opd.t 5)]) none,
      IOper.mk (some 7) (IOp.append 2 16 (Opd.t 3) (Opd.t 6)) none,
      IOper.mk none (IOp.store 1 (Opd.t 1) (Opd.t 7)) none]
    [3, 4, 5, 6, 7])
theorem fn_witness_Faults_1 : F 23 = some ir_witness_Faults_1 := by kernel_rfl

def ir_witness_Faults_2 : IFun :=
  IFun.mk false 2 [IRes.tmp 4]
  (IC.seq
    (IC.ops false
      [IOper.mk (some 2) (IOp.box 2 (Opd.t 0)) none, IOper.mk (some 3) (IOp.box 2 (Opd.t 1)) none,
      IOper.mk (some 4) (IOp.mv (Opd.c (AV.int IntKind.i64 0))) none]
      [])
    (IC.seq
      (IC.ops false
      [IOper.mk (some 5) (IOp.faddr 0 (Opd.t 2)) none, IOper.mk (some 6) (IOp.load none (Opd.t 5)) none,
      IOper.mk (some 7) (IOp.faddr 0 (Opd.t 3)) none, IOper.mk (some 8) (IOp.load none (Opd.t 7)) none,
      IOper.mk (some 9) (IOp.bin BinOp.sub (Opd.t 6) (Opd.t 8)) none, IOper.mk (some 4) (IOp.mv (Opd.t 9)) none]
      [5, 6, 7, 8, 9])
      IC.ret))
theorem fn_witness_Faults_2 : F 25 = some ir_witness_Faults_2 := by kernel_rfl

def ir_witness_Order_1 : IFun :=
  IFun.mk false 3 [IRes.tmp 5]
  (IC.seq (IC.ops false [IOper.mk (some 5) (IOp.mv (Opd.c (AV.int IntKind.i64 0))) none] [])
    (IC.seq
      (IC.ops true
      [IOper.mk (some 6) (IOp.load none (Opd.t 2)) none, IOper.mk (some 7) (IOp.mv (Opd.t 0)) none,
      IOper.mk (some 8) (IOp.ixa 16 (Opd.t 6) (Opd.t 7)) none, IOper.mk (some 9) (IOp.faddr 8 (Opd.t 8)) none,
      IOper.mk (some 10) (IOp.load none (Opd.t 9)) none, IOper.mk (some 11) (IOp.load none (Opd.t 2)) none,
      IOper.mk (some 12) (IOp.mv (Opd.t 1)) none, IOper.mk (some 13) (IOp.ixa 16 (Opd.t 11) (Opd.t 12)) none,
      IOper.mk (some 14) (IOp.faddr 8 (Opd.t 13)) none, IOper.mk (some 15) (IOp.load none (Opd.t 14)) none,
      IOper.mk (some 16) (IOp.callp 32 [Opd.t 10, Opd.t 15]) none, IOper.mk (some 5) (IOp.mv (Opd.t 16)) none]
      [6, 7, 8, 9, 10, 11, 12, 13, 14, 15, 16])
      IC.ret))
theorem fn_witness_Order_1 : F 31 = some ir_witness_Order_1 := by kernel_rfl

def ir_witness_own : IFun :=
  IFun.mk false 3 [IRes.tmp 6]
  (IC.seq (IC.ops false [IOper.mk (some 6) (IOp.mv (Opd.c (AV.int IntKind.i64 0))) none] [])
    (IC.seq
      (IC.ops false
      [IOper.mk (some 8) (IOp.mv (Opd.t 0)) none, IOper.mk (some 9) (IOp.mv (Opd.t 1)) none,
      IOper.mk (some 10) (IOp.ixa 16 (Opd.t 8) (Opd.t 9)) none,
      IOper.mk (some 11) (IOp.load (some 16) (Opd.t 10)) none,
      IOper.mk (some 7)
      (IOp.alloc
      [AV.int IntKind.i64 0, AV.int IntKind.i64 0, AV.int IntKind.u8 0,
      AV.str [], AV.str [], AV.int IntKind.i64 0, AV.imm true 0 0 (some 0) [],
      AV.int IntKind.i64 0, AV.int IntKind.i64 0, AV.int IntKind.i64 0,
      AV.int IntKind.i64 0, AV.bool false, AV.str [], AV.imm true 0 0 (some 0) [],
      AV.int IntKind.i64 0, AV.bool false])
      none,
      IOper.mk none (IOp.store 16 (Opd.t 7) (Opd.t 11)) none]
      [8, 9, 10, 11])
      (IC.seq
      (IC.seq
      (IC.ops false
      [IOper.mk (some 12) (IOp.load (some 16) (Opd.t 7)) none, IOper.mk (some 13) (IOp.mv (Opd.t 2)) none,
      IOper.mk (some 14) (IOp.call (Opd.c (AV.func (Fn.func 39) [] [])) [Opd.t 12, Opd.t 13]) none,
      IOper.mk (some 15) (IOp.not (Opd.t 14)) none]
      [12, 13, 14])
      (IC.cond (Opd.t 15)
      (IC.seq (IC.ops false [IOper.mk (some 6) (IOp.mv (Opd.c (AV.int IntKind.i64 1))) none] [])
      IC.ret)
      IC.nop))
      (IC.seq
      (IC.seq
      (IC.ops false
      [IOper.mk (some 16) (IOp.mv (Opd.t 0)) none, IOper.mk (some 17) (IOp.mv (Opd.t 1)) none,
      IOper.mk (some 18) (IOp.sub 16 (Opd.t 16) none (some (Opd.t 17)) none) none,
      IOper.mk (some 19) (IOp.mkfn (Fn.func 41) [] [Opd.t 7]) none,
      IOper.mk (some 20) (IOp.call (Opd.c (AV.func (Fn.func 40) [] [])) [Opd.t 18, Opd.t 19]) none]
      [16, 17, 18, 19])
      (IC.cond (Opd.t 20)
      (IC.seq (IC.ops false [IOper.mk (some 6) (IOp.mv (Opd.c (AV.int IntKind.i64 2))) none] [])
      IC.ret)
      IC.nop))
      (IC.seq
      (IC.seq
      (IC.ops true
      [IOper.mk (some 21) (IOp.faddr 9 (Opd.t 7)) none, IOper.mk (some 22) (IOp.load none (Opd.t 21)) none,
      IOper.mk (some 23) (IOp.bin BinOp.neq (Opd.t 22) (Opd.c (AV.int IntKind.i64 0))) none,
      IOper.mk (some 24) (IOp.mv (Opd.t 23)) none,
      IOper.mk (some 25) (IOp.faddr 10 (Opd.t 7)) (some (24, true)),
      IOper.mk (some 26) (IOp.load (some 6) (Opd.t 25)) (some (24, true)),
      IOper.mk (some 27) (IOp.callp 43 [Opd.t 26]) (some (24, true)),
      IOper.mk (some 28) (IOp.faddr 8 (Opd.t 7)) (some (24, true)),
      IOper.mk (some 29) (IOp.load none (Opd.t 28)) (some (24, true)),
      IOper.mk (some 30) (IOp.bin BinOp.neq (Opd.t 29) (Opd.c (AV.int IntKind.i64 0)))
      (some (24, true)),
      IOper.mk (some 31) (IOp.eqb false (Opd.t 27) (Opd.t 30)) (some (24, true)),
      IOper.mk (some 32) (IOp.pick (Opd.t 24) (Opd.t 31) (Opd.c (AV.bool false))) none]
      [21, 22, 23, 24, 25, 26, 27, 28, 29, 30, 31])
      (IC.cond (Opd.t 32)
      (IC.seq (IC.ops false [IOper.mk (some 6) (IOp.mv (Opd.c (AV.int IntKind.i64 3))) none] [])
      IC.ret)
      IC.nop))
      (IC.seq (IC.ops false [IOper.mk (some 6) (IOp.mv (Opd.c (AV.int IntKind.i64 0))) none] [])
      IC.ret))))))
theorem fn_witness_own : F 21 = some ir_witness_own := by kernel_rfl

def ir_witness_replay : IFun :=
  IFun.mk false 3 []
  (IC.seq
    (IC.ops false
      [IOper.mk (some 10) (IOp.mv (Opd.t 1)) none,
      IOper.mk (some 11) (IOp.call (Opd.c (AV.func (Fn.func 11) [] [])) [Opd.t 10]) none,
      IOper.mk (some 12) (IOp.len (Opd.t 11)) none,
      IOper.mk (some 13) (IOp.mv (Opd.c (AV.int IntKind.i64 0))) none]
      [10])
    (IC.seq
      (IC.block 0
      (IC.loop
      (IC.seq
      (IC.seq (IC.ops false [IOper.mk (some 14) (IOp.bin BinOp.lss (Opd.t 13) (Opd.t 12)) none] [])
      (IC.seq (IC.cond (Opd.t 14) IC.nop (IC.exit 0))
      (IC.seq
      (IC.seq
      (IC.block 1
      (IC.seq
      (IC.ops false
      [IOper.mk (some 15) (IOp.ixa 1 (Opd.t 11) (Opd.t 13)) none,
      IOper.mk (some 16) (IOp.load none (Opd.t 15)) none,
      IOper.mk (some 7) (IOp.mv (Opd.t 16)) none]
      [15, 16])
      (IC.seq
      (IC.ops false
      [IOper.mk (some 17) (IOp.mv (Opd.t 1)) none, IOper.mk (some 18) (IOp.mv (Opd.t 7)) none,
      IOper.mk (some 19) (IOp.ixa 16 (Opd.t 17) (Opd.t 18)) none,
      IOper.mk (some 20) (IOp.load (some 16) (Opd.t 19)) none,
      IOper.mk (some 8)
      (IOp.alloc
      [AV.int IntKind.i64 0, AV.int IntKind.i64 0,
      AV.int IntKind.u8 0, AV.str [], AV.str [],
      AV.int IntKind.i64 0, AV.imm true 0 0 (some 0) [],
      AV.int IntKind.i64 0, AV.int IntKind.i64 0,
      AV.int IntKind.i64 0, AV.int IntKind.i64 0, AV.bool false,
      AV.str [], AV.imm true 0 0 (some 0) [], AV.int IntKind.i64 0,
      AV.bool false])
      none,
      IOper.mk none (IOp.store 16 (Opd.t 8) (Opd.t 20)) none]
      [17, 18, 19, 20])
      (IC.seq
      (IC.seq
      (IC.ops false
      [IOper.mk (some 21) (IOp.faddr 9 (Opd.t 8)) none,
      IOper.mk (some 22) (IOp.load none (Opd.t 21)) none,
      IOper.mk (some 23)
      (IOp.bin BinOp.eql (Opd.t 22) (Opd.c (AV.int IntKind.i64 0))) none,
      IOper.mk (some 24) (IOp.mv (Opd.t 23)) none,
      IOper.mk (some 25) (IOp.faddr 2 (Opd.t 8)) (some (24, true)),
      IOper.mk (some 26) (IOp.faddr 0 (Opd.t 25)) (some (24, true)),
      IOper.mk (some 27) (IOp.load none (Opd.t 26)) (some (24, true)),
      IOper.mk (some 28)
      (IOp.bin BinOp.neq (Opd.t 27) (Opd.c (AV.int IntKind.u8 2)))
      (some (24, true)),
      IOper.mk (some 29) (IOp.pick (Opd.t 24) (Opd.t 28) (Opd.c (AV.bool false))) none]
      [21, 22, 23, 24, 25, 26, 27, 28])
      (IC.cond (Opd.t 29) (IC.exit 1) IC.nop))
      (IC.seq
      (IC.ops false
      [IOper.mk (some 30) (IOp.mv (Opd.t 0)) none,
      IOper.mk (some 31) (IOp.faddr 0 (Opd.t 8)) none,
      IOper.mk (some 32) (IOp.load none (Opd.t 31)) none,
      IOper.mk (some 33) (IOp.faddr 2 (Opd.t 8)) none,
      IOper.mk (some 34) (IOp.load (some 5) (Opd.t 33)) none,
      IOper.mk (some 35)
      (IOp.call (Opd.c (AV.func (Fn.func 44) [] [])) [Opd.t 30, Opd.t 32, Opd.t 34]) none,
      IOper.mk (some 9)
      (IOp.alloc
      [AV.int IntKind.i64 0, AV.bool false, AV.str [],
      AV.imm true 0 0 (some 0) [], AV.int IntKind.i64 0, AV.bool false])
      none,
      IOper.mk none (IOp.store 6 (Opd.t 9) (Opd.t 35)) none]
      [30, 31, 32, 33, 34, 35])
      (IC.seq
      (IC.ops false
      [IOper.mk (some 36) (IOp.faddr 9 (Opd.t 8)) none,
      IOper.mk (some 37) (IOp.load none (Opd.t 36)) none,
      IOper.mk (some 38)
      (IOp.bin BinOp.neq (Opd.t 37) (Opd.c (AV.int IntKind.i64 0))) none,
      IOper.mk (some 39) (IOp.mv (Opd.t 38)) none,
      IOper.mk (some 40) (IOp.load (some 6) (Opd.t 9)) (some (39, true)),
      IOper.mk (some 41) (IOp.faddr 10 (Opd.t 8)) (some (39, true)),
      IOper.mk (some 42) (IOp.load (some 6) (Opd.t 41)) (some (39, true)),
      IOper.mk (some 43)
      (IOp.call (Opd.c (AV.func (Fn.func 45) [] [])) [Opd.t 40, Opd.t 42])
      (some (39, true)),
      IOper.mk (some 44) (IOp.not (Opd.t 43)) (some (39, true)),
      IOper.mk (some 45) (IOp.pick (Opd.t 39) (Opd.t 44) (Opd.c (AV.bool false))) none]
      [36, 37, 38, 39, 40, 41, 42, 43, 44])
      (IC.cond (Opd.t 45)
      (IC.ops false
      [IOper.mk (some 46) (IOp.mv (Opd.t 2)) none,
      IOper.mk (some 47) (IOp.mv (Opd.t 7)) none,
      IOper.mk (some 48) (IOp.call (Opd.t 46) [Opd.t 47]) none]
      [46, 47, 48])
      IC.nop)))))))
      (IC.ops false []
      [15, 16, 7, 17, 18, 19, 20, 8, 21, 22, 23, 24, 25, 26, 27, 28, 29, 30, 31, 32, 33, 34, 35, 9, 36,
      37, 38, 39, 40, 41, 42, 43, 44, 45, 46, 47, 48]))
      (IC.ops false
      [IOper.mk (some 49) (IOp.bin BinOp.add (Opd.t 13) (Opd.c (AV.int IntKind.i64 1))) none,
      IOper.mk (some 13) (IOp.mv (Opd.t 49)) none]
      [49]))))
      (IC.ops false []
      [14, 15, 16, 7, 17, 18, 19, 20, 8, 21, 22, 23, 24, 25, 26, 27, 28, 29, 30, 31, 32, 33, 34, 35, 9, 36, 37,
      38, 39, 40, 41, 42, 43, 44, 45, 46, 47, 48, 49]))))
      (IC.ops false []
      [14, 15, 16, 7, 17, 18, 19, 20, 8, 21, 22, 23, 24, 25, 26, 27, 28, 29, 30, 31, 32, 33, 34, 35, 9, 36, 37, 38,
      39, 40, 41, 42, 43, 44, 45, 46, 47, 48, 49])))
theorem fn_witness_replay : F 22 = some ir_witness_replay := by kernel_rfl

def ir_cmp_Compare_int : IFun :=
  IFun.mk false 2 [IRes.tmp 4]
  (IC.seq (IC.ops false [IOper.mk (some 4) (IOp.mv (Opd.c (AV.int IntKind.i64 0))) none] [])
    (IC.seq
      (IC.ops false
      [IOper.mk (some 7) (IOp.mv (Opd.t 0)) none,
      IOper.mk (some 8) (IOp.call (Opd.c (AV.func (Fn.func 58) [] [])) [Opd.t 7]) none,
      IOper.mk (some 5) (IOp.mv (Opd.t 8)) none]
      [7, 8])
      (IC.seq
      (IC.ops false
      [IOper.mk (some 9) (IOp.mv (Opd.t 1)) none,
      IOper.mk (some 10) (IOp.call (Opd.c (AV.func (Fn.func 58) [] [])) [Opd.t 9]) none,
      IOper.mk (some 6) (IOp.mv (Opd.t 10)) none]
      [9, 10])
      (IC.seq
      (IC.seq (IC.ops false [IOper.mk (some 11) (IOp.mv (Opd.t 5)) none] [])
      (IC.cond (Opd.t 11)
      (IC.seq
      (IC.seq (IC.ops false [IOper.mk (some 12) (IOp.mv (Opd.t 6)) none] [])
      (IC.cond (Opd.t 12)
      (IC.seq
      (IC.ops false [IOper.mk (some 4) (IOp.mv (Opd.c (AV.int IntKind.i64 0))) none] [])
      IC.ret)
      IC.nop))
      (IC.seq (IC.ops false [IOper.mk (some 4) (IOp.mv (Opd.c (AV.int IntKind.i64 (-1)))) none] [])
      IC.ret))
      IC.nop))
      (IC.seq
      (IC.seq (IC.ops false [IOper.mk (some 13) (IOp.mv (Opd.t 6)) none] [])
      (IC.cond (Opd.t 13)
      (IC.seq (IC.ops false [IOper.mk (some 4) (IOp.mv (Opd.c (AV.int IntKind.i64 1))) none] [])
      IC.ret)
      IC.nop))
      (IC.seq
      (IC.seq
      (IC.ops false
      [IOper.mk (some 14) (IOp.mv (Opd.t 0)) none, IOper.mk (some 15) (IOp.mv (Opd.t 1)) none,
      IOper.mk (some 16) (IOp.bin BinOp.lss (Opd.t 14) (Opd.t 15)) none]
      [14, 15])
      (IC.cond (Opd.t 16)
      (IC.seq
      (IC.ops false [IOper.mk (some 4) (IOp.mv (Opd.c (AV.int IntKind.i64 (-1)))) none] [])
      IC.ret)
      IC.nop))
      (IC.seq
      (IC.seq
      (IC.ops false
      [IOper.mk (some 17) (IOp.mv (Opd.t 0)) none, IOper.mk (some 18) (IOp.mv (Opd.t 1)) none,
      IOper.mk (some 19) (IOp.bin BinOp.gtr (Opd.t 17) (Opd.t 18)) none]
      [17, 18])
      (IC.cond (Opd.t 19)
      (IC.seq
      (IC.ops false [IOper.mk (some 4) (IOp.mv (Opd.c (AV.int IntKind.i64 1))) none] [])
      IC.ret)
      IC.nop))
      (IC.seq (IC.ops false [IOper.mk (some 4) (IOp.mv (Opd.c (AV.int IntKind.i64 0))) none] [])
      IC.ret))))))))
theorem fn_cmp_Compare_int : F 32 = some ir_cmp_Compare_int := by kernel_rfl

def ir_math_bits_Len : IFun :=
  IFun.mk false 1 [IRes.tmp 2]
  (IC.seq (IC.ops false [IOper.mk (some 2) (IOp.mv (Opd.c (AV.int IntKind.i64 0))) none] [])
    (IC.seq
      (IC.cond (Opd.c (AV.bool false))
      (IC.seq
      (IC.ops false
      [IOper.mk (some 3) (IOp.mv (Opd.t 0)) none, IOper.mk (some 4) (IOp.conv IntKind.u32 (Opd.t 3)) none,
      IOper.mk (some 5) (IOp.call (Opd.c (AV.func (Fn.func 79) [] [])) [Opd.t 4]) none,
      IOper.mk (some 2) (IOp.mv (Opd.t 5)) none]
      [3, 4, 5])
      IC.ret)
      IC.nop)
      (IC.seq
      (IC.ops false
      [IOper.mk (some 6) (IOp.mv (Opd.t 0)) none,
      IOper.mk (some 7) (IOp.call (Opd.c (AV.func (Fn.func 80) [] [])) [Opd.t 6]) none,
      IOper.mk (some 2) (IOp.mv (Opd.t 7)) none]
      [6, 7])
      IC.ret)))
theorem fn_math_bits_Len : F 47 = some ir_math_bits_Len := by kernel_rfl

def ir_model_Model_Do : IFun :=
  IFun.mk false 3 [IRes.cell 6 (some 6)]
  (IC.seq
    (IC.ops false
      [IOper.mk (some 5) (IOp.box 5 (Opd.t 2)) none,
      IOper.mk (some 6)
      (IOp.alloc
      [AV.int IntKind.i64 0, AV.bool false, AV.str [], AV.imm true 0 0 (some 0) [],
      AV.int IntKind.i64 0, AV.bool false])
      none]
      [])
    (IC.seq
      (IC.seq
      (IC.block 0
      (IC.seq
      (IC.ops false
      [IOper.mk (some 14) (IOp.mv (Opd.t 0)) none,
      IOper.mk (some 15) (IOp.eqn 0 false (Opd.t 14) (Opd.c AV.nilptr)) none,
      IOper.mk (some 13) (IOp.mv (Opd.t 15)) none]
      [14, 15])
      (IC.cond (Opd.t 13)
      (IC.seq
      (IC.ops false
      [IOper.mk (some 16)
      (IOp.build
      [AV.int IntKind.i64 0, AV.bool false, AV.str [], AV.imm true 0 0 (some 0) [],
      AV.int IntKind.i64 0, AV.bool false]
      [(0, 1, Opd.c (AV.int IntKind.i64 1))])
      none,
      IOper.mk none (IOp.store 6 (Opd.t 6) (Opd.t 16)) none]
      [16])
      IC.ret)
      (IC.seq
      (IC.ops false
      [IOper.mk (some 18) (IOp.mv (Opd.t 1)) none,
      IOper.mk (some 19) (IOp.bin BinOp.lss (Opd.t 18) (Opd.c (AV.int IntKind.i64 1))) none,
      IOper.mk (some 20) (IOp.mv (Opd.t 19)) none,
      IOper.mk (some 21) (IOp.mv (Opd.t 1)) (some (20, false)),
      IOper.mk (some 22) (IOp.mv (Opd.t 0)) (some (20, false)),
      IOper.mk (some 23) (IOp.nilck (Opd.t 22)) (some (20, false)),
      IOper.mk (some 24) (IOp.faddr 9 (Opd.t 23)) (some (20, false)),
      IOper.mk (some 25) (IOp.load none (Opd.t 24)) (some (20, false)),
      IOper.mk (some 26) (IOp.bin BinOp.gtr (Opd.t 21) (Opd.t 25)) (some (20, false)),
      IOper.mk (some 27) (IOp.pick (Opd.t 20) (Opd.c (AV.bool true)) (Opd.t 26)) none,
      IOper.mk (some 17) (IOp.mv (Opd.t 27)) none]
      [18, 19, 20, 21, 22, 23, 24, 25, 26, 27])
      (IC.cond (Opd.t 17)
      (IC.seq
      (IC.ops false
      [IOper.mk (some 28)
      (IOp.build
      [AV.int IntKind.i64 0, AV.bool false, AV.str [], AV.imm true 0 0 (some 0) [],
      AV.int IntKind.i64 0, AV.bool false]
      [(0, 1, Opd.c (AV.int IntKind.i64 2))])
      none,
      IOper.mk none (IOp.store 6 (Opd.t 6) (Opd.t 28)) none]
      [28])
      IC.ret)
      IC.nop)))))
      (IC.ops false [] [14, 15, 13, 16, 18, 19, 20, 21, 22, 23, 24, 25, 26, 27, 17, 28]))
      (IC.seq
      (IC.seq
      (IC.ops true
      [IOper.mk (some 29) (IOp.load (some 5) (Opd.t 5)) none, IOper.mk (some 30) (IOp.mv (Opd.t 0)) none,
      IOper.mk (some 31) (IOp.nilck (Opd.t 30)) none, IOper.mk (some 32) (IOp.faddr 0 (Opd.t 31)) none,
      IOper.mk (some 33) (IOp.load (some 9) (Opd.t 32)) none,
      IOper.mk (some 34) (IOp.call (Opd.c (AV.func (Fn.func 63) [] [])) [Opd.t 29, Opd.t 33]) none,
      IOper.mk (some 7) (IOp.mv (Opd.t 34)) none]
      [29, 30, 31, 32, 33, 34])
      (IC.seq
      (IC.ops false
      [IOper.mk (some 35) (IOp.mv (Opd.t 7)) none,
      IOper.mk (some 36) (IOp.bin BinOp.neq (Opd.t 35) (Opd.c (AV.int IntKind.i64 0))) none]
      [35])
      (IC.cond (Opd.t 36)
      (IC.seq
      (IC.ops false
      [IOper.mk (some 37) (IOp.mv (Opd.t 7)) none,
      IOper.mk (some 38)
      (IOp.build
      [AV.int IntKind.i64 0, AV.bool false, AV.str [], AV.imm true 0 0 (some 0) [],
      AV.int IntKind.i64 0, AV.bool false]
      [(0, 1, Opd.t 37)])
      none,
      IOper.mk none (IOp.store 6 (Opd.t 6) (Opd.t 38)) none]
      [37, 38])
      IC.ret)
      IC.nop)))
      (IC.seq
      (IC.ops false
      [IOper.mk (some 39) (IOp.faddr 1 (Opd.t 5)) none, IOper.mk (some 40) (IOp.load none (Opd.t 39)) none,
      IOper.mk (some 41) (IOp.faddr 2 (Opd.t 5)) none, IOper.mk (some 42) (IOp.load none (Opd.t 41)) none,
      IOper.mk (some 43) (IOp.build [AV.str [], AV.str []] [(0, 1, Opd.t 40), (1, 1, Opd.t 42)]) none,
      IOper.mk (some 8) (IOp.alloc [AV.str [], AV.str []]) none,
      IOper.mk none (IOp.store 2 (Opd.t 8) (Opd.t 43)) none]
      [39, 40, 41, 42, 43])
      (IC.seq
      (IC.seq
      (IC.ops false
      [IOper.mk (some 44) (IOp.faddr 0 (Opd.t 5)) none, IOper.mk (some 45) (IOp.load none (Opd.t 44)) none]
      [44])
      (IC.seq
      (IC.block 1
      (IC.seq
      (IC.ops false
      [IOper.mk (some 47) (IOp.bin BinOp.eql (Opd.t 45) (Opd.c (AV.int IntKind.u8 1))) none,
      IOper.mk (some 46) (IOp.mv (Opd.t 47)) none]
      [47])
      (IC.cond (Opd.t 46)
      (IC.seq
      (IC.ops true
      [IOper.mk (some 49) (IOp.mv (Opd.t 0)) none, IOper.mk (some 50) (IOp.nilck (Opd.t 49)) none,
      IOper.mk (some 51) (IOp.faddr 10 (Opd.t 50)) none,
      IOper.mk (some 52) (IOp.load none (Opd.t 51)) none,
      IOper.mk (some 53) (IOp.faddr 1 (Opd.t 5)) none,
      IOper.mk (some 54) (IOp.load none (Opd.t 53)) none,
      IOper.mk (some 55) (IOp.call (Opd.c (AV.func (Fn.func 64) [] [])) [Opd.t 52, Opd.t 54])
      none,
      IOper.mk (some 48) (IOp.mv (Opd.t 55)) none,
      IOper.mk (some 56) (IOp.extr (Opd.t 48) 0) none,
      IOper.mk (some 57) (IOp.extr (Opd.t 48) 1) none, IOper.mk (some 9) (IOp.mv (Opd.t 56)) none,
      IOper.mk (some 10) (IOp.mv (Opd.t 57)) none]
      [49, 50, 51, 52, 53, 54, 55, 48, 56, 57])
      (IC.seq
      (IC.ops false
      [IOper.mk (some 58) (IOp.mv (Opd.t 10)) none, IOper.mk (some 59) (IOp.mv (Opd.t 9)) none,
      IOper.mk (some 60)
      (IOp.build
      [AV.int IntKind.i64 0, AV.bool false, AV.str [],
      AV.imm true 0 0 (some 0) [], AV.int IntKind.i64 0, AV.bool false]
      [(1, 1, Opd.t 58), (2, 1, Opd.t 59)])
      none,
      IOper.mk none (IOp.store 6 (Opd.t 6) (Opd.t 60)) none]
      [58, 59, 60])
      IC.ret))
      (IC.seq
      (IC.ops false
      [IOper.mk (some 62) (IOp.bin BinOp.eql (Opd.t 45) (Opd.c (AV.int IntKind.u8 2)))
      none,
      IOper.mk (some 61) (IOp.mv (Opd.t 62)) none]
      [62])
      (IC.cond (Opd.t 61)
      (IC.ops false
      [IOper.mk (some 63) (IOp.mv (Opd.t 0)) none,
      IOper.mk (some 64) (IOp.faddr 4 (Opd.t 5)) none,
      IOper.mk (some 65) (IOp.load none (Opd.t 64)) none,
      IOper.mk (some 66) (IOp.call (Opd.c (AV.func (Fn.func 65) [] [])) [Opd.t 63, Opd.t 65])
      none]
      [63, 64, 65, 66])
      (IC.seq
      (IC.ops false
      [IOper.mk (some 68)
      (IOp.bin BinOp.eql (Opd.t 45) (Opd.c (AV.int IntKind.u8 3))) none,
      IOper.mk (some 67) (IOp.mv (Opd.t 68)) none]
      [68])
      (IC.cond (Opd.t 67)
      (IC.seq
      (IC.ops false
      [IOper.mk (some 69) (IOp.mv (Opd.t 0)) none,
      IOper.mk (some 70) (IOp.load (some 2) (Opd.t 8)) none,
      IOper.mk (some 71) (IOp.faddr 3 (Opd.t 5)) none,
      IOper.mk (some 72) (IOp.load none (Opd.t 71)) none,
      IOper.mk (some 73)
      (IOp.call (Opd.c (AV.func (Fn.func 59) [] [])) [Opd.t 69, Opd.t 70, Opd.t 72])
      none,
      IOper.mk (some 74)
      (IOp.build
      [AV.int IntKind.i64 0, AV.bool false, AV.str [],
      AV.imm true 0 0 (some 0) [], AV.int IntKind.i64 0, AV.bool false]
      [(3, 1, Opd.t 73)])
      none,
      IOper.mk none (IOp.store 6 (Opd.t 6) (Opd.t 74)) none]
      [69, 70, 71, 72, 73, 74])
      IC.ret)
      (IC.seq
      (IC.ops false
      [IOper.mk (some 76)
      (IOp.bin BinOp.eql (Opd.t 45) (Opd.c (AV.int IntKind.u8 4))) none,
      IOper.mk (some 75) (IOp.mv (Opd.t 76)) none]
      [76])
      (IC.cond (Opd.t 75)
      (IC.seq
      (IC.seq (IC.ops false [IOper.mk none (IOp.slots 0) none] [])
      (IC.multi
      [[IOper.mk (some 78) (IOp.mv (Opd.t 0)) none,
      IOper.mk (some 79) (IOp.mv (Opd.t 1)) none,
      IOper.mk (some 80)
      (IOp.call (Opd.c (AV.func (Fn.func 66) [] [])) [Opd.t 78, Opd.t 79]) none,
      IOper.mk (some 81) (IOp.load (some 2) (Opd.t 8)) none,
      IOper.mk (some 82)
      (IOp.call (Opd.c (AV.func (Fn.func 67) [] [])) [Opd.t 80, Opd.t 81]) none,
      IOper.mk (some 77) (IOp.mv (Opd.t 82)) none,
      IOper.mk (some 83) (IOp.extr (Opd.t 77) 0) none,
      IOper.mk (some 84) (IOp.extr (Opd.t 77) 1) none,
      IOper.mk (some 11) (IOp.mv (Opd.t 83)) none,
      IOper.mk (some 12) (IOp.mv (Opd.t 84)) none],
      [IOper.mk (some 78) (IOp.mv (Opd.t 0)) none,
      IOper.mk (some 79) (IOp.mv (Opd.t 1)) none,
      IOper.mk (some 81) (IOp.load (some 2) (Opd.t 8)) none,
      IOper.mk (some 80)
      (IOp.call (Opd.c (AV.func (Fn.func 66) [] [])) [Opd.t 78, Opd.t 79]) none,
      IOper.mk (some 82)
      (IOp.call (Opd.c (AV.func (Fn.func 67) [] [])) [Opd.t 80, Opd.t 81]) none,
      IOper.mk (some 77) (IOp.mv (Opd.t 82)) none,
      IOper.mk (some 83) (IOp.extr (Opd.t 77) 0) none,
      IOper.mk (some 84) (IOp.extr (Opd.t 77) 1) none,
      IOper.mk (some 11) (IOp.mv (Opd.t 83)) none,
      IOper.mk (some 12) (IOp.mv (Opd.t 84)) none]]
      [78, 79, 80, 81, 82, 77, 83, 84]))
      (IC.seq
      (IC.ops false
      [IOper.mk (some 85) (IOp.mv (Opd.t 12)) none,
      IOper.mk (some 86) (IOp.mv (Opd.t 11)) none,
      IOper.mk (some 87)
      (IOp.build
      [AV.int IntKind.i64 0, AV.bool false, AV.str [],
      AV.imm true 0 0 (some 0) [], AV.int IntKind.i64 0,
      AV.bool false]
      [(0, 1, Opd.t 85), (4, 1, Opd.t 86)])
      none,
      IOper.mk none (IOp.store 6 (Opd.t 6) (Opd.t 87)) none]
      [85, 86, 87])
      IC.ret))
      (IC.seq
      (IC.ops false
      [IOper.mk (some 89)
      (IOp.bin BinOp.eql (Opd.t 45) (Opd.c (AV.int IntKind.u8 5))) none,
      IOper.mk (some 88) (IOp.mv (Opd.t 89)) none]
      [89])
      (IC.cond (Opd.t 88)
      (IC.seq
      (IC.ops false
      [IOper.mk (some 90) (IOp.mv (Opd.t 0)) none,
      IOper.mk (some 91) (IOp.mv (Opd.t 1)) none,
      IOper.mk (some 92) (IOp.faddr 3 (Opd.t 5)) none,
      IOper.mk (some 93) (IOp.load none (Opd.t 92)) none,
      IOper.mk (some 94)
      (IOp.call (Opd.c (AV.func (Fn.func 68) [] []))
      [Opd.t 90, Opd.t 91, Opd.t 93])
      none,
      IOper.mk none (IOp.store 6 (Opd.t 6) (Opd.t 94)) none]
      [90, 91, 92, 93, 94])
      IC.ret)
      (IC.seq
      (IC.ops false
      [IOper.mk (some 96)
      (IOp.bin BinOp.eql (Opd.t 45) (Opd.c (AV.int IntKind.u8 6)))
      none,
      IOper.mk (some 95) (IOp.mv (Opd.t 96)) none]
      [96])
      (IC.cond (Opd.t 95)
      (IC.seq
      (IC.seq (IC.ops false [IOper.mk none (IOp.slots 0) none] [])
      (IC.multi
      [[IOper.mk (some 97) (IOp.mv (Opd.t 0)) none,
      IOper.mk (some 98) (IOp.mv (Opd.t 1)) none,
      IOper.mk (some 100) (IOp.faddr 3 (Opd.t 5)) none,
      IOper.mk (some 99)
      (IOp.call (Opd.c (AV.func (Fn.func 66) [] []))
      [Opd.t 97, Opd.t 98])
      none,
      IOper.mk (some 101) (IOp.load none (Opd.t 100)) none,
      IOper.mk (some 102)
      (IOp.call (Opd.c (AV.func (Fn.func 69) [] []))
      [Opd.t 99, Opd.t 101])
      none,
      IOper.mk (some 103)
      (IOp.build
      [AV.int IntKind.i64 0, AV.bool false, AV.str [],
      AV.imm true 0 0 (some 0) [], AV.int IntKind.i64 0,
      AV.bool false]
      [(0, 1, Opd.t 102)])
      none,
      IOper.mk none (IOp.store 6 (Opd.t 6) (Opd.t 103)) none],
      [IOper.mk (some 97) (IOp.mv (Opd.t 0)) none,
      IOper.mk (some 98) (IOp.mv (Opd.t 1)) none,
      IOper.mk (some 100) (IOp.faddr 3 (Opd.t 5)) none,
      IOper.mk (some 101) (IOp.load none (Opd.t 100)) none,
      IOper.mk (some 99)
      (IOp.call (Opd.c (AV.func (Fn.func 66) [] []))
      [Opd.t 97, Opd.t 98])
      none,
      IOper.mk (some 102)
      (IOp.call (Opd.c (AV.func (Fn.func 69) [] []))
      [Opd.t 99, Opd.t 101])
      none,
      IOper.mk (some 103)
      (IOp.build
      [AV.int IntKind.i64 0, AV.bool false, AV.str [],
      AV.imm true 0 0 (some 0) [], AV.int IntKind.i64 0,
      AV.bool false]
      [(0, 1, Opd.t 102)])
      none,
      IOper.mk none (IOp.store 6 (Opd.t 6) (Opd.t 103)) none]]
      [97, 98, 99, 100, 101, 102, 103]))
      IC.ret)
      IC.nop)))))))))))))
      (IC.ops false []
      [47, 46, 49, 50, 51, 52, 53, 54, 55, 48, 56, 57, 9, 10, 58, 59, 60, 62, 61, 63, 64, 65, 66, 68, 67,
      69, 70, 71, 72, 73, 74, 76, 75, 78, 79, 80, 81, 82, 77, 83, 84, 11, 12, 85, 86, 87, 89, 88, 90, 91,
      92, 93, 94, 96, 95, 97, 98, 99, 100, 101, 102, 103])))
      (IC.seq
      (IC.ops false
      [IOper.mk (some 104)
      (IOp.build
      [AV.int IntKind.i64 0, AV.bool false, AV.str [], AV.imm true 0 0 (some 0) [],
      AV.int IntKind.i64 0, AV.bool false]
      [])
      none,
      IOper.mk none (IOp.store 6 (Opd.t 6) (Opd.t 104)) none]
      [104])
      IC.ret))))))
theorem fn_model_Model_Do : F 44 = some ir_model_Model_Do := by kernel_rfl

def ir_model_Refused : IFun :=
  IFun.mk false 1 [IRes.tmp 2]
  (IC.seq
    (IC.ops false
      [IOper.mk (some 1) (IOp.box 6 (Opd.t 0)) none, IOper.mk (some 2) (IOp.mv (Opd.c (AV.bool false))) none] [])
    (IC.seq
      (IC.ops false
      [IOper.mk (some 3) (IOp.faddr 0 (Opd.t 1)) none, IOper.mk (some 4) (IOp.load none (Opd.t 3)) none,
      IOper.mk (some 5) (IOp.bin BinOp.eql (Opd.t 4) (Opd.c (AV.int IntKind.i64 10))) none,
      IOper.mk (some 6) (IOp.mv (Opd.t 5)) none, IOper.mk (some 7) (IOp.faddr 0 (Opd.t 1)) (some (6, false)),
      IOper.mk (some 8) (IOp.load none (Opd.t 7)) (some (6, false)),
      IOper.mk (some 9) (IOp.bin BinOp.eql (Opd.t 8) (Opd.c (AV.int IntKind.i64 9))) (some (6, false)),
      IOper.mk (some 10) (IOp.pick (Opd.t 6) (Opd.c (AV.bool true)) (Opd.t 9)) none,
      IOper.mk (some 2) (IOp.mv (Opd.t 10)) none]
      [3, 4, 5, 6, 7, 8, 9, 10])
      IC.ret))
theorem fn_model_Refused : F 43 = some ir_model_Refused := by kernel_rfl

def ir_model_Same : IFun :=
  IFun.mk false 2 [IRes.tmp 4]
  (IC.seq
    (IC.ops false
      [IOper.mk (some 2) (IOp.box 6 (Opd.t 0)) none, IOper.mk (some 3) (IOp.box 6 (Opd.t 1)) none,
      IOper.mk (some 4) (IOp.mv (Opd.c (AV.bool false))) none]
      [])
    (IC.seq
      (IC.ops false
      [IOper.mk (some 5) (IOp.faddr 0 (Opd.t 2)) none, IOper.mk (some 6) (IOp.load none (Opd.t 5)) none,
      IOper.mk (some 7) (IOp.faddr 0 (Opd.t 3)) none, IOper.mk (some 8) (IOp.load none (Opd.t 7)) none,
      IOper.mk (some 9) (IOp.bin BinOp.eql (Opd.t 6) (Opd.t 8)) none, IOper.mk (some 10) (IOp.mv (Opd.t 9)) none,
      IOper.mk (some 11) (IOp.faddr 1 (Opd.t 2)) (some (10, true)),
      IOper.mk (some 12) (IOp.load none (Opd.t 11)) (some (10, true)),
      IOper.mk (some 13) (IOp.faddr 1 (Opd.t 3)) (some (10, true)),
      IOper.mk (some 14) (IOp.load none (Opd.t 13)) (some (10, true)),
      IOper.mk (some 15) (IOp.eqb false (Opd.t 12) (Opd.t 14)) (some (10, true)),
      IOper.mk (some 16) (IOp.pick (Opd.t 10) (Opd.t 15) (Opd.c (AV.bool false))) none,
      IOper.mk (some 17) (IOp.mv (Opd.t 16)) none, IOper.mk (some 18) (IOp.faddr 2 (Opd.t 2)) (some (17, true)),
      IOper.mk (some 19) (IOp.load none (Opd.t 18)) (some (17, true)),
      IOper.mk (some 20) (IOp.faddr 2 (Opd.t 3)) (some (17, true)),
      IOper.mk (some 21) (IOp.load none (Opd.t 20)) (some (17, true)),
      IOper.mk (some 22) (IOp.bin BinOp.eql (Opd.t 19) (Opd.t 21)) (some (17, true)),
      IOper.mk (some 23) (IOp.pick (Opd.t 17) (Opd.t 22) (Opd.c (AV.bool false))) none,
      IOper.mk (some 24) (IOp.mv (Opd.t 23)) none, IOper.mk (some 25) (IOp.faddr 4 (Opd.t 2)) (some (24, true)),
      IOper.mk (some 26) (IOp.load none (Opd.t 25)) (some (24, true)),
      IOper.mk (some 27) (IOp.faddr 4 (Opd.t 3)) (some (24, true)),
      IOper.mk (some 28) (IOp.load none (Opd.t 27)) (some (24, true)),
      IOper.mk (some 29) (IOp.bin BinOp.eql (Opd.t 26) (Opd.t 28)) (some (24, true)),
      IOper.mk (some 30) (IOp.pick (Opd.t 24) (Opd.t 29) (Opd.c (AV.bool false))) none,
      IOper.mk (some 31) (IOp.mv (Opd.t 30)) none, IOper.mk (some 32) (IOp.faddr 5 (Opd.t 2)) (some (31, true)),
      IOper.mk (some 33) (IOp.load none (Opd.t 32)) (some (31, true)),
      IOper.mk (some 34) (IOp.faddr 5 (Opd.t 3)) (some (31, true)),
      IOper.mk (some 35) (IOp.load none (Opd.t 34)) (some (31, true)),
      IOper.mk (some 36) (IOp.eqb false (Opd.t 33) (Opd.t 35)) (some (31, true)),
      IOper.mk (some 37) (IOp.pick (Opd.t 31) (Opd.t 36) (Opd.c (AV.bool false))) none,
      IOper.mk (some 38) (IOp.mv (Opd.t 37)) none, IOper.mk (some 39) (IOp.faddr 3 (Opd.t 2)) (some (38, true)),
      IOper.mk (some 40) (IOp.load none (Opd.t 39)) (some (38, true)),
      IOper.mk (some 41) (IOp.faddr 3 (Opd.t 3)) (some (38, true)),
      IOper.mk (some 42) (IOp.load none (Opd.t 41)) (some (38, true)),
      IOper.mk (some 43) (IOp.call (Opd.c (AV.func (Fn.func 70) [] [])) [Opd.t 40, Opd.t 42]) (some (38, true)),
      IOper.mk (some 44) (IOp.pick (Opd.t 38) (Opd.t 43) (Opd.c (AV.bool false))) none,
      IOper.mk (some 4) (IOp.mv (Opd.t 44)) none]
      [5, 6, 7, 8, 9, 10, 11, 12, 13, 14, 15, 16, 17, 18, 19, 20, 21, 22, 23, 24, 25, 26, 27, 28, 29, 30, 31, 32, 33,
      34, 35, 36, 37, 38, 39, 40, 41, 42, 43, 44])
      IC.ret))
theorem fn_model_Same : F 45 = some ir_model_Same := by kernel_rfl

def ir_order_New_string_string : IFun :=
  IFun.mk true 0 [IRes.tmp 0]
  (IC.seq (IC.ops false [IOper.mk (some 0) (IOp.mv (Opd.c AV.nilptr)) none] [])
    (IC.seq
      (IC.ops false
      [IOper.mk (some 1) (IOp.build [AV.nilptr] []) none, IOper.mk (some 2) (IOp.box 1 (Opd.t 1)) none,
      IOper.mk (some 0) (IOp.mv (Opd.t 2)) none]
      [1, 2])
      IC.ret))
theorem fn_order_New_string_string : F 38 = some ir_order_New_string_string := by kernel_rfl

def ir_room_Check : IFun :=
  IFun.mk false 1 [IRes.tmp 2]
  (IC.seq
    (IC.ops false
      [IOper.mk (some 1) (IOp.box 9 (Opd.t 0)) none,
      IOper.mk (some 2) (IOp.mv (Opd.c (AV.int IntKind.i64 0))) none]
      [])
    (IC.seq
      (IC.ops false
      [IOper.mk (some 4) (IOp.faddr 0 (Opd.t 1)) none, IOper.mk (some 5) (IOp.load none (Opd.t 4)) none,
      IOper.mk (some 6)
      (IOp.call (Opd.c (AV.func (Fn.func 61) [] []))
      [Opd.t 5, Opd.c (AV.int IntKind.i64 1), Opd.c (AV.int IntKind.i64 256)])
      none,
      IOper.mk (some 7) (IOp.mv (Opd.t 6)) none, IOper.mk (some 8) (IOp.faddr 1 (Opd.t 1)) (some (7, true)),
      IOper.mk (some 9) (IOp.load none (Opd.t 8)) (some (7, true)),
      IOper.mk (some 10)
      (IOp.call (Opd.c (AV.func (Fn.func 61) [] []))
      [Opd.t 9, Opd.c (AV.int IntKind.i64 8), Opd.c (AV.int IntKind.i64 4096)])
      (some (7, true)),
      IOper.mk (some 11) (IOp.pick (Opd.t 7) (Opd.t 10) (Opd.c (AV.bool false))) none,
      IOper.mk (some 12) (IOp.mv (Opd.t 11)) none, IOper.mk (some 13) (IOp.faddr 2 (Opd.t 1)) (some (12, true)),
      IOper.mk (some 14) (IOp.load none (Opd.t 13)) (some (12, true)),
      IOper.mk (some 15)
      (IOp.call (Opd.c (AV.func (Fn.func 61) [] []))
      [Opd.t 14, Opd.c (AV.int IntKind.i64 4), Opd.c (AV.int IntKind.i64 64)])
      (some (12, true)),
      IOper.mk (some 16) (IOp.pick (Opd.t 12) (Opd.t 15) (Opd.c (AV.bool false))) none,
      IOper.mk (some 17) (IOp.mv (Opd.t 16)) none, IOper.mk (some 18) (IOp.faddr 3 (Opd.t 1)) (some (17, true)),
      IOper.mk (some 19) (IOp.load none (Opd.t 18)) (some (17, true)),
      IOper.mk (some 20)
      (IOp.call (Opd.c (AV.func (Fn.func 61) [] []))
      [Opd.t 19, Opd.c (AV.int IntKind.i64 0), Opd.c (AV.int IntKind.i64 1048576)])
      (some (17, true)),
      IOper.mk (some 21) (IOp.pick (Opd.t 17) (Opd.t 20) (Opd.c (AV.bool false))) none,
      IOper.mk (some 22) (IOp.mv (Opd.t 21)) none, IOper.mk (some 23) (IOp.faddr 4 (Opd.t 1)) (some (22, true)),
      IOper.mk (some 24) (IOp.load none (Opd.t 23)) (some (22, true)),
      IOper.mk (some 25)
      (IOp.call (Opd.c (AV.func (Fn.func 61) [] []))
      [Opd.t 24, Opd.c (AV.int IntKind.i64 4), Opd.c (AV.int IntKind.i64 256)])
      (some (22, true)),
      IOper.mk (some 26) (IOp.pick (Opd.t 22) (Opd.t 25) (Opd.c (AV.bool false))) none,
      IOper.mk (some 27) (IOp.mv (Opd.t 26)) none, IOper.mk (some 28) (IOp.faddr 5 (Opd.t 1)) (some (27, true)),
      IOper.mk (some 29) (IOp.load none (Opd.t 28)) (some (27, true)),
      IOper.mk (some 30) (IOp.faddr 4 (Opd.t 1)) (some (27, true)),
      IOper.mk (some 31) (IOp.load none (Opd.t 30)) (some (27, true)),
      IOper.mk (some 32)
      (IOp.call (Opd.c (AV.func (Fn.func 61) [] []))
      [Opd.t 29, Opd.c (AV.int IntKind.i64 2), Opd.t 31])
      (some (27, true)),
      IOper.mk (some 33) (IOp.pick (Opd.t 27) (Opd.t 32) (Opd.c (AV.bool false))) none,
      IOper.mk (some 34) (IOp.mv (Opd.t 33)) none, IOper.mk (some 35) (IOp.faddr 6 (Opd.t 1)) (some (34, true)),
      IOper.mk (some 36) (IOp.load none (Opd.t 35)) (some (34, true)),
      IOper.mk (some 37)
      (IOp.call (Opd.c (AV.func (Fn.func 61) [] []))
      [Opd.t 36, Opd.c (AV.int IntKind.i64 2), Opd.c (AV.int IntKind.i64 4096)])
      (some (34, true)),
      IOper.mk (some 38) (IOp.pick (Opd.t 34) (Opd.t 37) (Opd.c (AV.bool false))) none,
      IOper.mk (some 39) (IOp.mv (Opd.t 38)) none, IOper.mk (some 40) (IOp.faddr 7 (Opd.t 1)) (some (39, true)),
      IOper.mk (some 41) (IOp.load none (Opd.t 40)) (some (39, true)),
      IOper.mk (some 42)
      (IOp.call (Opd.c (AV.func (Fn.func 61) [] []))
      [Opd.t 41, Opd.c (AV.int IntKind.i64 0), Opd.c (AV.int IntKind.i64 1000)])
      (some (39, true)),
      IOper.mk (some 43) (IOp.pick (Opd.t 39) (Opd.t 42) (Opd.c (AV.bool false))) none,
      IOper.mk (some 44) (IOp.mv (Opd.t 43)) none, IOper.mk (some 45) (IOp.faddr 8 (Opd.t 1)) (some (44, true)),
      IOper.mk (some 46) (IOp.load none (Opd.t 45)) (some (44, true)),
      IOper.mk (some 47)
      (IOp.call (Opd.c (AV.func (Fn.func 61) [] []))
      [Opd.t 46, Opd.c (AV.int IntKind.i64 1), Opd.c (AV.int IntKind.i64 1024)])
      (some (44, true)),
      IOper.mk (some 48) (IOp.pick (Opd.t 44) (Opd.t 47) (Opd.c (AV.bool false))) none,
      IOper.mk (some 3) (IOp.mv (Opd.t 48)) none]
      [4, 5, 6, 7, 8, 9, 10, 11, 12, 13, 14, 15, 16, 17, 18, 19, 20, 21, 22, 23, 24, 25, 26, 27, 28, 29, 30, 31, 32,
      33, 34, 35, 36, 37, 38, 39, 40, 41, 42, 43, 44, 45, 46, 47, 48])
      (IC.seq
      (IC.seq
      (IC.ops false [IOper.mk (some 49) (IOp.mv (Opd.t 3)) none, IOper.mk (some 50) (IOp.not (Opd.t 49)) none] [49])
      (IC.cond (Opd.t 50)
      (IC.seq (IC.ops false [IOper.mk (some 2) (IOp.mv (Opd.c (AV.int IntKind.i64 2))) none] [])
      IC.ret)
      IC.nop))
      (IC.seq (IC.ops false [IOper.mk (some 2) (IOp.mv (Opd.c (AV.int IntKind.i64 0))) none] [])
      IC.ret))))
theorem fn_room_Check : F 37 = some ir_room_Check := by kernel_rfl

def ir_slices_ContainsFunc_api_Done_api_Done : IFun :=
  IFun.mk false 2 [IRes.tmp 4]
  (IC.seq (IC.ops false [IOper.mk (some 4) (IOp.mv (Opd.c (AV.bool false))) none] [])
    (IC.seq
      (IC.ops false
      [IOper.mk (some 5) (IOp.mv (Opd.t 0)) none, IOper.mk (some 6) (IOp.mv (Opd.t 1)) none,
      IOper.mk (some 7) (IOp.call (Opd.c (AV.func (Fn.func 62) [] [])) [Opd.t 5, Opd.t 6]) none,
      IOper.mk (some 8) (IOp.bin BinOp.geq (Opd.t 7) (Opd.c (AV.int IntKind.i64 0))) none,
      IOper.mk (some 4) (IOp.mv (Opd.t 8)) none]
      [5, 6, 7, 8])
      IC.ret))
theorem fn_slices_ContainsFunc_api_Done_api_Done : F 40 = some ir_slices_ContainsFunc_api_Done_api_Done := by kernel_rfl

def ir_slices_pdqsortCmpFunc_api_Fault : IFun :=
  IFun.mk false 5 []
  (IC.seq (IC.ops false [IOper.mk (some 10) (IOp.mv (Opd.c (AV.bool true))) none] [])
    (IC.seq (IC.ops false [IOper.mk (some 11) (IOp.mv (Opd.c (AV.bool true))) none] [])
      (IC.seq
      (IC.block 0
      (IC.loop
      (IC.seq
      (IC.seq
      (IC.block 1
      (IC.seq
      (IC.ops false
      [IOper.mk (some 21) (IOp.mv (Opd.t 2)) none, IOper.mk (some 22) (IOp.mv (Opd.t 1)) none,
      IOper.mk (some 23) (IOp.bin BinOp.sub (Opd.t 21) (Opd.t 22)) none,
      IOper.mk (some 12) (IOp.mv (Opd.t 23)) none]
      [21, 22, 23])
      (IC.seq
      (IC.seq
      (IC.ops false
      [IOper.mk (some 24) (IOp.mv (Opd.t 12)) none,
      IOper.mk (some 25)
      (IOp.bin BinOp.leq (Opd.t 24) (Opd.c (AV.int IntKind.i64 12))) none]
      [24])
      (IC.cond (Opd.t 25)
      (IC.seq
      (IC.ops false
      [IOper.mk (some 26) (IOp.mv (Opd.t 0)) none, IOper.mk (some 27) (IOp.mv (Opd.t 1)) none,
      IOper.mk (some 28) (IOp.mv (Opd.t 2)) none, IOper.mk (some 29) (IOp.mv (Opd.t 4)) none,
      IOper.mk (some 30)
      (IOp.call (Opd.c (AV.func (Fn.func 71) [] []))
      [Opd.t 26, Opd.t 27, Opd.t 28, Opd.t 29])
      none]
      [26, 27, 28, 29, 30])
      IC.ret)
      IC.nop))
      (IC.seq
      (IC.seq
      (IC.ops false
      [IOper.mk (some 31) (IOp.mv (Opd.t 3)) none,
      IOper.mk (some 32)
      (IOp.bin BinOp.eql (Opd.t 31) (Opd.c (AV.int IntKind.i64 0))) none]
      [31])
      (IC.cond (Opd.t 32)
      (IC.seq
      (IC.ops false
      [IOper.mk (some 33) (IOp.mv (Opd.t 0)) none, IOper.mk (some 34) (IOp.mv (Opd.t 1)) none,
      IOper.mk (some 35) (IOp.mv (Opd.t 2)) none,
      IOper.mk (some 36) (IOp.mv (Opd.t 4)) none,
      IOper.mk (some 37)
      (IOp.call (Opd.c (AV.func (Fn.func 72) [] []))
      [Opd.t 33, Opd.t 34, Opd.t 35, Opd.t 36])
      none]
      [33, 34, 35, 36, 37])
      IC.ret)
      IC.nop))
      (IC.seq
      (IC.seq
      (IC.ops false
      [IOper.mk (some 38) (IOp.mv (Opd.t 10)) none,
      IOper.mk (some 39) (IOp.not (Opd.t 38)) none]
      [38])
      (IC.cond (Opd.t 39)
      (IC.seq
      (IC.ops false
      [IOper.mk (some 40) (IOp.mv (Opd.t 0)) none,
      IOper.mk (some 41) (IOp.mv (Opd.t 1)) none,
      IOper.mk (some 42) (IOp.mv (Opd.t 2)) none,
      IOper.mk (some 43) (IOp.mv (Opd.t 4)) none,
      IOper.mk (some 44)
      (IOp.call (Opd.c (AV.func (Fn.func 73) [] []))
      [Opd.t 40, Opd.t 41, Opd.t 42, Opd.t 43])
      none]
      [40, 41, 42, 43, 44])
      (IC.ops false
      [IOper.mk (some 45) (IOp.mv (Opd.t 3)) none,
      IOper.mk (some 46)
      (IOp.bin BinOp.sub (Opd.t 45) (Opd.c (AV.int IntKind.i64 1))) none,
      IOper.mk (some 3) (IOp.mv (Opd.t 46)) none]
      [45, 46]))
      IC.nop))
      (IC.seq
      (IC.ops false
      [IOper.mk (some 48) (IOp.mv (Opd.t 0)) none, IOper.mk (some 49) (IOp.mv (Opd.t 1)) none,
      IOper.mk (some 50) (IOp.mv (Opd.t 2)) none, IOper.mk (some 51) (IOp.mv (Opd.t 4)) none,
      IOper.mk (some 52)
      (IOp.call (Opd.c (AV.func (Fn.func 74) [] []))
      [Opd.t 48, Opd.t 49, Opd.t 50, Opd.t 51])
      none,
      IOper.mk (some 47) (IOp.mv (Opd.t 52)) none,
      IOper.mk (some 53) (IOp.extr (Opd.t 47) 0) none,
      IOper.mk (some 54) (IOp.extr (Opd.t 47) 1) none,
      IOper.mk (some 13) (IOp.mv (Opd.t 53)) none,
      IOper.mk (some 14) (IOp.mv (Opd.t 54)) none]
      [48, 49, 50, 51, 52, 47, 53, 54])
      (IC.seq
      (IC.seq
      (IC.ops false
      [IOper.mk (some 55) (IOp.mv (Opd.t 14)) none,
      IOper.mk (some 56)
      (IOp.bin BinOp.eql (Opd.t 55) (Opd.c (AV.int IntKind.i64 2))) none]
      [55])
      (IC.cond (Opd.t 56)
      (IC.seq
      (IC.ops false
      [IOper.mk (some 57) (IOp.mv (Opd.t 0)) none,
      IOper.mk (some 58) (IOp.mv (Opd.t 1)) none,
      IOper.mk (some 59) (IOp.mv (Opd.t 2)) none,
      IOper.mk (some 60) (IOp.mv (Opd.t 4)) none,
      IOper.mk (some 61)
      (IOp.call (Opd.c (AV.func (Fn.func 75) [] []))
      [Opd.t 57, Opd.t 58, Opd.t 59, Opd.t 60])
      none]
      [57, 58, 59, 60, 61])
      (IC.seq
      (IC.ops false
      [IOper.mk (some 62) (IOp.mv (Opd.t 2)) none,
      IOper.mk (some 63)
      (IOp.bin BinOp.sub (Opd.t 62) (Opd.c (AV.int IntKind.i64 1)))
      none,
      IOper.mk (some 64) (IOp.mv (Opd.t 13)) none,
      IOper.mk (some 65) (IOp.mv (Opd.t 1)) none,
      IOper.mk (some 66) (IOp.bin BinOp.sub (Opd.t 64) (Opd.t 65)) none,
      IOper.mk (some 67) (IOp.bin BinOp.sub (Opd.t 63) (Opd.t 66)) none,
      IOper.mk (some 13) (IOp.mv (Opd.t 67)) none]
      [62, 63, 64, 65, 66, 67])
      (IC.ops false
      [IOper.mk (some 14) (IOp.mv (Opd.c (AV.int IntKind.i64 1))) none]
      [])))
      IC.nop))
      (IC.seq
      (IC.seq
      (IC.ops false
      [IOper.mk (some 68) (IOp.mv (Opd.t 10)) none,
      IOper.mk (some 69) (IOp.mv (Opd.t 68)) none,
      IOper.mk (some 70) (IOp.mv (Opd.t 11)) (some (69, true)),
      IOper.mk (some 71) (IOp.pick (Opd.t 69) (Opd.t 70) (Opd.c (AV.bool false))) none,
      IOper.mk (some 72) (IOp.mv (Opd.t 71)) none,
      IOper.mk (some 73) (IOp.mv (Opd.t 14)) (some (72, true)),
      IOper.mk (some 74)
      (IOp.bin BinOp.eql (Opd.t 73) (Opd.c (AV.int IntKind.i64 1)))
      (some (72, true)),
      IOper.mk (some 75) (IOp.pick (Opd.t 72) (Opd.t 74) (Opd.c (AV.bool false))) none]
      [68, 69, 70, 71, 72, 73, 74])
      (IC.cond (Opd.t 75)
      (IC.seq
      (IC.ops false
      [IOper.mk (some 76) (IOp.mv (Opd.t 0)) none,
      IOper.mk (some 77) (IOp.mv (Opd.t 1)) none,
      IOper.mk (some 78) (IOp.mv (Opd.t 2)) none,
      IOper.mk (some 79) (IOp.mv (Opd.t 4)) none,
      IOper.mk (some 80)
      (IOp.call (Opd.c (AV.func (Fn.func 76) [] []))
      [Opd.t 76, Opd.t 77, Opd.t 78, Opd.t 79])
      none]
      [76, 77, 78, 79])
      (IC.cond (Opd.t 80) IC.ret IC.nop))
      IC.nop))
      (IC.seq
      (IC.seq
      (IC.ops true
      [IOper.mk (some 81) (IOp.mv (Opd.t 1)) none,
      IOper.mk (some 82)
      (IOp.bin BinOp.gtr (Opd.t 81) (Opd.c (AV.int IntKind.i64 0)))
      none,
      IOper.mk (some 83) (IOp.mv (Opd.t 82)) none,
      IOper.mk (some 84) (IOp.mv (Opd.t 4)) (some (83, true)),
      IOper.mk (some 85) (IOp.mv (Opd.t 0)) (some (83, true)),
      IOper.mk (some 86) (IOp.mv (Opd.t 1)) (some (83, true)),
      IOper.mk (some 87)
      (IOp.bin BinOp.sub (Opd.t 86) (Opd.c (AV.int IntKind.i64 1)))
      (some (83, true)),
      IOper.mk (some 88) (IOp.ixa 2 (Opd.t 85) (Opd.t 87)) (some (83, true)),
      IOper.mk (some 89) (IOp.load (some 2) (Opd.t 88)) (some (83, true)),
      IOper.mk (some 90) (IOp.mv (Opd.t 0)) (some (83, true)),
      IOper.mk (some 91) (IOp.mv (Opd.t 13)) (some (83, true)),
      IOper.mk (some 92) (IOp.ixa 2 (Opd.t 90) (Opd.t 91)) (some (83, true)),
      IOper.mk (some 93) (IOp.load (some 2) (Opd.t 92)) (some (83, true)),
      IOper.mk (some 94) (IOp.call (Opd.t 84) [Opd.t 89, Opd.t 93]) (some (83, true)),
      IOper.mk (some 95)
      (IOp.bin BinOp.lss (Opd.t 94) (Opd.c (AV.int IntKind.i64 0)))
      (some (83, true)),
      IOper.mk (some 96) (IOp.not (Opd.t 95)) (some (83, true)),
      IOper.mk (some 97) (IOp.pick (Opd.t 83) (Opd.t 96) (Opd.c (AV.bool false)))
      none]
      [81, 82, 83, 84, 85, 86, 87, 88, 89, 90, 91, 92, 93, 94, 95, 96])
      (IC.cond (Opd.t 97)
      (IC.seq
      (IC.ops false
      [IOper.mk (some 98) (IOp.mv (Opd.t 0)) none,
      IOper.mk (some 99) (IOp.mv (Opd.t 1)) none,
      IOper.mk (some 100) (IOp.mv (Opd.t 2)) none,
      IOper.mk (some 101) (IOp.mv (Opd.t 13)) none,
      IOper.mk (some 102) (IOp.mv (Opd.t 4)) none,
      IOper.mk (some 103)
      (IOp.call (Opd.c (AV.func (Fn.func 77) [] []))
      [Opd.t 98, Opd.t 99, Opd.t 100, Opd.t 101, Opd.t 102])
      none,
      IOper.mk (some 15) (IOp.mv (Opd.t 103)) none]
      [98, 99, 100, 101, 102, 103])
      (IC.seq
      (IC.ops false
      [IOper.mk (some 104) (IOp.mv (Opd.t 15)) none,
      IOper.mk (some 1) (IOp.mv (Opd.t 104)) none]
      [104])
      (IC.exit 1)))
      IC.nop))
      (IC.seq
      (IC.ops false
      [IOper.mk (some 106) (IOp.mv (Opd.t 0)) none,
      IOper.mk (some 107) (IOp.mv (Opd.t 1)) none,
      IOper.mk (some 108) (IOp.mv (Opd.t 2)) none,
      IOper.mk (some 109) (IOp.mv (Opd.t 13)) none,
      IOper.mk (some 110) (IOp.mv (Opd.t 4)) none,
      IOper.mk (some 111)
      (IOp.call (Opd.c (AV.func (Fn.func 78) [] []))
      [Opd.t 106, Opd.t 107, Opd.t 108, Opd.t 109, Opd.t 110])
      none,
      IOper.mk (some 105) (IOp.mv (Opd.t 111)) none,
      IOper.mk (some 112) (IOp.extr (Opd.t 105) 0) none,
      IOper.mk (some 113) (IOp.extr (Opd.t 105) 1) none,
      IOper.mk (some 16) (IOp.mv (Opd.t 112)) none,
      IOper.mk (some 17) (IOp.mv (Opd.t 113)) none]
      [106, 107, 108, 109, 110, 111, 105, 112, 113])
      (IC.seq
      (IC.ops false
      [IOper.mk (some 114) (IOp.mv (Opd.t 17)) none,
      IOper.mk (some 11) (IOp.mv (Opd.t 114)) none]
      [114])
      (IC.seq
      (IC.ops false
      [IOper.mk (some 115) (IOp.mv (Opd.t 16)) none,
      IOper.mk (some 116) (IOp.mv (Opd.t 1)) none,
      IOper.mk (some 117) (IOp.bin BinOp.sub (Opd.t 115) (Opd.t 116)) none,
      IOper.mk (some 118) (IOp.mv (Opd.t 2)) none,
      IOper.mk (some 119) (IOp.mv (Opd.t 16)) none,
      IOper.mk (some 120) (IOp.bin BinOp.sub (Opd.t 118) (Opd.t 119)) none,
      IOper.mk (some 18) (IOp.mv (Opd.t 117)) none,
      IOper.mk (some 19) (IOp.mv (Opd.t 120)) none]
      [115, 116, 117, 118, 119, 120])
      (IC.seq
      (IC.ops false
      [IOper.mk (some 121) (IOp.mv (Opd.t 12)) none,
      IOper.mk (some 122)
      (IOp.bin BinOp.quo (Opd.t 121)
      (Opd.c (AV.int IntKind.i64 8)))
      none,
      IOper.mk (some 20) (IOp.mv (Opd.t 122)) none]
      [121, 122])
      (IC.seq
      (IC.ops false
      [IOper.mk (some 123) (IOp.mv (Opd.t 18)) none,
      IOper.mk (some 124) (IOp.mv (Opd.t 19)) none,
      IOper.mk (some 125) (IOp.bin BinOp.lss (Opd.t 123) (Opd.t 124)) none]
      [123, 124])
      (IC.cond (Opd.t 125)
      (IC.seq
      (IC.ops false
      [IOper.mk (some 126) (IOp.mv (Opd.t 18)) none,
      IOper.mk (some 127) (IOp.mv (Opd.t 20)) none,
      IOper.mk (some 128) (IOp.bin BinOp.geq (Opd.t 126) (Opd.t 127))
      none,
      IOper.mk (some 10) (IOp.mv (Opd.t 128)) none]
      [126, 127, 128])
      (IC.seq
      (IC.ops false
      [IOper.mk (some 129) (IOp.mv (Opd.t 0)) none,
      IOper.mk (some 130) (IOp.mv (Opd.t 1)) none,
      IOper.mk (some 131) (IOp.mv (Opd.t 16)) none,
      IOper.mk (some 132) (IOp.mv (Opd.t 3)) none,
      IOper.mk (some 133) (IOp.mv (Opd.t 4)) none,
      IOper.mk (some 134)
      (IOp.call (Opd.c (AV.func (Fn.func 46) [] []))
      [Opd.t 129, Opd.t 130, Opd.t 131, Opd.t 132, Opd.t 133])
      none]
      [129, 130, 131, 132, 133, 134])
      (IC.ops false
      [IOper.mk (some 135) (IOp.mv (Opd.t 16)) none,
      IOper.mk (some 136)
      (IOp.bin BinOp.add (Opd.t 135)
      (Opd.c (AV.int IntKind.i64 1)))
      none,
      IOper.mk (some 1) (IOp.mv (Opd.t 136)) none]
      [135, 136])))
      (IC.seq
      (IC.ops false
      [IOper.mk (some 137) (IOp.mv (Opd.t 19)) none,
      IOper.mk (some 138) (IOp.mv (Opd.t 20)) none,
      IOper.mk (some 139) (IOp.bin BinOp.geq (Opd.t 137) (Opd.t 138))
      none,
      IOper.mk (some 10) (IOp.mv (Opd.t 139)) none]
      [137, 138, 139])
      (IC.seq
      (IC.ops false
      [IOper.mk (some 140) (IOp.mv (Opd.t 0)) none,
      IOper.mk (some 141) (IOp.mv (Opd.t 16)) none,
      IOper.mk (some 142)
      (IOp.bin BinOp.add (Opd.t 141)
      (Opd.c (AV.int IntKind.i64 1)))
      none,
      IOper.mk (some 143) (IOp.mv (Opd.t 2)) none,
      IOper.mk (some 144) (IOp.mv (Opd.t 3)) none,
      IOper.mk (some 145) (IOp.mv (Opd.t 4)) none,
      IOper.mk (some 146)
      (IOp.call (Opd.c (AV.func (Fn.func 46) [] []))
      [Opd.t 140, Opd.t 142, Opd.t 143, Opd.t 144, Opd.t 145])
      none]
      [140, 141, 142, 143, 144, 145, 146])
      (IC.ops false
      [IOper.mk (some 147) (IOp.mv (Opd.t 16)) none,
      IOper.mk (some 2) (IOp.mv (Opd.t 147)) none]
      [147]))))))))))))))))))
      (IC.ops false []
      [21, 22, 23, 12, 24, 25, 26, 27, 28, 29, 30, 31, 32, 33, 34, 35, 36, 37, 38, 39, 40, 41, 42, 43, 44,
      45, 46, 3, 48, 49, 50, 51, 52, 47, 53, 54, 55, 56, 57, 58, 59, 60, 61, 62, 63, 64, 65, 66, 67, 13,
      14, 68, 69, 70, 71, 72, 73, 74, 75, 76, 77, 78, 79, 80, 81, 82, 83, 84, 85, 86, 87, 88, 89, 90, 91,
      92, 93, 94, 95, 96, 97, 98, 99, 100, 101, 102, 103, 15, 104, 106, 107, 108, 109, 110, 111, 105, 112,
      113, 16, 17, 114, 115, 116, 117, 118, 119, 120, 18, 19, 121, 122, 20, 123, 124, 125, 126, 127, 128,
      129, 130, 131, 132, 133, 134, 135, 136, 1, 137, 138, 139, 140, 141, 142, 143, 144, 145, 146, 147,
      2]))
      (IC.ops false []
      [21, 22, 23, 12, 24, 25, 26, 27, 28, 29, 30, 31, 32, 33, 34, 35, 36, 37, 38, 39, 40, 41, 42, 43, 44, 45,
      46, 3, 48, 49, 50, 51, 52, 47, 53, 54, 55, 56, 57, 58, 59, 60, 61, 62, 63, 64, 65, 66, 67, 13, 14, 68,
      69, 70, 71, 72, 73, 74, 75, 76, 77, 78, 79, 80, 81, 82, 83, 84, 85, 86, 87, 88, 89, 90, 91, 92, 93,
      94, 95, 96, 97, 98, 99, 100, 101, 102, 103, 15, 104, 106, 107, 108, 109, 110, 111, 105, 112, 113, 16,
      17, 114, 115, 116, 117, 118, 119, 120, 18, 19, 121, 122, 20, 123, 124, 125, 126, 127, 128, 129, 130,
      131, 132, 133, 134, 135, 136, 1, 137, 138, 139, 140, 141, 142, 143, 144, 145, 146, 147, 2]))))
      (IC.ops false []
      [21, 22, 23, 12, 24, 25, 26, 27, 28, 29, 30, 31, 32, 33, 34, 35, 36, 37, 38, 39, 40, 41, 42, 43, 44, 45, 46,
      3, 48, 49, 50, 51, 52, 47, 53, 54, 55, 56, 57, 58, 59, 60, 61, 62, 63, 64, 65, 66, 67, 13, 14, 68, 69, 70,
      71, 72, 73, 74, 75, 76, 77, 78, 79, 80, 81, 82, 83, 84, 85, 86, 87, 88, 89, 90, 91, 92, 93, 94, 95, 96, 97,
      98, 99, 100, 101, 102, 103, 15, 104, 106, 107, 108, 109, 110, 111, 105, 112, 113, 16, 17, 114, 115, 116,
      117, 118, 119, 120, 18, 19, 121, 122, 20, 123, 124, 125, 126, 127, 128, 129, 130, 131, 132, 133, 134, 135,
      136, 1, 137, 138, 139, 140, 141, 142, 143, 144, 145, 146, 147, 2]))))
theorem fn_slices_pdqsortCmpFunc_api_Fault : F 46 = some ir_slices_pdqsortCmpFunc_api_Fault := by kernel_rfl

def ir_slices_stableCmpFunc_int : IFun :=
  IFun.mk false 3 []
  (IC.seq (IC.ops false [IOper.mk (some 6) (IOp.mv (Opd.c (AV.int IntKind.i64 20))) none] [])
    (IC.seq
      (IC.ops false
      [IOper.mk (some 10) (IOp.mv (Opd.t 6)) none,
      IOper.mk (some 7) (IOp.mv (Opd.c (AV.int IntKind.i64 0))) none,
      IOper.mk (some 8) (IOp.mv (Opd.t 10)) none]
      [10])
      (IC.seq
      (IC.seq
      (IC.block 0
      (IC.loop
      (IC.seq
      (IC.seq
      (IC.seq
      (IC.ops false
      [IOper.mk (some 11) (IOp.mv (Opd.t 8)) none, IOper.mk (some 12) (IOp.mv (Opd.t 1)) none,
      IOper.mk (some 13) (IOp.bin BinOp.leq (Opd.t 11) (Opd.t 12)) none]
      [11, 12])
      (IC.cond (Opd.t 13) IC.nop (IC.exit 0)))
      (IC.seq
      (IC.block 1
      (IC.seq
      (IC.ops false
      [IOper.mk (some 14) (IOp.mv (Opd.t 0)) none, IOper.mk (some 15) (IOp.mv (Opd.t 7)) none,
      IOper.mk (some 16) (IOp.mv (Opd.t 8)) none, IOper.mk (some 17) (IOp.mv (Opd.t 2)) none,
      IOper.mk (some 18)
      (IOp.call (Opd.c (AV.func (Fn.func 90) [] [])) [Opd.t 14, Opd.t 15, Opd.t 16, Opd.t 17])
      none]
      [14, 15, 16, 17, 18])
      (IC.seq
      (IC.ops false
      [IOper.mk (some 19) (IOp.mv (Opd.t 8)) none, IOper.mk (some 7) (IOp.mv (Opd.t 19)) none]
      [19])
      (IC.ops false
      [IOper.mk (some 20) (IOp.mv (Opd.t 8)) none, IOper.mk (some 21) (IOp.mv (Opd.t 6)) none,
      IOper.mk (some 22) (IOp.bin BinOp.add (Opd.t 20) (Opd.t 21)) none,
      IOper.mk (some 8) (IOp.mv (Opd.t 22)) none]
      [20, 21, 22]))))
      (IC.ops false [] [14, 15, 16, 17, 18, 19, 20, 21, 22])))
      (IC.ops false [] [11, 12, 13, 14, 15, 16, 17, 18, 19, 20, 21, 22]))))
      (IC.ops false [] [11, 12, 13, 14, 15, 16, 17, 18, 19, 20, 21, 22]))
      (IC.seq
      (IC.ops false
      [IOper.mk (some 23) (IOp.mv (Opd.t 0)) none, IOper.mk (some 24) (IOp.mv (Opd.t 7)) none,
      IOper.mk (some 25) (IOp.mv (Opd.t 1)) none, IOper.mk (some 26) (IOp.mv (Opd.t 2)) none,
      IOper.mk (some 27)
      (IOp.call (Opd.c (AV.func (Fn.func 90) [] [])) [Opd.t 23, Opd.t 24, Opd.t 25, Opd.t 26]) none]
      [23, 24, 25, 26, 27])
      (IC.seq
      (IC.block 2
      (IC.loop
      (IC.seq
      (IC.seq
      (IC.seq
      (IC.ops false
      [IOper.mk (some 28) (IOp.mv (Opd.t 6)) none, IOper.mk (some 29) (IOp.mv (Opd.t 1)) none,
      IOper.mk (some 30) (IOp.bin BinOp.lss (Opd.t 28) (Opd.t 29)) none]
      [28, 29])
      (IC.cond (Opd.t 30) IC.nop (IC.exit 2)))
      (IC.seq
      (IC.block 3
      (IC.seq
      (IC.ops false
      [IOper.mk (some 31) (IOp.mv (Opd.t 6)) none,
      IOper.mk (some 32)
      (IOp.bin BinOp.mul (Opd.c (AV.int IntKind.i64 2)) (Opd.t 31)) none,
      IOper.mk (some 7) (IOp.mv (Opd.c (AV.int IntKind.i64 0))) none,
      IOper.mk (some 8) (IOp.mv (Opd.t 32)) none]
      [31, 32])
      (IC.seq
      (IC.seq
      (IC.block 4
      (IC.loop
      (IC.seq
      (IC.seq
      (IC.seq
      (IC.ops false
      [IOper.mk (some 33) (IOp.mv (Opd.t 8)) none,
      IOper.mk (some 34) (IOp.mv (Opd.t 1)) none,
      IOper.mk (some 35) (IOp.bin BinOp.leq (Opd.t 33) (Opd.t 34)) none]
      [33, 34])
      (IC.cond (Opd.t 35) IC.nop (IC.exit 4)))
      (IC.seq
      (IC.block 5
      (IC.seq
      (IC.ops false
      [IOper.mk (some 36) (IOp.mv (Opd.t 0)) none,
      IOper.mk (some 37) (IOp.mv (Opd.t 7)) none,
      IOper.mk (some 38) (IOp.mv (Opd.t 7)) none,
      IOper.mk (some 39) (IOp.mv (Opd.t 6)) none,
      IOper.mk (some 40) (IOp.bin BinOp.add (Opd.t 38) (Opd.t 39)) none,
      IOper.mk (some 41) (IOp.mv (Opd.t 8)) none,
      IOper.mk (some 42) (IOp.mv (Opd.t 2)) none,
      IOper.mk (some 43)
      (IOp.call (Opd.c (AV.func (Fn.func 91) [] []))
      [Opd.t 36, Opd.t 37, Opd.t 40, Opd.t 41, Opd.t 42])
      none]
      [36, 37, 38, 39, 40, 41, 42, 43])
      (IC.seq
      (IC.ops false
      [IOper.mk (some 44) (IOp.mv (Opd.t 8)) none,
      IOper.mk (some 7) (IOp.mv (Opd.t 44)) none]
      [44])
      (IC.ops false
      [IOper.mk (some 45) (IOp.mv (Opd.t 8)) none,
      IOper.mk (some 46) (IOp.mv (Opd.t 6)) none,
      IOper.mk (some 47)
      (IOp.bin BinOp.mul (Opd.c (AV.int IntKind.i64 2))
      (Opd.t 46))
      none,
      IOper.mk (some 48) (IOp.bin BinOp.add (Opd.t 45) (Opd.t 47)) none,
      IOper.mk (some 8) (IOp.mv (Opd.t 48)) none]
      [45, 46, 47, 48]))))
      (IC.ops false [] [36, 37, 38, 39, 40, 41, 42, 43, 44, 45, 46, 47, 48])))
      (IC.ops false []
      [33, 34, 35, 36, 37, 38, 39, 40, 41, 42, 43, 44, 45, 46, 47, 48]))))
      (IC.ops false [] [33, 34, 35, 36, 37, 38, 39, 40, 41, 42, 43, 44, 45, 46, 47, 48]))
      (IC.seq
      (IC.seq
      (IC.ops false
      [IOper.mk (some 49) (IOp.mv (Opd.t 7)) none,
      IOper.mk (some 50) (IOp.mv (Opd.t 6)) none,
      IOper.mk (some 51) (IOp.bin BinOp.add (Opd.t 49) (Opd.t 50)) none,
      IOper.mk (some 9) (IOp.mv (Opd.t 51)) none]
      [49, 50, 51])
      (IC.seq
      (IC.ops false
      [IOper.mk (some 52) (IOp.mv (Opd.t 9)) none,
      IOper.mk (some 53) (IOp.mv (Opd.t 1)) none,
      IOper.mk (some 54) (IOp.bin BinOp.lss (Opd.t 52) (Opd.t 53)) none]
      [52, 53])
      (IC.cond (Opd.t 54)
      (IC.ops false
      [IOper.mk (some 55) (IOp.mv (Opd.t 0)) none,
      IOper.mk (some 56) (IOp.mv (Opd.t 7)) none,
      IOper.mk (some 57) (IOp.mv (Opd.t 9)) none,
      IOper.mk (some 58) (IOp.mv (Opd.t 1)) none,
      IOper.mk (some 59) (IOp.mv (Opd.t 2)) none,
      IOper.mk (some 60)
      (IOp.call (Opd.c (AV.func (Fn.func 91) [] []))
      [Opd.t 55, Opd.t 56, Opd.t 57, Opd.t 58, Opd.t 59])
      none]
      [55, 56, 57, 58, 59, 60])
      IC.nop)))
      (IC.ops false
      [IOper.mk (some 61) (IOp.mv (Opd.t 6)) none,
      IOper.mk (some 62)
      (IOp.bin BinOp.mul (Opd.t 61) (Opd.c (AV.int IntKind.i64 2))) none,
      IOper.mk (some 6) (IOp.mv (Opd.t 62)) none]
      [61, 62])))))
      (IC.ops false []
      [31, 32, 33, 34, 35, 36, 37, 38, 39, 40, 41, 42, 43, 44, 45, 46, 47, 48, 49, 50, 51, 9, 52, 53,
      54, 55, 56, 57, 58, 59, 60, 61, 62])))
      (IC.ops false []
      [28, 29, 30, 31, 32, 33, 34, 35, 36, 37, 38, 39, 40, 41, 42, 43, 44, 45, 46, 47, 48, 49, 50, 51, 9,
      52, 53, 54, 55, 56, 57, 58, 59, 60, 61, 62]))))
      (IC.ops false []
      [28, 29, 30, 31, 32, 33, 34, 35, 36, 37, 38, 39, 40, 41, 42, 43, 44, 45, 46, 47, 48, 49, 50, 51, 9, 52,
      53, 54, 55, 56, 57, 58, 59, 60, 61, 62]))))))
theorem fn_slices_stableCmpFunc_int : F 57 = some ir_slices_stableCmpFunc_int := by kernel_rfl

def ir_witness_own_1 : IFun :=
  IFun.mk false 2 [IRes.tmp 3]
  (IC.seq
    (IC.ops false
      [IOper.mk (some 2) (IOp.box 16 (Opd.t 0)) none, IOper.mk (some 3) (IOp.mv (Opd.c (AV.bool false))) none] [])
    (IC.seq
      (IC.ops false
      [IOper.mk (some 4) (IOp.load (some 16) (Opd.t 2)) none, IOper.mk (some 5) (IOp.load (some 16) (Opd.t 1)) none,
      IOper.mk (some 6) (IOp.call (Opd.c (AV.func (Fn.func 42) [] [])) [Opd.t 4, Opd.t 5]) none,
      IOper.mk (some 7) (IOp.not (Opd.t 6)) none, IOper.mk (some 3) (IOp.mv (Opd.t 7)) none]
      [4, 5, 6, 7])
      IC.ret))
theorem fn_witness_own_1 : F 41 = some ir_witness_own_1 := by kernel_rfl

def ir_witness_timed : IFun :=
  IFun.mk false 2 [IRes.tmp 4]
  (IC.seq
    (IC.ops false
      [IOper.mk (some 2) (IOp.box 16 (Opd.t 0)) none, IOper.mk (some 4) (IOp.mv (Opd.c (AV.bool false))) none] [])
    (IC.seq
      (IC.seq
      (IC.block 0
      (IC.seq
      (IC.ops false
      [IOper.mk (some 6) (IOp.faddr 0 (Opd.t 2)) none, IOper.mk (some 7) (IOp.load none (Opd.t 6)) none,
      IOper.mk (some 8) (IOp.bin BinOp.lss (Opd.t 7) (Opd.c (AV.int IntKind.i64 1))) none,
      IOper.mk (some 9) (IOp.mv (Opd.t 8)) none, IOper.mk (some 10) (IOp.faddr 0 (Opd.t 2)) (some (9, false)),
      IOper.mk (some 11) (IOp.load none (Opd.t 10)) (some (9, false)),
      IOper.mk (some 12) (IOp.mv (Opd.t 1)) (some (9, false)),
      IOper.mk (some 13) (IOp.bin BinOp.gtr (Opd.t 11) (Opd.t 12)) (some (9, false)),
      IOper.mk (some 14) (IOp.pick (Opd.t 9) (Opd.c (AV.bool true)) (Opd.t 13)) none,
      IOper.mk (some 15) (IOp.mv (Opd.t 14)) none,
      IOper.mk (some 16) (IOp.faddr 1 (Opd.t 2)) (some (15, false)),
      IOper.mk (some 17) (IOp.load none (Opd.t 16)) (some (15, false)),
      IOper.mk (some 18) (IOp.bin BinOp.lss (Opd.t 17) (Opd.c (AV.int IntKind.i64 1)))
      (some (15, false)),
      IOper.mk (some 19) (IOp.pick (Opd.t 15) (Opd.c (AV.bool true)) (Opd.t 18)) none,
      IOper.mk (some 20) (IOp.mv (Opd.t 19)) none,
      IOper.mk (some 21) (IOp.faddr 7 (Opd.t 2)) (some (20, false)),
      IOper.mk (some 22) (IOp.load none (Opd.t 21)) (some (20, false)),
      IOper.mk (some 23) (IOp.bin BinOp.lss (Opd.t 22) (Opd.c (AV.int IntKind.i64 1)))
      (some (20, false)),
      IOper.mk (some 24) (IOp.pick (Opd.t 20) (Opd.c (AV.bool true)) (Opd.t 23)) none,
      IOper.mk (some 5) (IOp.mv (Opd.t 24)) none]
      [6, 7, 8, 9, 10, 11, 12, 13, 14, 15, 16, 17, 18, 19, 20, 21, 22, 23, 24])
      (IC.cond (Opd.t 5)
      (IC.seq (IC.ops false [IOper.mk (some 4) (IOp.mv (Opd.c (AV.bool false))) none] []) IC.ret)
      (IC.seq
      (IC.ops false
      [IOper.mk (some 26) (IOp.faddr 8 (Opd.t 2)) none, IOper.mk (some 27) (IOp.load none (Opd.t 26)) none,
      IOper.mk (some 28) (IOp.bin BinOp.neq (Opd.t 27) (Opd.c (AV.int IntKind.i64 0))) none,
      IOper.mk (some 29) (IOp.mv (Opd.t 28)) none,
      IOper.mk (some 30) (IOp.faddr 8 (Opd.t 2)) (some (29, true)),
      IOper.mk (some 31) (IOp.load none (Opd.t 30)) (some (29, true)),
      IOper.mk (some 32) (IOp.faddr 7 (Opd.t 2)) (some (29, true)),
      IOper.mk (some 33) (IOp.load none (Opd.t 32)) (some (29, true)),
      IOper.mk (some 34) (IOp.bin BinOp.lss (Opd.t 31) (Opd.t 33)) (some (29, true)),
      IOper.mk (some 35) (IOp.pick (Opd.t 29) (Opd.t 34) (Opd.c (AV.bool false))) none,
      IOper.mk (some 36) (IOp.mv (Opd.t 35)) none,
      IOper.mk (some 37) (IOp.faddr 9 (Opd.t 2)) (some (36, false)),
      IOper.mk (some 38) (IOp.load none (Opd.t 37)) (some (36, false)),
      IOper.mk (some 39) (IOp.bin BinOp.neq (Opd.t 38) (Opd.c (AV.int IntKind.i64 0)))
      (some (36, false)),
      IOper.mk (some 40) (IOp.mv (Opd.t 39)) (some (36, false)),
      IOper.mk (some 41) (IOp.faddr 9 (Opd.t 2)) (some (40, true)),
      IOper.mk (some 42) (IOp.load none (Opd.t 41)) (some (40, true)),
      IOper.mk (some 43) (IOp.faddr 7 (Opd.t 2)) (some (40, true)),
      IOper.mk (some 44) (IOp.load none (Opd.t 43)) (some (40, true)),
      IOper.mk (some 45) (IOp.bin BinOp.leq (Opd.t 42) (Opd.t 44)) (some (40, true)),
      IOper.mk (some 46) (IOp.pick (Opd.t 40) (Opd.t 45) (Opd.c (AV.bool false))) (some (36, false)),
      IOper.mk (some 47) (IOp.pick (Opd.t 36) (Opd.c (AV.bool true)) (Opd.t 46)) none,
      IOper.mk (some 25) (IOp.mv (Opd.t 47)) none]
      [26, 27, 28, 29, 30, 31, 32, 33, 34, 35, 36, 37, 38, 39, 40, 41, 42, 43, 44, 45, 46, 47])
      (IC.cond (Opd.t 25)
      (IC.seq (IC.ops false [IOper.mk (some 4) (IOp.mv (Opd.c (AV.bool false))) none] []) IC.ret)
      IC.nop)))))
      (IC.ops false []
      [6, 7, 8, 9, 10, 11, 12, 13, 14, 15, 16, 17, 18, 19, 20, 21, 22, 23, 24, 5, 26, 27, 28, 29, 30, 31, 32, 33,
      34, 35, 36, 37, 38, 39, 40, 41, 42, 43, 44, 45, 46, 47, 25]))
      (IC.seq
      (IC.ops false
      [IOper.mk (some 48) (IOp.faddr 8 (Opd.t 2)) none, IOper.mk (some 49) (IOp.load none (Opd.t 48)) none,
      IOper.mk (some 50) (IOp.bin BinOp.eql (Opd.t 49) (Opd.c (AV.int IntKind.i64 0))) none,
      IOper.mk (some 51) (IOp.mv (Opd.t 50)) none, IOper.mk (some 52) (IOp.faddr 9 (Opd.t 2)) (some (51, false)),
      IOper.mk (some 53) (IOp.load none (Opd.t 52)) (some (51, false)),
      IOper.mk (some 54) (IOp.bin BinOp.eql (Opd.t 53) (Opd.c (AV.int IntKind.i64 0)))
      (some (51, false)),
      IOper.mk (some 55) (IOp.pick (Opd.t 51) (Opd.c (AV.bool true)) (Opd.t 54)) none,
      IOper.mk (some 56) (IOp.mv (Opd.t 55)) none, IOper.mk (some 57) (IOp.faddr 8 (Opd.t 2)) (some (56, false)),
      IOper.mk (some 58) (IOp.load none (Opd.t 57)) (some (56, false)),
      IOper.mk (some 59) (IOp.faddr 9 (Opd.t 2)) (some (56, false)),
      IOper.mk (some 60) (IOp.load none (Opd.t 59)) (some (56, false)),
      IOper.mk (some 61) (IOp.bin BinOp.leq (Opd.t 58) (Opd.t 60)) (some (56, false)),
      IOper.mk (some 62) (IOp.pick (Opd.t 56) (Opd.c (AV.bool true)) (Opd.t 61)) none,
      IOper.mk (some 4) (IOp.mv (Opd.t 62)) none]
      [48, 49, 50, 51, 52, 53, 54, 55, 56, 57, 58, 59, 60, 61, 62])
      IC.ret)))
theorem fn_witness_timed : F 39 = some ir_witness_timed := by kernel_rfl

def ir_cmp_isNaN_int : IFun :=
  IFun.mk false 1 [IRes.tmp 2]
  (IC.seq (IC.ops false [IOper.mk (some 2) (IOp.mv (Opd.c (AV.bool false))) none] [])
    (IC.seq
      (IC.ops false
      [IOper.mk (some 3) (IOp.mv (Opd.t 0)) none, IOper.mk (some 4) (IOp.mv (Opd.t 0)) none,
      IOper.mk (some 5) (IOp.bin BinOp.neq (Opd.t 3) (Opd.t 4)) none, IOper.mk (some 2) (IOp.mv (Opd.t 5)) none]
      [3, 4, 5])
      IC.ret))
theorem fn_cmp_isNaN_int : F 58 = some ir_cmp_isNaN_int := by kernel_rfl

def ir_cursor_Table_Close : IFun :=
  IFun.mk false 2 [IRes.tmp 4]
  (IC.seq (IC.ops false [IOper.mk (some 4) (IOp.mv (Opd.c (AV.int IntKind.i64 0))) none] [])
    (IC.seq
      (IC.ops false
      [IOper.mk (some 8) (IOp.mv (Opd.t 0)) none, IOper.mk (some 9) (IOp.mv (Opd.t 1)) none,
      IOper.mk (some 10) (IOp.call (Opd.c (AV.func (Fn.func 106) [] [])) [Opd.t 8, Opd.t 9]) none,
      IOper.mk (some 7) (IOp.mv (Opd.t 10)) none, IOper.mk (some 11) (IOp.extr (Opd.t 7) 0) none,
      IOper.mk (some 12) (IOp.extr (Opd.t 7) 1) none,
      IOper.mk (some 5) (IOp.alloc [AV.str [], AV.str [], AV.bool false]) none,
      IOper.mk none (IOp.store 3 (Opd.t 5) (Opd.t 11)) none, IOper.mk (some 6) (IOp.mv (Opd.t 12)) none]
      [8, 9, 10, 7, 11, 12, 5])
      (IC.seq
      (IC.seq
      (IC.ops false
      [IOper.mk (some 13) (IOp.mv (Opd.t 6)) none,
      IOper.mk (some 14) (IOp.bin BinOp.eql (Opd.t 13) (Opd.c (AV.int IntKind.i64 0))) none]
      [13])
      (IC.cond (Opd.t 14)
      (IC.ops false
      [IOper.mk (some 15) (IOp.mv (Opd.t 0)) none, IOper.mk (some 16) (IOp.nilck (Opd.t 15)) none,
      IOper.mk (some 17) (IOp.faddr 1 (Opd.t 16)) none, IOper.mk (some 18) (IOp.load none (Opd.t 17)) none,
      IOper.mk (some 19) (IOp.mv (Opd.t 1)) none, IOper.mk none (IOp.del 0 (Opd.t 18) (Opd.t 19)) none]
      [15, 16, 17, 18, 19])
      IC.nop))
      (IC.seq
      (IC.ops false [IOper.mk (some 20) (IOp.mv (Opd.t 6)) none, IOper.mk (some 4) (IOp.mv (Opd.t 20)) none] [20])
      IC.ret))))
theorem fn_cursor_Table_Close : F 69 = some ir_cursor_Table_Close := by kernel_rfl

def ir_cursor_Table_Open : IFun :=
  IFun.mk false 2 [IRes.tmp 4, IRes.tmp 5]
  (IC.seq
    (IC.ops false
      [IOper.mk (some 3) (IOp.box 2 (Opd.t 1)) none,
      IOper.mk (some 4) (IOp.mv (Opd.c (AV.int IntKind.i64 0))) none,
      IOper.mk (some 5) (IOp.mv (Opd.c (AV.int IntKind.i64 0))) none]
      [])
    (IC.seq
      (IC.seq
      (IC.block 0
      (IC.seq
      (IC.ops false
      [IOper.mk (some 7) (IOp.mv (Opd.t 0)) none,
      IOper.mk (some 8) (IOp.eqn 0 false (Opd.t 7) (Opd.c AV.nilptr)) none,
      IOper.mk (some 6) (IOp.mv (Opd.t 8)) none]
      [7, 8])
      (IC.cond (Opd.t 6)
      (IC.seq
      (IC.ops false
      [IOper.mk (some 4) (IOp.mv (Opd.c (AV.int IntKind.i64 0))) none,
      IOper.mk (some 5) (IOp.mv (Opd.c (AV.int IntKind.i64 1))) none]
      [])
      IC.ret)
      (IC.seq
      (IC.ops false
      [IOper.mk (some 10) (IOp.load (some 2) (Opd.t 3)) none,
      IOper.mk (some 11) (IOp.call (Opd.c (AV.func (Fn.func 103) [] [])) [Opd.t 10]) none,
      IOper.mk (some 12) (IOp.not (Opd.t 11)) none, IOper.mk (some 9) (IOp.mv (Opd.t 12)) none]
      [10, 11, 12])
      (IC.cond (Opd.t 9)
      (IC.seq
      (IC.ops false
      [IOper.mk (some 4) (IOp.mv (Opd.c (AV.int IntKind.i64 0))) none,
      IOper.mk (some 5) (IOp.mv (Opd.c (AV.int IntKind.i64 7))) none]
      [])
      IC.ret)
      IC.nop)))))
      (IC.ops false [] [7, 8, 6, 10, 11, 12, 9]))
      (IC.seq
      (IC.ops false
      [IOper.mk (some 13) (IOp.mv (Opd.t 0)) none, IOper.mk (some 14) (IOp.nilck (Opd.t 13)) none,
      IOper.mk (some 15) (IOp.faddr 0 (Opd.t 14)) none, IOper.mk (some 16) (IOp.load none (Opd.t 15)) none,
      IOper.mk (some 17) (IOp.bin BinOp.add (Opd.t 16) (Opd.c (AV.int IntKind.i64 1))) none,
      IOper.mk (some 18) (IOp.nilck (Opd.t 13)) none, IOper.mk (some 19) (IOp.faddr 0 (Opd.t 18)) none,
      IOper.mk none (IOp.store 1 (Opd.t 19) (Opd.t 17)) none]
      [13, 14, 15, 16, 17, 18, 19])
      (IC.seq
      (IC.ops true
      [IOper.mk (some 20) (IOp.mv (Opd.t 0)) none, IOper.mk (some 21) (IOp.nilck (Opd.t 20)) none,
      IOper.mk (some 22) (IOp.faddr 1 (Opd.t 21)) none, IOper.mk (some 23) (IOp.load none (Opd.t 22)) none,
      IOper.mk (some 24) (IOp.mv (Opd.t 0)) none, IOper.mk (some 25) (IOp.nilck (Opd.t 24)) none,
      IOper.mk (some 26) (IOp.faddr 0 (Opd.t 25)) none, IOper.mk (some 27) (IOp.load none (Opd.t 26)) none,
      IOper.mk (some 28) (IOp.load (some 2) (Opd.t 3)) none,
      IOper.mk (some 29) (IOp.build [AV.str [], AV.str [], AV.bool false] [(0, 2, Opd.t 28)]) none,
      IOper.mk none (IOp.mapup 0 (Opd.t 23) (Opd.t 27) (Opd.t 29)) none]
      [20, 21, 22, 23, 24, 25, 26, 27, 28, 29])
      (IC.seq
      (IC.ops false
      [IOper.mk (some 30) (IOp.mv (Opd.t 0)) none, IOper.mk (some 31) (IOp.nilck (Opd.t 30)) none,
      IOper.mk (some 32) (IOp.faddr 0 (Opd.t 31)) none, IOper.mk (some 33) (IOp.load none (Opd.t 32)) none,
      IOper.mk (some 4) (IOp.mv (Opd.t 33)) none,
      IOper.mk (some 5) (IOp.mv (Opd.c (AV.int IntKind.i64 0))) none]
      [30, 31, 32, 33])
      IC.ret)))))
theorem fn_cursor_Table_Open : F 67 = some ir_cursor_Table_Open := by kernel_rfl

def ir_math_bits_Len32 : IFun :=
  IFun.mk false 1 [IRes.tmp 2]
  (IC.seq (IC.ops false [IOper.mk (some 2) (IOp.mv (Opd.c (AV.int IntKind.i64 0))) none] [])
    (IC.seq
      (IC.seq
      (IC.ops false
      [IOper.mk (some 3) (IOp.mv (Opd.t 0)) none,
      IOper.mk (some 4) (IOp.bin BinOp.geq (Opd.t 3) (Opd.c (AV.int IntKind.u32 65536))) none]
      [3])
      (IC.cond (Opd.t 4)
      (IC.seq
      (IC.ops false
      [IOper.mk (some 5) (IOp.mv (Opd.t 0)) none,
      IOper.mk (some 6) (IOp.bin BinOp.shr (Opd.t 5) (Opd.c (AV.int IntKind.u64 16))) none,
      IOper.mk (some 0) (IOp.mv (Opd.t 6)) none]
      [5, 6])
      (IC.ops false [IOper.mk (some 2) (IOp.mv (Opd.c (AV.int IntKind.i64 16))) none] []))
      IC.nop))
      (IC.seq
      (IC.seq
      (IC.ops false
      [IOper.mk (some 7) (IOp.mv (Opd.t 0)) none,
      IOper.mk (some 8) (IOp.bin BinOp.geq (Opd.t 7) (Opd.c (AV.int IntKind.u32 256))) none]
      [7])
      (IC.cond (Opd.t 8)
      (IC.seq
      (IC.ops false
      [IOper.mk (some 9) (IOp.mv (Opd.t 0)) none,
      IOper.mk (some 10) (IOp.bin BinOp.shr (Opd.t 9) (Opd.c (AV.int IntKind.u64 8))) none,
      IOper.mk (some 0) (IOp.mv (Opd.t 10)) none]
      [9, 10])
      (IC.ops false
      [IOper.mk (some 11) (IOp.mv (Opd.t 2)) none,
      IOper.mk (some 12) (IOp.bin BinOp.add (Opd.t 11) (Opd.c (AV.int IntKind.i64 8))) none,
      IOper.mk (some 2) (IOp.mv (Opd.t 12)) none]
      [11, 12]))
      IC.nop))
      (IC.seq
      (IC.ops false
      [IOper.mk (some 13) (IOp.mv (Opd.t 2)) none, IOper.mk (some 14) (IOp.mv (Opd.t 0)) none,
      IOper.mk (some 15) (IOp.conv IntKind.u8 (Opd.t 14)) none,
      IOper.mk (some 16)
      (IOp.ixs
      (Opd.c
      (AV.str
      [UInt8.ofNat 0, UInt8.ofNat 1, UInt8.ofNat 2, UInt8.ofNat 2, UInt8.ofNat 3, UInt8.ofNat 3,
      UInt8.ofNat 3, UInt8.ofNat 3, UInt8.ofNat 4, UInt8.ofNat 4, UInt8.ofNat 4, UInt8.ofNat 4,
      UInt8.ofNat 4, UInt8.ofNat 4, UInt8.ofNat 4, UInt8.ofNat 4, UInt8.ofNat 5, UInt8.ofNat 5,
      UInt8.ofNat 5, UInt8.ofNat 5, UInt8.ofNat 5, UInt8.ofNat 5, UInt8.ofNat 5, UInt8.ofNat 5,
      UInt8.ofNat 5, UInt8.ofNat 5, UInt8.ofNat 5, UInt8.ofNat 5, UInt8.ofNat 5, UInt8.ofNat 5,
      UInt8.ofNat 5, UInt8.ofNat 5, UInt8.ofNat 6, UInt8.ofNat 6, UInt8.ofNat 6, UInt8.ofNat 6,
      UInt8.ofNat 6, UInt8.ofNat 6, UInt8.ofNat 6, UInt8.ofNat 6, UInt8.ofNat 6, UInt8.ofNat 6,
      UInt8.ofNat 6, UInt8.ofNat 6, UInt8.ofNat 6, UInt8.ofNat 6, UInt8.ofNat 6, UInt8.ofNat 6,
      UInt8.ofNat 6, UInt8.ofNat 6, UInt8.ofNat 6, UInt8.ofNat 6, UInt8.ofNat 6, UInt8.ofNat 6,
      UInt8.ofNat 6, UInt8.ofNat 6, UInt8.ofNat 6, UInt8.ofNat 6, UInt8.ofNat 6, UInt8.ofNat 6,
      UInt8.ofNat 6, UInt8.ofNat 6, UInt8.ofNat 6, UInt8.ofNat 6, UInt8.ofNat 7, UInt8.ofNat 7,
      UInt8.ofNat 7, UInt8.ofNat 7, UInt8.ofNat 7, UInt8.ofNat 7, UInt8.ofNat 7, UInt8.ofNat 7,
      UInt8.ofNat 7, UInt8.ofNat 7, UInt8.ofNat 7, UInt8.ofNat 7, UInt8.ofNat 7, UInt8.ofNat 7,
      UInt8.ofNat 7, UInt8.ofNat 7, UInt8.ofNat 7, UInt8.ofNat 7, UInt8.ofNat 7, UInt8.ofNat 7,
      UInt8.ofNat 7, UInt8.ofNat 7, UInt8.ofNat 7, UInt8.ofNat 7, UInt8.ofNat 7, UInt8.ofNat 7,
      UInt8.ofNat 7, UInt8.ofNat 7, UInt8.ofNat 7, UInt8.ofNat 7, UInt8.ofNat 7, UInt8.ofNat 7,
      UInt8.ofNat 7, UInt8.ofNat 7, UInt8.ofNat 7, UInt8.ofNat 7, UInt8.ofNat 7, UInt8.ofNat 7,
      UInt8.ofNat 7, UInt8.ofNat 7, UInt8.ofNat 7, UInt8.ofNat 7, UInt8.ofNat 7, UInt8.ofNat 7,
      UInt8.ofNat 7, UInt8.ofNat 7, UInt8.ofNat 7, UInt8.ofNat 7, UInt8.ofNat 7, UInt8.ofNat 7,
      UInt8.ofNat 7, UInt8.ofNat 7, UInt8.ofNat 7, UInt8.ofNat 7, UInt8.ofNat 7, UInt8.ofNat 7,
      UInt8.ofNat 7, UInt8.ofNat 7, UInt8.ofNat 7, UInt8.ofNat 7, UInt8.ofNat 7, UInt8.ofNat 7,
      UInt8.ofNat 7, UInt8.ofNat 7, UInt8.ofNat 8, UInt8.ofNat 8, UInt8.ofNat 8, UInt8.ofNat 8,
      UInt8.ofNat 8, UInt8.ofNat 8, UInt8.ofNat 8, UInt8.ofNat 8, UInt8.ofNat 8, UInt8.ofNat 8,
      UInt8.ofNat 8, UInt8.ofNat 8, UInt8.ofNat 8, UInt8.ofNat 8, UInt8.ofNat 8, UInt8.ofNat 8,
      UInt8.ofNat 8, UInt8.ofNat 8, UInt8.ofNat 8, UInt8.ofNat 8, UInt8.ofNat 8, UInt8.ofNat 8,
      UInt8.ofNat 8, UInt8.ofNat 8, UInt8.ofNat 8, UInt8.ofNat 8, UInt8.ofNat 8, UInt8.ofNat 8,
      UInt8.ofNat 8, UInt8.ofNat 8, UInt8.ofNat 8, UInt8.ofNat 8, UInt8.ofNat 8, UInt8.ofNat 8,
      UInt8.ofNat 8, UInt8.ofNat 8, UInt8.ofNat 8, UInt8.ofNat 8, UInt8.ofNat 8, UInt8.ofNat 8,
      UInt8.ofNat 8, UInt8.ofNat 8, UInt8.ofNat 8, UInt8.ofNat 8, UInt8.ofNat 8, UInt8.ofNat 8,
      UInt8.ofNat 8, UInt8.ofNat 8, UInt8.ofNat 8, UInt8.ofNat 8, UInt8.ofNat 8, UInt8.ofNat 8,
      UInt8.ofNat 8, UInt8.ofNat 8, UInt8.ofNat 8, UInt8.ofNat 8, UInt8.ofNat 8, UInt8.ofNat 8,
      UInt8.ofNat 8, UInt8.ofNat 8, UInt8.ofNat 8, UInt8.ofNat 8, UInt8.ofNat 8, UInt8.ofNat 8,
      UInt8.ofNat 8, UInt8.ofNat 8, UInt8.ofNat 8, UInt8.ofNat 8, UInt8.ofNat 8, UInt8.ofNat 8,
      UInt8.ofNat 8, UInt8.ofNat 8, UInt8.ofNat 8, UInt8.ofNat 8, UInt8.ofNat 8, UInt8.ofNat 8,
      UInt8.ofNat 8, UInt8.ofNat 8, UInt8.ofNat 8, UInt8.ofNat 8, UInt8.ofNat 8, UInt8.ofNat 8,
      UInt8.ofNat 8, UInt8.ofNat 8, UInt8.ofNat 8, UInt8.ofNat 8, UInt8.ofNat 8, UInt8.ofNat 8,
      UInt8.ofNat 8, UInt8.ofNat 8, UInt8.ofNat 8, UInt8.ofNat 8, UInt8.ofNat 8, UInt8.ofNat 8,
      UInt8.ofNat 8, UInt8.ofNat 8, UInt8.ofNat 8, UInt8.ofNat 8, UInt8.ofNat 8, UInt8.ofNat 8,
      UInt8.ofNat 8, UInt8.ofNat 8, UInt8.ofNat 8, UInt8.ofNat 8, UInt8.ofNat 8, UInt8.ofNat 8,
      UInt8.ofNat 8, UInt8.ofNat 8, UInt8.ofNat 8, UInt8.ofNat 8, UInt8.ofNat 8, UInt8.ofNat 8,
      UInt8.ofNat 8, UInt8.ofNat 8, UInt8.ofNat 8, UInt8.ofNat 8, UInt8.ofNat 8, UInt8.ofNat 8,
      UInt8.ofNat 8, UInt8.ofNat 8, UInt8.ofNat 8, UInt8.ofNat 8, UInt8.ofNat 8, UInt8.ofNat 8,
      UInt8.ofNat 8, UInt8.ofNat 8, UInt8.ofNat 8, UInt8.ofNat 8]))
      (Opd.t 15))
      none,
      IOper.mk (some 17) (IOp.conv IntKind.i64 (Opd.t 16)) none,
      IOper.mk (some 18) (IOp.bin BinOp.add (Opd.t 13) (Opd.t 17)) none,
      IOper.mk (some 2) (IOp.mv (Opd.t 18)) none]
      [13, 14, 15, 16, 17, 18])
      IC.ret))))
theorem fn_math_bits_Len32 : F 79 = some ir_math_bits_Len32 := by kernel_rfl

def ir_math_bits_Len64 : IFun :=
  IFun.mk false 1 [IRes.tmp 2]
  (IC.seq (IC.ops false [IOper.mk (some 2) (IOp.mv (Opd.c (AV.int IntKind.i64 0))) none] [])
    (IC.seq
      (IC.seq
      (IC.ops false
      [IOper.mk (some 3) (IOp.mv (Opd.t 0)) none,
      IOper.mk (some 4) (IOp.bin BinOp.geq (Opd.t 3) (Opd.c (AV.int IntKind.u64 4294967296))) none]
      [3])
      (IC.cond (Opd.t 4)
      (IC.seq
      (IC.ops false
      [IOper.mk (some 5) (IOp.mv (Opd.t 0)) none,
      IOper.mk (some 6) (IOp.bin BinOp.shr (Opd.t 5) (Opd.c (AV.int IntKind.u64 32))) none,
      IOper.mk (some 0) (IOp.mv (Opd.t 6)) none]
      [5, 6])
      (IC.ops false [IOper.mk (some 2) (IOp.mv (Opd.c (AV.int IntKind.i64 32))) none] []))
      IC.nop))
      (IC.seq
      (IC.seq
      (IC.ops false
      [IOper.mk (some 7) (IOp.mv (Opd.t 0)) none,
      IOper.mk (some 8) (IOp.bin BinOp.geq (Opd.t 7) (Opd.c (AV.int IntKind.u64 65536))) none]
      [7])
      (IC.cond (Opd.t 8)
      (IC.seq
      (IC.ops false
      [IOper.mk (some 9) (IOp.mv (Opd.t 0)) none,
      IOper.mk (some 10) (IOp.bin BinOp.shr (Opd.t 9) (Opd.c (AV.int IntKind.u64 16))) none,
      IOper.mk (some 0) (IOp.mv (Opd.t 10)) none]
      [9, 10])
      (IC.ops false
      [IOper.mk (some 11) (IOp.mv (Opd.t 2)) none,
      IOper.mk (some 12) (IOp.bin BinOp.add (Opd.t 11) (Opd.c (AV.int IntKind.i64 16))) none,
      IOper.mk (some 2) (IOp.mv (Opd.t 12)) none]
      [11, 12]))
      IC.nop))
      (IC.seq
      (IC.seq
      (IC.ops false
      [IOper.mk (some 13) (IOp.mv (Opd.t 0)) none,
      IOper.mk (some 14) (IOp.bin BinOp.geq (Opd.t 13) (Opd.c (AV.int IntKind.u64 256))) none]
      [13])
      (IC.cond (Opd.t 14)
      (IC.seq
      (IC.ops false
      [IOper.mk (some 15) (IOp.mv (Opd.t 0)) none,
      IOper.mk (some 16) (IOp.bin BinOp.shr (Opd.t 15) (Opd.c (AV.int IntKind.u64 8))) none,
      IOper.mk (some 0) (IOp.mv (Opd.t 16)) none]
      [15, 16])
      (IC.ops false
      [IOper.mk (some 17) (IOp.mv (Opd.t 2)) none,
      IOper.mk (some 18) (IOp.bin BinOp.add (Opd.t 17) (Opd.c (AV.int IntKind.i64 8))) none,
      IOper.mk (some 2) (IOp.mv (Opd.t 18)) none]
      [17, 18]))
      IC.nop))
      (IC.seq
      (IC.ops false
      [IOper.mk (some 19) (IOp.mv (Opd.t 2)) none, IOper.mk (some 20) (IOp.mv (Opd.t 0)) none,
      IOper.mk (some 21) (IOp.conv IntKind.u8 (Opd.t 20)) none,
      IOper.mk (some 22)
      (IOp.ixs
      (Opd.c
      (AV.str
      [UInt8.ofNat 0, UInt8.ofNat 1, UInt8.ofNat 2, UInt8.ofNat 2, UInt8.ofNat 3, UInt8.ofNat 3,
      UInt8.ofNat 3, UInt8.ofNat 3, UInt8.ofNat 4, UInt8.ofNat 4, UInt8.ofNat 4, UInt8.ofNat 4,
      UInt8.ofNat 4, UInt8.ofNat 4, UInt8.ofNat 4, UInt8.ofNat 4, UInt8.ofNat 5, UInt8.ofNat 5,
      UInt8.ofNat 5, UInt8.ofNat 5, UInt8.ofNat 5, UInt8.ofNat 5, UInt8.ofNat 5, UInt8.ofNat 5,
      UInt8.ofNat 5, UInt8.ofNat 5, UInt8.ofNat 5, UInt8.ofNat 5, UInt8.ofNat 5, UInt8.ofNat 5,
      UInt8.ofNat 5, UInt8.ofNat 5, UInt8.ofNat 6, UInt8.ofNat 6, UInt8.ofNat 6, UInt8.ofNat 6,
      UInt8.ofNat 6, UInt8.ofNat 6, UInt8.ofNat 6, UInt8.ofNat 6, UInt8.ofNat 6, UInt8.ofNat 6,
      UInt8.ofNat 6, UInt8.ofNat 6, UInt8.ofNat 6, UInt8.ofNat 6, UInt8.ofNat 6, UInt8.ofNat 6,
      UInt8.ofNat 6, UInt8.ofNat 6, UInt8.ofNat 6, UInt8.ofNat 6, UInt8.ofNat 6, UInt8.ofNat 6,
      UInt8.ofNat 6, UInt8.ofNat 6, UInt8.ofNat 6, UInt8.ofNat 6, UInt8.ofNat 6, UInt8.ofNat 6,
      UInt8.ofNat 6, UInt8.ofNat 6, UInt8.ofNat 6, UInt8.ofNat 6, UInt8.ofNat 7, UInt8.ofNat 7,
      UInt8.ofNat 7, UInt8.ofNat 7, UInt8.ofNat 7, UInt8.ofNat 7, UInt8.ofNat 7, UInt8.ofNat 7,
      UInt8.ofNat 7, UInt8.ofNat 7, UInt8.ofNat 7, UInt8.ofNat 7, UInt8.ofNat 7, UInt8.ofNat 7,
      UInt8.ofNat 7, UInt8.ofNat 7, UInt8.ofNat 7, UInt8.ofNat 7, UInt8.ofNat 7, UInt8.ofNat 7,
      UInt8.ofNat 7, UInt8.ofNat 7, UInt8.ofNat 7, UInt8.ofNat 7, UInt8.ofNat 7, UInt8.ofNat 7,
      UInt8.ofNat 7, UInt8.ofNat 7, UInt8.ofNat 7, UInt8.ofNat 7, UInt8.ofNat 7, UInt8.ofNat 7,
      UInt8.ofNat 7, UInt8.ofNat 7, UInt8.ofNat 7, UInt8.ofNat 7, UInt8.ofNat 7, UInt8.ofNat 7,
      UInt8.ofNat 7, UInt8.ofNat 7, UInt8.ofNat 7, UInt8.ofNat 7, UInt8.ofNat 7, UInt8.ofNat 7,
      UInt8.ofNat 7, UInt8.ofNat 7, UInt8.ofNat 7, UInt8.ofNat 7, UInt8.ofNat 7, UInt8.ofNat 7,
      UInt8.ofNat 7, UInt8.ofNat 7, UInt8.ofNat 7, UInt8.ofNat 7, UInt8.ofNat 7, UInt8.ofNat 7,
      UInt8.ofNat 7, UInt8.ofNat 7, UInt8.ofNat 7, UInt8.ofNat 7, UInt8.ofNat 7, UInt8.ofNat 7,
      UInt8.ofNat 7, UInt8.ofNat 7, UInt8.ofNat 8, UInt8.ofNat 8, UInt8.ofNat 8, UInt8.ofNat 8,
      UInt8.ofNat 8, UInt8.ofNat 8, UInt8.ofNat 8, UInt8.ofNat 8, UInt8.ofNat 8, UInt8.ofNat 8,
      UInt8.ofNat 8, UInt8.ofNat 8, UInt8.ofNat 8, UInt8.ofNat 8, UInt8.ofNat 8, UInt8.ofNat 8,
      UInt8.ofNat 8, UInt8.ofNat 8, UInt8.ofNat 8, UInt8.ofNat 8, UInt8.ofNat 8, UInt8.ofNat 8,
      UInt8.ofNat 8, UInt8.ofNat 8, UInt8.ofNat 8, UInt8.ofNat 8, UInt8.ofNat 8, UInt8.ofNat 8,
      UInt8.ofNat 8, UInt8.ofNat 8, UInt8.ofNat 8, UInt8.ofNat 8, UInt8.ofNat 8, UInt8.ofNat 8,
      UInt8.ofNat 8, UInt8.ofNat 8, UInt8.ofNat 8, UInt8.ofNat 8, UInt8.ofNat 8, UInt8.ofNat 8,
      UInt8.ofNat 8, UInt8.ofNat 8, UInt8.ofNat 8, UInt8.ofNat 8, UInt8.ofNat 8, UInt8.ofNat 8,
      UInt8.ofNat 8, UInt8.ofNat 8, UInt8.ofNat 8, UInt8.ofNat 8, UInt8.ofNat 8, UInt8.ofNat 8,
      UInt8.ofNat 8, UInt8.ofNat 8, UInt8.ofNat 8, UInt8.ofNat 8, UInt8.ofNat 8, UInt8.ofNat 8,
      UInt8.ofNat 8, UInt8.ofNat 8, UInt8.ofNat 8, UInt8.ofNat 8, UInt8.ofNat 8, UInt8.ofNat 8,
      UInt8.ofNat 8, UInt8.ofNat 8, UInt8.ofNat 8, UInt8.ofNat 8, UInt8.ofNat 8, UInt8.ofNat 8,
      UInt8.ofNat 8, UInt8.ofNat 8, UInt8.ofNat 8, UInt8.ofNat 8, UInt8.ofNat 8, UInt8.ofNat 8,
      UInt8.ofNat 8, UInt8.ofNat 8, UInt8.ofNat 8, UInt8.ofNat 8, UInt8.ofNat 8, UInt8.ofNat 8,
      UInt8.ofNat 8, UInt8.ofNat 8, UInt8.ofNat 8, UInt8.ofNat 8, UInt8.ofNat 8, UInt8.ofNat 8,
      UInt8.ofNat 8, UInt8.ofNat 8, UInt8.ofNat 8, UInt8.ofNat 8, UInt8.ofNat 8, UInt8.ofNat 8,
      UInt8.ofNat 8, UInt8.ofNat 8, UInt8.ofNat 8, UInt8.ofNat 8, UInt8.ofNat 8, UInt8.ofNat 8,
      UInt8.ofNat 8, UInt8.ofNat 8, UInt8.ofNat 8, UInt8.ofNat 8, UInt8.ofNat 8, UInt8.ofNat 8,
      UInt8.ofNat 8, UInt8.ofNat 8, UInt8.ofNat 8, UInt8.ofNat 8, UInt8.ofNat 8, UInt8.ofNat 8,
      UInt8.ofNat 8, UInt8.ofNat 8, UInt8.ofNat 8, UInt8.ofNat 8, UInt8.ofNat 8, UInt8.ofNat 8,
      UInt8.ofNat 8, UInt8.ofNat 8, UInt8.ofNat 8, UInt8.ofNat 8, UInt8.ofNat 8, UInt8.ofNat 8,
      UInt8.ofNat 8, UInt8.ofNat 8, UInt8.ofNat 8, UInt8.ofNat 8]))
      (Opd.t 21))
      none,
      IOper.mk (some 23) (IOp.conv IntKind.i64 (Opd.t 22)) none,
      IOper.mk (some 24) (IOp.bin BinOp.add (Opd.t 19) (Opd.t 23)) none,
      IOper.mk (some 2) (IOp.mv (Opd.t 24)) none]
      [19, 20, 21, 22, 23, 24])
      IC.ret)))))
theorem fn_math_bits_Len64 : F 80 = some ir_math_bits_Len64 := by kernel_rfl

def ir_model_Model_next : IFun :=
  IFun.mk false 3 [IRes.cell 6 (some 6)]
  (IC.seq
    (IC.ops false
      [IOper.mk (some 6)
      (IOp.alloc
      [AV.int IntKind.i64 0, AV.bool false, AV.str [], AV.imm true 0 0 (some 0) [],
      AV.int IntKind.i64 0, AV.bool false])
      none]
      [])
    (IC.seq
      (IC.ops false
      [IOper.mk (some 13) (IOp.mv (Opd.t 0)) none, IOper.mk (some 14) (IOp.mv (Opd.t 1)) none,
      IOper.mk (some 15) (IOp.call (Opd.c (AV.func (Fn.func 66) [] [])) [Opd.t 13, Opd.t 14]) none,
      IOper.mk (some 7) (IOp.mv (Opd.t 15)) none]
      [13, 14, 15])
      (IC.seq
      (IC.ops false
      [IOper.mk (some 17) (IOp.mv (Opd.t 7)) none, IOper.mk (some 18) (IOp.mv (Opd.t 2)) none,
      IOper.mk (some 19) (IOp.call (Opd.c (AV.func (Fn.func 104) [] [])) [Opd.t 17, Opd.t 18]) none,
      IOper.mk (some 16) (IOp.mv (Opd.t 19)) none, IOper.mk (some 20) (IOp.extr (Opd.t 16) 0) none,
      IOper.mk (some 21) (IOp.extr (Opd.t 16) 1) none, IOper.mk (some 22) (IOp.extr (Opd.t 16) 2) none,
      IOper.mk (some 8) (IOp.alloc [AV.str [], AV.str []]) none,
      IOper.mk none (IOp.store 2 (Opd.t 8) (Opd.t 20)) none, IOper.mk (some 9) (IOp.mv (Opd.t 21)) none,
      IOper.mk (some 10) (IOp.mv (Opd.t 22)) none]
      [17, 18, 19, 16, 20, 21, 22])
      (IC.seq
      (IC.seq
      (IC.ops false
      [IOper.mk (some 23) (IOp.mv (Opd.t 10)) none,
      IOper.mk (some 24) (IOp.bin BinOp.neq (Opd.t 23) (Opd.c (AV.int IntKind.i64 0))) none]
      [23])
      (IC.cond (Opd.t 24)
      (IC.seq
      (IC.ops false
      [IOper.mk (some 25) (IOp.mv (Opd.t 10)) none,
      IOper.mk (some 26)
      (IOp.build
      [AV.int IntKind.i64 0, AV.bool false, AV.str [], AV.imm true 0 0 (some 0) [],
      AV.int IntKind.i64 0, AV.bool false]
      [(0, 1, Opd.t 25)])
      none,
      IOper.mk none (IOp.store 6 (Opd.t 6) (Opd.t 26)) none]
      [25, 26])
      IC.ret)
      IC.nop))
      (IC.seq (IC.ops false [IOper.mk (some 11) (IOp.mv (Opd.c (AV.imm true 0 0 (some 0) []))) none] [])
      (IC.seq
      (IC.seq
      (IC.ops false [IOper.mk (some 27) (IOp.mv (Opd.t 9)) none, IOper.mk (some 28) (IOp.not (Opd.t 27)) none]
      [27])
      (IC.cond (Opd.t 28)
      (IC.ops true
      [IOper.mk (some 29) (IOp.mv (Opd.t 0)) none, IOper.mk (some 30) (IOp.load (some 2) (Opd.t 8)) none,
      IOper.mk (some 31) (IOp.mv (Opd.t 0)) none, IOper.mk (some 32) (IOp.nilck (Opd.t 31)) none,
      IOper.mk (some 33) (IOp.faddr 0 (Opd.t 32)) none,
      IOper.mk (some 34) (IOp.faddr 8 (Opd.t 33)) none,
      IOper.mk (some 35) (IOp.load none (Opd.t 34)) none,
      IOper.mk (some 36) (IOp.call (Opd.c (AV.func (Fn.func 59) [] [])) [Opd.t 29, Opd.t 30, Opd.t 35])
      none,
      IOper.mk (some 11) (IOp.mv (Opd.t 36)) none]
      [29, 30, 31, 32, 33, 34, 35, 36])
      IC.nop))
      (IC.seq
      (IC.ops false
      [IOper.mk (some 38) (IOp.mv (Opd.t 7)) none, IOper.mk (some 39) (IOp.mv (Opd.t 2)) none,
      IOper.mk (some 40) (IOp.mv (Opd.t 11)) none, IOper.mk (some 41) (IOp.mv (Opd.t 0)) none,
      IOper.mk (some 42) (IOp.nilck (Opd.t 41)) none, IOper.mk (some 43) (IOp.faddr 0 (Opd.t 42)) none,
      IOper.mk (some 44) (IOp.faddr 8 (Opd.t 43)) none,
      IOper.mk (some 45) (IOp.load none (Opd.t 44)) none,
      IOper.mk (some 46)
      (IOp.call (Opd.c (AV.func (Fn.func 105) [] [])) [Opd.t 38, Opd.t 39, Opd.t 40, Opd.t 45]) none,
      IOper.mk (some 37) (IOp.mv (Opd.t 46)) none, IOper.mk (some 47) (IOp.extr (Opd.t 37) 0) none,
      IOper.mk (some 48) (IOp.extr (Opd.t 37) 1) none, IOper.mk (some 12) (IOp.mv (Opd.t 47)) none,
      IOper.mk (some 10) (IOp.mv (Opd.t 48)) none]
      [38, 39, 40, 41, 42, 43, 44, 45, 46, 37, 47, 48])
      (IC.seq
      (IC.ops false
      [IOper.mk (some 49) (IOp.mv (Opd.t 10)) none, IOper.mk (some 50) (IOp.mv (Opd.t 11)) none,
      IOper.mk (some 51) (IOp.mv (Opd.t 12)) none,
      IOper.mk (some 52)
      (IOp.build
      [AV.int IntKind.i64 0, AV.bool false, AV.str [], AV.imm true 0 0 (some 0) [],
      AV.int IntKind.i64 0, AV.bool false]
      [(0, 1, Opd.t 49), (3, 1, Opd.t 50), (5, 1, Opd.t 51)])
      none,
      IOper.mk none (IOp.store 6 (Opd.t 6) (Opd.t 52)) none]
      [49, 50, 51, 52])
      IC.ret))))))))
theorem fn_model_Model_next : F 68 = some ir_model_Model_next := by kernel_rfl

def ir_model_Model_send : IFun :=
  IFun.mk false 2 []
  (IC.seq
    (IC.ops false
      [IOper.mk (some 11) (IOp.mv (Opd.t 0)) none, IOper.mk (some 12) (IOp.nilck (Opd.t 11)) none,
      IOper.mk (some 13) (IOp.faddr 12 (Opd.t 12)) none, IOper.mk (some 14) (IOp.load none (Opd.t 13)) none,
      IOper.mk (some 15) (IOp.bin BinOp.add (Opd.t 14) (Opd.c (AV.int IntKind.i64 1))) none,
      IOper.mk (some 16) (IOp.nilck (Opd.t 11)) none, IOper.mk (some 17) (IOp.faddr 12 (Opd.t 16)) none,
      IOper.mk none (IOp.store 1 (Opd.t 17) (Opd.t 15)) none]
      [11, 12, 13, 14, 15, 16, 17])
    (IC.seq
      (IC.ops false
      [IOper.mk (some 18) (IOp.mv (Opd.t 1)) none, IOper.mk (some 19) (IOp.len (Opd.t 18)) none,
      IOper.mk (some 20) (IOp.mv (Opd.c (AV.int IntKind.i64 0))) none]
      [])
      (IC.seq
      (IC.block 0
      (IC.loop
      (IC.seq
      (IC.seq (IC.ops false [IOper.mk (some 21) (IOp.bin BinOp.lss (Opd.t 20) (Opd.t 19)) none] [])
      (IC.seq (IC.cond (Opd.t 21) IC.nop (IC.exit 0))
      (IC.seq
      (IC.seq
      (IC.block 1
      (IC.seq
      (IC.ops false
      [IOper.mk (some 22) (IOp.ixa 6 (Opd.t 18) (Opd.t 20)) none,
      IOper.mk (some 23) (IOp.load (some 6) (Opd.t 22)) none,
      IOper.mk (some 5)
      (IOp.alloc
      [AV.int IntKind.u8 0, AV.int IntKind.i64 0, AV.str [],
      AV.str [], AV.str [], AV.int IntKind.u64 0])
      none,
      IOper.mk none (IOp.store 6 (Opd.t 5) (Opd.t 23)) none]
      [22, 23])
      (IC.seq
      (IC.ops false
      [IOper.mk (some 24) (IOp.load (some 6) (Opd.t 5)) none,
      IOper.mk (some 25) (IOp.callp 98 [Opd.t 24]) none,
      IOper.mk (some 6) (IOp.alloc [AV.str [], AV.str []]) none,
      IOper.mk none (IOp.store 2 (Opd.t 6) (Opd.t 25)) none]
      [24, 25])
      (IC.seq
      (IC.seq
      (IC.ops false
      [IOper.mk (some 26) (IOp.faddr 0 (Opd.t 5)) none,
      IOper.mk (some 27) (IOp.load none (Opd.t 26)) none,
      IOper.mk (some 28)
      (IOp.bin BinOp.eql (Opd.t 27) (Opd.c (AV.int IntKind.u8 4))) none]
      [26, 27])
      (IC.cond (Opd.t 28)
      (IC.seq
      (IC.seq
      (IC.seq (IC.ops false [IOper.mk none (IOp.slots 0) none] [])
      (IC.multi
      [[IOper.mk (some 29) (IOp.mv (Opd.t 0)) none,
      IOper.mk (some 31) (IOp.mv (Opd.t 0)) none,
      IOper.mk (some 32) (IOp.nilck (Opd.t 31)) none,
      IOper.mk (some 33) (IOp.faddr 10 (Opd.t 32)) none,
      IOper.mk (some 34) (IOp.load none (Opd.t 33)) none,
      IOper.mk (some 38) (IOp.mv (Opd.c (AV.int IntKind.i64 0)))
      none,
      IOper.mk (some 30) (IOp.load (some 2) (Opd.t 6)) none,
      IOper.mk (some 35)
      (IOp.call (Opd.c (AV.func (Fn.func 60) [] [])) [Opd.t 34]) none,
      IOper.mk (some 36)
      (IOp.call (Opd.c (AV.func (Fn.func 59) [] []))
      [Opd.t 29, Opd.t 30, Opd.t 35])
      none,
      IOper.mk (some 37) (IOp.len (Opd.t 36)) none],
      [IOper.mk (some 29) (IOp.mv (Opd.t 0)) none,
      IOper.mk (some 31) (IOp.mv (Opd.t 0)) none,
      IOper.mk (some 32) (IOp.nilck (Opd.t 31)) none,
      IOper.mk (some 33) (IOp.faddr 10 (Opd.t 32)) none,
      IOper.mk (some 34) (IOp.load none (Opd.t 33)) none,
      IOper.mk (some 38) (IOp.mv (Opd.c (AV.int IntKind.i64 0)))
      none,
      IOper.mk (some 35)
      (IOp.call (Opd.c (AV.func (Fn.func 60) [] [])) [Opd.t 34]) none,
      IOper.mk (some 30) (IOp.load (some 2) (Opd.t 6)) none,
      IOper.mk (some 36)
      (IOp.call (Opd.c (AV.func (Fn.func 59) [] []))
      [Opd.t 29, Opd.t 30, Opd.t 35])
      none,
      IOper.mk (some 37) (IOp.len (Opd.t 36)) none]]
      [29, 30, 31, 32, 33, 34, 35]))
      (IC.seq
      (IC.block 2
      (IC.loop
      (IC.seq
      (IC.seq
      (IC.ops false
      [IOper.mk (some 39) (IOp.bin BinOp.lss (Opd.t 38) (Opd.t 37)) none]
      [])
      (IC.seq (IC.cond (Opd.t 39) IC.nop (IC.exit 2))
      (IC.seq
      (IC.seq
      (IC.block 3
      (IC.seq
      (IC.ops false
      [IOper.mk (some 40) (IOp.ixa 2 (Opd.t 36) (Opd.t 38)) none,
      IOper.mk (some 41) (IOp.load (some 2) (Opd.t 40)) none,
      IOper.mk (some 8) (IOp.alloc [AV.str [], AV.str []]) none,
      IOper.mk none (IOp.store 2 (Opd.t 8) (Opd.t 41)) none]
      [40, 41])
      (IC.ops true
      [IOper.mk (some 42) (IOp.mv (Opd.t 0)) none,
      IOper.mk (some 43) (IOp.nilck (Opd.t 42)) none,
      IOper.mk (some 44) (IOp.faddr 10 (Opd.t 43)) none,
      IOper.mk (some 45) (IOp.load none (Opd.t 44)) none,
      IOper.mk (some 46) (IOp.faddr 0 (Opd.t 8)) none,
      IOper.mk (some 47) (IOp.load none (Opd.t 46)) none,
      IOper.mk (some 48)
      (IOp.call (Opd.c (AV.func (Fn.func 99) [] []))
      [Opd.t 45, Opd.t 47])
      none]
      [42, 43, 44, 45, 46, 47, 48])))
      (IC.ops false [] [40, 41, 8, 42, 43, 44, 45, 46, 47, 48]))
      (IC.ops false
      [IOper.mk (some 49)
      (IOp.bin BinOp.add (Opd.t 38)
      (Opd.c (AV.int IntKind.i64 1)))
      none,
      IOper.mk (some 38) (IOp.mv (Opd.t 49)) none]
      [49]))))
      (IC.ops false [] [39, 40, 41, 8, 42, 43, 44, 45, 46, 47, 48, 49]))))
      (IC.ops false [] [39, 40, 41, 8, 42, 43, 44, 45, 46, 47, 48, 49])))
      (IC.exit 1))
      IC.nop))
      (IC.seq
      (IC.ops true
      [IOper.mk (some 51) (IOp.mv (Opd.t 0)) none,
      IOper.mk (some 52) (IOp.nilck (Opd.t 51)) none,
      IOper.mk (some 53) (IOp.faddr 10 (Opd.t 52)) none,
      IOper.mk (some 54) (IOp.load none (Opd.t 53)) none,
      IOper.mk (some 55) (IOp.faddr 2 (Opd.t 5)) none,
      IOper.mk (some 56) (IOp.load none (Opd.t 55)) none,
      IOper.mk (some 57)
      (IOp.call (Opd.c (AV.func (Fn.func 64) [] [])) [Opd.t 54, Opd.t 56]) none,
      IOper.mk (some 50) (IOp.mv (Opd.t 57)) none,
      IOper.mk (some 58) (IOp.extr (Opd.t 50) 0) none,
      IOper.mk (some 59) (IOp.extr (Opd.t 50) 1) none,
      IOper.mk (some 9) (IOp.mv (Opd.t 58)) none,
      IOper.mk (some 10) (IOp.mv (Opd.t 59)) none]
      [51, 52, 53, 54, 55, 56, 57, 50, 58, 59])
      (IC.seq
      (IC.ops false
      [IOper.mk (some 61) (IOp.load (some 6) (Opd.t 5)) none,
      IOper.mk (some 62) (IOp.mv (Opd.t 9)) none,
      IOper.mk (some 63) (IOp.mv (Opd.t 10)) none,
      IOper.mk (some 64)
      (IOp.call (Opd.c (AV.func (Fn.func 100) [] [])) [Opd.t 61, Opd.t 62, Opd.t 63])
      none,
      IOper.mk (some 60) (IOp.mv (Opd.t 64)) none,
      IOper.mk (some 65) (IOp.extr (Opd.t 60) 0) none,
      IOper.mk (some 66) (IOp.extr (Opd.t 60) 1) none,
      IOper.mk (some 9) (IOp.mv (Opd.t 65)) none,
      IOper.mk (some 10) (IOp.mv (Opd.t 66)) none]
      [61, 62, 63, 64, 60, 65, 66])
      (IC.seq (IC.ops false [IOper.mk (some 67) (IOp.mv (Opd.t 10)) none] [])
      (IC.cond (Opd.t 67)
      (IC.ops true
      [IOper.mk (some 68) (IOp.mv (Opd.t 0)) none,
      IOper.mk (some 69) (IOp.nilck (Opd.t 68)) none,
      IOper.mk (some 70) (IOp.faddr 10 (Opd.t 69)) none,
      IOper.mk (some 71) (IOp.load none (Opd.t 70)) none,
      IOper.mk (some 72) (IOp.faddr 2 (Opd.t 5)) none,
      IOper.mk (some 73) (IOp.load none (Opd.t 72)) none,
      IOper.mk (some 74) (IOp.mv (Opd.t 9)) none,
      IOper.mk (some 75)
      (IOp.call (Opd.c (AV.func (Fn.func 101) [] []))
      [Opd.t 71, Opd.t 73, Opd.t 74])
      none]
      [68, 69, 70, 71, 72, 73, 74, 75])
      (IC.ops true
      [IOper.mk (some 76) (IOp.mv (Opd.t 0)) none,
      IOper.mk (some 77) (IOp.nilck (Opd.t 76)) none,
      IOper.mk (some 78) (IOp.faddr 10 (Opd.t 77)) none,
      IOper.mk (some 79) (IOp.load none (Opd.t 78)) none,
      IOper.mk (some 80) (IOp.faddr 2 (Opd.t 5)) none,
      IOper.mk (some 81) (IOp.load none (Opd.t 80)) none,
      IOper.mk (some 82)
      (IOp.call (Opd.c (AV.func (Fn.func 99) [] [])) [Opd.t 79, Opd.t 81]) none]
      [76, 77, 78, 79, 80, 81, 82])))))))))
      (IC.ops false []
      [22, 23, 5, 24, 25, 6, 26, 27, 28, 29, 30, 31, 32, 33, 34, 35, 36, 37, 39, 40, 41, 8, 42, 43,
      44, 45, 46, 47, 48, 49, 38, 51, 52, 53, 54, 55, 56, 57, 50, 58, 59, 61, 62, 63, 64, 60, 65,
      66, 9, 10, 67, 68, 69, 70, 71, 72, 73, 74, 75, 76, 77, 78, 79, 80, 81, 82]))
      (IC.ops false
      [IOper.mk (some 83) (IOp.bin BinOp.add (Opd.t 20) (Opd.c (AV.int IntKind.i64 1)))
      none,
      IOper.mk (some 20) (IOp.mv (Opd.t 83)) none]
      [83]))))
      (IC.ops false []
      [21, 22, 23, 5, 24, 25, 6, 26, 27, 28, 29, 30, 31, 32, 33, 34, 35, 36, 37, 39, 40, 41, 8, 42, 43, 44,
      45, 46, 47, 48, 49, 38, 51, 52, 53, 54, 55, 56, 57, 50, 58, 59, 61, 62, 63, 64, 60, 65, 66, 9, 10, 67,
      68, 69, 70, 71, 72, 73, 74, 75, 76, 77, 78, 79, 80, 81, 82, 83]))))
      (IC.ops false []
      [21, 22, 23, 5, 24, 25, 6, 26, 27, 28, 29, 30, 31, 32, 33, 34, 35, 36, 37, 39, 40, 41, 8, 42, 43, 44, 45, 46,
      47, 48, 49, 38, 51, 52, 53, 54, 55, 56, 57, 50, 58, 59, 61, 62, 63, 64, 60, 65, 66, 9, 10, 67, 68, 69, 70,
      71, 72, 73, 74, 75, 76, 77, 78, 79, 80, 81, 82, 83]))))
theorem fn_model_Model_send : F 65 = some ir_model_Model_send := by kernel_rfl

def ir_model_Model_some : IFun :=
  IFun.mk false 3 [IRes.tmp 6]
  (IC.seq
    (IC.ops false
      [IOper.mk (some 4) (IOp.box 2 (Opd.t 1)) none, IOper.mk (some 5) (IOp.box 1 (Opd.t 2)) none,
      IOper.mk (some 6) (IOp.mv (Opd.c (AV.imm true 0 0 (some 0) []))) none]
      [])
    (IC.seq (IC.ops false [IOper.mk (some 7) (IOp.alloc [AV.imm true 0 0 (some 0) []]) none] [])
      (IC.seq
      (IC.seq
      (IC.ops true
      [IOper.mk (some 10) (IOp.mv (Opd.t 0)) none, IOper.mk (some 11) (IOp.nilck (Opd.t 10)) none,
      IOper.mk (some 12) (IOp.faddr 10 (Opd.t 11)) none, IOper.mk (some 13) (IOp.load none (Opd.t 12)) none,
      IOper.mk (some 14) (IOp.faddr 0 (Opd.t 4)) none, IOper.mk (some 15) (IOp.load none (Opd.t 14)) none,
      IOper.mk (some 16) (IOp.call (Opd.c (AV.func (Fn.func 92) [] [])) [Opd.t 13, Opd.t 15]) none]
      [10, 11, 12, 13, 14, 15])
      (IC.seq
      (IC.block 0
      (IC.rangeF (Opd.t 16) [17, 18]
      (IC.seq (IC.ops false [IOper.mk (some 8) (IOp.mv (Opd.t 17)) none] [])
      (IC.ops false [IOper.mk (some 9) (IOp.mv (Opd.t 18)) none] []))
      (IC.seq
      (IC.block 1
      (IC.seq
      (IC.seq
      (IC.ops false
      [IOper.mk (some 19) (IOp.load none (Opd.t 7)) none,
      IOper.mk (some 20) (IOp.len (Opd.t 19)) none,
      IOper.mk (some 21) (IOp.load none (Opd.t 5)) none,
      IOper.mk (some 22) (IOp.bin BinOp.geq (Opd.t 20) (Opd.t 21)) none,
      IOper.mk (some 23) (IOp.mv (Opd.t 22)) none,
      IOper.mk (some 24) (IOp.load (some 2) (Opd.t 4)) (some (23, false)),
      IOper.mk (some 25) (IOp.mv (Opd.t 8)) (some (23, false)),
      IOper.mk (some 26) (IOp.call (Opd.c (AV.func (Fn.func 93) [] [])) [Opd.t 24, Opd.t 25])
      (some (23, false)),
      IOper.mk (some 27) (IOp.not (Opd.t 26)) (some (23, false)),
      IOper.mk (some 28) (IOp.pick (Opd.t 23) (Opd.c (AV.bool true)) (Opd.t 27)) none]
      [19, 20, 21, 22, 23, 24, 25, 26, 27])
      (IC.cond (Opd.t 28) (IC.exit 0) IC.nop))
      (IC.ops false
      [IOper.mk (some 29) (IOp.load none (Opd.t 7)) none, IOper.mk (some 30) (IOp.mv (Opd.t 8)) none,
      IOper.mk (some 31) (IOp.mv (Opd.t 9)) none,
      IOper.mk (some 32) (IOp.build [AV.str [], AV.str []] [(0, 1, Opd.t 30), (1, 1, Opd.t 31)])
      none,
      IOper.mk (some 33) (IOp.bsl false 2 1 [AV.str [], AV.str []] [(0, 2, Opd.t 32)]) none,
      IOper.mk (some 34) (IOp.append 2 32 (Opd.t 29) (Opd.t 33)) none,
      IOper.mk none (IOp.store 1 (Opd.t 7) (Opd.t 34)) none]
      [29, 30, 31, 32, 33, 34])))
      (IC.ops false [] [19, 20, 21, 22, 23, 24, 25, 26, 27, 28, 29, 30, 31, 32, 33, 34]))))
      (IC.ops false [] [17, 18, 8, 9, 19, 20, 21, 22, 23, 24, 25, 26, 27, 28, 29, 30, 31, 32, 33, 34])))
      (IC.seq
      (IC.ops false [IOper.mk (some 35) (IOp.load none (Opd.t 7)) none, IOper.mk (some 6) (IOp.mv (Opd.t 35)) none]
      [35])
      IC.ret))))
theorem fn_model_Model_some : F 59 = some ir_model_Model_some := by kernel_rfl

def ir_model_Model_table : IFun :=
  IFun.mk true 2 [IRes.tmp 4]
  (IC.seq (IC.ops false [IOper.mk (some 4) (IOp.mv (Opd.c AV.nilptr)) none] [])
    (IC.seq
      (IC.seq
      (IC.ops false
      [IOper.mk (some 5) (IOp.mv (Opd.t 0)) none, IOper.mk (some 6) (IOp.nilck (Opd.t 5)) none,
      IOper.mk (some 7) (IOp.faddr 11 (Opd.t 6)) none, IOper.mk (some 8) (IOp.load none (Opd.t 7)) none,
      IOper.mk (some 9) (IOp.mv (Opd.t 1)) none,
      IOper.mk (some 10) (IOp.look 0 AV.nilptr false (Opd.t 8) (Opd.t 9)) none,
      IOper.mk (some 11) (IOp.eqn 0 false (Opd.t 10) (Opd.c AV.nilptr)) none]
      [5, 6, 7, 8, 9, 10])
      (IC.cond (Opd.t 11)
      (IC.seq (IC.ops false [IOper.mk none (IOp.slots 0) none] [])
      (IC.multi
      [[IOper.mk (some 12) (IOp.mv (Opd.t 0)) none, IOper.mk (some 13) (IOp.nilck (Opd.t 12)) none,
      IOper.mk (some 14) (IOp.faddr 11 (Opd.t 13)) none, IOper.mk (some 16) (IOp.mv (Opd.t 1)) none,
      IOper.mk (some 15) (IOp.load none (Opd.t 14)) none,
      IOper.mk (some 17) (IOp.call (Opd.c (AV.func (Fn.func 102) [] [])) []) none,
      IOper.mk none (IOp.mapup 0 (Opd.t 15) (Opd.t 16) (Opd.t 17)) none],
      [IOper.mk (some 12) (IOp.mv (Opd.t 0)) none, IOper.mk (some 13) (IOp.nilck (Opd.t 12)) none,
      IOper.mk (some 14) (IOp.faddr 11 (Opd.t 13)) none, IOper.mk (some 16) (IOp.mv (Opd.t 1)) none,
      IOper.mk (some 17) (IOp.call (Opd.c (AV.func (Fn.func 102) [] [])) []) none,
      IOper.mk (some 15) (IOp.load none (Opd.t 14)) none,
      IOper.mk none (IOp.mapup 0 (Opd.t 15) (Opd.t 16) (Opd.t 17)) none]]
      [12, 13, 14, 15, 16, 17]))
      IC.nop))
      (IC.seq
      (IC.ops false
      [IOper.mk (some 18) (IOp.mv (Opd.t 0)) none, IOper.mk (some 19) (IOp.nilck (Opd.t 18)) none,
      IOper.mk (some 20) (IOp.faddr 11 (Opd.t 19)) none, IOper.mk (some 21) (IOp.load none (Opd.t 20)) none,
      IOper.mk (some 22) (IOp.mv (Opd.t 1)) none,
      IOper.mk (some 23) (IOp.look 0 AV.nilptr false (Opd.t 21) (Opd.t 22)) none,
      IOper.mk (some 4) (IOp.mv (Opd.t 23)) none]
      [18, 19, 20, 21, 22, 23])
      IC.ret)))
theorem fn_model_Model_table : F 66 = some ir_model_Model_table := by kernel_rfl

def ir_order_Map_string_string_Get : IFun :=
  IFun.mk true 2 [IRes.tmp 4, IRes.tmp 5]
  (IC.seq
    (IC.ops false
      [IOper.mk (some 4) (IOp.mv (Opd.c (AV.str []))) none, IOper.mk (some 5) (IOp.mv (Opd.c (AV.bool false))) none] [])
    (IC.seq
      (IC.seq
      (IC.ops false
      [IOper.mk (some 8) (IOp.mv (Opd.t 0)) none,
      IOper.mk (some 9) (IOp.eqn 0 true (Opd.t 8) (Opd.c AV.nilptr)) none]
      [8])
      (IC.cond (Opd.t 9)
      (IC.seq
      (IC.ops false
      [IOper.mk (some 10) (IOp.mv (Opd.t 0)) none, IOper.mk (some 11) (IOp.nilck (Opd.t 10)) none,
      IOper.mk (some 12) (IOp.faddr 0 (Opd.t 11)) none, IOper.mk (some 13) (IOp.load none (Opd.t 12)) none,
      IOper.mk (some 14) (IOp.mv (Opd.t 1)) none,
      IOper.mk (some 15) (IOp.call (Opd.c (AV.func (Fn.func 97) [] [])) [Opd.t 13, Opd.t 14]) none,
      IOper.mk (some 6) (IOp.mv (Opd.t 15)) none]
      [10, 11, 12, 13, 14, 15])
      (IC.seq
      (IC.ops false
      [IOper.mk (some 16) (IOp.mv (Opd.t 6)) none,
      IOper.mk (some 17) (IOp.eqn 0 true (Opd.t 16) (Opd.c AV.nilptr)) none]
      [16])
      (IC.cond (Opd.t 17)
      (IC.seq
      (IC.ops false
      [IOper.mk (some 18) (IOp.mv (Opd.t 6)) none, IOper.mk (some 19) (IOp.nilck (Opd.t 18)) none,
      IOper.mk (some 20) (IOp.faddr 1 (Opd.t 19)) none,
      IOper.mk (some 21) (IOp.load none (Opd.t 20)) none, IOper.mk (some 4) (IOp.mv (Opd.t 21)) none,
      IOper.mk (some 5) (IOp.mv (Opd.c (AV.bool true))) none]
      [18, 19, 20, 21])
      IC.ret)
      IC.nop)))
      IC.nop))
      (IC.seq (IC.ops false [IOper.mk (some 7) (IOp.mv (Opd.c (AV.str []))) none] [])
      (IC.seq
      (IC.ops false
      [IOper.mk (some 22) (IOp.mv (Opd.t 7)) none, IOper.mk (some 4) (IOp.mv (Opd.t 22)) none,
      IOper.mk (some 5) (IOp.mv (Opd.c (AV.bool false))) none]
      [22])
      IC.ret))))
theorem fn_order_Map_string_string_Get : F 64 = some ir_order_Map_string_string_Get := by kernel_rfl

def ir_room_Ask : IFun :=
  IFun.mk false 2 [IRes.tmp 4]
  (IC.seq
    (IC.ops false
      [IOper.mk (some 2) (IOp.box 5 (Opd.t 0)) none, IOper.mk (some 3) (IOp.box 9 (Opd.t 1)) none,
      IOper.mk (some 4) (IOp.mv (Opd.c (AV.int IntKind.i64 0))) none]
      [])
    (IC.seq
      (IC.seq
      (IC.ops false
      [IOper.mk (some 6) (IOp.load (some 5) (Opd.t 2)) none,
      IOper.mk (some 7) (IOp.call (Opd.c (AV.func (Fn.func 95) [] [])) [Opd.t 6]) none,
      IOper.mk (some 5)
      (IOp.alloc
      [AV.int IntKind.u8 0, AV.str [], AV.str [], AV.int IntKind.i64 0,
      AV.imm true 0 0 (some 0) []])
      none,
      IOper.mk none (IOp.store 5 (Opd.t 5) (Opd.t 7)) none]
      [6, 7])
      (IC.seq
      (IC.ops false
      [IOper.mk (some 8) (IOp.faddr 0 (Opd.t 2)) none, IOper.mk (some 9) (IOp.load none (Opd.t 8)) none,
      IOper.mk (some 10) (IOp.conv IntKind.i64 (Opd.t 9)) none,
      IOper.mk (some 11)
      (IOp.call (Opd.c (AV.func (Fn.func 61) [] []))
      [Opd.t 10, Opd.c (AV.int IntKind.i64 1), Opd.c (AV.int IntKind.i64 6)])
      none,
      IOper.mk (some 12) (IOp.not (Opd.t 11)) none, IOper.mk (some 13) (IOp.mv (Opd.t 12)) none,
      IOper.mk (some 14) (IOp.faddr 1 (Opd.t 5)) (some (13, false)),
      IOper.mk (some 15) (IOp.load none (Opd.t 14)) (some (13, false)),
      IOper.mk (some 16) (IOp.bin BinOp.neq (Opd.t 15) (Opd.c (AV.str []))) (some (13, false)),
      IOper.mk (some 17) (IOp.pick (Opd.t 13) (Opd.c (AV.bool true)) (Opd.t 16)) none,
      IOper.mk (some 18) (IOp.mv (Opd.t 17)) none,
      IOper.mk (some 19) (IOp.faddr 2 (Opd.t 5)) (some (18, false)),
      IOper.mk (some 20) (IOp.load none (Opd.t 19)) (some (18, false)),
      IOper.mk (some 21) (IOp.bin BinOp.neq (Opd.t 20) (Opd.c (AV.str []))) (some (18, false)),
      IOper.mk (some 22) (IOp.pick (Opd.t 18) (Opd.c (AV.bool true)) (Opd.t 21)) none,
      IOper.mk (some 23) (IOp.mv (Opd.t 22)) none,
      IOper.mk (some 24) (IOp.faddr 3 (Opd.t 5)) (some (23, false)),
      IOper.mk (some 25) (IOp.load none (Opd.t 24)) (some (23, false)),
      IOper.mk (some 26) (IOp.bin BinOp.neq (Opd.t 25) (Opd.c (AV.int IntKind.i64 0)))
      (some (23, false)),
      IOper.mk (some 27) (IOp.pick (Opd.t 23) (Opd.c (AV.bool true)) (Opd.t 26)) none,
      IOper.mk (some 28) (IOp.mv (Opd.t 27)) none,
      IOper.mk (some 29) (IOp.faddr 4 (Opd.t 5)) (some (28, false)),
      IOper.mk (some 30) (IOp.load none (Opd.t 29)) (some (28, false)),
      IOper.mk (some 31) (IOp.len (Opd.t 30)) (some (28, false)),
      IOper.mk (some 32) (IOp.bin BinOp.gtr (Opd.t 31) (Opd.c (AV.int IntKind.i64 0)))
      (some (28, false)),
      IOper.mk (some 33) (IOp.pick (Opd.t 28) (Opd.c (AV.bool true)) (Opd.t 32)) none]
      [8, 9, 10, 11, 12, 13, 14, 15, 16, 17, 18, 19, 20, 21, 22, 23, 24, 25, 26, 27, 28, 29, 30, 31, 32])
      (IC.cond (Opd.t 33)
      (IC.seq (IC.ops false [IOper.mk (some 4) (IOp.mv (Opd.c (AV.int IntKind.i64 3))) none] [])
      IC.ret)
      IC.nop)))
      (IC.seq
      (IC.seq
      (IC.ops false
      [IOper.mk (some 34) (IOp.faddr 0 (Opd.t 2)) none, IOper.mk (some 35) (IOp.load none (Opd.t 34)) none] [34])
      (IC.seq
      (IC.block 0
      (IC.seq
      (IC.ops false
      [IOper.mk (some 37) (IOp.bin BinOp.eql (Opd.t 35) (Opd.c (AV.int IntKind.u8 1))) none,
      IOper.mk (some 36) (IOp.mv (Opd.t 37)) none]
      [37])
      (IC.cond (Opd.t 36)
      (IC.seq
      (IC.ops false
      [IOper.mk (some 38) (IOp.faddr 1 (Opd.t 2)) none,
      IOper.mk (some 39) (IOp.load none (Opd.t 38)) none,
      IOper.mk (some 40) (IOp.lens (Opd.t 39)) none, IOper.mk (some 41) (IOp.faddr 0 (Opd.t 3)) none,
      IOper.mk (some 42) (IOp.load none (Opd.t 41)) none,
      IOper.mk (some 43)
      (IOp.call (Opd.c (AV.func (Fn.func 61) [] []))
      [Opd.t 40, Opd.c (AV.int IntKind.i64 1), Opd.t 42])
      none,
      IOper.mk (some 44) (IOp.not (Opd.t 43)) none]
      [38, 39, 40, 41, 42, 43])
      (IC.cond (Opd.t 44)
      (IC.seq
      (IC.ops false [IOper.mk (some 4) (IOp.mv (Opd.c (AV.int IntKind.i64 6))) none] [])
      IC.ret)
      IC.nop))
      (IC.seq
      (IC.ops false
      [IOper.mk (some 46) (IOp.bin BinOp.eql (Opd.t 35) (Opd.c (AV.int IntKind.u8 2))) none,
      IOper.mk (some 45) (IOp.mv (Opd.t 46)) none]
      [46])
      (IC.cond (Opd.t 45)
      (IC.seq
      (IC.ops false
      [IOper.mk (some 47) (IOp.faddr 4 (Opd.t 2)) none,
      IOper.mk (some 48) (IOp.load none (Opd.t 47)) none,
      IOper.mk (some 49) (IOp.load (some 9) (Opd.t 3)) none,
      IOper.mk (some 50) (IOp.call (Opd.c (AV.func (Fn.func 96) [] [])) [Opd.t 48, Opd.t 49])
      none,
      IOper.mk (some 4) (IOp.mv (Opd.t 50)) none]
      [47, 48, 49, 50])
      IC.ret)
      (IC.seq
      (IC.seq
      (IC.ops false
      [IOper.mk (some 52) (IOp.bin BinOp.eql (Opd.t 35) (Opd.c (AV.int IntKind.u8 3)))
      none,
      IOper.mk (some 51) (IOp.mv (Opd.t 52)) none]
      [52])
      (IC.cond (Opd.t 51) IC.nop
      (IC.ops false
      [IOper.mk (some 53)
      (IOp.bin BinOp.eql (Opd.t 35) (Opd.c (AV.int IntKind.u8 4))) none,
      IOper.mk (some 51) (IOp.mv (Opd.t 53)) none]
      [53])))
      (IC.cond (Opd.t 51)
      (IC.seq
      (IC.block 1
      (IC.seq
      (IC.ops false
      [IOper.mk (some 55) (IOp.faddr 1 (Opd.t 2)) none,
      IOper.mk (some 56) (IOp.load none (Opd.t 55)) none,
      IOper.mk (some 57) (IOp.lens (Opd.t 56)) none,
      IOper.mk (some 58) (IOp.faddr 0 (Opd.t 3)) none,
      IOper.mk (some 59) (IOp.load none (Opd.t 58)) none,
      IOper.mk (some 60) (IOp.bin BinOp.gtr (Opd.t 57) (Opd.t 59)) none,
      IOper.mk (some 61) (IOp.mv (Opd.t 60)) none,
      IOper.mk (some 62) (IOp.faddr 2 (Opd.t 2)) (some (61, false)),
      IOper.mk (some 63) (IOp.load none (Opd.t 62)) (some (61, false)),
      IOper.mk (some 64) (IOp.lens (Opd.t 63)) (some (61, false)),
      IOper.mk (some 65) (IOp.faddr 0 (Opd.t 3)) (some (61, false)),
      IOper.mk (some 66) (IOp.load none (Opd.t 65)) (some (61, false)),
      IOper.mk (some 67) (IOp.bin BinOp.gtr (Opd.t 64) (Opd.t 66)) (some (61, false)),
      IOper.mk (some 68) (IOp.pick (Opd.t 61) (Opd.c (AV.bool true)) (Opd.t 67)) none,
      IOper.mk (some 54) (IOp.mv (Opd.t 68)) none]
      [55, 56, 57, 58, 59, 60, 61, 62, 63, 64, 65, 66, 67, 68])
      (IC.cond (Opd.t 54)
      (IC.seq
      (IC.ops false
      [IOper.mk (some 4) (IOp.mv (Opd.c (AV.int IntKind.i64 6))) none] [])
      IC.ret)
      (IC.seq
      (IC.ops false
      [IOper.mk (some 70) (IOp.faddr 2 (Opd.t 2)) none,
      IOper.mk (some 71) (IOp.load none (Opd.t 70)) none,
      IOper.mk (some 72) (IOp.bin BinOp.neq (Opd.t 71) (Opd.c (AV.str []))) none,
      IOper.mk (some 73) (IOp.mv (Opd.t 72)) none,
      IOper.mk (some 74) (IOp.faddr 2 (Opd.t 2)) (some (73, true)),
      IOper.mk (some 75) (IOp.load none (Opd.t 74)) (some (73, true)),
      IOper.mk (some 76) (IOp.faddr 1 (Opd.t 2)) (some (73, true)),
      IOper.mk (some 77) (IOp.load none (Opd.t 76)) (some (73, true)),
      IOper.mk (some 78) (IOp.bin BinOp.leq (Opd.t 75) (Opd.t 77)) (some (73, true)),
      IOper.mk (some 79) (IOp.pick (Opd.t 73) (Opd.t 78) (Opd.c (AV.bool false)))
      none,
      IOper.mk (some 69) (IOp.mv (Opd.t 79)) none]
      [70, 71, 72, 73, 74, 75, 76, 77, 78, 79])
      (IC.cond (Opd.t 69)
      (IC.seq
      (IC.ops false
      [IOper.mk (some 4) (IOp.mv (Opd.c (AV.int IntKind.i64 7))) none]
      [])
      IC.ret)
      (IC.seq
      (IC.ops false
      [IOper.mk (some 81) (IOp.faddr 0 (Opd.t 2)) none,
      IOper.mk (some 82) (IOp.load none (Opd.t 81)) none,
      IOper.mk (some 83)
      (IOp.bin BinOp.eql (Opd.t 82) (Opd.c (AV.int IntKind.u8 3)))
      none,
      IOper.mk (some 84) (IOp.mv (Opd.t 83)) none,
      IOper.mk (some 85) (IOp.faddr 3 (Opd.t 2)) (some (84, true)),
      IOper.mk (some 86) (IOp.load none (Opd.t 85)) (some (84, true)),
      IOper.mk (some 87) (IOp.faddr 8 (Opd.t 3)) (some (84, true)),
      IOper.mk (some 88) (IOp.load none (Opd.t 87)) (some (84, true)),
      IOper.mk (some 89)
      (IOp.call (Opd.c (AV.func (Fn.func 61) [] []))
      [Opd.t 86, Opd.c (AV.int IntKind.i64 1), Opd.t 88])
      (some (84, true)),
      IOper.mk (some 90) (IOp.not (Opd.t 89)) (some (84, true)),
      IOper.mk (some 91) (IOp.pick (Opd.t 84) (Opd.t 90) (Opd.c (AV.bool false)))
      none,
      IOper.mk (some 80) (IOp.mv (Opd.t 91)) none]
      [81, 82, 83, 84, 85, 86, 87, 88, 89, 90, 91])
      (IC.cond (Opd.t 80)
      (IC.seq
      (IC.ops false
      [IOper.mk (some 4) (IOp.mv (Opd.c (AV.int IntKind.i64 4)))
      none]
      [])
      IC.ret)
      IC.nop)))))))
      (IC.ops false []
      [55, 56, 57, 58, 59, 60, 61, 62, 63, 64, 65, 66, 67, 68, 54, 70, 71, 72, 73, 74, 75, 76,
      77, 78, 79, 69, 81, 82, 83, 84, 85, 86, 87, 88, 89, 90, 91, 80]))
      IC.nop)))))))
      (IC.ops false []
      [37, 36, 38, 39, 40, 41, 42, 43, 44, 46, 45, 47, 48, 49, 50, 52, 53, 51, 55, 56, 57, 58, 59, 60, 61, 62,
      63, 64, 65, 66, 67, 68, 54, 70, 71, 72, 73, 74, 75, 76, 77, 78, 79, 69, 81, 82, 83, 84, 85, 86, 87, 88,
      89, 90, 91, 80])))
      (IC.seq (IC.ops false [IOper.mk (some 4) (IOp.mv (Opd.c (AV.int IntKind.i64 0))) none] [])
      IC.ret))))
theorem fn_room_Ask : F 63 = some ir_room_Ask := by kernel_rfl

def ir_room_in : IFun :=
  IFun.mk false 3 [IRes.tmp 6]
  (IC.seq (IC.ops false [IOper.mk (some 6) (IOp.mv (Opd.c (AV.bool false))) none] [])
    (IC.seq
      (IC.ops false
      [IOper.mk (some 7) (IOp.mv (Opd.t 0)) none, IOper.mk (some 8) (IOp.mv (Opd.t 1)) none,
      IOper.mk (some 9) (IOp.bin BinOp.geq (Opd.t 7) (Opd.t 8)) none, IOper.mk (some 10) (IOp.mv (Opd.t 9)) none,
      IOper.mk (some 11) (IOp.mv (Opd.t 0)) (some (10, true)),
      IOper.mk (some 12) (IOp.mv (Opd.t 2)) (some (10, true)),
      IOper.mk (some 13) (IOp.bin BinOp.leq (Opd.t 11) (Opd.t 12)) (some (10, true)),
      IOper.mk (some 14) (IOp.pick (Opd.t 10) (Opd.t 13) (Opd.c (AV.bool false))) none,
      IOper.mk (some 6) (IOp.mv (Opd.t 14)) none]
      [7, 8, 9, 10, 11, 12, 13, 14])
      IC.ret))
theorem fn_room_in : F 61 = some ir_room_in := by kernel_rfl

def ir_slices_Equal_api_Entry_api_Entry : IFun :=
  IFun.mk false 2 [IRes.tmp 4]
  (IC.seq (IC.ops false [IOper.mk (some 4) (IOp.mv (Opd.c (AV.bool false))) none] [])
    (IC.seq
      (IC.seq
      (IC.ops false
      [IOper.mk (some 6) (IOp.mv (Opd.t 0)) none, IOper.mk (some 7) (IOp.len (Opd.t 6)) none,
      IOper.mk (some 8) (IOp.mv (Opd.t 1)) none, IOper.mk (some 9) (IOp.len (Opd.t 8)) none,
      IOper.mk (some 10) (IOp.bin BinOp.neq (Opd.t 7) (Opd.t 9)) none]
      [6, 7, 8, 9])
      (IC.cond (Opd.t 10) (IC.seq (IC.ops false [IOper.mk (some 4) (IOp.mv (Opd.c (AV.bool false))) none] []) IC.ret)
      IC.nop))
      (IC.seq
      (IC.seq
      (IC.ops false
      [IOper.mk (some 11) (IOp.mv (Opd.t 0)) none, IOper.mk (some 12) (IOp.len (Opd.t 11)) none,
      IOper.mk (some 13) (IOp.mv (Opd.c (AV.int IntKind.i64 0))) none]
      [11])
      (IC.seq
      (IC.block 0
      (IC.loop
      (IC.seq
      (IC.seq (IC.ops false [IOper.mk (some 14) (IOp.bin BinOp.lss (Opd.t 13) (Opd.t 12)) none] [])
      (IC.seq (IC.cond (Opd.t 14) IC.nop (IC.exit 0))
      (IC.seq
      (IC.seq
      (IC.block 1
      (IC.seq
      (IC.ops false
      [IOper.mk (some 15) (IOp.mv (Opd.t 13)) none,
      IOper.mk (some 5) (IOp.mv (Opd.t 15)) none]
      [15])
      (IC.seq
      (IC.ops true
      [IOper.mk (some 16) (IOp.mv (Opd.t 0)) none,
      IOper.mk (some 17) (IOp.mv (Opd.t 5)) none,
      IOper.mk (some 18) (IOp.ixa 2 (Opd.t 16) (Opd.t 17)) none,
      IOper.mk (some 19) (IOp.load (some 2) (Opd.t 18)) none,
      IOper.mk (some 20) (IOp.mv (Opd.t 1)) none,
      IOper.mk (some 21) (IOp.mv (Opd.t 5)) none,
      IOper.mk (some 22) (IOp.ixa 2 (Opd.t 20) (Opd.t 21)) none,
      IOper.mk (some 23) (IOp.load (some 2) (Opd.t 22)) none,
      IOper.mk (some 24) (IOp.eqa true [(0, 1), (1, 1)] (Opd.t 19) (Opd.t 23)) none]
      [16, 17, 18, 19, 20, 21, 22, 23])
      (IC.cond (Opd.t 24)
      (IC.seq (IC.ops false [IOper.mk (some 4) (IOp.mv (Opd.c (AV.bool false))) none] [])
      IC.ret)
      IC.nop))))
      (IC.ops false [] [15, 5, 16, 17, 18, 19, 20, 21, 22, 23, 24]))
      (IC.ops false
      [IOper.mk (some 25) (IOp.bin BinOp.add (Opd.t 13) (Opd.c (AV.int IntKind.i64 1)))
      none,
      IOper.mk (some 13) (IOp.mv (Opd.t 25)) none]
      [25]))))
      (IC.ops false [] [14, 15, 5, 16, 17, 18, 19, 20, 21, 22, 23, 24, 25]))))
      (IC.ops false [] [14, 15, 5, 16, 17, 18, 19, 20, 21, 22, 23, 24, 25])))
      (IC.seq (IC.ops false [IOper.mk (some 4) (IOp.mv (Opd.c (AV.bool true))) none] []) IC.ret))))
theorem fn_slices_Equal_api_Entry_api_Entry : F 70 = some ir_slices_Equal_api_Entry_api_Entry := by kernel_rfl

def ir_slices_IndexFunc_api_Done_api_Done : IFun :=
  IFun.mk false 2 [IRes.tmp 4]
  (IC.seq (IC.ops false [IOper.mk (some 4) (IOp.mv (Opd.c (AV.int IntKind.i64 0))) none] [])
    (IC.seq
      (IC.seq
      (IC.ops false
      [IOper.mk (some 6) (IOp.mv (Opd.t 0)) none, IOper.mk (some 7) (IOp.len (Opd.t 6)) none,
      IOper.mk (some 8) (IOp.mv (Opd.c (AV.int IntKind.i64 0))) none]
      [6])
      (IC.seq
      (IC.block 0
      (IC.loop
      (IC.seq
      (IC.seq (IC.ops false [IOper.mk (some 9) (IOp.bin BinOp.lss (Opd.t 8) (Opd.t 7)) none] [])
      (IC.seq (IC.cond (Opd.t 9) IC.nop (IC.exit 0))
      (IC.seq
      (IC.seq
      (IC.block 1
      (IC.seq
      (IC.ops false
      [IOper.mk (some 10) (IOp.mv (Opd.t 8)) none, IOper.mk (some 5) (IOp.mv (Opd.t 10)) none]
      [10])
      (IC.seq
      (IC.ops false
      [IOper.mk (some 11) (IOp.mv (Opd.t 1)) none, IOper.mk (some 12) (IOp.mv (Opd.t 0)) none,
      IOper.mk (some 13) (IOp.mv (Opd.t 5)) none,
      IOper.mk (some 14) (IOp.ixa 16 (Opd.t 12) (Opd.t 13)) none,
      IOper.mk (some 15) (IOp.load (some 16) (Opd.t 14)) none,
      IOper.mk (some 16) (IOp.call (Opd.t 11) [Opd.t 15]) none]
      [11, 12, 13, 14, 15])
      (IC.cond (Opd.t 16)
      (IC.seq
      (IC.ops false
      [IOper.mk (some 17) (IOp.mv (Opd.t 5)) none,
      IOper.mk (some 4) (IOp.mv (Opd.t 17)) none]
      [17])
      IC.ret)
      IC.nop))))
      (IC.ops false [] [10, 5, 11, 12, 13, 14, 15, 16, 17]))
      (IC.ops false
      [IOper.mk (some 18) (IOp.bin BinOp.add (Opd.t 8) (Opd.c (AV.int IntKind.i64 1)))
      none,
      IOper.mk (some 8) (IOp.mv (Opd.t 18)) none]
      [18]))))
      (IC.ops false [] [9, 10, 5, 11, 12, 13, 14, 15, 16, 17, 18]))))
      (IC.ops false [] [9, 10, 5, 11, 12, 13, 14, 15, 16, 17, 18])))
      (IC.seq (IC.ops false [IOper.mk (some 4) (IOp.mv (Opd.c (AV.int IntKind.i64 (-1)))) none] []) IC.ret)))
theorem fn_slices_IndexFunc_api_Done_api_Done : F 62 = some ir_slices_IndexFunc_api_Done_api_Done := by kernel_rfl

def ir_slices_breakPatternsCmpFunc_api_Fault : IFun :=
  IFun.mk false 4 []
  (IC.seq
    (IC.ops false
      [IOper.mk (some 13) (IOp.mv (Opd.t 2)) none, IOper.mk (some 14) (IOp.mv (Opd.t 1)) none,
      IOper.mk (some 15) (IOp.bin BinOp.sub (Opd.t 13) (Opd.t 14)) none, IOper.mk (some 8) (IOp.mv (Opd.t 15)) none]
      [13, 14, 15])
    (IC.seq
      (IC.ops false
      [IOper.mk (some 16) (IOp.mv (Opd.t 8)) none,
      IOper.mk (some 17) (IOp.bin BinOp.geq (Opd.t 16) (Opd.c (AV.int IntKind.i64 8))) none]
      [16])
      (IC.cond (Opd.t 17)
      (IC.seq
      (IC.ops false
      [IOper.mk (some 18) (IOp.mv (Opd.t 8)) none, IOper.mk (some 19) (IOp.conv IntKind.u64 (Opd.t 18)) none,
      IOper.mk (some 9) (IOp.alloc [AV.int IntKind.u64 0]) none,
      IOper.mk none (IOp.store 1 (Opd.t 9) (Opd.t 19)) none]
      [18, 19])
      (IC.seq
      (IC.ops false
      [IOper.mk (some 20) (IOp.mv (Opd.t 8)) none,
      IOper.mk (some 21) (IOp.call (Opd.c (AV.func (Fn.func 108) [] [])) [Opd.t 20]) none,
      IOper.mk (some 10) (IOp.mv (Opd.t 21)) none]
      [20, 21])
      (IC.seq
      (IC.ops false
      [IOper.mk (some 22) (IOp.mv (Opd.t 1)) none, IOper.mk (some 23) (IOp.mv (Opd.t 8)) none,
      IOper.mk (some 24) (IOp.bin BinOp.quo (Opd.t 23) (Opd.c (AV.int IntKind.i64 4))) none,
      IOper.mk (some 25) (IOp.bin BinOp.mul (Opd.t 24) (Opd.c (AV.int IntKind.i64 2))) none,
      IOper.mk (some 26) (IOp.bin BinOp.add (Opd.t 22) (Opd.t 25)) none,
      IOper.mk (some 27) (IOp.bin BinOp.sub (Opd.t 26) (Opd.c (AV.int IntKind.i64 1))) none,
      IOper.mk (some 11) (IOp.mv (Opd.t 27)) none]
      [22, 23, 24, 25, 26, 27])
      (IC.seq
      (IC.block 0
      (IC.loop
      (IC.seq
      (IC.seq
      (IC.seq
      (IC.ops false
      [IOper.mk (some 28) (IOp.mv (Opd.t 11)) none, IOper.mk (some 29) (IOp.mv (Opd.t 1)) none,
      IOper.mk (some 30) (IOp.mv (Opd.t 8)) none,
      IOper.mk (some 31)
      (IOp.bin BinOp.quo (Opd.t 30) (Opd.c (AV.int IntKind.i64 4))) none,
      IOper.mk (some 32)
      (IOp.bin BinOp.mul (Opd.t 31) (Opd.c (AV.int IntKind.i64 2))) none,
      IOper.mk (some 33) (IOp.bin BinOp.add (Opd.t 29) (Opd.t 32)) none,
      IOper.mk (some 34)
      (IOp.bin BinOp.add (Opd.t 33) (Opd.c (AV.int IntKind.i64 1))) none,
      IOper.mk (some 35) (IOp.bin BinOp.leq (Opd.t 28) (Opd.t 34)) none]
      [28, 29, 30, 31, 32, 33, 34])
      (IC.cond (Opd.t 35) IC.nop (IC.exit 0)))
      (IC.seq
      (IC.seq
      (IC.block 1
      (IC.seq
      (IC.ops false
      [IOper.mk (some 38) (IOp.call (Opd.c (AV.func (Fn.func 109) [] [])) [Opd.t 9]) none,
      IOper.mk (some 39) (IOp.mv (Opd.t 10)) none,
      IOper.mk (some 40)
      (IOp.bin BinOp.sub (Opd.t 39) (Opd.c (AV.int IntKind.u64 1))) none,
      IOper.mk (some 41) (IOp.bin BinOp.and (Opd.t 38) (Opd.t 40)) none,
      IOper.mk (some 42) (IOp.conv IntKind.i64 (Opd.t 41)) none,
      IOper.mk (some 12) (IOp.mv (Opd.t 42)) none]
      [38, 39, 40, 41, 42])
      (IC.seq
      (IC.seq
      (IC.ops false
      [IOper.mk (some 43) (IOp.mv (Opd.t 12)) none,
      IOper.mk (some 44) (IOp.mv (Opd.t 8)) none,
      IOper.mk (some 45) (IOp.bin BinOp.geq (Opd.t 43) (Opd.t 44)) none]
      [43, 44])
      (IC.cond (Opd.t 45)
      (IC.ops false
      [IOper.mk (some 46) (IOp.mv (Opd.t 12)) none,
      IOper.mk (some 47) (IOp.mv (Opd.t 8)) none,
      IOper.mk (some 48) (IOp.bin BinOp.sub (Opd.t 46) (Opd.t 47)) none,
      IOper.mk (some 12) (IOp.mv (Opd.t 48)) none]
      [46, 47, 48])
      IC.nop))
      (IC.ops true
      [IOper.mk (some 49) (IOp.mv (Opd.t 0)) none,
      IOper.mk (some 50) (IOp.mv (Opd.t 11)) none,
      IOper.mk (some 51) (IOp.mv (Opd.t 0)) none,
      IOper.mk (some 52) (IOp.mv (Opd.t 1)) none,
      IOper.mk (some 53) (IOp.mv (Opd.t 12)) none,
      IOper.mk (some 54) (IOp.bin BinOp.add (Opd.t 52) (Opd.t 53)) none,
      IOper.mk (some 55) (IOp.mv (Opd.t 0)) none,
      IOper.mk (some 56) (IOp.mv (Opd.t 1)) none,
      IOper.mk (some 57) (IOp.mv (Opd.t 12)) none,
      IOper.mk (some 58) (IOp.bin BinOp.add (Opd.t 56) (Opd.t 57)) none,
      IOper.mk (some 59) (IOp.ixa 2 (Opd.t 55) (Opd.t 58)) none,
      IOper.mk (some 60) (IOp.load (some 2) (Opd.t 59)) none,
      IOper.mk (some 61) (IOp.mv (Opd.t 0)) none,
      IOper.mk (some 62) (IOp.mv (Opd.t 11)) none,
      IOper.mk (some 63) (IOp.ixa 2 (Opd.t 61) (Opd.t 62)) none,
      IOper.mk (some 64) (IOp.load (some 2) (Opd.t 63)) none,
      IOper.mk (some 65) (IOp.ixa 2 (Opd.t 49) (Opd.t 50)) none,
      IOper.mk none (IOp.store 2 (Opd.t 65) (Opd.t 60)) none,
      IOper.mk (some 66) (IOp.ixa 2 (Opd.t 51) (Opd.t 54)) none,
      IOper.mk none (IOp.store 2 (Opd.t 66) (Opd.t 64)) none]
      [49, 50, 51, 52, 53, 54, 55, 56, 57, 58, 59, 60, 61, 62, 63, 64, 65, 66]))))
      (IC.ops false []
      [38, 39, 40, 41, 42, 43, 44, 45, 46, 47, 48, 12, 49, 50, 51, 52, 53, 54, 55, 56, 57, 58,
      59, 60, 61, 62, 63, 64, 65, 66]))
      (IC.ops false
      [IOper.mk (some 36) (IOp.mv (Opd.t 11)) none,
      IOper.mk (some 37)
      (IOp.bin BinOp.add (Opd.t 36) (Opd.c (AV.int IntKind.i64 1))) none,
      IOper.mk (some 11) (IOp.mv (Opd.t 37)) none]
      [36, 37])))
      (IC.ops false []
      [28, 29, 30, 31, 32, 33, 34, 35, 38, 39, 40, 41, 42, 43, 44, 45, 46, 47, 48, 12, 49, 50, 51, 52,
      53, 54, 55, 56, 57, 58, 59, 60, 61, 62, 63, 64, 65, 66, 36, 37]))))
      (IC.ops false []
      [28, 29, 30, 31, 32, 33, 34, 35, 38, 39, 40, 41, 42, 43, 44, 45, 46, 47, 48, 12, 49, 50, 51, 52, 53,
      54, 55, 56, 57, 58, 59, 60, 61, 62, 63, 64, 65, 66, 36, 37])))))
      IC.nop)))
theorem fn_slices_breakPatternsCmpFunc_api_Fault : F 73 = some ir_slices_breakPatternsCmpFunc_api_Fault := by kernel_rfl

def ir_slices_choosePivotCmpFunc_api_Fault : IFun :=
  IFun.mk false 4 [IRes.tmp 8, IRes.tmp 9]
  (IC.seq
    (IC.ops false
      [IOper.mk (some 8) (IOp.mv (Opd.c (AV.int IntKind.i64 0))) none,
      IOper.mk (some 9) (IOp.mv (Opd.c (AV.int IntKind.i64 0))) none]
      [])
    (IC.seq
      (IC.ops false
      [IOper.mk (some 15) (IOp.mv (Opd.t 2)) none, IOper.mk (some 16) (IOp.mv (Opd.t 1)) none,
      IOper.mk (some 17) (IOp.bin BinOp.sub (Opd.t 15) (Opd.t 16)) none,
      IOper.mk (some 10) (IOp.mv (Opd.t 17)) none]
      [15, 16, 17])
      (IC.seq (IC.ops false [IOper.mk (some 11) (IOp.alloc [AV.int IntKind.i64 0]) none] [])
      (IC.seq
      (IC.ops false
      [IOper.mk (some 18) (IOp.mv (Opd.t 1)) none, IOper.mk (some 19) (IOp.mv (Opd.t 10)) none,
      IOper.mk (some 20) (IOp.bin BinOp.quo (Opd.t 19) (Opd.c (AV.int IntKind.i64 4))) none,
      IOper.mk (some 21) (IOp.bin BinOp.mul (Opd.t 20) (Opd.c (AV.int IntKind.i64 1))) none,
      IOper.mk (some 22) (IOp.bin BinOp.add (Opd.t 18) (Opd.t 21)) none,
      IOper.mk (some 12) (IOp.mv (Opd.t 22)) none]
      [18, 19, 20, 21, 22])
      (IC.seq
      (IC.ops false
      [IOper.mk (some 23) (IOp.mv (Opd.t 1)) none, IOper.mk (some 24) (IOp.mv (Opd.t 10)) none,
      IOper.mk (some 25) (IOp.bin BinOp.quo (Opd.t 24) (Opd.c (AV.int IntKind.i64 4))) none,
      IOper.mk (some 26) (IOp.bin BinOp.mul (Opd.t 25) (Opd.c (AV.int IntKind.i64 2))) none,
      IOper.mk (some 27) (IOp.bin BinOp.add (Opd.t 23) (Opd.t 26)) none,
      IOper.mk (some 13) (IOp.mv (Opd.t 27)) none]
      [23, 24, 25, 26, 27])
      (IC.seq
      (IC.ops false
      [IOper.mk (some 28) (IOp.mv (Opd.t 1)) none, IOper.mk (some 29) (IOp.mv (Opd.t 10)) none,
      IOper.mk (some 30) (IOp.bin BinOp.quo (Opd.t 29) (Opd.c (AV.int IntKind.i64 4))) none,
      IOper.mk (some 31) (IOp.bin BinOp.mul (Opd.t 30) (Opd.c (AV.int IntKind.i64 3))) none,
      IOper.mk (some 32) (IOp.bin BinOp.add (Opd.t 28) (Opd.t 31)) none,
      IOper.mk (some 14) (IOp.mv (Opd.t 32)) none]
      [28, 29, 30, 31, 32])
      (IC.seq
      (IC.seq
      (IC.ops false
      [IOper.mk (some 33) (IOp.mv (Opd.t 10)) none,
      IOper.mk (some 34) (IOp.bin BinOp.geq (Opd.t 33) (Opd.c (AV.int IntKind.i64 8))) none]
      [33])
      (IC.cond (Opd.t 34)
      (IC.seq
      (IC.seq
      (IC.ops false
      [IOper.mk (some 35) (IOp.mv (Opd.t 10)) none,
      IOper.mk (some 36)
      (IOp.bin BinOp.geq (Opd.t 35) (Opd.c (AV.int IntKind.i64 50))) none]
      [35])
      (IC.cond (Opd.t 36)
      (IC.seq
      (IC.ops false
      [IOper.mk (some 37) (IOp.mv (Opd.t 0)) none, IOper.mk (some 38) (IOp.mv (Opd.t 12)) none,
      IOper.mk (some 39) (IOp.mv (Opd.t 3)) none,
      IOper.mk (some 40)
      (IOp.call (Opd.c (AV.func (Fn.func 110) [] []))
      [Opd.t 37, Opd.t 38, Opd.t 11, Opd.t 39])
      none,
      IOper.mk (some 12) (IOp.mv (Opd.t 40)) none]
      [37, 38, 39, 40])
      (IC.seq
      (IC.ops false
      [IOper.mk (some 41) (IOp.mv (Opd.t 0)) none,
      IOper.mk (some 42) (IOp.mv (Opd.t 13)) none,
      IOper.mk (some 43) (IOp.mv (Opd.t 3)) none,
      IOper.mk (some 44)
      (IOp.call (Opd.c (AV.func (Fn.func 110) [] []))
      [Opd.t 41, Opd.t 42, Opd.t 11, Opd.t 43])
      none,
      IOper.mk (some 13) (IOp.mv (Opd.t 44)) none]
      [41, 42, 43, 44])
      (IC.ops false
      [IOper.mk (some 45) (IOp.mv (Opd.t 0)) none,
      IOper.mk (some 46) (IOp.mv (Opd.t 14)) none,
      IOper.mk (some 47) (IOp.mv (Opd.t 3)) none,
      IOper.mk (some 48)
      (IOp.call (Opd.c (AV.func (Fn.func 110) [] []))
      [Opd.t 45, Opd.t 46, Opd.t 11, Opd.t 47])
      none,
      IOper.mk (some 14) (IOp.mv (Opd.t 48)) none]
      [45, 46, 47, 48])))
      IC.nop))
      (IC.ops false
      [IOper.mk (some 49) (IOp.mv (Opd.t 0)) none, IOper.mk (some 50) (IOp.mv (Opd.t 12)) none,
      IOper.mk (some 51) (IOp.mv (Opd.t 13)) none, IOper.mk (some 52) (IOp.mv (Opd.t 14)) none,
      IOper.mk (some 53) (IOp.mv (Opd.t 3)) none,
      IOper.mk (some 54)
      (IOp.call (Opd.c (AV.func (Fn.func 111) [] []))
      [Opd.t 49, Opd.t 50, Opd.t 51, Opd.t 52, Opd.t 11, Opd.t 53])
      none,
      IOper.mk (some 13) (IOp.mv (Opd.t 54)) none]
      [49, 50, 51, 52, 53, 54]))
      IC.nop))
      (IC.seq (IC.ops false [IOper.mk (some 55) (IOp.load none (Opd.t 11)) none] [])
      (IC.seq
      (IC.block 0
      (IC.seq
      (IC.ops false
      [IOper.mk (some 58) (IOp.bin BinOp.eql (Opd.t 55) (Opd.c (AV.int IntKind.i64 0)))
      none,
      IOper.mk (some 57) (IOp.mv (Opd.t 58)) none]
      [58])
      (IC.cond (Opd.t 57)
      (IC.seq
      (IC.ops false
      [IOper.mk (some 59) (IOp.mv (Opd.t 13)) none, IOper.mk (some 8) (IOp.mv (Opd.t 59)) none,
      IOper.mk (some 9) (IOp.mv (Opd.c (AV.int IntKind.i64 1))) none]
      [59])
      IC.ret)
      (IC.seq
      (IC.ops false
      [IOper.mk (some 61)
      (IOp.bin BinOp.eql (Opd.t 55) (Opd.c (AV.int IntKind.i64 12))) none,
      IOper.mk (some 60) (IOp.mv (Opd.t 61)) none]
      [61])
      (IC.cond (Opd.t 60)
      (IC.seq
      (IC.ops false
      [IOper.mk (some 62) (IOp.mv (Opd.t 13)) none,
      IOper.mk (some 8) (IOp.mv (Opd.t 62)) none,
      IOper.mk (some 9) (IOp.mv (Opd.c (AV.int IntKind.i64 2))) none]
      [62])
      IC.ret)
      (IC.seq
      (IC.ops false
      [IOper.mk (some 56) (IOp.mv (Opd.t 13)) none,
      IOper.mk (some 8) (IOp.mv (Opd.t 56)) none,
      IOper.mk (some 9) (IOp.mv (Opd.c (AV.int IntKind.i64 0))) none]
      [56])
      IC.ret))))))
      (IC.ops false [] [58, 57, 59, 61, 60, 62, 56]))))))))))
theorem fn_slices_choosePivotCmpFunc_api_Fault : F 74 = some ir_slices_choosePivotCmpFunc_api_Fault := by kernel_rfl
end Go.AS.Wi
