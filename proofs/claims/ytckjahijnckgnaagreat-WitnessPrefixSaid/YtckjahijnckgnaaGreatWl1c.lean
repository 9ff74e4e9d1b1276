import Derived.Test.YtckjahijnckgnaaGreatWl1b
import Derived.Test.YtckjahijnckgnaaGreatWi0
import Derived.Test.YtckjahijnckgnaaGreatWi1
set_option linter.all false
namespace Go.AS.Wi
open Go Go.AS Go.Proofs
set_option maxRecDepth 100000

def ir_order_knot_string_string_drop : IFun :=
  IFun.mk true 2 [IRes.tmp 4]
  (IC.seq (IC.ops false [IOper.mk (some 4) (IOp.mv (Opd.c AV.nilptr)) none] [])
    (IC.seq
      (IC.seq
      (IC.ops false
      [IOper.mk (some 7) (IOp.mv (Opd.t 0)) none,
      IOper.mk (some 8) (IOp.eqn 0 false (Opd.t 7) (Opd.c AV.nilptr)) none]
      [7])
      (IC.cond (Opd.t 8) (IC.seq (IC.ops false [IOper.mk (some 4) (IOp.mv (Opd.c AV.nilptr)) none] []) IC.ret)
      IC.nop))
      (IC.seq
      (IC.seq
      (IC.ops false
      [IOper.mk (some 9) (IOp.mv (Opd.t 1)) none, IOper.mk (some 10) (IOp.mv (Opd.t 0)) none,
      IOper.mk (some 11) (IOp.nilck (Opd.t 10)) none, IOper.mk (some 12) (IOp.faddr 0 (Opd.t 11)) none,
      IOper.mk (some 13) (IOp.load none (Opd.t 12)) none,
      IOper.mk (some 14) (IOp.callp 122 [Opd.t 9, Opd.t 13]) none]
      [9, 10, 11, 12, 13])
      (IC.seq
      (IC.block 0
      (IC.seq
      (IC.ops false
      [IOper.mk (some 46) (IOp.bin BinOp.eql (Opd.t 14) (Opd.c (AV.int IntKind.i64 (-1)))) none,
      IOper.mk (some 45) (IOp.mv (Opd.t 46)) none]
      [46])
      (IC.cond (Opd.t 45)
      (IC.ops false
      [IOper.mk (some 47) (IOp.mv (Opd.t 0)) none, IOper.mk (some 48) (IOp.mv (Opd.t 0)) none,
      IOper.mk (some 49) (IOp.nilck (Opd.t 48)) none, IOper.mk (some 50) (IOp.faddr 2 (Opd.t 49)) none,
      IOper.mk (some 51) (IOp.load none (Opd.t 50)) none, IOper.mk (some 52) (IOp.mv (Opd.t 1)) none,
      IOper.mk (some 53) (IOp.call (Opd.c (AV.func (Fn.func 125) [] [])) [Opd.t 51, Opd.t 52]) none,
      IOper.mk (some 54) (IOp.nilck (Opd.t 47)) none, IOper.mk (some 55) (IOp.faddr 2 (Opd.t 54)) none,
      IOper.mk none (IOp.store 1 (Opd.t 55) (Opd.t 53)) none]
      [47, 48, 49, 50, 51, 52, 53, 54, 55])
      (IC.seq
      (IC.ops false
      [IOper.mk (some 57) (IOp.bin BinOp.eql (Opd.t 14) (Opd.c (AV.int IntKind.i64 1)))
      none,
      IOper.mk (some 56) (IOp.mv (Opd.t 57)) none]
      [57])
      (IC.cond (Opd.t 56)
      (IC.ops false
      [IOper.mk (some 58) (IOp.mv (Opd.t 0)) none, IOper.mk (some 59) (IOp.mv (Opd.t 0)) none,
      IOper.mk (some 60) (IOp.nilck (Opd.t 59)) none,
      IOper.mk (some 61) (IOp.faddr 3 (Opd.t 60)) none,
      IOper.mk (some 62) (IOp.load none (Opd.t 61)) none,
      IOper.mk (some 63) (IOp.mv (Opd.t 1)) none,
      IOper.mk (some 64) (IOp.call (Opd.c (AV.func (Fn.func 125) [] [])) [Opd.t 62, Opd.t 63]) none,
      IOper.mk (some 65) (IOp.nilck (Opd.t 58)) none,
      IOper.mk (some 66) (IOp.faddr 3 (Opd.t 65)) none,
      IOper.mk none (IOp.store 1 (Opd.t 66) (Opd.t 64)) none]
      [58, 59, 60, 61, 62, 63, 64, 65, 66])
      (IC.seq
      (IC.seq
      (IC.ops false
      [IOper.mk (some 15) (IOp.mv (Opd.t 0)) none, IOper.mk (some 16) (IOp.nilck (Opd.t 15)) none,
      IOper.mk (some 17) (IOp.faddr 3 (Opd.t 16)) none,
      IOper.mk (some 18) (IOp.load none (Opd.t 17)) none,
      IOper.mk (some 19) (IOp.eqn 0 false (Opd.t 18) (Opd.c AV.nilptr)) none]
      [15, 16, 17, 18])
      (IC.cond (Opd.t 19)
      (IC.seq
      (IC.ops false
      [IOper.mk (some 20) (IOp.mv (Opd.t 0)) none,
      IOper.mk (some 21) (IOp.nilck (Opd.t 20)) none,
      IOper.mk (some 22) (IOp.faddr 2 (Opd.t 21)) none,
      IOper.mk (some 23) (IOp.load none (Opd.t 22)) none,
      IOper.mk (some 4) (IOp.mv (Opd.t 23)) none]
      [20, 21, 22, 23])
      IC.ret)
      IC.nop))
      (IC.seq
      (IC.ops false
      [IOper.mk (some 25) (IOp.mv (Opd.t 0)) none, IOper.mk (some 26) (IOp.nilck (Opd.t 25)) none,
      IOper.mk (some 27) (IOp.faddr 3 (Opd.t 26)) none,
      IOper.mk (some 28) (IOp.load none (Opd.t 27)) none,
      IOper.mk (some 29) (IOp.call (Opd.c (AV.func (Fn.func 141) [] [])) [Opd.t 28]) none,
      IOper.mk (some 24) (IOp.mv (Opd.t 29)) none,
      IOper.mk (some 30) (IOp.extr (Opd.t 24) 0) none,
      IOper.mk (some 31) (IOp.extr (Opd.t 24) 1) none,
      IOper.mk (some 5) (IOp.mv (Opd.t 30)) none, IOper.mk (some 6) (IOp.mv (Opd.t 31)) none]
      [25, 26, 27, 28, 29, 24, 30, 31])
      (IC.seq
      (IC.ops false
      [IOper.mk (some 32) (IOp.mv (Opd.t 6)) none, IOper.mk (some 33) (IOp.mv (Opd.t 6)) none,
      IOper.mk (some 34) (IOp.mv (Opd.t 0)) none,
      IOper.mk (some 35) (IOp.nilck (Opd.t 34)) none,
      IOper.mk (some 36) (IOp.faddr 2 (Opd.t 35)) none,
      IOper.mk (some 37) (IOp.load none (Opd.t 36)) none,
      IOper.mk (some 38) (IOp.mv (Opd.t 5)) none,
      IOper.mk (some 39) (IOp.nilck (Opd.t 32)) none,
      IOper.mk (some 40) (IOp.faddr 2 (Opd.t 39)) none,
      IOper.mk none (IOp.store 1 (Opd.t 40) (Opd.t 37)) none,
      IOper.mk (some 41) (IOp.nilck (Opd.t 33)) none,
      IOper.mk (some 42) (IOp.faddr 3 (Opd.t 41)) none,
      IOper.mk none (IOp.store 1 (Opd.t 42) (Opd.t 38)) none]
      [32, 33, 34, 35, 36, 37, 38, 39, 40, 41, 42])
      (IC.seq
      (IC.ops false
      [IOper.mk (some 43) (IOp.mv (Opd.t 6)) none,
      IOper.mk (some 44) (IOp.call (Opd.c (AV.func (Fn.func 142) [] [])) [Opd.t 43]) none,
      IOper.mk (some 4) (IOp.mv (Opd.t 44)) none]
      [43, 44])
      IC.ret)))))))))
      (IC.ops false []
      [46, 45, 47, 48, 49, 50, 51, 52, 53, 54, 55, 57, 56, 58, 59, 60, 61, 62, 63, 64, 65, 66, 15, 16, 17, 18,
      19, 20, 21, 22, 23, 25, 26, 27, 28, 29, 24, 30, 31, 5, 6, 32, 33, 34, 35, 36, 37, 38, 39, 40, 41, 42,
      43, 44])))
      (IC.seq
      (IC.ops false
      [IOper.mk (some 67) (IOp.mv (Opd.t 0)) none,
      IOper.mk (some 68) (IOp.call (Opd.c (AV.func (Fn.func 142) [] [])) [Opd.t 67]) none,
      IOper.mk (some 4) (IOp.mv (Opd.t 68)) none]
      [67, 68])
      IC.ret))))
theorem fn_order_knot_string_string_drop : F 125 = some ir_order_knot_string_string_drop := by kernel_rfl

def ir_order_knot_string_string_put : IFun :=
  IFun.mk true 3 [IRes.tmp 6]
  (IC.seq (IC.ops false [IOper.mk (some 6) (IOp.mv (Opd.c AV.nilptr)) none] [])
    (IC.seq
      (IC.seq
      (IC.ops false
      [IOper.mk (some 7) (IOp.mv (Opd.t 0)) none,
      IOper.mk (some 8) (IOp.eqn 0 false (Opd.t 7) (Opd.c AV.nilptr)) none]
      [7])
      (IC.cond (Opd.t 8)
      (IC.seq
      (IC.ops false
      [IOper.mk (some 9) (IOp.mv (Opd.t 1)) none, IOper.mk (some 10) (IOp.mv (Opd.t 2)) none,
      IOper.mk (some 11)
      (IOp.build
      [AV.str [], AV.str [], AV.nilptr, AV.nilptr, AV.int IntKind.i64 0,
      AV.int IntKind.i64 0]
      [(0, 1, Opd.t 9), (1, 1, Opd.t 10)])
      none,
      IOper.mk (some 12) (IOp.box 6 (Opd.t 11)) none,
      IOper.mk (some 13) (IOp.call (Opd.c (AV.func (Fn.func 145) [] [])) [Opd.t 12]) none,
      IOper.mk (some 6) (IOp.mv (Opd.t 13)) none]
      [9, 10, 11, 12, 13])
      IC.ret)
      IC.nop))
      (IC.seq
      (IC.seq
      (IC.ops false
      [IOper.mk (some 14) (IOp.mv (Opd.t 1)) none, IOper.mk (some 15) (IOp.mv (Opd.t 0)) none,
      IOper.mk (some 16) (IOp.nilck (Opd.t 15)) none, IOper.mk (some 17) (IOp.faddr 0 (Opd.t 16)) none,
      IOper.mk (some 18) (IOp.load none (Opd.t 17)) none,
      IOper.mk (some 19) (IOp.callp 122 [Opd.t 14, Opd.t 18]) none]
      [14, 15, 16, 17, 18])
      (IC.seq
      (IC.block 0
      (IC.seq
      (IC.ops false
      [IOper.mk (some 31) (IOp.bin BinOp.eql (Opd.t 19) (Opd.c (AV.int IntKind.i64 0))) none,
      IOper.mk (some 30) (IOp.mv (Opd.t 31)) none]
      [31])
      (IC.cond (Opd.t 30)
      (IC.seq
      (IC.ops false
      [IOper.mk (some 32) (IOp.mv (Opd.t 0)) none, IOper.mk (some 33) (IOp.mv (Opd.t 2)) none,
      IOper.mk (some 34) (IOp.nilck (Opd.t 32)) none,
      IOper.mk (some 35) (IOp.faddr 1 (Opd.t 34)) none,
      IOper.mk none (IOp.store 1 (Opd.t 35) (Opd.t 33)) none]
      [32, 33, 34, 35])
      (IC.seq
      (IC.ops false
      [IOper.mk (some 36) (IOp.mv (Opd.t 0)) none, IOper.mk (some 6) (IOp.mv (Opd.t 36)) none] [36])
      IC.ret))
      (IC.seq
      (IC.ops false
      [IOper.mk (some 38) (IOp.bin BinOp.eql (Opd.t 19) (Opd.c (AV.int IntKind.i64 (-1))))
      none,
      IOper.mk (some 37) (IOp.mv (Opd.t 38)) none]
      [38])
      (IC.cond (Opd.t 37)
      (IC.ops false
      [IOper.mk (some 39) (IOp.mv (Opd.t 0)) none, IOper.mk (some 40) (IOp.mv (Opd.t 0)) none,
      IOper.mk (some 41) (IOp.nilck (Opd.t 40)) none,
      IOper.mk (some 42) (IOp.faddr 2 (Opd.t 41)) none,
      IOper.mk (some 43) (IOp.load none (Opd.t 42)) none,
      IOper.mk (some 44) (IOp.mv (Opd.t 1)) none, IOper.mk (some 45) (IOp.mv (Opd.t 2)) none,
      IOper.mk (some 46)
      (IOp.call (Opd.c (AV.func (Fn.func 127) [] [])) [Opd.t 43, Opd.t 44, Opd.t 45]) none,
      IOper.mk (some 47) (IOp.nilck (Opd.t 39)) none,
      IOper.mk (some 48) (IOp.faddr 2 (Opd.t 47)) none,
      IOper.mk none (IOp.store 1 (Opd.t 48) (Opd.t 46)) none]
      [39, 40, 41, 42, 43, 44, 45, 46, 47, 48])
      (IC.ops false
      [IOper.mk (some 20) (IOp.mv (Opd.t 0)) none, IOper.mk (some 21) (IOp.mv (Opd.t 0)) none,
      IOper.mk (some 22) (IOp.nilck (Opd.t 21)) none,
      IOper.mk (some 23) (IOp.faddr 3 (Opd.t 22)) none,
      IOper.mk (some 24) (IOp.load none (Opd.t 23)) none,
      IOper.mk (some 25) (IOp.mv (Opd.t 1)) none, IOper.mk (some 26) (IOp.mv (Opd.t 2)) none,
      IOper.mk (some 27)
      (IOp.call (Opd.c (AV.func (Fn.func 127) [] [])) [Opd.t 24, Opd.t 25, Opd.t 26]) none,
      IOper.mk (some 28) (IOp.nilck (Opd.t 20)) none,
      IOper.mk (some 29) (IOp.faddr 3 (Opd.t 28)) none,
      IOper.mk none (IOp.store 1 (Opd.t 29) (Opd.t 27)) none]
      [20, 21, 22, 23, 24, 25, 26, 27, 28, 29]))))))
      (IC.ops false []
      [31, 30, 32, 33, 34, 35, 36, 38, 37, 39, 40, 41, 42, 43, 44, 45, 46, 47, 48, 20, 21, 22, 23, 24, 25, 26,
      27, 28, 29])))
      (IC.seq
      (IC.ops false
      [IOper.mk (some 49) (IOp.mv (Opd.t 0)) none,
      IOper.mk (some 50) (IOp.call (Opd.c (AV.func (Fn.func 142) [] [])) [Opd.t 49]) none,
      IOper.mk (some 6) (IOp.mv (Opd.t 50)) none]
      [49, 50])
      IC.ret))))
theorem fn_order_knot_string_string_put : F 127 = some ir_order_knot_string_string_put := by kernel_rfl

def ir_order_knot_string_string_size : IFun :=
  IFun.mk true 1 [IRes.tmp 2]
  (IC.seq (IC.ops false [IOper.mk (some 2) (IOp.mv (Opd.c (AV.int IntKind.i64 0))) none] [])
    (IC.seq
      (IC.seq
      (IC.ops false
      [IOper.mk (some 3) (IOp.mv (Opd.t 0)) none,
      IOper.mk (some 4) (IOp.eqn 0 false (Opd.t 3) (Opd.c AV.nilptr)) none]
      [3])
      (IC.cond (Opd.t 4)
      (IC.seq (IC.ops false [IOper.mk (some 2) (IOp.mv (Opd.c (AV.int IntKind.i64 0))) none] []) IC.ret)
      IC.nop))
      (IC.seq
      (IC.ops false
      [IOper.mk (some 5) (IOp.mv (Opd.t 0)) none, IOper.mk (some 6) (IOp.nilck (Opd.t 5)) none,
      IOper.mk (some 7) (IOp.faddr 5 (Opd.t 6)) none, IOper.mk (some 8) (IOp.load none (Opd.t 7)) none,
      IOper.mk (some 2) (IOp.mv (Opd.t 8)) none]
      [5, 6, 7, 8])
      IC.ret)))
theorem fn_order_knot_string_string_size : F 94 = some ir_order_knot_string_string_size := by kernel_rfl

def ir_slices_ContainsFunc_api_Entry_api_Entry : IFun :=
  IFun.mk false 2 [IRes.tmp 4]
  (IC.seq (IC.ops false [IOper.mk (some 4) (IOp.mv (Opd.c (AV.bool false))) none] [])
    (IC.seq
      (IC.ops false
      [IOper.mk (some 5) (IOp.mv (Opd.t 0)) none, IOper.mk (some 6) (IOp.mv (Opd.t 1)) none,
      IOper.mk (some 7) (IOp.call (Opd.c (AV.func (Fn.func 146) [] [])) [Opd.t 5, Opd.t 6]) none,
      IOper.mk (some 8) (IOp.bin BinOp.geq (Opd.t 7) (Opd.c (AV.int IntKind.i64 0))) none,
      IOper.mk (some 4) (IOp.mv (Opd.t 8)) none]
      [5, 6, 7, 8])
      IC.ret))
theorem fn_slices_ContainsFunc_api_Entry_api_Entry : F 129 = some ir_slices_ContainsFunc_api_Entry_api_Entry := by kernel_rfl

def ir_slices_order2CmpFunc_api_Fault : IFun :=
  IFun.mk false 5 [IRes.tmp 10, IRes.tmp 11]
  (IC.seq
    (IC.ops false
      [IOper.mk (some 10) (IOp.mv (Opd.c (AV.int IntKind.i64 0))) none,
      IOper.mk (some 11) (IOp.mv (Opd.c (AV.int IntKind.i64 0))) none]
      [])
    (IC.seq
      (IC.seq
      (IC.ops true
      [IOper.mk (some 12) (IOp.mv (Opd.t 4)) none, IOper.mk (some 13) (IOp.mv (Opd.t 0)) none,
      IOper.mk (some 14) (IOp.mv (Opd.t 2)) none, IOper.mk (some 15) (IOp.ixa 2 (Opd.t 13) (Opd.t 14)) none,
      IOper.mk (some 16) (IOp.load (some 2) (Opd.t 15)) none, IOper.mk (some 17) (IOp.mv (Opd.t 0)) none,
      IOper.mk (some 18) (IOp.mv (Opd.t 1)) none, IOper.mk (some 19) (IOp.ixa 2 (Opd.t 17) (Opd.t 18)) none,
      IOper.mk (some 20) (IOp.load (some 2) (Opd.t 19)) none,
      IOper.mk (some 21) (IOp.call (Opd.t 12) [Opd.t 16, Opd.t 20]) none,
      IOper.mk (some 22) (IOp.bin BinOp.lss (Opd.t 21) (Opd.c (AV.int IntKind.i64 0))) none]
      [12, 13, 14, 15, 16, 17, 18, 19, 20, 21])
      (IC.cond (Opd.t 22)
      (IC.seq
      (IC.ops false
      [IOper.mk (some 23) (IOp.mv (Opd.t 3)) none, IOper.mk (some 24) (IOp.nilck (Opd.t 23)) none,
      IOper.mk (some 25) (IOp.load none (Opd.t 24)) none,
      IOper.mk (some 26) (IOp.bin BinOp.add (Opd.t 25) (Opd.c (AV.int IntKind.i64 1))) none,
      IOper.mk (some 27) (IOp.nilck (Opd.t 23)) none, IOper.mk none (IOp.store 1 (Opd.t 27) (Opd.t 26)) none]
      [23, 24, 25, 26, 27])
      (IC.seq
      (IC.ops false
      [IOper.mk (some 28) (IOp.mv (Opd.t 2)) none, IOper.mk (some 29) (IOp.mv (Opd.t 1)) none,
      IOper.mk (some 10) (IOp.mv (Opd.t 28)) none, IOper.mk (some 11) (IOp.mv (Opd.t 29)) none]
      [28, 29])
      IC.ret))
      IC.nop))
      (IC.seq
      (IC.ops false
      [IOper.mk (some 30) (IOp.mv (Opd.t 1)) none, IOper.mk (some 31) (IOp.mv (Opd.t 2)) none,
      IOper.mk (some 10) (IOp.mv (Opd.t 30)) none, IOper.mk (some 11) (IOp.mv (Opd.t 31)) none]
      [30, 31])
      IC.ret)))
theorem fn_slices_order2CmpFunc_api_Fault : F 132 = some ir_slices_order2CmpFunc_api_Fault := by kernel_rfl

def ir_slices_swapRangeCmpFunc_int : IFun :=
  IFun.mk false 5 []
  (IC.seq (IC.ops false [IOper.mk (some 10) (IOp.mv (Opd.c (AV.int IntKind.i64 0))) none] [])
    (IC.seq
      (IC.block 0
      (IC.loop
      (IC.seq
      (IC.seq
      (IC.seq
      (IC.ops false
      [IOper.mk (some 11) (IOp.mv (Opd.t 10)) none, IOper.mk (some 12) (IOp.mv (Opd.t 3)) none,
      IOper.mk (some 13) (IOp.bin BinOp.lss (Opd.t 11) (Opd.t 12)) none]
      [11, 12])
      (IC.cond (Opd.t 13) IC.nop (IC.exit 0)))
      (IC.seq
      (IC.seq
      (IC.block 1
      (IC.ops true
      [IOper.mk (some 16) (IOp.mv (Opd.t 0)) none, IOper.mk (some 17) (IOp.mv (Opd.t 1)) none,
      IOper.mk (some 18) (IOp.mv (Opd.t 10)) none,
      IOper.mk (some 19) (IOp.bin BinOp.add (Opd.t 17) (Opd.t 18)) none,
      IOper.mk (some 20) (IOp.mv (Opd.t 0)) none, IOper.mk (some 21) (IOp.mv (Opd.t 2)) none,
      IOper.mk (some 22) (IOp.mv (Opd.t 10)) none,
      IOper.mk (some 23) (IOp.bin BinOp.add (Opd.t 21) (Opd.t 22)) none,
      IOper.mk (some 24) (IOp.mv (Opd.t 0)) none, IOper.mk (some 25) (IOp.mv (Opd.t 2)) none,
      IOper.mk (some 26) (IOp.mv (Opd.t 10)) none,
      IOper.mk (some 27) (IOp.bin BinOp.add (Opd.t 25) (Opd.t 26)) none,
      IOper.mk (some 28) (IOp.ixa 1 (Opd.t 24) (Opd.t 27)) none,
      IOper.mk (some 29) (IOp.load none (Opd.t 28)) none, IOper.mk (some 30) (IOp.mv (Opd.t 0)) none,
      IOper.mk (some 31) (IOp.mv (Opd.t 1)) none, IOper.mk (some 32) (IOp.mv (Opd.t 10)) none,
      IOper.mk (some 33) (IOp.bin BinOp.add (Opd.t 31) (Opd.t 32)) none,
      IOper.mk (some 34) (IOp.ixa 1 (Opd.t 30) (Opd.t 33)) none,
      IOper.mk (some 35) (IOp.load none (Opd.t 34)) none,
      IOper.mk (some 36) (IOp.ixa 1 (Opd.t 16) (Opd.t 19)) none,
      IOper.mk none (IOp.store 1 (Opd.t 36) (Opd.t 29)) none,
      IOper.mk (some 37) (IOp.ixa 1 (Opd.t 20) (Opd.t 23)) none,
      IOper.mk none (IOp.store 1 (Opd.t 37) (Opd.t 35)) none]
      [16, 17, 18, 19, 20, 21, 22, 23, 24, 25, 26, 27, 28, 29, 30, 31, 32, 33, 34, 35, 36, 37]))
      (IC.ops false []
      [16, 17, 18, 19, 20, 21, 22, 23, 24, 25, 26, 27, 28, 29, 30, 31, 32, 33, 34, 35, 36, 37]))
      (IC.ops false
      [IOper.mk (some 14) (IOp.mv (Opd.t 10)) none,
      IOper.mk (some 15) (IOp.bin BinOp.add (Opd.t 14) (Opd.c (AV.int IntKind.i64 1))) none,
      IOper.mk (some 10) (IOp.mv (Opd.t 15)) none]
      [14, 15])))
      (IC.ops false []
      [11, 12, 13, 16, 17, 18, 19, 20, 21, 22, 23, 24, 25, 26, 27, 28, 29, 30, 31, 32, 33, 34, 35, 36, 37, 14,
      15]))))
      (IC.ops false []
      [11, 12, 13, 16, 17, 18, 19, 20, 21, 22, 23, 24, 25, 26, 27, 28, 29, 30, 31, 32, 33, 34, 35, 36, 37, 14, 15])))
theorem fn_slices_swapRangeCmpFunc_int : F 135 = some ir_slices_swapRangeCmpFunc_int := by kernel_rfl

def ir_word_Add : IFun :=
  IFun.mk false 3 [IRes.tmp 6]
  (IC.seq (IC.ops false [IOper.mk (some 6) (IOp.mv (Opd.c (AV.str []))) none] [])
    (IC.seq
      (IC.ops false
      [IOper.mk (some 10) (IOp.mv (Opd.t 0)) none,
      IOper.mk (some 11) (IOp.call (Opd.c (AV.func (Fn.func 143) [] [])) [Opd.t 10]) none,
      IOper.mk (some 9) (IOp.mv (Opd.t 11)) none, IOper.mk (some 12) (IOp.extr (Opd.t 9) 0) none,
      IOper.mk (some 13) (IOp.extr (Opd.t 9) 1) none, IOper.mk (some 7) (IOp.mv (Opd.t 12)) none,
      IOper.mk (some 8) (IOp.mv (Opd.t 13)) none]
      [10, 11, 9, 12, 13])
      (IC.seq
      (IC.seq
      (IC.block 0
      (IC.seq
      (IC.ops false
      [IOper.mk (some 15) (IOp.mv (Opd.t 1)) none, IOper.mk (some 16) (IOp.not (Opd.t 15)) none,
      IOper.mk (some 14) (IOp.mv (Opd.t 16)) none]
      [15, 16])
      (IC.cond (Opd.t 14)
      (IC.seq
      (IC.ops false
      [IOper.mk (some 17) (IOp.mv (Opd.t 2)) none,
      IOper.mk (some 18) (IOp.call (Opd.c (AV.func (Fn.func 144) [] [])) [Opd.t 17]) none,
      IOper.mk (some 6) (IOp.mv (Opd.t 18)) none]
      [17, 18])
      IC.ret)
      (IC.seq
      (IC.ops false
      [IOper.mk (some 20) (IOp.mv (Opd.t 8)) none, IOper.mk (some 19) (IOp.mv (Opd.t 20)) none] [20])
      (IC.cond (Opd.t 19)
      (IC.seq
      (IC.ops false
      [IOper.mk (some 21) (IOp.mv (Opd.t 7)) none, IOper.mk (some 22) (IOp.mv (Opd.t 2)) none,
      IOper.mk (some 23) (IOp.bin BinOp.add (Opd.t 21) (Opd.t 22)) none,
      IOper.mk (some 24) (IOp.call (Opd.c (AV.func (Fn.func 144) [] [])) [Opd.t 23]) none,
      IOper.mk (some 6) (IOp.mv (Opd.t 24)) none]
      [21, 22, 23, 24])
      IC.ret)
      IC.nop)))))
      (IC.ops false [] [15, 16, 14, 17, 18, 20, 19, 21, 22, 23, 24]))
      (IC.seq
      (IC.ops false [IOper.mk (some 25) (IOp.mv (Opd.t 0)) none, IOper.mk (some 6) (IOp.mv (Opd.t 25)) none] [25])
      IC.ret))))
theorem fn_word_Add : F 126 = some ir_word_Add := by kernel_rfl

def ir_cmp_isNaN_string : IFun :=
  IFun.mk false 1 [IRes.tmp 2]
  (IC.seq (IC.ops false [IOper.mk (some 2) (IOp.mv (Opd.c (AV.bool false))) none] [])
    (IC.seq
      (IC.ops false
      [IOper.mk (some 3) (IOp.mv (Opd.t 0)) none, IOper.mk (some 4) (IOp.mv (Opd.t 0)) none,
      IOper.mk (some 5) (IOp.bin BinOp.neq (Opd.t 3) (Opd.t 4)) none, IOper.mk (some 2) (IOp.mv (Opd.t 5)) none]
      [3, 4, 5])
      IC.ret))
theorem fn_cmp_isNaN_string : F 139 = some ir_cmp_isNaN_string := by kernel_rfl

def ir_key_After : IFun :=
  IFun.mk false 1 [IRes.tmp 2]
  (IC.seq (IC.ops false [IOper.mk (some 2) (IOp.mv (Opd.c (AV.str []))) none] [])
    (IC.seq
      (IC.ops false
      [IOper.mk (some 3) (IOp.mv (Opd.t 0)) none,
      IOper.mk (some 4) (IOp.bin BinOp.add (Opd.t 3) (Opd.c (AV.str [UInt8.ofNat 0]))) none,
      IOper.mk (some 2) (IOp.mv (Opd.t 4)) none]
      [3, 4])
      IC.ret))
theorem fn_key_After : F 140 = some ir_key_After := by kernel_rfl

def ir_key_Right : IFun :=
  IFun.mk false 2 [IRes.tmp 4]
  (IC.seq (IC.ops false [IOper.mk (some 4) (IOp.mv (Opd.c (AV.bool false))) none] [])
    (IC.seq
      (IC.ops false
      [IOper.mk (some 5) (IOp.mv (Opd.t 0)) none, IOper.mk (some 6) (IOp.lens (Opd.t 5)) none,
      IOper.mk (some 7) (IOp.bin BinOp.geq (Opd.t 6) (Opd.c (AV.int IntKind.i64 1))) none,
      IOper.mk (some 8) (IOp.mv (Opd.t 7)) none, IOper.mk (some 9) (IOp.mv (Opd.t 0)) (some (8, true)),
      IOper.mk (some 10) (IOp.lens (Opd.t 9)) (some (8, true)),
      IOper.mk (some 11) (IOp.mv (Opd.t 1)) (some (8, true)),
      IOper.mk (some 12) (IOp.bin BinOp.leq (Opd.t 10) (Opd.t 11)) (some (8, true)),
      IOper.mk (some 13) (IOp.pick (Opd.t 8) (Opd.t 12) (Opd.c (AV.bool false))) none,
      IOper.mk (some 4) (IOp.mv (Opd.t 13)) none]
      [5, 6, 7, 8, 9, 10, 11, 12, 13])
      IC.ret))
theorem fn_key_Right : F 138 = some ir_key_Right := by kernel_rfl

def ir_msg_bare : IFun :=
  IFun.mk false 1 [IRes.cell 2 (some 6)]
  (IC.seq
    (IC.ops false
      [IOper.mk (some 1) (IOp.box 6 (Opd.t 0)) none,
      IOper.mk (some 2)
      (IOp.alloc
      [AV.int IntKind.u8 0, AV.int IntKind.i64 0, AV.str [], AV.str [], AV.str [],
      AV.int IntKind.u64 0])
      none]
      [])
    (IC.seq
      (IC.ops false
      [IOper.mk (some 3) (IOp.faddr 1 (Opd.t 1)) none,
      IOper.mk none (IOp.store 1 (Opd.t 3) (Opd.c (AV.int IntKind.i64 0))) none]
      [3])
      (IC.seq
      (IC.seq
      (IC.ops false
      [IOper.mk (some 4) (IOp.faddr 0 (Opd.t 1)) none, IOper.mk (some 5) (IOp.load none (Opd.t 4)) none] [4])
      (IC.seq
      (IC.block 0
      (IC.seq
      (IC.ops false
      [IOper.mk (some 7) (IOp.bin BinOp.eql (Opd.t 5) (Opd.c (AV.int IntKind.u8 1))) none,
      IOper.mk (some 6) (IOp.mv (Opd.t 7)) none]
      [7])
      (IC.cond (Opd.t 6)
      (IC.ops false
      [IOper.mk (some 8) (IOp.faddr 4 (Opd.t 1)) none,
      IOper.mk none (IOp.store 1 (Opd.t 8) (Opd.c (AV.str []))) none]
      [8])
      (IC.seq
      (IC.ops false
      [IOper.mk (some 10) (IOp.bin BinOp.eql (Opd.t 5) (Opd.c (AV.int IntKind.u8 3))) none,
      IOper.mk (some 9) (IOp.mv (Opd.t 10)) none]
      [10])
      (IC.cond (Opd.t 9)
      (IC.ops false
      [IOper.mk (some 11) (IOp.faddr 5 (Opd.t 1)) none,
      IOper.mk none (IOp.store 1 (Opd.t 11) (Opd.c (AV.int IntKind.u64 0))) none]
      [11])
      (IC.seq
      (IC.ops false
      [IOper.mk (some 13) (IOp.bin BinOp.eql (Opd.t 5) (Opd.c (AV.int IntKind.u8 4)))
      none,
      IOper.mk (some 12) (IOp.mv (Opd.t 13)) none]
      [13])
      (IC.cond (Opd.t 12)
      (IC.ops false
      [IOper.mk (some 14) (IOp.faddr 3 (Opd.t 1)) none,
      IOper.mk none (IOp.store 1 (Opd.t 14) (Opd.c (AV.str []))) none]
      [14])
      IC.nop)))))))
      (IC.ops false [] [7, 6, 8, 10, 9, 11, 13, 12, 14])))
      (IC.seq
      (IC.ops false
      [IOper.mk (some 15) (IOp.faddr 2 (Opd.t 1)) none,
      IOper.mk none (IOp.store 1 (Opd.t 15) (Opd.c (AV.str []))) none,
      IOper.mk (some 16) (IOp.faddr 0 (Opd.t 1)) none,
      IOper.mk none (IOp.store 1 (Opd.t 16) (Opd.c (AV.int IntKind.u8 0))) none]
      [15, 16])
      (IC.seq
      (IC.ops false
      [IOper.mk (some 17) (IOp.load (some 6) (Opd.t 1)) none,
      IOper.mk none (IOp.store 6 (Opd.t 2) (Opd.t 17)) none]
      [17])
      IC.ret)))))
theorem fn_msg_bare : F 137 = some ir_msg_bare := by kernel_rfl

def ir_order_knot_string_string_even : IFun :=
  IFun.mk true 1 [IRes.tmp 2]
  (IC.seq (IC.ops false [IOper.mk (some 2) (IOp.mv (Opd.c AV.nilptr)) none] [])
    (IC.seq
      (IC.seq
      (IC.seq (IC.ops false [IOper.mk none (IOp.slots 0) none] [])
      (IC.multi
      [[IOper.mk (some 4) (IOp.mv (Opd.t 0)) none, IOper.mk (some 5) (IOp.nilck (Opd.t 4)) none,
      IOper.mk (some 6) (IOp.faddr 2 (Opd.t 5)) none, IOper.mk (some 7) (IOp.load none (Opd.t 6)) none,
      IOper.mk (some 9) (IOp.mv (Opd.t 0)) none, IOper.mk (some 10) (IOp.nilck (Opd.t 9)) none,
      IOper.mk (some 11) (IOp.faddr 3 (Opd.t 10)) none,
      IOper.mk (some 8) (IOp.call (Opd.c (AV.func (Fn.func 149) [] [])) [Opd.t 7]) none,
      IOper.mk (some 12) (IOp.load none (Opd.t 11)) none,
      IOper.mk (some 13) (IOp.call (Opd.c (AV.func (Fn.func 149) [] [])) [Opd.t 12]) none,
      IOper.mk (some 14) (IOp.bin BinOp.sub (Opd.t 8) (Opd.t 13)) none,
      IOper.mk (some 3) (IOp.mv (Opd.t 14)) none],
      [IOper.mk (some 4) (IOp.mv (Opd.t 0)) none, IOper.mk (some 5) (IOp.nilck (Opd.t 4)) none,
      IOper.mk (some 6) (IOp.faddr 2 (Opd.t 5)) none, IOper.mk (some 7) (IOp.load none (Opd.t 6)) none,
      IOper.mk (some 9) (IOp.mv (Opd.t 0)) none, IOper.mk (some 10) (IOp.nilck (Opd.t 9)) none,
      IOper.mk (some 11) (IOp.faddr 3 (Opd.t 10)) none, IOper.mk (some 12) (IOp.load none (Opd.t 11)) none,
      IOper.mk (some 8) (IOp.call (Opd.c (AV.func (Fn.func 149) [] [])) [Opd.t 7]) none,
      IOper.mk (some 13) (IOp.call (Opd.c (AV.func (Fn.func 149) [] [])) [Opd.t 12]) none,
      IOper.mk (some 14) (IOp.bin BinOp.sub (Opd.t 8) (Opd.t 13)) none,
      IOper.mk (some 3) (IOp.mv (Opd.t 14)) none]]
      [4, 5, 6, 7, 8, 9, 10, 11, 12, 13, 14]))
      (IC.seq
      (IC.block 0
      (IC.seq
      (IC.ops false
      [IOper.mk (some 16) (IOp.mv (Opd.t 3)) none,
      IOper.mk (some 17) (IOp.bin BinOp.gtr (Opd.t 16) (Opd.c (AV.int IntKind.i64 1))) none,
      IOper.mk (some 15) (IOp.mv (Opd.t 17)) none]
      [16, 17])
      (IC.cond (Opd.t 15)
      (IC.seq
      (IC.seq
      (IC.seq (IC.ops false [IOper.mk none (IOp.slots 0) none] [])
      (IC.multi
      [[IOper.mk (some 18) (IOp.mv (Opd.t 0)) none, IOper.mk (some 19) (IOp.nilck (Opd.t 18)) none,
      IOper.mk (some 20) (IOp.faddr 2 (Opd.t 19)) none,
      IOper.mk (some 21) (IOp.load none (Opd.t 20)) none,
      IOper.mk (some 22) (IOp.nilck (Opd.t 21)) none,
      IOper.mk (some 23) (IOp.faddr 2 (Opd.t 22)) none,
      IOper.mk (some 24) (IOp.load none (Opd.t 23)) none,
      IOper.mk (some 26) (IOp.mv (Opd.t 0)) none, IOper.mk (some 27) (IOp.nilck (Opd.t 26)) none,
      IOper.mk (some 28) (IOp.faddr 2 (Opd.t 27)) none,
      IOper.mk (some 25) (IOp.call (Opd.c (AV.func (Fn.func 149) [] [])) [Opd.t 24]) none,
      IOper.mk (some 29) (IOp.load none (Opd.t 28)) none,
      IOper.mk (some 30) (IOp.nilck (Opd.t 29)) none,
      IOper.mk (some 31) (IOp.faddr 3 (Opd.t 30)) none,
      IOper.mk (some 32) (IOp.load none (Opd.t 31)) none,
      IOper.mk (some 33) (IOp.call (Opd.c (AV.func (Fn.func 149) [] [])) [Opd.t 32]) none,
      IOper.mk (some 34) (IOp.bin BinOp.lss (Opd.t 25) (Opd.t 33)) none],
      [IOper.mk (some 18) (IOp.mv (Opd.t 0)) none, IOper.mk (some 19) (IOp.nilck (Opd.t 18)) none,
      IOper.mk (some 20) (IOp.faddr 2 (Opd.t 19)) none,
      IOper.mk (some 21) (IOp.load none (Opd.t 20)) none,
      IOper.mk (some 22) (IOp.nilck (Opd.t 21)) none,
      IOper.mk (some 23) (IOp.faddr 2 (Opd.t 22)) none,
      IOper.mk (some 24) (IOp.load none (Opd.t 23)) none,
      IOper.mk (some 26) (IOp.mv (Opd.t 0)) none, IOper.mk (some 27) (IOp.nilck (Opd.t 26)) none,
      IOper.mk (some 28) (IOp.faddr 2 (Opd.t 27)) none,
      IOper.mk (some 29) (IOp.load none (Opd.t 28)) none,
      IOper.mk (some 30) (IOp.nilck (Opd.t 29)) none,
      IOper.mk (some 31) (IOp.faddr 3 (Opd.t 30)) none,
      IOper.mk (some 25) (IOp.call (Opd.c (AV.func (Fn.func 149) [] [])) [Opd.t 24]) none,
      IOper.mk (some 32) (IOp.load none (Opd.t 31)) none,
      IOper.mk (some 33) (IOp.call (Opd.c (AV.func (Fn.func 149) [] [])) [Opd.t 32]) none,
      IOper.mk (some 34) (IOp.bin BinOp.lss (Opd.t 25) (Opd.t 33)) none],
      [IOper.mk (some 18) (IOp.mv (Opd.t 0)) none, IOper.mk (some 19) (IOp.nilck (Opd.t 18)) none,
      IOper.mk (some 20) (IOp.faddr 2 (Opd.t 19)) none,
      IOper.mk (some 21) (IOp.load none (Opd.t 20)) none,
      IOper.mk (some 22) (IOp.nilck (Opd.t 21)) none,
      IOper.mk (some 23) (IOp.faddr 2 (Opd.t 22)) none,
      IOper.mk (some 24) (IOp.load none (Opd.t 23)) none,
      IOper.mk (some 26) (IOp.mv (Opd.t 0)) none, IOper.mk (some 27) (IOp.nilck (Opd.t 26)) none,
      IOper.mk (some 28) (IOp.faddr 2 (Opd.t 27)) none,
      IOper.mk (some 29) (IOp.load none (Opd.t 28)) none,
      IOper.mk (some 30) (IOp.nilck (Opd.t 29)) none,
      IOper.mk (some 31) (IOp.faddr 3 (Opd.t 30)) none,
      IOper.mk (some 32) (IOp.load none (Opd.t 31)) none,
      IOper.mk (some 25) (IOp.call (Opd.c (AV.func (Fn.func 149) [] [])) [Opd.t 24]) none,
      IOper.mk (some 33) (IOp.call (Opd.c (AV.func (Fn.func 149) [] [])) [Opd.t 32]) none,
      IOper.mk (some 34) (IOp.bin BinOp.lss (Opd.t 25) (Opd.t 33)) none]]
      [18, 19, 20, 21, 22, 23, 24, 25, 26, 27, 28, 29, 30, 31, 32, 33]))
      (IC.cond (Opd.t 34)
      (IC.ops false
      [IOper.mk (some 35) (IOp.mv (Opd.t 0)) none, IOper.mk (some 36) (IOp.mv (Opd.t 0)) none,
      IOper.mk (some 37) (IOp.nilck (Opd.t 36)) none,
      IOper.mk (some 38) (IOp.faddr 2 (Opd.t 37)) none,
      IOper.mk (some 39) (IOp.load none (Opd.t 38)) none,
      IOper.mk (some 40) (IOp.call (Opd.c (AV.func (Fn.func 150) [] [])) [Opd.t 39]) none,
      IOper.mk (some 41) (IOp.nilck (Opd.t 35)) none,
      IOper.mk (some 42) (IOp.faddr 2 (Opd.t 41)) none,
      IOper.mk none (IOp.store 1 (Opd.t 42) (Opd.t 40)) none]
      [35, 36, 37, 38, 39, 40, 41, 42])
      IC.nop))
      (IC.seq
      (IC.ops false
      [IOper.mk (some 43) (IOp.mv (Opd.t 0)) none,
      IOper.mk (some 44) (IOp.call (Opd.c (AV.func (Fn.func 151) [] [])) [Opd.t 43]) none,
      IOper.mk (some 2) (IOp.mv (Opd.t 44)) none]
      [43, 44])
      IC.ret))
      (IC.seq
      (IC.ops false
      [IOper.mk (some 46) (IOp.mv (Opd.t 3)) none,
      IOper.mk (some 47) (IOp.bin BinOp.lss (Opd.t 46) (Opd.c (AV.int IntKind.i64 (-1))))
      none,
      IOper.mk (some 45) (IOp.mv (Opd.t 47)) none]
      [46, 47])
      (IC.cond (Opd.t 45)
      (IC.seq
      (IC.seq
      (IC.seq (IC.ops false [IOper.mk none (IOp.slots 0) none] [])
      (IC.multi
      [[IOper.mk (some 48) (IOp.mv (Opd.t 0)) none,
      IOper.mk (some 49) (IOp.nilck (Opd.t 48)) none,
      IOper.mk (some 50) (IOp.faddr 3 (Opd.t 49)) none,
      IOper.mk (some 51) (IOp.load none (Opd.t 50)) none,
      IOper.mk (some 52) (IOp.nilck (Opd.t 51)) none,
      IOper.mk (some 53) (IOp.faddr 3 (Opd.t 52)) none,
      IOper.mk (some 54) (IOp.load none (Opd.t 53)) none,
      IOper.mk (some 56) (IOp.mv (Opd.t 0)) none,
      IOper.mk (some 57) (IOp.nilck (Opd.t 56)) none,
      IOper.mk (some 58) (IOp.faddr 3 (Opd.t 57)) none,
      IOper.mk (some 55) (IOp.call (Opd.c (AV.func (Fn.func 149) [] [])) [Opd.t 54]) none,
      IOper.mk (some 59) (IOp.load none (Opd.t 58)) none,
      IOper.mk (some 60) (IOp.nilck (Opd.t 59)) none,
      IOper.mk (some 61) (IOp.faddr 2 (Opd.t 60)) none,
      IOper.mk (some 62) (IOp.load none (Opd.t 61)) none,
      IOper.mk (some 63) (IOp.call (Opd.c (AV.func (Fn.func 149) [] [])) [Opd.t 62]) none,
      IOper.mk (some 64) (IOp.bin BinOp.lss (Opd.t 55) (Opd.t 63)) none],
      [IOper.mk (some 48) (IOp.mv (Opd.t 0)) none,
      IOper.mk (some 49) (IOp.nilck (Opd.t 48)) none,
      IOper.mk (some 50) (IOp.faddr 3 (Opd.t 49)) none,
      IOper.mk (some 51) (IOp.load none (Opd.t 50)) none,
      IOper.mk (some 52) (IOp.nilck (Opd.t 51)) none,
      IOper.mk (some 53) (IOp.faddr 3 (Opd.t 52)) none,
      IOper.mk (some 54) (IOp.load none (Opd.t 53)) none,
      IOper.mk (some 56) (IOp.mv (Opd.t 0)) none,
      IOper.mk (some 57) (IOp.nilck (Opd.t 56)) none,
      IOper.mk (some 58) (IOp.faddr 3 (Opd.t 57)) none,
      IOper.mk (some 59) (IOp.load none (Opd.t 58)) none,
      IOper.mk (some 60) (IOp.nilck (Opd.t 59)) none,
      IOper.mk (some 61) (IOp.faddr 2 (Opd.t 60)) none,
      IOper.mk (some 55) (IOp.call (Opd.c (AV.func (Fn.func 149) [] [])) [Opd.t 54]) none,
      IOper.mk (some 62) (IOp.load none (Opd.t 61)) none,
      IOper.mk (some 63) (IOp.call (Opd.c (AV.func (Fn.func 149) [] [])) [Opd.t 62]) none,
      IOper.mk (some 64) (IOp.bin BinOp.lss (Opd.t 55) (Opd.t 63)) none],
      [IOper.mk (some 48) (IOp.mv (Opd.t 0)) none,
      IOper.mk (some 49) (IOp.nilck (Opd.t 48)) none,
      IOper.mk (some 50) (IOp.faddr 3 (Opd.t 49)) none,
      IOper.mk (some 51) (IOp.load none (Opd.t 50)) none,
      IOper.mk (some 52) (IOp.nilck (Opd.t 51)) none,
      IOper.mk (some 53) (IOp.faddr 3 (Opd.t 52)) none,
      IOper.mk (some 54) (IOp.load none (Opd.t 53)) none,
      IOper.mk (some 56) (IOp.mv (Opd.t 0)) none,
      IOper.mk (some 57) (IOp.nilck (Opd.t 56)) none,
      IOper.mk (some 58) (IOp.faddr 3 (Opd.t 57)) none,
      IOper.mk (some 59) (IOp.load none (Opd.t 58)) none,
      IOper.mk (some 60) (IOp.nilck (Opd.t 59)) none,
      IOper.mk (some 61) (IOp.faddr 2 (Opd.t 60)) none,
      IOper.mk (some 62) (IOp.load none (Opd.t 61)) none,
      IOper.mk (some 55) (IOp.call (Opd.c (AV.func (Fn.func 149) [] [])) [Opd.t 54]) none,
      IOper.mk (some 63) (IOp.call (Opd.c (AV.func (Fn.func 149) [] [])) [Opd.t 62]) none,
      IOper.mk (some 64) (IOp.bin BinOp.lss (Opd.t 55) (Opd.t 63)) none]]
      [48, 49, 50, 51, 52, 53, 54, 55, 56, 57, 58, 59, 60, 61, 62, 63]))
      (IC.cond (Opd.t 64)
      (IC.ops false
      [IOper.mk (some 65) (IOp.mv (Opd.t 0)) none, IOper.mk (some 66) (IOp.mv (Opd.t 0)) none,
      IOper.mk (some 67) (IOp.nilck (Opd.t 66)) none,
      IOper.mk (some 68) (IOp.faddr 3 (Opd.t 67)) none,
      IOper.mk (some 69) (IOp.load none (Opd.t 68)) none,
      IOper.mk (some 70) (IOp.call (Opd.c (AV.func (Fn.func 151) [] [])) [Opd.t 69]) none,
      IOper.mk (some 71) (IOp.nilck (Opd.t 65)) none,
      IOper.mk (some 72) (IOp.faddr 3 (Opd.t 71)) none,
      IOper.mk none (IOp.store 1 (Opd.t 72) (Opd.t 70)) none]
      [65, 66, 67, 68, 69, 70, 71, 72])
      IC.nop))
      (IC.seq
      (IC.ops false
      [IOper.mk (some 73) (IOp.mv (Opd.t 0)) none,
      IOper.mk (some 74) (IOp.call (Opd.c (AV.func (Fn.func 150) [] [])) [Opd.t 73]) none,
      IOper.mk (some 2) (IOp.mv (Opd.t 74)) none]
      [73, 74])
      IC.ret))
      IC.nop)))))
      (IC.ops false []
      [16, 17, 15, 18, 19, 20, 21, 22, 23, 24, 25, 26, 27, 28, 29, 30, 31, 32, 33, 34, 35, 36, 37, 38, 39, 40, 41,
      42, 43, 44, 46, 47, 45, 48, 49, 50, 51, 52, 53, 54, 55, 56, 57, 58, 59, 60, 61, 62, 63, 64, 65, 66, 67,
      68, 69, 70, 71, 72, 73, 74])))
      (IC.seq
      (IC.ops false
      [IOper.mk (some 75) (IOp.mv (Opd.t 0)) none,
      IOper.mk (some 76) (IOp.call (Opd.c (AV.func (Fn.func 145) [] [])) [Opd.t 75]) none,
      IOper.mk (some 2) (IOp.mv (Opd.t 76)) none]
      [75, 76])
      IC.ret)))
theorem fn_order_knot_string_string_even : F 142 = some ir_order_knot_string_string_even := by kernel_rfl

def ir_order_knot_string_string_fresh : IFun :=
  IFun.mk true 1 [IRes.tmp 2]
  (IC.seq (IC.ops false [IOper.mk (some 2) (IOp.mv (Opd.c AV.nilptr)) none] [])
    (IC.seq
      (IC.seq (IC.ops false [IOper.mk none (IOp.slots 0) none] [])
      (IC.multi
      [[IOper.mk (some 3) (IOp.mv (Opd.t 0)) none, IOper.mk (some 4) (IOp.mv (Opd.t 0)) none,
      IOper.mk (some 5) (IOp.nilck (Opd.t 4)) none, IOper.mk (some 6) (IOp.faddr 2 (Opd.t 5)) none,
      IOper.mk (some 7) (IOp.load none (Opd.t 6)) none, IOper.mk (some 9) (IOp.mv (Opd.t 0)) none,
      IOper.mk (some 10) (IOp.nilck (Opd.t 9)) none, IOper.mk (some 11) (IOp.faddr 3 (Opd.t 10)) none,
      IOper.mk (some 8) (IOp.call (Opd.c (AV.func (Fn.func 149) [] [])) [Opd.t 7]) none,
      IOper.mk (some 12) (IOp.load none (Opd.t 11)) none,
      IOper.mk (some 13) (IOp.call (Opd.c (AV.func (Fn.func 149) [] [])) [Opd.t 12]) none,
      IOper.mk (some 14) (IOp.minmax true [Opd.t 8, Opd.t 13]) none,
      IOper.mk (some 15) (IOp.bin BinOp.add (Opd.c (AV.int IntKind.i64 1)) (Opd.t 14)) none,
      IOper.mk (some 16) (IOp.nilck (Opd.t 3)) none, IOper.mk (some 17) (IOp.faddr 4 (Opd.t 16)) none,
      IOper.mk none (IOp.store 1 (Opd.t 17) (Opd.t 15)) none],
      [IOper.mk (some 3) (IOp.mv (Opd.t 0)) none, IOper.mk (some 4) (IOp.mv (Opd.t 0)) none,
      IOper.mk (some 5) (IOp.nilck (Opd.t 4)) none, IOper.mk (some 6) (IOp.faddr 2 (Opd.t 5)) none,
      IOper.mk (some 7) (IOp.load none (Opd.t 6)) none, IOper.mk (some 9) (IOp.mv (Opd.t 0)) none,
      IOper.mk (some 10) (IOp.nilck (Opd.t 9)) none, IOper.mk (some 11) (IOp.faddr 3 (Opd.t 10)) none,
      IOper.mk (some 12) (IOp.load none (Opd.t 11)) none,
      IOper.mk (some 8) (IOp.call (Opd.c (AV.func (Fn.func 149) [] [])) [Opd.t 7]) none,
      IOper.mk (some 13) (IOp.call (Opd.c (AV.func (Fn.func 149) [] [])) [Opd.t 12]) none,
      IOper.mk (some 14) (IOp.minmax true [Opd.t 8, Opd.t 13]) none,
      IOper.mk (some 15) (IOp.bin BinOp.add (Opd.c (AV.int IntKind.i64 1)) (Opd.t 14)) none,
      IOper.mk (some 16) (IOp.nilck (Opd.t 3)) none, IOper.mk (some 17) (IOp.faddr 4 (Opd.t 16)) none,
      IOper.mk none (IOp.store 1 (Opd.t 17) (Opd.t 15)) none]]
      [3, 4, 5, 6, 7, 8, 9, 10, 11, 12, 13, 14, 15, 16, 17]))
      (IC.seq
      (IC.seq (IC.ops false [IOper.mk none (IOp.slots 0) none] [])
      (IC.multi
      [[IOper.mk (some 18) (IOp.mv (Opd.t 0)) none, IOper.mk (some 19) (IOp.mv (Opd.t 0)) none,
      IOper.mk (some 20) (IOp.nilck (Opd.t 19)) none, IOper.mk (some 21) (IOp.faddr 2 (Opd.t 20)) none,
      IOper.mk (some 22) (IOp.load none (Opd.t 21)) none, IOper.mk (some 25) (IOp.mv (Opd.t 0)) none,
      IOper.mk (some 26) (IOp.nilck (Opd.t 25)) none, IOper.mk (some 27) (IOp.faddr 3 (Opd.t 26)) none,
      IOper.mk (some 23) (IOp.call (Opd.c (AV.func (Fn.func 94) [] [])) [Opd.t 22]) none,
      IOper.mk (some 24) (IOp.bin BinOp.add (Opd.c (AV.int IntKind.i64 1)) (Opd.t 23)) none,
      IOper.mk (some 28) (IOp.load none (Opd.t 27)) none,
      IOper.mk (some 29) (IOp.call (Opd.c (AV.func (Fn.func 94) [] [])) [Opd.t 28]) none,
      IOper.mk (some 30) (IOp.bin BinOp.add (Opd.t 24) (Opd.t 29)) none,
      IOper.mk (some 31) (IOp.nilck (Opd.t 18)) none, IOper.mk (some 32) (IOp.faddr 5 (Opd.t 31)) none,
      IOper.mk none (IOp.store 1 (Opd.t 32) (Opd.t 30)) none],
      [IOper.mk (some 18) (IOp.mv (Opd.t 0)) none, IOper.mk (some 19) (IOp.mv (Opd.t 0)) none,
      IOper.mk (some 20) (IOp.nilck (Opd.t 19)) none, IOper.mk (some 21) (IOp.faddr 2 (Opd.t 20)) none,
      IOper.mk (some 22) (IOp.load none (Opd.t 21)) none, IOper.mk (some 25) (IOp.mv (Opd.t 0)) none,
      IOper.mk (some 26) (IOp.nilck (Opd.t 25)) none, IOper.mk (some 27) (IOp.faddr 3 (Opd.t 26)) none,
      IOper.mk (some 28) (IOp.load none (Opd.t 27)) none,
      IOper.mk (some 23) (IOp.call (Opd.c (AV.func (Fn.func 94) [] [])) [Opd.t 22]) none,
      IOper.mk (some 24) (IOp.bin BinOp.add (Opd.c (AV.int IntKind.i64 1)) (Opd.t 23)) none,
      IOper.mk (some 29) (IOp.call (Opd.c (AV.func (Fn.func 94) [] [])) [Opd.t 28]) none,
      IOper.mk (some 30) (IOp.bin BinOp.add (Opd.t 24) (Opd.t 29)) none,
      IOper.mk (some 31) (IOp.nilck (Opd.t 18)) none, IOper.mk (some 32) (IOp.faddr 5 (Opd.t 31)) none,
      IOper.mk none (IOp.store 1 (Opd.t 32) (Opd.t 30)) none]]
      [18, 19, 20, 21, 22, 23, 24, 25, 26, 27, 28, 29, 30, 31, 32]))
      (IC.seq
      (IC.ops false [IOper.mk (some 33) (IOp.mv (Opd.t 0)) none, IOper.mk (some 2) (IOp.mv (Opd.t 33)) none] [33])
      IC.ret))))
theorem fn_order_knot_string_string_fresh : F 145 = some ir_order_knot_string_string_fresh := by kernel_rfl

def ir_order_knot_string_string_least : IFun :=
  IFun.mk true 1 [IRes.tmp 2, IRes.tmp 3]
  (IC.seq
    (IC.ops false [IOper.mk (some 2) (IOp.mv (Opd.c AV.nilptr)) none, IOper.mk (some 3) (IOp.mv (Opd.c AV.nilptr)) none]
      [])
    (IC.seq
      (IC.seq
      (IC.ops false
      [IOper.mk (some 6) (IOp.mv (Opd.t 0)) none, IOper.mk (some 7) (IOp.nilck (Opd.t 6)) none,
      IOper.mk (some 8) (IOp.faddr 2 (Opd.t 7)) none, IOper.mk (some 9) (IOp.load none (Opd.t 8)) none,
      IOper.mk (some 10) (IOp.eqn 0 false (Opd.t 9) (Opd.c AV.nilptr)) none]
      [6, 7, 8, 9])
      (IC.cond (Opd.t 10)
      (IC.seq
      (IC.ops false
      [IOper.mk (some 11) (IOp.mv (Opd.t 0)) none, IOper.mk (some 12) (IOp.nilck (Opd.t 11)) none,
      IOper.mk (some 13) (IOp.faddr 3 (Opd.t 12)) none, IOper.mk (some 14) (IOp.load none (Opd.t 13)) none,
      IOper.mk (some 15) (IOp.mv (Opd.t 0)) none, IOper.mk (some 2) (IOp.mv (Opd.t 14)) none,
      IOper.mk (some 3) (IOp.mv (Opd.t 15)) none]
      [11, 12, 13, 14, 15])
      IC.ret)
      IC.nop))
      (IC.seq
      (IC.ops false
      [IOper.mk (some 17) (IOp.mv (Opd.t 0)) none, IOper.mk (some 18) (IOp.nilck (Opd.t 17)) none,
      IOper.mk (some 19) (IOp.faddr 2 (Opd.t 18)) none, IOper.mk (some 20) (IOp.load none (Opd.t 19)) none,
      IOper.mk (some 21) (IOp.call (Opd.c (AV.func (Fn.func 141) [] [])) [Opd.t 20]) none,
      IOper.mk (some 16) (IOp.mv (Opd.t 21)) none, IOper.mk (some 22) (IOp.extr (Opd.t 16) 0) none,
      IOper.mk (some 23) (IOp.extr (Opd.t 16) 1) none, IOper.mk (some 4) (IOp.mv (Opd.t 22)) none,
      IOper.mk (some 5) (IOp.mv (Opd.t 23)) none]
      [17, 18, 19, 20, 21, 16, 22, 23])
      (IC.seq
      (IC.ops false
      [IOper.mk (some 24) (IOp.mv (Opd.t 0)) none, IOper.mk (some 25) (IOp.mv (Opd.t 4)) none,
      IOper.mk (some 26) (IOp.nilck (Opd.t 24)) none, IOper.mk (some 27) (IOp.faddr 2 (Opd.t 26)) none,
      IOper.mk none (IOp.store 1 (Opd.t 27) (Opd.t 25)) none]
      [24, 25, 26, 27])
      (IC.seq
      (IC.ops false
      [IOper.mk (some 28) (IOp.mv (Opd.t 0)) none,
      IOper.mk (some 29) (IOp.call (Opd.c (AV.func (Fn.func 142) [] [])) [Opd.t 28]) none,
      IOper.mk (some 30) (IOp.mv (Opd.t 5)) none, IOper.mk (some 2) (IOp.mv (Opd.t 29)) none,
      IOper.mk (some 3) (IOp.mv (Opd.t 30)) none]
      [28, 29, 30])
      IC.ret)))))
theorem fn_order_knot_string_string_least : F 141 = some ir_order_knot_string_string_least := by kernel_rfl

def ir_order_knot_string_string_walk : IFun :=
  IFun.mk true 3 [IRes.tmp 6]
  (IC.seq (IC.ops false [IOper.mk (some 6) (IOp.mv (Opd.c (AV.bool false))) none] [])
    (IC.seq
      (IC.seq
      (IC.ops false
      [IOper.mk (some 7) (IOp.mv (Opd.t 0)) none,
      IOper.mk (some 8) (IOp.eqn 0 false (Opd.t 7) (Opd.c AV.nilptr)) none]
      [7])
      (IC.cond (Opd.t 8) (IC.seq (IC.ops false [IOper.mk (some 6) (IOp.mv (Opd.c (AV.bool true))) none] []) IC.ret)
      IC.nop))
      (IC.seq
      (IC.seq
      (IC.ops true
      [IOper.mk (some 9) (IOp.mv (Opd.t 1)) none,
      IOper.mk (some 10) (IOp.eqn 0 true (Opd.t 9) (Opd.c AV.nilptr)) none,
      IOper.mk (some 11) (IOp.mv (Opd.t 10)) none, IOper.mk (some 12) (IOp.mv (Opd.t 0)) (some (11, true)),
      IOper.mk (some 13) (IOp.nilck (Opd.t 12)) (some (11, true)),
      IOper.mk (some 14) (IOp.faddr 0 (Opd.t 13)) (some (11, true)),
      IOper.mk (some 15) (IOp.load none (Opd.t 14)) (some (11, true)),
      IOper.mk (some 16) (IOp.mv (Opd.t 1)) (some (11, true)),
      IOper.mk (some 17) (IOp.nilck (Opd.t 16)) (some (11, true)),
      IOper.mk (some 18) (IOp.load none (Opd.t 17)) (some (11, true)),
      IOper.mk (some 19) (IOp.call (Opd.c (AV.func (Fn.func 136) [] [])) [Opd.t 15, Opd.t 18])
      (some (11, true)),
      IOper.mk (some 20) (IOp.pick (Opd.t 11) (Opd.t 19) (Opd.c (AV.bool false))) none]
      [9, 10, 11, 12, 13, 14, 15, 16, 17, 18, 19])
      (IC.cond (Opd.t 20)
      (IC.seq
      (IC.ops false
      [IOper.mk (some 21) (IOp.mv (Opd.t 0)) none, IOper.mk (some 22) (IOp.nilck (Opd.t 21)) none,
      IOper.mk (some 23) (IOp.faddr 3 (Opd.t 22)) none, IOper.mk (some 24) (IOp.load none (Opd.t 23)) none,
      IOper.mk (some 25) (IOp.mv (Opd.t 1)) none, IOper.mk (some 26) (IOp.mv (Opd.t 2)) none,
      IOper.mk (some 27) (IOp.call (Opd.c (AV.func (Fn.func 119) [] [])) [Opd.t 24, Opd.t 25, Opd.t 26])
      none,
      IOper.mk (some 6) (IOp.mv (Opd.t 27)) none]
      [21, 22, 23, 24, 25, 26, 27])
      IC.ret)
      IC.nop))
      (IC.seq
      (IC.ops true
      [IOper.mk (some 28) (IOp.mv (Opd.t 0)) none, IOper.mk (some 29) (IOp.nilck (Opd.t 28)) none,
      IOper.mk (some 30) (IOp.faddr 2 (Opd.t 29)) none, IOper.mk (some 31) (IOp.load none (Opd.t 30)) none,
      IOper.mk (some 32) (IOp.mv (Opd.t 1)) none, IOper.mk (some 33) (IOp.mv (Opd.t 2)) none,
      IOper.mk (some 34) (IOp.call (Opd.c (AV.func (Fn.func 119) [] [])) [Opd.t 31, Opd.t 32, Opd.t 33]) none,
      IOper.mk (some 35) (IOp.mv (Opd.t 34)) none, IOper.mk (some 36) (IOp.mv (Opd.t 2)) (some (35, true)),
      IOper.mk (some 37) (IOp.mv (Opd.t 0)) (some (35, true)),
      IOper.mk (some 38) (IOp.nilck (Opd.t 37)) (some (35, true)),
      IOper.mk (some 39) (IOp.faddr 0 (Opd.t 38)) (some (35, true)),
      IOper.mk (some 40) (IOp.load none (Opd.t 39)) (some (35, true)),
      IOper.mk (some 41) (IOp.mv (Opd.t 0)) (some (35, true)),
      IOper.mk (some 42) (IOp.nilck (Opd.t 41)) (some (35, true)),
      IOper.mk (some 43) (IOp.faddr 1 (Opd.t 42)) (some (35, true)),
      IOper.mk (some 44) (IOp.load none (Opd.t 43)) (some (35, true)),
      IOper.mk (some 45) (IOp.call (Opd.t 36) [Opd.t 40, Opd.t 44]) (some (35, true)),
      IOper.mk (some 46) (IOp.pick (Opd.t 35) (Opd.t 45) (Opd.c (AV.bool false))) none,
      IOper.mk (some 47) (IOp.mv (Opd.t 46)) none, IOper.mk (some 48) (IOp.mv (Opd.t 0)) (some (47, true)),
      IOper.mk (some 49) (IOp.nilck (Opd.t 48)) (some (47, true)),
      IOper.mk (some 50) (IOp.faddr 3 (Opd.t 49)) (some (47, true)),
      IOper.mk (some 51) (IOp.load none (Opd.t 50)) (some (47, true)),
      IOper.mk (some 52) (IOp.mv (Opd.t 2)) (some (47, true)),
      IOper.mk (some 53) (IOp.call (Opd.c (AV.func (Fn.func 119) [] [])) [Opd.t 51, Opd.c AV.nilptr, Opd.t 52])
      (some (47, true)),
      IOper.mk (some 54) (IOp.pick (Opd.t 47) (Opd.t 53) (Opd.c (AV.bool false))) none,
      IOper.mk (some 6) (IOp.mv (Opd.t 54)) none]
      [28, 29, 30, 31, 32, 33, 34, 35, 36, 37, 38, 39, 40, 41, 42, 43, 44, 45, 46, 47, 48, 49, 50, 51, 52, 53,
      54])
      IC.ret))))
theorem fn_order_knot_string_string_walk : F 119 = some ir_order_knot_string_string_walk := by kernel_rfl

def ir_slices_IndexFunc_api_Entry_api_Entry : IFun :=
  IFun.mk false 2 [IRes.tmp 4]
  (IC.seq (IC.ops false [IOper.mk (some 4) (IOp.mv (Opd.c (AV.int IntKind.i64 0))) none] [])
    (IC.seq
      (IC.seq
      (IC.ops false
      [IOper.mk (some 6) (IOp.mv (Opd.t 0)) none, IOper.mk (some 7) (IOp.len (Opd.t 6)) none,
      IOper.mk (some 8) (IOp.mv (Opd.c (AV.int IntKind.i64 0))) none]
      [6])
      (IC.seq
      (IC.block 0
      (IC.loop
      (IC.seq
      (IC.seq (IC.ops false [IOper.mk (some 9) (IOp.bin BinOp.lss (Opd.t 8) (Opd.t 7)) none] [])
      (IC.seq (IC.cond (Opd.t 9) IC.nop (IC.exit 0))
      (IC.seq
      (IC.seq
      (IC.block 1
      (IC.seq
      (IC.ops false
      [IOper.mk (some 10) (IOp.mv (Opd.t 8)) none, IOper.mk (some 5) (IOp.mv (Opd.t 10)) none]
      [10])
      (IC.seq
      (IC.ops false
      [IOper.mk (some 11) (IOp.mv (Opd.t 1)) none, IOper.mk (some 12) (IOp.mv (Opd.t 0)) none,
      IOper.mk (some 13) (IOp.mv (Opd.t 5)) none,
      IOper.mk (some 14) (IOp.ixa 2 (Opd.t 12) (Opd.t 13)) none,
      IOper.mk (some 15) (IOp.load (some 2) (Opd.t 14)) none,
      IOper.mk (some 16) (IOp.call (Opd.t 11) [Opd.t 15]) none]
      [11, 12, 13, 14, 15])
      (IC.cond (Opd.t 16)
      (IC.seq
      (IC.ops false
      [IOper.mk (some 17) (IOp.mv (Opd.t 5)) none,
      IOper.mk (some 4) (IOp.mv (Opd.t 17)) none]
      [17])
      IC.ret)
      IC.nop))))
      (IC.ops false [] [10, 5, 11, 12, 13, 14, 15, 16, 17]))
      (IC.ops false
      [IOper.mk (some 18) (IOp.bin BinOp.add (Opd.t 8) (Opd.c (AV.int IntKind.i64 1)))
      none,
      IOper.mk (some 8) (IOp.mv (Opd.t 18)) none]
      [18]))))
      (IC.ops false [] [9, 10, 5, 11, 12, 13, 14, 15, 16, 17, 18]))))
      (IC.ops false [] [9, 10, 5, 11, 12, 13, 14, 15, 16, 17, 18])))
      (IC.seq (IC.ops false [IOper.mk (some 4) (IOp.mv (Opd.c (AV.int IntKind.i64 (-1)))) none] []) IC.ret)))
theorem fn_slices_IndexFunc_api_Entry_api_Entry : F 146 = some ir_slices_IndexFunc_api_Entry_api_Entry := by kernel_rfl

def ir_word_Put : IFun :=
  IFun.mk false 1 [IRes.tmp 2]
  (IC.seq (IC.ops false [IOper.mk (some 2) (IOp.mv (Opd.c (AV.str []))) none] [])
    (IC.seq
      (IC.ops false
      [IOper.mk (some 3)
      (IOp.alloc
      [AV.int IntKind.u8 0, AV.int IntKind.u8 0, AV.int IntKind.u8 0,
      AV.int IntKind.u8 0, AV.int IntKind.u8 0, AV.int IntKind.u8 0,
      AV.int IntKind.u8 0, AV.int IntKind.u8 0])
      none]
      [])
      (IC.seq
      (IC.seq (IC.ops false [IOper.mk (some 5) (IOp.mv (Opd.c (AV.int IntKind.i64 0))) none] [])
      (IC.seq
      (IC.block 0
      (IC.loop
      (IC.seq
      (IC.seq
      (IC.ops false
      [IOper.mk (some 6) (IOp.bin BinOp.lss (Opd.t 5) (Opd.c (AV.int IntKind.i64 8))) none]
      [])
      (IC.seq (IC.cond (Opd.t 6) IC.nop (IC.exit 0))
      (IC.seq
      (IC.seq
      (IC.block 1
      (IC.seq
      (IC.ops false
      [IOper.mk (some 7) (IOp.mv (Opd.t 5)) none, IOper.mk (some 4) (IOp.mv (Opd.t 7)) none]
      [7])
      (IC.ops false
      [IOper.mk (some 8) (IOp.mv (Opd.t 4)) none,
      IOper.mk (some 9)
      (IOp.bin BinOp.sub (Opd.c (AV.int IntKind.i64 7)) (Opd.t 8)) none,
      IOper.mk (some 10) (IOp.mv (Opd.t 0)) none,
      IOper.mk (some 11) (IOp.mv (Opd.t 4)) none,
      IOper.mk (some 12)
      (IOp.bin BinOp.mul (Opd.c (AV.int IntKind.i64 8)) (Opd.t 11)) none,
      IOper.mk (some 13) (IOp.bin BinOp.shr (Opd.t 10) (Opd.t 12)) none,
      IOper.mk (some 14) (IOp.conv IntKind.u8 (Opd.t 13)) none,
      IOper.mk (some 15) (IOp.ixaa 8 1 (Opd.t 3) (Opd.t 9)) none,
      IOper.mk none (IOp.store 1 (Opd.t 15) (Opd.t 14)) none]
      [8, 9, 10, 11, 12, 13, 14, 15])))
      (IC.ops false [] [7, 4, 8, 9, 10, 11, 12, 13, 14, 15]))
      (IC.ops false
      [IOper.mk (some 16) (IOp.bin BinOp.add (Opd.t 5) (Opd.c (AV.int IntKind.i64 1)))
      none,
      IOper.mk (some 5) (IOp.mv (Opd.t 16)) none]
      [16]))))
      (IC.ops false [] [6, 7, 4, 8, 9, 10, 11, 12, 13, 14, 15, 16]))))
      (IC.ops false [] [6, 7, 4, 8, 9, 10, 11, 12, 13, 14, 15, 16])))
      (IC.seq
      (IC.ops false
      [IOper.mk (some 17) (IOp.suba 8 1 (Opd.t 3) none none none) none,
      IOper.mk (some 18) (IOp.text (Opd.t 17)) none, IOper.mk (some 2) (IOp.mv (Opd.t 18)) none]
      [17, 18])
      IC.ret))))
theorem fn_word_Put : F 144 = some ir_word_Put := by kernel_rfl

def ir_word_Take : IFun :=
  IFun.mk false 1 [IRes.tmp 2, IRes.tmp 3]
  (IC.seq
    (IC.ops false
      [IOper.mk (some 2) (IOp.mv (Opd.c (AV.int IntKind.u64 0))) none,
      IOper.mk (some 3) (IOp.mv (Opd.c (AV.bool false))) none]
      [])
    (IC.seq
      (IC.seq
      (IC.ops false
      [IOper.mk (some 6) (IOp.mv (Opd.t 0)) none, IOper.mk (some 7) (IOp.lens (Opd.t 6)) none,
      IOper.mk (some 8) (IOp.bin BinOp.neq (Opd.t 7) (Opd.c (AV.int IntKind.i64 8))) none]
      [6, 7])
      (IC.cond (Opd.t 8)
      (IC.seq
      (IC.ops false
      [IOper.mk (some 2) (IOp.mv (Opd.c (AV.int IntKind.u64 0))) none,
      IOper.mk (some 3) (IOp.mv (Opd.c (AV.bool false))) none]
      [])
      IC.ret)
      IC.nop))
      (IC.seq (IC.ops false [IOper.mk (some 4) (IOp.mv (Opd.c (AV.int IntKind.u64 0))) none] [])
      (IC.seq
      (IC.seq
      (IC.ops false
      [IOper.mk (some 9) (IOp.mv (Opd.t 0)) none, IOper.mk (some 10) (IOp.lens (Opd.t 9)) none,
      IOper.mk (some 11) (IOp.mv (Opd.c (AV.int IntKind.i64 0))) none]
      [9])
      (IC.seq
      (IC.block 0
      (IC.loop
      (IC.seq
      (IC.seq (IC.ops false [IOper.mk (some 12) (IOp.bin BinOp.lss (Opd.t 11) (Opd.t 10)) none] [])
      (IC.seq (IC.cond (Opd.t 12) IC.nop (IC.exit 0))
      (IC.seq
      (IC.seq
      (IC.block 1
      (IC.seq
      (IC.ops false
      [IOper.mk (some 13) (IOp.mv (Opd.t 11)) none,
      IOper.mk (some 5) (IOp.mv (Opd.t 13)) none]
      [13])
      (IC.ops false
      [IOper.mk (some 14) (IOp.mv (Opd.t 4)) none,
      IOper.mk (some 15)
      (IOp.bin BinOp.shl (Opd.t 14) (Opd.c (AV.int IntKind.u64 8))) none,
      IOper.mk (some 16) (IOp.mv (Opd.t 0)) none,
      IOper.mk (some 17) (IOp.mv (Opd.t 5)) none,
      IOper.mk (some 18) (IOp.ixs (Opd.t 16) (Opd.t 17)) none,
      IOper.mk (some 19) (IOp.conv IntKind.u64 (Opd.t 18)) none,
      IOper.mk (some 20) (IOp.bin BinOp.or (Opd.t 15) (Opd.t 19)) none,
      IOper.mk (some 4) (IOp.mv (Opd.t 20)) none]
      [14, 15, 16, 17, 18, 19, 20])))
      (IC.ops false [] [13, 5, 14, 15, 16, 17, 18, 19, 20]))
      (IC.ops false
      [IOper.mk (some 21)
      (IOp.bin BinOp.add (Opd.t 11) (Opd.c (AV.int IntKind.i64 1))) none,
      IOper.mk (some 11) (IOp.mv (Opd.t 21)) none]
      [21]))))
      (IC.ops false [] [12, 13, 5, 14, 15, 16, 17, 18, 19, 20, 21]))))
      (IC.ops false [] [12, 13, 5, 14, 15, 16, 17, 18, 19, 20, 21])))
      (IC.seq
      (IC.ops false
      [IOper.mk (some 22) (IOp.mv (Opd.t 4)) none, IOper.mk (some 2) (IOp.mv (Opd.t 22)) none,
      IOper.mk (some 3) (IOp.mv (Opd.c (AV.bool true))) none]
      [22])
      IC.ret)))))
theorem fn_word_Take : F 143 = some ir_word_Take := by kernel_rfl

def ir_cmp_Less_string : IFun :=
  IFun.mk false 2 [IRes.tmp 4]
  (IC.seq (IC.ops false [IOper.mk (some 4) (IOp.mv (Opd.c (AV.bool false))) none] [])
    (IC.seq
      (IC.ops false
      [IOper.mk (some 5) (IOp.mv (Opd.t 0)) none,
      IOper.mk (some 6) (IOp.call (Opd.c (AV.func (Fn.func 139) [] [])) [Opd.t 5]) none,
      IOper.mk (some 7) (IOp.mv (Opd.t 6)) none, IOper.mk (some 8) (IOp.mv (Opd.t 1)) (some (7, true)),
      IOper.mk (some 9) (IOp.call (Opd.c (AV.func (Fn.func 139) [] [])) [Opd.t 8]) (some (7, true)),
      IOper.mk (some 10) (IOp.not (Opd.t 9)) (some (7, true)),
      IOper.mk (some 11) (IOp.pick (Opd.t 7) (Opd.t 10) (Opd.c (AV.bool false))) none,
      IOper.mk (some 12) (IOp.mv (Opd.t 11)) none, IOper.mk (some 13) (IOp.mv (Opd.t 0)) (some (12, false)),
      IOper.mk (some 14) (IOp.mv (Opd.t 1)) (some (12, false)),
      IOper.mk (some 15) (IOp.bin BinOp.lss (Opd.t 13) (Opd.t 14)) (some (12, false)),
      IOper.mk (some 16) (IOp.pick (Opd.t 12) (Opd.c (AV.bool true)) (Opd.t 15)) none,
      IOper.mk (some 4) (IOp.mv (Opd.t 16)) none]
      [5, 6, 7, 8, 9, 10, 11, 12, 13, 14, 15, 16])
      IC.ret))
theorem fn_cmp_Less_string : F 136 = some ir_cmp_Less_string := by kernel_rfl

def ir_order_knot_string_string_depth : IFun :=
  IFun.mk true 1 [IRes.tmp 2]
  (IC.seq (IC.ops false [IOper.mk (some 2) (IOp.mv (Opd.c (AV.int IntKind.i64 0))) none] [])
    (IC.seq
      (IC.seq
      (IC.ops false
      [IOper.mk (some 3) (IOp.mv (Opd.t 0)) none,
      IOper.mk (some 4) (IOp.eqn 0 false (Opd.t 3) (Opd.c AV.nilptr)) none]
      [3])
      (IC.cond (Opd.t 4)
      (IC.seq (IC.ops false [IOper.mk (some 2) (IOp.mv (Opd.c (AV.int IntKind.i64 0))) none] []) IC.ret)
      IC.nop))
      (IC.seq
      (IC.ops false
      [IOper.mk (some 5) (IOp.mv (Opd.t 0)) none, IOper.mk (some 6) (IOp.nilck (Opd.t 5)) none,
      IOper.mk (some 7) (IOp.faddr 4 (Opd.t 6)) none, IOper.mk (some 8) (IOp.load none (Opd.t 7)) none,
      IOper.mk (some 2) (IOp.mv (Opd.t 8)) none]
      [5, 6, 7, 8])
      IC.ret)))
theorem fn_order_knot_string_string_depth : F 149 = some ir_order_knot_string_string_depth := by kernel_rfl

def ir_order_knot_string_string_down : IFun :=
  IFun.mk true 1 [IRes.tmp 2]
  (IC.seq (IC.ops false [IOper.mk (some 2) (IOp.mv (Opd.c AV.nilptr)) none] [])
    (IC.seq
      (IC.ops false
      [IOper.mk (some 4) (IOp.mv (Opd.t 0)) none, IOper.mk (some 5) (IOp.nilck (Opd.t 4)) none,
      IOper.mk (some 6) (IOp.faddr 2 (Opd.t 5)) none, IOper.mk (some 7) (IOp.load none (Opd.t 6)) none,
      IOper.mk (some 3) (IOp.mv (Opd.t 7)) none]
      [4, 5, 6, 7])
      (IC.seq
      (IC.ops false
      [IOper.mk (some 8) (IOp.mv (Opd.t 0)) none, IOper.mk (some 9) (IOp.mv (Opd.t 3)) none,
      IOper.mk (some 10) (IOp.nilck (Opd.t 9)) none, IOper.mk (some 11) (IOp.faddr 3 (Opd.t 10)) none,
      IOper.mk (some 12) (IOp.load none (Opd.t 11)) none, IOper.mk (some 13) (IOp.nilck (Opd.t 8)) none,
      IOper.mk (some 14) (IOp.faddr 2 (Opd.t 13)) none, IOper.mk none (IOp.store 1 (Opd.t 14) (Opd.t 12)) none]
      [8, 9, 10, 11, 12, 13, 14])
      (IC.seq
      (IC.ops false
      [IOper.mk (some 15) (IOp.mv (Opd.t 3)) none, IOper.mk (some 16) (IOp.mv (Opd.t 0)) none,
      IOper.mk (some 17) (IOp.call (Opd.c (AV.func (Fn.func 145) [] [])) [Opd.t 16]) none,
      IOper.mk (some 18) (IOp.nilck (Opd.t 15)) none, IOper.mk (some 19) (IOp.faddr 3 (Opd.t 18)) none,
      IOper.mk none (IOp.store 1 (Opd.t 19) (Opd.t 17)) none]
      [15, 16, 17, 18, 19])
      (IC.seq
      (IC.ops false
      [IOper.mk (some 20) (IOp.mv (Opd.t 3)) none,
      IOper.mk (some 21) (IOp.call (Opd.c (AV.func (Fn.func 145) [] [])) [Opd.t 20]) none,
      IOper.mk (some 2) (IOp.mv (Opd.t 21)) none]
      [20, 21])
      IC.ret)))))
theorem fn_order_knot_string_string_down : F 151 = some ir_order_knot_string_string_down := by kernel_rfl

def ir_order_knot_string_string_up : IFun :=
  IFun.mk true 1 [IRes.tmp 2]
  (IC.seq (IC.ops false [IOper.mk (some 2) (IOp.mv (Opd.c AV.nilptr)) none] [])
    (IC.seq
      (IC.ops false
      [IOper.mk (some 4) (IOp.mv (Opd.t 0)) none, IOper.mk (some 5) (IOp.nilck (Opd.t 4)) none,
      IOper.mk (some 6) (IOp.faddr 3 (Opd.t 5)) none, IOper.mk (some 7) (IOp.load none (Opd.t 6)) none,
      IOper.mk (some 3) (IOp.mv (Opd.t 7)) none]
      [4, 5, 6, 7])
      (IC.seq
      (IC.ops false
      [IOper.mk (some 8) (IOp.mv (Opd.t 0)) none, IOper.mk (some 9) (IOp.mv (Opd.t 3)) none,
      IOper.mk (some 10) (IOp.nilck (Opd.t 9)) none, IOper.mk (some 11) (IOp.faddr 2 (Opd.t 10)) none,
      IOper.mk (some 12) (IOp.load none (Opd.t 11)) none, IOper.mk (some 13) (IOp.nilck (Opd.t 8)) none,
      IOper.mk (some 14) (IOp.faddr 3 (Opd.t 13)) none, IOper.mk none (IOp.store 1 (Opd.t 14) (Opd.t 12)) none]
      [8, 9, 10, 11, 12, 13, 14])
      (IC.seq
      (IC.ops false
      [IOper.mk (some 15) (IOp.mv (Opd.t 3)) none, IOper.mk (some 16) (IOp.mv (Opd.t 0)) none,
      IOper.mk (some 17) (IOp.call (Opd.c (AV.func (Fn.func 145) [] [])) [Opd.t 16]) none,
      IOper.mk (some 18) (IOp.nilck (Opd.t 15)) none, IOper.mk (some 19) (IOp.faddr 2 (Opd.t 18)) none,
      IOper.mk none (IOp.store 1 (Opd.t 19) (Opd.t 17)) none]
      [15, 16, 17, 18, 19])
      (IC.seq
      (IC.ops false
      [IOper.mk (some 20) (IOp.mv (Opd.t 3)) none,
      IOper.mk (some 21) (IOp.call (Opd.c (AV.func (Fn.func 145) [] [])) [Opd.t 20]) none,
      IOper.mk (some 2) (IOp.mv (Opd.t 21)) none]
      [20, 21])
      IC.ret)))))
theorem fn_order_knot_string_string_up : F 150 = some ir_order_knot_string_string_up := by kernel_rfl
end Go.AS.Wi

namespace Go.AS.Wi
open Go Go.AS Go.Proofs
def fl_l30_live : List (Nat × IFun) := [(67, ir_cursor_Table_Open), (106, ir_cursor_Table_find), (129, ir_slices_ContainsFunc_api_Entry_api_Entry), (142, ir_order_knot_string_string_even), (143, ir_word_Take), (119, ir_order_knot_string_string_walk), (47, ir_math_bits_Len), (63, ir_room_Ask), (107, ir_slices_siftDownCmpFunc_api_Fault), (74, ir_slices_choosePivotCmpFunc_api_Fault), (122, ir_cmp_Compare_string), (66, ir_model_Model_table), (103, ir_key_RightRange), (117, ir_slices_rotateCmpFunc_int), (109, ir_slices_xorshift_Next), (137, ir_msg_bare), (93, ir_key_Holds), (45, ir_model_Same), (124, ir_key_Point), (139, ir_cmp_isNaN_string), (60, ir_order_Map_string_string_Len), (38, ir_order_New_string_string), (39, ir_witness_timed), (62, ir_slices_IndexFunc_api_Done_api_Done), (145, ir_order_knot_string_string_fresh), (75, ir_slices_reverseRangeCmpFunc_api_Fault), (69, ir_cursor_Table_Close), (128, ir_fold_Rises), (31, ir_witness_Order_1), (80, ir_math_bits_Len64), (8, ir_witness_Faults), (32, ir_cmp_Compare_int), (40, ir_slices_ContainsFunc_api_Done_api_Done), (91, ir_slices_symMergeCmpFunc_int), (11, ir_witness_Order), (132, ir_slices_order2CmpFunc_api_Fault), (76, ir_slices_partialInsertionSortCmpFunc_api_Fault), (7, ir_l30_live), (118, ir_order_Map_string_string_From_1), (126, ir_word_Add), (44, ir_model_Model_Do), (70, ir_slices_Equal_api_Entry_api_Entry), (43, ir_model_Refused), (127, ir_order_knot_string_string_put), (58, ir_cmp_isNaN_int), (101, ir_order_Map_string_string_Put), (19, ir_witness_Check), (144, ir_word_Put), (30, ir_slices_SortStableFunc_int_int), (23, ir_witness_Faults_1), (22, ir_witness_replay), (125, ir_order_knot_string_string_drop), (25, ir_witness_Faults_2), (104, ir_cursor_Table_Left), (97, ir_order_knot_string_string_find), (151, ir_order_knot_string_string_down), (46, ir_slices_pdqsortCmpFunc_api_Fault), (21, ir_witness_own), (102, ir_cursor_New), (64, ir_order_Map_string_string_Get), (59, ir_model_Model_some), (120, ir_key_ahead), (95, ir_room_spare), (98, ir_msg_Span), (146, ir_slices_IndexFunc_api_Entry_api_Entry), (73, ir_slices_breakPatternsCmpFunc_api_Fault), (105, ir_cursor_Table_Took), (72, ir_slices_heapSortCmpFunc_api_Fault), (65, ir_model_Model_send), (121, ir_msg_Check), (123, ir_msg_IsPoint), (131, ir_cursor_behind), (42, ir_witness_apart), (57, ir_slices_stableCmpFunc_int), (61, ir_room_in), (141, ir_order_knot_string_string_least), (71, ir_slices_insertionSortCmpFunc_api_Fault), (140, ir_key_After), (41, ir_witness_own_1), (149, ir_order_knot_string_string_depth), (110, ir_slices_medianAdjacentCmpFunc_api_Fault), (138, ir_key_Right), (100, ir_msg_Apply), (150, ir_order_knot_string_string_up), (20, ir_model_New), (92, ir_order_Map_string_string_From), (78, ir_slices_partitionCmpFunc_api_Fault), (135, ir_slices_swapRangeCmpFunc_int), (94, ir_order_knot_string_string_size), (79, ir_math_bits_Len32), (90, ir_slices_insertionSortCmpFunc_int), (37, ir_room_Check), (136, ir_cmp_Less_string), (96, ir_room_batch), (130, ir_cursor_Table_Took_1), (24, ir_slices_SortFunc_api_Fault_api_Fault), (108, ir_slices_nextPowerOfTwo), (99, ir_order_Map_string_string_Drop), (111, ir_slices_medianCmpFunc_api_Fault), (77, ir_slices_partitionEqualCmpFunc_api_Fault), (68, ir_model_Model_next)]
theorem fl_l30_live_ok : ∀ p ∈ fl_l30_live, F p.1 = some p.2 := by
  simp only [fl_l30_live, List.forall_mem_cons]
  exact ⟨fn_cursor_Table_Open, fn_cursor_Table_find, fn_slices_ContainsFunc_api_Entry_api_Entry, fn_order_knot_string_string_even, fn_word_Take, fn_order_knot_string_string_walk, fn_math_bits_Len, fn_room_Ask, fn_slices_siftDownCmpFunc_api_Fault, fn_slices_choosePivotCmpFunc_api_Fault, fn_cmp_Compare_string, fn_model_Model_table, fn_key_RightRange, fn_slices_rotateCmpFunc_int, fn_slices_xorshift_Next, fn_msg_bare, fn_key_Holds, fn_model_Same, fn_key_Point, fn_cmp_isNaN_string, fn_order_Map_string_string_Len, fn_order_New_string_string, fn_witness_timed, fn_slices_IndexFunc_api_Done_api_Done, fn_order_knot_string_string_fresh, fn_slices_reverseRangeCmpFunc_api_Fault, fn_cursor_Table_Close, fn_fold_Rises, fn_witness_Order_1, fn_math_bits_Len64, fn_witness_Faults, fn_cmp_Compare_int, fn_slices_ContainsFunc_api_Done_api_Done, fn_slices_symMergeCmpFunc_int, fn_witness_Order, fn_slices_order2CmpFunc_api_Fault, fn_slices_partialInsertionSortCmpFunc_api_Fault, fn_l30_live, fn_order_Map_string_string_From_1, fn_word_Add, fn_model_Model_Do, fn_slices_Equal_api_Entry_api_Entry, fn_model_Refused, fn_order_knot_string_string_put, fn_cmp_isNaN_int, fn_order_Map_string_string_Put, fn_witness_Check, fn_word_Put, fn_slices_SortStableFunc_int_int, fn_witness_Faults_1, fn_witness_replay, fn_order_knot_string_string_drop, fn_witness_Faults_2, fn_cursor_Table_Left, fn_order_knot_string_string_find, fn_order_knot_string_string_down, fn_slices_pdqsortCmpFunc_api_Fault, fn_witness_own, fn_cursor_New, fn_order_Map_string_string_Get, fn_model_Model_some, fn_key_ahead, fn_room_spare, fn_msg_Span, fn_slices_IndexFunc_api_Entry_api_Entry, fn_slices_breakPatternsCmpFunc_api_Fault, fn_cursor_Table_Took, fn_slices_heapSortCmpFunc_api_Fault, fn_model_Model_send, fn_msg_Check, fn_msg_IsPoint, fn_cursor_behind, fn_witness_apart, fn_slices_stableCmpFunc_int, fn_room_in, fn_order_knot_string_string_least, fn_slices_insertionSortCmpFunc_api_Fault, fn_key_After, fn_witness_own_1, fn_order_knot_string_string_depth, fn_slices_medianAdjacentCmpFunc_api_Fault, fn_key_Right, fn_msg_Apply, fn_order_knot_string_string_up, fn_model_New, fn_order_Map_string_string_From, fn_slices_partitionCmpFunc_api_Fault, fn_slices_swapRangeCmpFunc_int, fn_order_knot_string_string_size, fn_math_bits_Len32, fn_slices_insertionSortCmpFunc_int, fn_room_Check, fn_cmp_Less_string, fn_room_batch, fn_cursor_Table_Took_1, fn_slices_SortFunc_api_Fault_api_Fault, fn_slices_nextPowerOfTwo, fn_order_Map_string_string_Drop, fn_slices_medianCmpFunc_api_Fault, fn_slices_partitionEqualCmpFunc_api_Fault, fn_model_Model_next, fun p hp => by cases hp⟩
theorem l30_live_ev : callV (listF fl_l30_live) 400 (.func (.func 7) [] []) [] [] = some (.ret (.bool true), []) := by kernel_rfl
theorem l30_live_true : callV F 400 (.func (.func 7) [] []) [] [] = some (.ret (.bool true), []) :=
  callV_sub (listF_sub fl_l30_live_ok) (Nat.le_refl _) _ _ _ _ _ l30_live_ev []
end Go.AS.Wi

namespace Go.AS.Wi
open Go Go.AS Go.Proofs
set_option maxHeartbeats 2000000
set_option maxRecDepth 4000
theorem preL_reply (l : List Don) (k : Int) (h : ∀ d ∈ l, d.reply.entries.l.length ≤ 40) : ∀ i, ∀ d ∈ preL l k i, d.reply.entries.l.length ≤ 40
  | 0, d, hd => by cases hd
  | i + 1, d, hd => by
    unfold preL at hd
    split at hd
    · rename_i hi
      split at hd
      · exact preL_reply l k h i d hd
      · rcases List.mem_append.1 hd with hd | hd
        · exact preL_reply l k h i d hd
        · rw [List.mem_singleton] at hd
          subst hd
          unfold prefD
          by_cases hb : k < l[i].back
          · simp only [hb, if_true]; decide
          · simp only [hb, if_false]; exact h _ (List.getElem_mem hi)
    · exact preL_reply l k h i d hd
theorem live_is : CallIs F 7 [] (.bool true) := (show Gives F 7 [] (.bool true) from ⟨400, l30_live_true⟩).is
theorem law (nl : Bool) (l : List Don) (k : Int) (ho : ∀ d ∈ l, okN d) : Gives F 4 [sl nl l, .int .i64 k] (.bool true) := by
  refine Gives.of fn_l30_WitnessPrefix rfl rfl (args' := [sl nl l, .int .i64 k]) (by simp only [mapO_nil, mapO_c2, consO_some, upf_v]) ?_
  simp only [ir_l30_WitnessPrefix]
  by_cases h1 : few l
  · have hp := preL_len l k l.length
    have hl := h1.1
    simp -failIfUnchanged (disch := first | assumption | omega | (refine room_i _ _ ?_ ?_ <;> omega) | (refine @_root_.id _ ?_; with_unfolding_all exact Eq.refl _) | (simp only [List.length_take, List.length_drop, List.length_append, List.length_cons, List.length_nil, List.length_replicate, List.length_map] <;> omega) | fail) only [rnL, opL, ruL, hpL, rsL, natL, outL, Nat.add_sub_cancel_left, Nat.mul_one, List.length_cons, List.length_nil, Nat.zero_add, Nat.add_zero, Nat.reduceAdd, Nat.reduceMul, Nat.reduceSub, Nat.reduceEqDiff, Nat.reduceLT, Nat.reduceLeDiff, litd_t, litd_f, decide_true, decide_false, Bool.not_true, Bool.not_false, not_true_eq_false, not_false_eq_true, true_and, and_true, false_and, and_false, true_or, or_true, false_or, or_false, Int.toNat_natCast, cond_true, cond_false, List.map_cons, List.map_nil, Option.map_some, Option.map_none, (few_gives nl l).is, h1, live_is, (prefixP_gives nl l k h1 ho).is, (prefixR_gives nl l k h1).is, (same_gives (true && (preL l k l.length).isEmpty) (false && (preL l k l.length).isEmpty) (preL l k l.length) (by omega) (preL_reply l k (fun d hd => (h1.2 d hd).2) _)).is]
    (refine Fin_g (.inr rfl) (by simp -failIfUnchanged (disch := first | assumption | omega | (refine room_i _ _ ?_ ?_ <;> omega) | (refine @_root_.id _ ?_; with_unfolding_all exact Eq.refl _) | (simp only [List.length_take, List.length_drop, List.length_append, List.length_cons, List.length_nil, List.length_replicate, List.length_map] <;> omega) | fail) only [rnL, opL, ruL, hpL, rsL, natL, outL, Nat.add_sub_cancel_left, Nat.mul_one, List.length_cons, List.length_nil, Nat.zero_add, Nat.add_zero, Nat.reduceAdd, Nat.reduceMul, Nat.reduceSub, Nat.reduceEqDiff, Nat.reduceLT, Nat.reduceLeDiff, litd_t, litd_f, decide_true, decide_false, Bool.not_true, Bool.not_false, not_true_eq_false, not_false_eq_true, true_and, and_true, false_and, and_false, true_or, or_true, false_or, or_false, Int.toNat_natCast, cond_true, cond_false, List.map_cons, List.map_nil, Option.map_some, Option.map_none]; rfl) ?_; simp -failIfUnchanged (disch := first | assumption | omega | (refine room_i _ _ ?_ ?_ <;> omega) | (refine @_root_.id _ ?_; with_unfolding_all exact Eq.refl _) | (simp only [List.length_take, List.length_drop, List.length_append, List.length_cons, List.length_nil, List.length_replicate, List.length_map] <;> omega) | fail) only [rnL, opL, ruL, hpL, rsL, natL, outL, Nat.add_sub_cancel_left, Nat.mul_one, List.length_cons, List.length_nil, Nat.zero_add, Nat.add_zero, Nat.reduceAdd, Nat.reduceMul, Nat.reduceSub, Nat.reduceEqDiff, Nat.reduceLT, Nat.reduceLeDiff, litd_t, litd_f, decide_true, decide_false, Bool.not_true, Bool.not_false, not_true_eq_false, not_false_eq_true, true_and, and_true, false_and, and_false, true_or, or_true, false_or, or_false, Int.toNat_natCast, cond_true, cond_false, List.map_cons, List.map_nil, Option.map_some, Option.map_none])
  · simp -failIfUnchanged (disch := first | assumption | omega | (refine room_i _ _ ?_ ?_ <;> omega) | (refine @_root_.id _ ?_; with_unfolding_all exact Eq.refl _) | (simp only [List.length_take, List.length_drop, List.length_append, List.length_cons, List.length_nil, List.length_replicate, List.length_map] <;> omega) | fail) only [rnL, opL, ruL, hpL, rsL, natL, outL, Nat.add_sub_cancel_left, Nat.mul_one, List.length_cons, List.length_nil, Nat.zero_add, Nat.add_zero, Nat.reduceAdd, Nat.reduceMul, Nat.reduceSub, Nat.reduceEqDiff, Nat.reduceLT, Nat.reduceLeDiff, litd_t, litd_f, decide_true, decide_false, Bool.not_true, Bool.not_false, not_true_eq_false, not_false_eq_true, true_and, and_true, false_and, and_false, true_or, or_true, false_or, or_false, Int.toNat_natCast, cond_true, cond_false, List.map_cons, List.map_nil, Option.map_some, Option.map_none, (few_gives nl l).is, h1, live_is]
    (refine Fin_g (.inr rfl) (by simp -failIfUnchanged (disch := first | assumption | omega | (refine room_i _ _ ?_ ?_ <;> omega) | (refine @_root_.id _ ?_; with_unfolding_all exact Eq.refl _) | (simp only [List.length_take, List.length_drop, List.length_append, List.length_cons, List.length_nil, List.length_replicate, List.length_map] <;> omega) | fail) only [rnL, opL, ruL, hpL, rsL, natL, outL, Nat.add_sub_cancel_left, Nat.mul_one, List.length_cons, List.length_nil, Nat.zero_add, Nat.add_zero, Nat.reduceAdd, Nat.reduceMul, Nat.reduceSub, Nat.reduceEqDiff, Nat.reduceLT, Nat.reduceLeDiff, litd_t, litd_f, decide_true, decide_false, Bool.not_true, Bool.not_false, not_true_eq_false, not_false_eq_true, true_and, and_true, false_and, and_false, true_or, or_true, false_or, or_false, Int.toNat_natCast, cond_true, cond_false, List.map_cons, List.map_nil, Option.map_some, Option.map_none]; rfl) ?_; simp -failIfUnchanged (disch := first | assumption | omega | (refine room_i _ _ ?_ ?_ <;> omega) | (refine @_root_.id _ ?_; with_unfolding_all exact Eq.refl _) | (simp only [List.length_take, List.length_drop, List.length_append, List.length_cons, List.length_nil, List.length_replicate, List.length_map] <;> omega) | fail) only [rnL, opL, ruL, hpL, rsL, natL, outL, Nat.add_sub_cancel_left, Nat.mul_one, List.length_cons, List.length_nil, Nat.zero_add, Nat.add_zero, Nat.reduceAdd, Nat.reduceMul, Nat.reduceSub, Nat.reduceEqDiff, Nat.reduceLT, Nat.reduceLeDiff, litd_t, litd_f, decide_true, decide_false, Bool.not_true, Bool.not_false, not_true_eq_false, not_false_eq_true, true_and, and_true, false_and, and_false, true_or, or_true, false_or, or_false, Int.toNat_natCast, cond_true, cond_false, List.map_cons, List.map_nil, Option.map_some, Option.map_none])
end Go.AS.Wi
