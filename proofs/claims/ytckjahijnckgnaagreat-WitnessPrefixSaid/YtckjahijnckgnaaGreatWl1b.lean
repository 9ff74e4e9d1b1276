import Derived.Test.YtckjahijnckgnaaGreatWl1
set_option linter.all false
namespace Go.AS.Wi
open Go Go.AS Go.Proofs
set_option maxRecDepth 100000

def ir_slices_heapSortCmpFunc_api_Fault : IFun :=
  IFun.mk false 4 []
  (IC.seq (IC.ops false [IOper.mk (some 13) (IOp.mv (Opd.t 1)) none, IOper.mk (some 8) (IOp.mv (Opd.t 13)) none] [13])
    (IC.seq (IC.ops false [IOper.mk (some 9) (IOp.mv (Opd.c (AV.int IntKind.i64 0))) none] [])
      (IC.seq
      (IC.ops false
      [IOper.mk (some 14) (IOp.mv (Opd.t 2)) none, IOper.mk (some 15) (IOp.mv (Opd.t 1)) none,
      IOper.mk (some 16) (IOp.bin BinOp.sub (Opd.t 14) (Opd.t 15)) none,
      IOper.mk (some 10) (IOp.mv (Opd.t 16)) none]
      [14, 15, 16])
      (IC.seq
      (IC.seq
      (IC.ops false
      [IOper.mk (some 17) (IOp.mv (Opd.t 10)) none,
      IOper.mk (some 18) (IOp.bin BinOp.sub (Opd.t 17) (Opd.c (AV.int IntKind.i64 1))) none,
      IOper.mk (some 19) (IOp.bin BinOp.quo (Opd.t 18) (Opd.c (AV.int IntKind.i64 2))) none,
      IOper.mk (some 11) (IOp.mv (Opd.t 19)) none]
      [17, 18, 19])
      (IC.seq
      (IC.block 0
      (IC.loop
      (IC.seq
      (IC.seq
      (IC.seq
      (IC.ops false
      [IOper.mk (some 20) (IOp.mv (Opd.t 11)) none,
      IOper.mk (some 21) (IOp.bin BinOp.geq (Opd.t 20) (Opd.c (AV.int IntKind.i64 0)))
      none]
      [20])
      (IC.cond (Opd.t 21) IC.nop (IC.exit 0)))
      (IC.seq
      (IC.seq
      (IC.block 1
      (IC.ops false
      [IOper.mk (some 24) (IOp.mv (Opd.t 0)) none, IOper.mk (some 25) (IOp.mv (Opd.t 11)) none,
      IOper.mk (some 26) (IOp.mv (Opd.t 10)) none, IOper.mk (some 27) (IOp.mv (Opd.t 8)) none,
      IOper.mk (some 28) (IOp.mv (Opd.t 3)) none,
      IOper.mk (some 29)
      (IOp.call (Opd.c (AV.func (Fn.func 107) [] []))
      [Opd.t 24, Opd.t 25, Opd.t 26, Opd.t 27, Opd.t 28])
      none]
      [24, 25, 26, 27, 28, 29]))
      (IC.ops false [] [24, 25, 26, 27, 28, 29]))
      (IC.ops false
      [IOper.mk (some 22) (IOp.mv (Opd.t 11)) none,
      IOper.mk (some 23) (IOp.bin BinOp.sub (Opd.t 22) (Opd.c (AV.int IntKind.i64 1)))
      none,
      IOper.mk (some 11) (IOp.mv (Opd.t 23)) none]
      [22, 23])))
      (IC.ops false [] [20, 21, 24, 25, 26, 27, 28, 29, 22, 23]))))
      (IC.ops false [] [20, 21, 24, 25, 26, 27, 28, 29, 22, 23])))
      (IC.seq
      (IC.ops false
      [IOper.mk (some 30) (IOp.mv (Opd.t 10)) none,
      IOper.mk (some 31) (IOp.bin BinOp.sub (Opd.t 30) (Opd.c (AV.int IntKind.i64 1))) none,
      IOper.mk (some 12) (IOp.mv (Opd.t 31)) none]
      [30, 31])
      (IC.seq
      (IC.block 2
      (IC.loop
      (IC.seq
      (IC.seq
      (IC.seq
      (IC.ops false
      [IOper.mk (some 32) (IOp.mv (Opd.t 12)) none,
      IOper.mk (some 33) (IOp.bin BinOp.geq (Opd.t 32) (Opd.c (AV.int IntKind.i64 0)))
      none]
      [32])
      (IC.cond (Opd.t 33) IC.nop (IC.exit 2)))
      (IC.seq
      (IC.seq
      (IC.block 3
      (IC.seq
      (IC.ops true
      [IOper.mk (some 36) (IOp.mv (Opd.t 0)) none, IOper.mk (some 37) (IOp.mv (Opd.t 8)) none,
      IOper.mk (some 38) (IOp.mv (Opd.t 0)) none,
      IOper.mk (some 39) (IOp.mv (Opd.t 8)) none,
      IOper.mk (some 40) (IOp.mv (Opd.t 12)) none,
      IOper.mk (some 41) (IOp.bin BinOp.add (Opd.t 39) (Opd.t 40)) none,
      IOper.mk (some 42) (IOp.mv (Opd.t 0)) none,
      IOper.mk (some 43) (IOp.mv (Opd.t 8)) none,
      IOper.mk (some 44) (IOp.mv (Opd.t 12)) none,
      IOper.mk (some 45) (IOp.bin BinOp.add (Opd.t 43) (Opd.t 44)) none,
      IOper.mk (some 46) (IOp.ixa 2 (Opd.t 42) (Opd.t 45)) none,
      IOper.mk (some 47) (IOp.load (some 2) (Opd.t 46)) none,
      IOper.mk (some 48) (IOp.mv (Opd.t 0)) none,
      IOper.mk (some 49) (IOp.mv (Opd.t 8)) none,
      IOper.mk (some 50) (IOp.ixa 2 (Opd.t 48) (Opd.t 49)) none,
      IOper.mk (some 51) (IOp.load (some 2) (Opd.t 50)) none,
      IOper.mk (some 52) (IOp.ixa 2 (Opd.t 36) (Opd.t 37)) none,
      IOper.mk none (IOp.store 2 (Opd.t 52) (Opd.t 47)) none,
      IOper.mk (some 53) (IOp.ixa 2 (Opd.t 38) (Opd.t 41)) none,
      IOper.mk none (IOp.store 2 (Opd.t 53) (Opd.t 51)) none]
      [36, 37, 38, 39, 40, 41, 42, 43, 44, 45, 46, 47, 48, 49, 50, 51, 52, 53])
      (IC.ops false
      [IOper.mk (some 54) (IOp.mv (Opd.t 0)) none, IOper.mk (some 55) (IOp.mv (Opd.t 9)) none,
      IOper.mk (some 56) (IOp.mv (Opd.t 12)) none,
      IOper.mk (some 57) (IOp.mv (Opd.t 8)) none,
      IOper.mk (some 58) (IOp.mv (Opd.t 3)) none,
      IOper.mk (some 59)
      (IOp.call (Opd.c (AV.func (Fn.func 107) [] []))
      [Opd.t 54, Opd.t 55, Opd.t 56, Opd.t 57, Opd.t 58])
      none]
      [54, 55, 56, 57, 58, 59])))
      (IC.ops false []
      [36, 37, 38, 39, 40, 41, 42, 43, 44, 45, 46, 47, 48, 49, 50, 51, 52, 53, 54, 55, 56, 57, 58,
      59]))
      (IC.ops false
      [IOper.mk (some 34) (IOp.mv (Opd.t 12)) none,
      IOper.mk (some 35) (IOp.bin BinOp.sub (Opd.t 34) (Opd.c (AV.int IntKind.i64 1)))
      none,
      IOper.mk (some 12) (IOp.mv (Opd.t 35)) none]
      [34, 35])))
      (IC.ops false []
      [32, 33, 36, 37, 38, 39, 40, 41, 42, 43, 44, 45, 46, 47, 48, 49, 50, 51, 52, 53, 54, 55, 56, 57,
      58, 59, 34, 35]))))
      (IC.ops false []
      [32, 33, 36, 37, 38, 39, 40, 41, 42, 43, 44, 45, 46, 47, 48, 49, 50, 51, 52, 53, 54, 55, 56, 57, 58, 59,
      34, 35])))))))
theorem fn_slices_heapSortCmpFunc_api_Fault : F 72 = some ir_slices_heapSortCmpFunc_api_Fault := by kernel_rfl

def ir_slices_insertionSortCmpFunc_api_Fault : IFun :=
  IFun.mk false 4 []
  (IC.seq
    (IC.ops false
      [IOper.mk (some 10) (IOp.mv (Opd.t 1)) none,
      IOper.mk (some 11) (IOp.bin BinOp.add (Opd.t 10) (Opd.c (AV.int IntKind.i64 1))) none,
      IOper.mk (some 8) (IOp.mv (Opd.t 11)) none]
      [10, 11])
    (IC.seq
      (IC.block 0
      (IC.loop
      (IC.seq
      (IC.seq
      (IC.seq
      (IC.ops false
      [IOper.mk (some 12) (IOp.mv (Opd.t 8)) none, IOper.mk (some 13) (IOp.mv (Opd.t 2)) none,
      IOper.mk (some 14) (IOp.bin BinOp.lss (Opd.t 12) (Opd.t 13)) none]
      [12, 13])
      (IC.cond (Opd.t 14) IC.nop (IC.exit 0)))
      (IC.seq
      (IC.seq
      (IC.block 1
      (IC.seq
      (IC.ops false
      [IOper.mk (some 17) (IOp.mv (Opd.t 8)) none, IOper.mk (some 9) (IOp.mv (Opd.t 17)) none] [17])
      (IC.seq
      (IC.block 2
      (IC.loop
      (IC.seq
      (IC.seq
      (IC.seq
      (IC.ops true
      [IOper.mk (some 18) (IOp.mv (Opd.t 9)) none,
      IOper.mk (some 19) (IOp.mv (Opd.t 1)) none,
      IOper.mk (some 20) (IOp.bin BinOp.gtr (Opd.t 18) (Opd.t 19)) none,
      IOper.mk (some 21) (IOp.mv (Opd.t 20)) none,
      IOper.mk (some 22) (IOp.mv (Opd.t 3)) (some (21, true)),
      IOper.mk (some 23) (IOp.mv (Opd.t 0)) (some (21, true)),
      IOper.mk (some 24) (IOp.mv (Opd.t 9)) (some (21, true)),
      IOper.mk (some 25) (IOp.ixa 2 (Opd.t 23) (Opd.t 24)) (some (21, true)),
      IOper.mk (some 26) (IOp.load (some 2) (Opd.t 25)) (some (21, true)),
      IOper.mk (some 27) (IOp.mv (Opd.t 0)) (some (21, true)),
      IOper.mk (some 28) (IOp.mv (Opd.t 9)) (some (21, true)),
      IOper.mk (some 29)
      (IOp.bin BinOp.sub (Opd.t 28) (Opd.c (AV.int IntKind.i64 1)))
      (some (21, true)),
      IOper.mk (some 30) (IOp.ixa 2 (Opd.t 27) (Opd.t 29)) (some (21, true)),
      IOper.mk (some 31) (IOp.load (some 2) (Opd.t 30)) (some (21, true)),
      IOper.mk (some 32) (IOp.call (Opd.t 22) [Opd.t 26, Opd.t 31]) (some (21, true)),
      IOper.mk (some 33)
      (IOp.bin BinOp.lss (Opd.t 32) (Opd.c (AV.int IntKind.i64 0)))
      (some (21, true)),
      IOper.mk (some 34) (IOp.pick (Opd.t 21) (Opd.t 33) (Opd.c (AV.bool false))) none]
      [18, 19, 20, 21, 22, 23, 24, 25, 26, 27, 28, 29, 30, 31, 32, 33])
      (IC.cond (Opd.t 34) IC.nop (IC.exit 2)))
      (IC.seq
      (IC.seq
      (IC.block 3
      (IC.ops true
      [IOper.mk (some 37) (IOp.mv (Opd.t 0)) none,
      IOper.mk (some 38) (IOp.mv (Opd.t 9)) none,
      IOper.mk (some 39) (IOp.mv (Opd.t 0)) none,
      IOper.mk (some 40) (IOp.mv (Opd.t 9)) none,
      IOper.mk (some 41)
      (IOp.bin BinOp.sub (Opd.t 40) (Opd.c (AV.int IntKind.i64 1)))
      none,
      IOper.mk (some 42) (IOp.mv (Opd.t 0)) none,
      IOper.mk (some 43) (IOp.mv (Opd.t 9)) none,
      IOper.mk (some 44)
      (IOp.bin BinOp.sub (Opd.t 43) (Opd.c (AV.int IntKind.i64 1)))
      none,
      IOper.mk (some 45) (IOp.ixa 2 (Opd.t 42) (Opd.t 44)) none,
      IOper.mk (some 46) (IOp.load (some 2) (Opd.t 45)) none,
      IOper.mk (some 47) (IOp.mv (Opd.t 0)) none,
      IOper.mk (some 48) (IOp.mv (Opd.t 9)) none,
      IOper.mk (some 49) (IOp.ixa 2 (Opd.t 47) (Opd.t 48)) none,
      IOper.mk (some 50) (IOp.load (some 2) (Opd.t 49)) none,
      IOper.mk (some 51) (IOp.ixa 2 (Opd.t 37) (Opd.t 38)) none,
      IOper.mk none (IOp.store 2 (Opd.t 51) (Opd.t 46)) none,
      IOper.mk (some 52) (IOp.ixa 2 (Opd.t 39) (Opd.t 41)) none,
      IOper.mk none (IOp.store 2 (Opd.t 52) (Opd.t 50)) none]
      [37, 38, 39, 40, 41, 42, 43, 44, 45, 46, 47, 48, 49, 50, 51, 52]))
      (IC.ops false [] [37, 38, 39, 40, 41, 42, 43, 44, 45, 46, 47, 48, 49, 50, 51, 52]))
      (IC.ops false
      [IOper.mk (some 35) (IOp.mv (Opd.t 9)) none,
      IOper.mk (some 36)
      (IOp.bin BinOp.sub (Opd.t 35) (Opd.c (AV.int IntKind.i64 1))) none,
      IOper.mk (some 9) (IOp.mv (Opd.t 36)) none]
      [35, 36])))
      (IC.ops false []
      [18, 19, 20, 21, 22, 23, 24, 25, 26, 27, 28, 29, 30, 31, 32, 33, 34, 37, 38, 39, 40, 41,
      42, 43, 44, 45, 46, 47, 48, 49, 50, 51, 52, 35, 36]))))
      (IC.ops false []
      [18, 19, 20, 21, 22, 23, 24, 25, 26, 27, 28, 29, 30, 31, 32, 33, 34, 37, 38, 39, 40, 41, 42,
      43, 44, 45, 46, 47, 48, 49, 50, 51, 52, 35, 36]))))
      (IC.ops false []
      [17, 18, 19, 20, 21, 22, 23, 24, 25, 26, 27, 28, 29, 30, 31, 32, 33, 34, 37, 38, 39, 40, 41, 42, 43,
      44, 45, 46, 47, 48, 49, 50, 51, 52, 35, 36, 9]))
      (IC.ops false
      [IOper.mk (some 15) (IOp.mv (Opd.t 8)) none,
      IOper.mk (some 16) (IOp.bin BinOp.add (Opd.t 15) (Opd.c (AV.int IntKind.i64 1))) none,
      IOper.mk (some 8) (IOp.mv (Opd.t 16)) none]
      [15, 16])))
      (IC.ops false []
      [12, 13, 14, 17, 18, 19, 20, 21, 22, 23, 24, 25, 26, 27, 28, 29, 30, 31, 32, 33, 34, 37, 38, 39, 40, 41,
      42, 43, 44, 45, 46, 47, 48, 49, 50, 51, 52, 35, 36, 9, 15, 16]))))
      (IC.ops false []
      [12, 13, 14, 17, 18, 19, 20, 21, 22, 23, 24, 25, 26, 27, 28, 29, 30, 31, 32, 33, 34, 37, 38, 39, 40, 41, 42, 43,
      44, 45, 46, 47, 48, 49, 50, 51, 52, 35, 36, 9, 15, 16])))
theorem fn_slices_insertionSortCmpFunc_api_Fault : F 71 = some ir_slices_insertionSortCmpFunc_api_Fault := by kernel_rfl

def ir_slices_insertionSortCmpFunc_int : IFun :=
  IFun.mk false 4 []
  (IC.seq
    (IC.ops false
      [IOper.mk (some 10) (IOp.mv (Opd.t 1)) none,
      IOper.mk (some 11) (IOp.bin BinOp.add (Opd.t 10) (Opd.c (AV.int IntKind.i64 1))) none,
      IOper.mk (some 8) (IOp.mv (Opd.t 11)) none]
      [10, 11])
    (IC.seq
      (IC.block 0
      (IC.loop
      (IC.seq
      (IC.seq
      (IC.seq
      (IC.ops false
      [IOper.mk (some 12) (IOp.mv (Opd.t 8)) none, IOper.mk (some 13) (IOp.mv (Opd.t 2)) none,
      IOper.mk (some 14) (IOp.bin BinOp.lss (Opd.t 12) (Opd.t 13)) none]
      [12, 13])
      (IC.cond (Opd.t 14) IC.nop (IC.exit 0)))
      (IC.seq
      (IC.seq
      (IC.block 1
      (IC.seq
      (IC.ops false
      [IOper.mk (some 17) (IOp.mv (Opd.t 8)) none, IOper.mk (some 9) (IOp.mv (Opd.t 17)) none] [17])
      (IC.seq
      (IC.block 2
      (IC.loop
      (IC.seq
      (IC.seq
      (IC.seq
      (IC.ops true
      [IOper.mk (some 18) (IOp.mv (Opd.t 9)) none,
      IOper.mk (some 19) (IOp.mv (Opd.t 1)) none,
      IOper.mk (some 20) (IOp.bin BinOp.gtr (Opd.t 18) (Opd.t 19)) none,
      IOper.mk (some 21) (IOp.mv (Opd.t 20)) none,
      IOper.mk (some 22) (IOp.mv (Opd.t 3)) (some (21, true)),
      IOper.mk (some 23) (IOp.mv (Opd.t 0)) (some (21, true)),
      IOper.mk (some 24) (IOp.mv (Opd.t 9)) (some (21, true)),
      IOper.mk (some 25) (IOp.ixa 1 (Opd.t 23) (Opd.t 24)) (some (21, true)),
      IOper.mk (some 26) (IOp.load none (Opd.t 25)) (some (21, true)),
      IOper.mk (some 27) (IOp.mv (Opd.t 0)) (some (21, true)),
      IOper.mk (some 28) (IOp.mv (Opd.t 9)) (some (21, true)),
      IOper.mk (some 29)
      (IOp.bin BinOp.sub (Opd.t 28) (Opd.c (AV.int IntKind.i64 1)))
      (some (21, true)),
      IOper.mk (some 30) (IOp.ixa 1 (Opd.t 27) (Opd.t 29)) (some (21, true)),
      IOper.mk (some 31) (IOp.load none (Opd.t 30)) (some (21, true)),
      IOper.mk (some 32) (IOp.call (Opd.t 22) [Opd.t 26, Opd.t 31]) (some (21, true)),
      IOper.mk (some 33)
      (IOp.bin BinOp.lss (Opd.t 32) (Opd.c (AV.int IntKind.i64 0)))
      (some (21, true)),
      IOper.mk (some 34) (IOp.pick (Opd.t 21) (Opd.t 33) (Opd.c (AV.bool false))) none]
      [18, 19, 20, 21, 22, 23, 24, 25, 26, 27, 28, 29, 30, 31, 32, 33])
      (IC.cond (Opd.t 34) IC.nop (IC.exit 2)))
      (IC.seq
      (IC.seq
      (IC.block 3
      (IC.ops true
      [IOper.mk (some 37) (IOp.mv (Opd.t 0)) none,
      IOper.mk (some 38) (IOp.mv (Opd.t 9)) none,
      IOper.mk (some 39) (IOp.mv (Opd.t 0)) none,
      IOper.mk (some 40) (IOp.mv (Opd.t 9)) none,
      IOper.mk (some 41)
      (IOp.bin BinOp.sub (Opd.t 40) (Opd.c (AV.int IntKind.i64 1)))
      none,
      IOper.mk (some 42) (IOp.mv (Opd.t 0)) none,
      IOper.mk (some 43) (IOp.mv (Opd.t 9)) none,
      IOper.mk (some 44)
      (IOp.bin BinOp.sub (Opd.t 43) (Opd.c (AV.int IntKind.i64 1)))
      none,
      IOper.mk (some 45) (IOp.ixa 1 (Opd.t 42) (Opd.t 44)) none,
      IOper.mk (some 46) (IOp.load none (Opd.t 45)) none,
      IOper.mk (some 47) (IOp.mv (Opd.t 0)) none,
      IOper.mk (some 48) (IOp.mv (Opd.t 9)) none,
      IOper.mk (some 49) (IOp.ixa 1 (Opd.t 47) (Opd.t 48)) none,
      IOper.mk (some 50) (IOp.load none (Opd.t 49)) none,
      IOper.mk (some 51) (IOp.ixa 1 (Opd.t 37) (Opd.t 38)) none,
      IOper.mk none (IOp.store 1 (Opd.t 51) (Opd.t 46)) none,
      IOper.mk (some 52) (IOp.ixa 1 (Opd.t 39) (Opd.t 41)) none,
      IOper.mk none (IOp.store 1 (Opd.t 52) (Opd.t 50)) none]
      [37, 38, 39, 40, 41, 42, 43, 44, 45, 46, 47, 48, 49, 50, 51, 52]))
      (IC.ops false [] [37, 38, 39, 40, 41, 42, 43, 44, 45, 46, 47, 48, 49, 50, 51, 52]))
      (IC.ops false
      [IOper.mk (some 35) (IOp.mv (Opd.t 9)) none,
      IOper.mk (some 36)
      (IOp.bin BinOp.sub (Opd.t 35) (Opd.c (AV.int IntKind.i64 1))) none,
      IOper.mk (some 9) (IOp.mv (Opd.t 36)) none]
      [35, 36])))
      (IC.ops false []
      [18, 19, 20, 21, 22, 23, 24, 25, 26, 27, 28, 29, 30, 31, 32, 33, 34, 37, 38, 39, 40, 41,
      42, 43, 44, 45, 46, 47, 48, 49, 50, 51, 52, 35, 36]))))
      (IC.ops false []
      [18, 19, 20, 21, 22, 23, 24, 25, 26, 27, 28, 29, 30, 31, 32, 33, 34, 37, 38, 39, 40, 41, 42,
      43, 44, 45, 46, 47, 48, 49, 50, 51, 52, 35, 36]))))
      (IC.ops false []
      [17, 18, 19, 20, 21, 22, 23, 24, 25, 26, 27, 28, 29, 30, 31, 32, 33, 34, 37, 38, 39, 40, 41, 42, 43,
      44, 45, 46, 47, 48, 49, 50, 51, 52, 35, 36, 9]))
      (IC.ops false
      [IOper.mk (some 15) (IOp.mv (Opd.t 8)) none,
      IOper.mk (some 16) (IOp.bin BinOp.add (Opd.t 15) (Opd.c (AV.int IntKind.i64 1))) none,
      IOper.mk (some 8) (IOp.mv (Opd.t 16)) none]
      [15, 16])))
      (IC.ops false []
      [12, 13, 14, 17, 18, 19, 20, 21, 22, 23, 24, 25, 26, 27, 28, 29, 30, 31, 32, 33, 34, 37, 38, 39, 40, 41,
      42, 43, 44, 45, 46, 47, 48, 49, 50, 51, 52, 35, 36, 9, 15, 16]))))
      (IC.ops false []
      [12, 13, 14, 17, 18, 19, 20, 21, 22, 23, 24, 25, 26, 27, 28, 29, 30, 31, 32, 33, 34, 37, 38, 39, 40, 41, 42, 43,
      44, 45, 46, 47, 48, 49, 50, 51, 52, 35, 36, 9, 15, 16])))
theorem fn_slices_insertionSortCmpFunc_int : F 90 = some ir_slices_insertionSortCmpFunc_int := by kernel_rfl

def ir_slices_partialInsertionSortCmpFunc_api_Fault : IFun :=
  IFun.mk false 4 [IRes.tmp 8]
  (IC.seq (IC.ops false [IOper.mk (some 8) (IOp.mv (Opd.c (AV.bool false))) none] [])
    (IC.seq
      (IC.ops false
      [IOper.mk (some 13) (IOp.mv (Opd.t 1)) none,
      IOper.mk (some 14) (IOp.bin BinOp.add (Opd.t 13) (Opd.c (AV.int IntKind.i64 1))) none,
      IOper.mk (some 9) (IOp.mv (Opd.t 14)) none]
      [13, 14])
      (IC.seq
      (IC.seq (IC.ops false [IOper.mk (some 10) (IOp.mv (Opd.c (AV.int IntKind.i64 0))) none] [])
      (IC.seq
      (IC.block 0
      (IC.loop
      (IC.seq
      (IC.seq
      (IC.seq
      (IC.ops false
      [IOper.mk (some 15) (IOp.mv (Opd.t 10)) none,
      IOper.mk (some 16) (IOp.bin BinOp.lss (Opd.t 15) (Opd.c (AV.int IntKind.i64 5)))
      none]
      [15])
      (IC.cond (Opd.t 16) IC.nop (IC.exit 0)))
      (IC.seq
      (IC.seq
      (IC.block 1
      (IC.seq
      (IC.seq
      (IC.block 2
      (IC.loop
      (IC.seq
      (IC.seq
      (IC.seq
      (IC.ops true
      [IOper.mk (some 19) (IOp.mv (Opd.t 9)) none,
      IOper.mk (some 20) (IOp.mv (Opd.t 2)) none,
      IOper.mk (some 21) (IOp.bin BinOp.lss (Opd.t 19) (Opd.t 20)) none,
      IOper.mk (some 22) (IOp.mv (Opd.t 21)) none,
      IOper.mk (some 23) (IOp.mv (Opd.t 3)) (some (22, true)),
      IOper.mk (some 24) (IOp.mv (Opd.t 0)) (some (22, true)),
      IOper.mk (some 25) (IOp.mv (Opd.t 9)) (some (22, true)),
      IOper.mk (some 26) (IOp.ixa 2 (Opd.t 24) (Opd.t 25)) (some (22, true)),
      IOper.mk (some 27) (IOp.load (some 2) (Opd.t 26)) (some (22, true)),
      IOper.mk (some 28) (IOp.mv (Opd.t 0)) (some (22, true)),
      IOper.mk (some 29) (IOp.mv (Opd.t 9)) (some (22, true)),
      IOper.mk (some 30)
      (IOp.bin BinOp.sub (Opd.t 29) (Opd.c (AV.int IntKind.i64 1)))
      (some (22, true)),
      IOper.mk (some 31) (IOp.ixa 2 (Opd.t 28) (Opd.t 30)) (some (22, true)),
      IOper.mk (some 32) (IOp.load (some 2) (Opd.t 31)) (some (22, true)),
      IOper.mk (some 33) (IOp.call (Opd.t 23) [Opd.t 27, Opd.t 32])
      (some (22, true)),
      IOper.mk (some 34)
      (IOp.bin BinOp.lss (Opd.t 33) (Opd.c (AV.int IntKind.i64 0)))
      (some (22, true)),
      IOper.mk (some 35) (IOp.not (Opd.t 34)) (some (22, true)),
      IOper.mk (some 36) (IOp.pick (Opd.t 22) (Opd.t 35) (Opd.c (AV.bool false)))
      none]
      [19, 20, 21, 22, 23, 24, 25, 26, 27, 28, 29, 30, 31, 32, 33, 34, 35])
      (IC.cond (Opd.t 36) IC.nop (IC.exit 2)))
      (IC.seq
      (IC.block 3
      (IC.ops false
      [IOper.mk (some 37) (IOp.mv (Opd.t 9)) none,
      IOper.mk (some 38)
      (IOp.bin BinOp.add (Opd.t 37)
      (Opd.c (AV.int IntKind.i64 1)))
      none,
      IOper.mk (some 9) (IOp.mv (Opd.t 38)) none]
      [37, 38]))
      (IC.ops false [] [37, 38])))
      (IC.ops false []
      [19, 20, 21, 22, 23, 24, 25, 26, 27, 28, 29, 30, 31, 32, 33, 34, 35, 36, 37,
      38]))))
      (IC.ops false []
      [19, 20, 21, 22, 23, 24, 25, 26, 27, 28, 29, 30, 31, 32, 33, 34, 35, 36, 37, 38]))
      (IC.seq
      (IC.seq
      (IC.ops false
      [IOper.mk (some 39) (IOp.mv (Opd.t 9)) none,
      IOper.mk (some 40) (IOp.mv (Opd.t 2)) none,
      IOper.mk (some 41) (IOp.bin BinOp.eql (Opd.t 39) (Opd.t 40)) none]
      [39, 40])
      (IC.cond (Opd.t 41)
      (IC.seq (IC.ops false [IOper.mk (some 8) (IOp.mv (Opd.c (AV.bool true))) none] [])
      IC.ret)
      IC.nop))
      (IC.seq
      (IC.seq
      (IC.ops false
      [IOper.mk (some 42) (IOp.mv (Opd.t 2)) none,
      IOper.mk (some 43) (IOp.mv (Opd.t 1)) none,
      IOper.mk (some 44) (IOp.bin BinOp.sub (Opd.t 42) (Opd.t 43)) none,
      IOper.mk (some 45)
      (IOp.bin BinOp.lss (Opd.t 44) (Opd.c (AV.int IntKind.i64 50))) none]
      [42, 43, 44])
      (IC.cond (Opd.t 45)
      (IC.seq (IC.ops false [IOper.mk (some 8) (IOp.mv (Opd.c (AV.bool false))) none] [])
      IC.ret)
      IC.nop))
      (IC.seq
      (IC.ops true
      [IOper.mk (some 46) (IOp.mv (Opd.t 0)) none,
      IOper.mk (some 47) (IOp.mv (Opd.t 9)) none,
      IOper.mk (some 48) (IOp.mv (Opd.t 0)) none,
      IOper.mk (some 49) (IOp.mv (Opd.t 9)) none,
      IOper.mk (some 50)
      (IOp.bin BinOp.sub (Opd.t 49) (Opd.c (AV.int IntKind.i64 1))) none,
      IOper.mk (some 51) (IOp.mv (Opd.t 0)) none,
      IOper.mk (some 52) (IOp.mv (Opd.t 9)) none,
      IOper.mk (some 53)
      (IOp.bin BinOp.sub (Opd.t 52) (Opd.c (AV.int IntKind.i64 1))) none,
      IOper.mk (some 54) (IOp.ixa 2 (Opd.t 51) (Opd.t 53)) none,
      IOper.mk (some 55) (IOp.load (some 2) (Opd.t 54)) none,
      IOper.mk (some 56) (IOp.mv (Opd.t 0)) none,
      IOper.mk (some 57) (IOp.mv (Opd.t 9)) none,
      IOper.mk (some 58) (IOp.ixa 2 (Opd.t 56) (Opd.t 57)) none,
      IOper.mk (some 59) (IOp.load (some 2) (Opd.t 58)) none,
      IOper.mk (some 60) (IOp.ixa 2 (Opd.t 46) (Opd.t 47)) none,
      IOper.mk none (IOp.store 2 (Opd.t 60) (Opd.t 55)) none,
      IOper.mk (some 61) (IOp.ixa 2 (Opd.t 48) (Opd.t 50)) none,
      IOper.mk none (IOp.store 2 (Opd.t 61) (Opd.t 59)) none]
      [46, 47, 48, 49, 50, 51, 52, 53, 54, 55, 56, 57, 58, 59, 60, 61])
      (IC.seq
      (IC.seq
      (IC.ops false
      [IOper.mk (some 62) (IOp.mv (Opd.t 9)) none,
      IOper.mk (some 63) (IOp.mv (Opd.t 1)) none,
      IOper.mk (some 64) (IOp.bin BinOp.sub (Opd.t 62) (Opd.t 63)) none,
      IOper.mk (some 65)
      (IOp.bin BinOp.geq (Opd.t 64) (Opd.c (AV.int IntKind.i64 2)))
      none]
      [62, 63, 64])
      (IC.cond (Opd.t 65)
      (IC.seq
      (IC.ops false
      [IOper.mk (some 66) (IOp.mv (Opd.t 9)) none,
      IOper.mk (some 67)
      (IOp.bin BinOp.sub (Opd.t 66)
      (Opd.c (AV.int IntKind.i64 1)))
      none,
      IOper.mk (some 11) (IOp.mv (Opd.t 67)) none]
      [66, 67])
      (IC.seq
      (IC.block 4
      (IC.loop
      (IC.seq
      (IC.seq
      (IC.seq
      (IC.ops false
      [IOper.mk (some 68) (IOp.mv (Opd.t 11)) none,
      IOper.mk (some 69)
      (IOp.bin BinOp.geq (Opd.t 68)
      (Opd.c (AV.int IntKind.i64 1)))
      none]
      [68])
      (IC.cond (Opd.t 69) IC.nop (IC.exit 4)))
      (IC.seq
      (IC.seq
      (IC.block 5
      (IC.seq
      (IC.seq
      (IC.ops true
      [IOper.mk (some 72) (IOp.mv (Opd.t 3)) none,
      IOper.mk (some 73) (IOp.mv (Opd.t 0)) none,
      IOper.mk (some 74) (IOp.mv (Opd.t 11)) none,
      IOper.mk (some 75) (IOp.ixa 2 (Opd.t 73) (Opd.t 74))
      none,
      IOper.mk (some 76) (IOp.load (some 2) (Opd.t 75))
      none,
      IOper.mk (some 77) (IOp.mv (Opd.t 0)) none,
      IOper.mk (some 78) (IOp.mv (Opd.t 11)) none,
      IOper.mk (some 79)
      (IOp.bin BinOp.sub (Opd.t 78)
      (Opd.c (AV.int IntKind.i64 1)))
      none,
      IOper.mk (some 80) (IOp.ixa 2 (Opd.t 77) (Opd.t 79))
      none,
      IOper.mk (some 81) (IOp.load (some 2) (Opd.t 80))
      none,
      IOper.mk (some 82)
      (IOp.call (Opd.t 72) [Opd.t 76, Opd.t 81]) none,
      IOper.mk (some 83)
      (IOp.bin BinOp.lss (Opd.t 82)
      (Opd.c (AV.int IntKind.i64 0)))
      none,
      IOper.mk (some 84) (IOp.not (Opd.t 83)) none]
      [72, 73, 74, 75, 76, 77, 78, 79, 80, 81, 82, 83])
      (IC.cond (Opd.t 84) (IC.exit 4) IC.nop))
      (IC.ops true
      [IOper.mk (some 85) (IOp.mv (Opd.t 0)) none,
      IOper.mk (some 86) (IOp.mv (Opd.t 11)) none,
      IOper.mk (some 87) (IOp.mv (Opd.t 0)) none,
      IOper.mk (some 88) (IOp.mv (Opd.t 11)) none,
      IOper.mk (some 89)
      (IOp.bin BinOp.sub (Opd.t 88)
      (Opd.c (AV.int IntKind.i64 1)))
      none,
      IOper.mk (some 90) (IOp.mv (Opd.t 0)) none,
      IOper.mk (some 91) (IOp.mv (Opd.t 11)) none,
      IOper.mk (some 92)
      (IOp.bin BinOp.sub (Opd.t 91)
      (Opd.c (AV.int IntKind.i64 1)))
      none,
      IOper.mk (some 93) (IOp.ixa 2 (Opd.t 90) (Opd.t 92))
      none,
      IOper.mk (some 94) (IOp.load (some 2) (Opd.t 93)) none,
      IOper.mk (some 95) (IOp.mv (Opd.t 0)) none,
      IOper.mk (some 96) (IOp.mv (Opd.t 11)) none,
      IOper.mk (some 97) (IOp.ixa 2 (Opd.t 95) (Opd.t 96))
      none,
      IOper.mk (some 98) (IOp.load (some 2) (Opd.t 97)) none,
      IOper.mk (some 99) (IOp.ixa 2 (Opd.t 85) (Opd.t 86))
      none,
      IOper.mk none (IOp.store 2 (Opd.t 99) (Opd.t 94)) none,
      IOper.mk (some 100) (IOp.ixa 2 (Opd.t 87) (Opd.t 89))
      none,
      IOper.mk none (IOp.store 2 (Opd.t 100) (Opd.t 98)) none]
      [85, 86, 87, 88, 89, 90, 91, 92, 93, 94, 95, 96, 97, 98,
      99, 100])))
      (IC.ops false []
      [72, 73, 74, 75, 76, 77, 78, 79, 80, 81, 82, 83, 84, 85, 86,
      87, 88, 89, 90, 91, 92, 93, 94, 95, 96, 97, 98, 99, 100]))
      (IC.ops false
      [IOper.mk (some 70) (IOp.mv (Opd.t 11)) none,
      IOper.mk (some 71)
      (IOp.bin BinOp.sub (Opd.t 70)
      (Opd.c (AV.int IntKind.i64 1)))
      none,
      IOper.mk (some 11) (IOp.mv (Opd.t 71)) none]
      [70, 71])))
      (IC.ops false []
      [68, 69, 72, 73, 74, 75, 76, 77, 78, 79, 80, 81, 82, 83, 84, 85, 86,
      87, 88, 89, 90, 91, 92, 93, 94, 95, 96, 97, 98, 99, 100, 70,
      71]))))
      (IC.ops false []
      [68, 69, 72, 73, 74, 75, 76, 77, 78, 79, 80, 81, 82, 83, 84, 85, 86, 87,
      88, 89, 90, 91, 92, 93, 94, 95, 96, 97, 98, 99, 100, 70, 71])))
      IC.nop))
      (IC.seq
      (IC.ops false
      [IOper.mk (some 101) (IOp.mv (Opd.t 2)) none,
      IOper.mk (some 102) (IOp.mv (Opd.t 9)) none,
      IOper.mk (some 103) (IOp.bin BinOp.sub (Opd.t 101) (Opd.t 102)) none,
      IOper.mk (some 104)
      (IOp.bin BinOp.geq (Opd.t 103) (Opd.c (AV.int IntKind.i64 2)))
      none]
      [101, 102, 103])
      (IC.cond (Opd.t 104)
      (IC.seq
      (IC.ops false
      [IOper.mk (some 105) (IOp.mv (Opd.t 9)) none,
      IOper.mk (some 106)
      (IOp.bin BinOp.add (Opd.t 105)
      (Opd.c (AV.int IntKind.i64 1)))
      none,
      IOper.mk (some 12) (IOp.mv (Opd.t 106)) none]
      [105, 106])
      (IC.seq
      (IC.block 6
      (IC.loop
      (IC.seq
      (IC.seq
      (IC.seq
      (IC.ops false
      [IOper.mk (some 107) (IOp.mv (Opd.t 12)) none,
      IOper.mk (some 108) (IOp.mv (Opd.t 2)) none,
      IOper.mk (some 109)
      (IOp.bin BinOp.lss (Opd.t 107) (Opd.t 108)) none]
      [107, 108])
      (IC.cond (Opd.t 109) IC.nop (IC.exit 6)))
      (IC.seq
      (IC.seq
      (IC.block 7
      (IC.seq
      (IC.seq
      (IC.ops true
      [IOper.mk (some 112) (IOp.mv (Opd.t 3)) none,
      IOper.mk (some 113) (IOp.mv (Opd.t 0)) none,
      IOper.mk (some 114) (IOp.mv (Opd.t 12)) none,
      IOper.mk (some 115)
      (IOp.ixa 2 (Opd.t 113) (Opd.t 114)) none,
      IOper.mk (some 116) (IOp.load (some 2) (Opd.t 115))
      none,
      IOper.mk (some 117) (IOp.mv (Opd.t 0)) none,
      IOper.mk (some 118) (IOp.mv (Opd.t 12)) none,
      IOper.mk (some 119)
      (IOp.bin BinOp.sub (Opd.t 118)
      (Opd.c (AV.int IntKind.i64 1)))
      none,
      IOper.mk (some 120)
      (IOp.ixa 2 (Opd.t 117) (Opd.t 119)) none,
      IOper.mk (some 121) (IOp.load (some 2) (Opd.t 120))
      none,
      IOper.mk (some 122)
      (IOp.call (Opd.t 112) [Opd.t 116, Opd.t 121]) none,
      IOper.mk (some 123)
      (IOp.bin BinOp.lss (Opd.t 122)
      (Opd.c (AV.int IntKind.i64 0)))
      none,
      IOper.mk (some 124) (IOp.not (Opd.t 123)) none]
      [112, 113, 114, 115, 116, 117, 118, 119, 120, 121, 122,
      123])
      (IC.cond (Opd.t 124) (IC.exit 6) IC.nop))
      (IC.ops true
      [IOper.mk (some 125) (IOp.mv (Opd.t 0)) none,
      IOper.mk (some 126) (IOp.mv (Opd.t 12)) none,
      IOper.mk (some 127) (IOp.mv (Opd.t 0)) none,
      IOper.mk (some 128) (IOp.mv (Opd.t 12)) none,
      IOper.mk (some 129)
      (IOp.bin BinOp.sub (Opd.t 128)
      (Opd.c (AV.int IntKind.i64 1)))
      none,
      IOper.mk (some 130) (IOp.mv (Opd.t 0)) none,
      IOper.mk (some 131) (IOp.mv (Opd.t 12)) none,
      IOper.mk (some 132)
      (IOp.bin BinOp.sub (Opd.t 131)
      (Opd.c (AV.int IntKind.i64 1)))
      none,
      IOper.mk (some 133) (IOp.ixa 2 (Opd.t 130) (Opd.t 132))
      none,
      IOper.mk (some 134) (IOp.load (some 2) (Opd.t 133))
      none,
      IOper.mk (some 135) (IOp.mv (Opd.t 0)) none,
      IOper.mk (some 136) (IOp.mv (Opd.t 12)) none,
      IOper.mk (some 137) (IOp.ixa 2 (Opd.t 135) (Opd.t 136))
      none,
      IOper.mk (some 138) (IOp.load (some 2) (Opd.t 137))
      none,
      IOper.mk (some 139) (IOp.ixa 2 (Opd.t 125) (Opd.t 126))
      none,
      IOper.mk none (IOp.store 2 (Opd.t 139) (Opd.t 134))
      none,
      IOper.mk (some 140) (IOp.ixa 2 (Opd.t 127) (Opd.t 129))
      none,
      IOper.mk none (IOp.store 2 (Opd.t 140) (Opd.t 138))
      none]
      [125, 126, 127, 128, 129, 130, 131, 132, 133, 134, 135,
      136, 137, 138, 139, 140])))
      (IC.ops false []
      [112, 113, 114, 115, 116, 117, 118, 119, 120, 121, 122, 123,
      124, 125, 126, 127, 128, 129, 130, 131, 132, 133, 134, 135,
      136, 137, 138, 139, 140]))
      (IC.ops false
      [IOper.mk (some 110) (IOp.mv (Opd.t 12)) none,
      IOper.mk (some 111)
      (IOp.bin BinOp.add (Opd.t 110)
      (Opd.c (AV.int IntKind.i64 1)))
      none,
      IOper.mk (some 12) (IOp.mv (Opd.t 111)) none]
      [110, 111])))
      (IC.ops false []
      [107, 108, 109, 112, 113, 114, 115, 116, 117, 118, 119, 120, 121,
      122, 123, 124, 125, 126, 127, 128, 129, 130, 131, 132, 133, 134,
      135, 136, 137, 138, 139, 140, 110, 111]))))
      (IC.ops false []
      [107, 108, 109, 112, 113, 114, 115, 116, 117, 118, 119, 120, 121, 122,
      123, 124, 125, 126, 127, 128, 129, 130, 131, 132, 133, 134, 135, 136,
      137, 138, 139, 140, 110, 111])))
      IC.nop))))))))
      (IC.ops false []
      [19, 20, 21, 22, 23, 24, 25, 26, 27, 28, 29, 30, 31, 32, 33, 34, 35, 36, 37, 38, 39, 40, 41,
      42, 43, 44, 45, 46, 47, 48, 49, 50, 51, 52, 53, 54, 55, 56, 57, 58, 59, 60, 61, 62, 63, 64,
      65, 66, 67, 68, 69, 72, 73, 74, 75, 76, 77, 78, 79, 80, 81, 82, 83, 84, 85, 86, 87, 88, 89,
      90, 91, 92, 93, 94, 95, 96, 97, 98, 99, 100, 70, 71, 11, 101, 102, 103, 104, 105, 106, 107,
      108, 109, 112, 113, 114, 115, 116, 117, 118, 119, 120, 121, 122, 123, 124, 125, 126, 127,
      128, 129, 130, 131, 132, 133, 134, 135, 136, 137, 138, 139, 140, 110, 111, 12]))
      (IC.ops false
      [IOper.mk (some 17) (IOp.mv (Opd.t 10)) none,
      IOper.mk (some 18) (IOp.bin BinOp.add (Opd.t 17) (Opd.c (AV.int IntKind.i64 1)))
      none,
      IOper.mk (some 10) (IOp.mv (Opd.t 18)) none]
      [17, 18])))
      (IC.ops false []
      [15, 16, 19, 20, 21, 22, 23, 24, 25, 26, 27, 28, 29, 30, 31, 32, 33, 34, 35, 36, 37, 38, 39, 40, 41,
      42, 43, 44, 45, 46, 47, 48, 49, 50, 51, 52, 53, 54, 55, 56, 57, 58, 59, 60, 61, 62, 63, 64, 65,
      66, 67, 68, 69, 72, 73, 74, 75, 76, 77, 78, 79, 80, 81, 82, 83, 84, 85, 86, 87, 88, 89, 90, 91,
      92, 93, 94, 95, 96, 97, 98, 99, 100, 70, 71, 11, 101, 102, 103, 104, 105, 106, 107, 108, 109, 112,
      113, 114, 115, 116, 117, 118, 119, 120, 121, 122, 123, 124, 125, 126, 127, 128, 129, 130, 131,
      132, 133, 134, 135, 136, 137, 138, 139, 140, 110, 111, 12, 17, 18]))))
      (IC.ops false []
      [15, 16, 19, 20, 21, 22, 23, 24, 25, 26, 27, 28, 29, 30, 31, 32, 33, 34, 35, 36, 37, 38, 39, 40, 41, 42,
      43, 44, 45, 46, 47, 48, 49, 50, 51, 52, 53, 54, 55, 56, 57, 58, 59, 60, 61, 62, 63, 64, 65, 66, 67, 68,
      69, 72, 73, 74, 75, 76, 77, 78, 79, 80, 81, 82, 83, 84, 85, 86, 87, 88, 89, 90, 91, 92, 93, 94, 95, 96,
      97, 98, 99, 100, 70, 71, 11, 101, 102, 103, 104, 105, 106, 107, 108, 109, 112, 113, 114, 115, 116, 117,
      118, 119, 120, 121, 122, 123, 124, 125, 126, 127, 128, 129, 130, 131, 132, 133, 134, 135, 136, 137, 138,
      139, 140, 110, 111, 12, 17, 18])))
      (IC.seq (IC.ops false [IOper.mk (some 8) (IOp.mv (Opd.c (AV.bool false))) none] []) IC.ret))))
theorem fn_slices_partialInsertionSortCmpFunc_api_Fault : F 76 = some ir_slices_partialInsertionSortCmpFunc_api_Fault := by kernel_rfl

def ir_slices_partitionCmpFunc_api_Fault : IFun :=
  IFun.mk false 5 [IRes.tmp 10, IRes.tmp 11]
  (IC.seq
    (IC.ops false
      [IOper.mk (some 10) (IOp.mv (Opd.c (AV.int IntKind.i64 0))) none,
      IOper.mk (some 11) (IOp.mv (Opd.c (AV.bool false))) none]
      [])
    (IC.seq
      (IC.ops true
      [IOper.mk (some 14) (IOp.mv (Opd.t 0)) none, IOper.mk (some 15) (IOp.mv (Opd.t 1)) none,
      IOper.mk (some 16) (IOp.mv (Opd.t 0)) none, IOper.mk (some 17) (IOp.mv (Opd.t 3)) none,
      IOper.mk (some 18) (IOp.mv (Opd.t 0)) none, IOper.mk (some 19) (IOp.mv (Opd.t 3)) none,
      IOper.mk (some 20) (IOp.ixa 2 (Opd.t 18) (Opd.t 19)) none,
      IOper.mk (some 21) (IOp.load (some 2) (Opd.t 20)) none, IOper.mk (some 22) (IOp.mv (Opd.t 0)) none,
      IOper.mk (some 23) (IOp.mv (Opd.t 1)) none, IOper.mk (some 24) (IOp.ixa 2 (Opd.t 22) (Opd.t 23)) none,
      IOper.mk (some 25) (IOp.load (some 2) (Opd.t 24)) none,
      IOper.mk (some 26) (IOp.ixa 2 (Opd.t 14) (Opd.t 15)) none,
      IOper.mk none (IOp.store 2 (Opd.t 26) (Opd.t 21)) none,
      IOper.mk (some 27) (IOp.ixa 2 (Opd.t 16) (Opd.t 17)) none,
      IOper.mk none (IOp.store 2 (Opd.t 27) (Opd.t 25)) none]
      [14, 15, 16, 17, 18, 19, 20, 21, 22, 23, 24, 25, 26, 27])
      (IC.seq
      (IC.ops false
      [IOper.mk (some 28) (IOp.mv (Opd.t 1)) none,
      IOper.mk (some 29) (IOp.bin BinOp.add (Opd.t 28) (Opd.c (AV.int IntKind.i64 1))) none,
      IOper.mk (some 30) (IOp.mv (Opd.t 2)) none,
      IOper.mk (some 31) (IOp.bin BinOp.sub (Opd.t 30) (Opd.c (AV.int IntKind.i64 1))) none,
      IOper.mk (some 12) (IOp.mv (Opd.t 29)) none, IOper.mk (some 13) (IOp.mv (Opd.t 31)) none]
      [28, 29, 30, 31])
      (IC.seq
      (IC.seq
      (IC.block 0
      (IC.loop
      (IC.seq
      (IC.seq
      (IC.seq
      (IC.ops true
      [IOper.mk (some 32) (IOp.mv (Opd.t 12)) none, IOper.mk (some 33) (IOp.mv (Opd.t 13)) none,
      IOper.mk (some 34) (IOp.bin BinOp.leq (Opd.t 32) (Opd.t 33)) none,
      IOper.mk (some 35) (IOp.mv (Opd.t 34)) none,
      IOper.mk (some 36) (IOp.mv (Opd.t 4)) (some (35, true)),
      IOper.mk (some 37) (IOp.mv (Opd.t 0)) (some (35, true)),
      IOper.mk (some 38) (IOp.mv (Opd.t 12)) (some (35, true)),
      IOper.mk (some 39) (IOp.ixa 2 (Opd.t 37) (Opd.t 38)) (some (35, true)),
      IOper.mk (some 40) (IOp.load (some 2) (Opd.t 39)) (some (35, true)),
      IOper.mk (some 41) (IOp.mv (Opd.t 0)) (some (35, true)),
      IOper.mk (some 42) (IOp.mv (Opd.t 1)) (some (35, true)),
      IOper.mk (some 43) (IOp.ixa 2 (Opd.t 41) (Opd.t 42)) (some (35, true)),
      IOper.mk (some 44) (IOp.load (some 2) (Opd.t 43)) (some (35, true)),
      IOper.mk (some 45) (IOp.call (Opd.t 36) [Opd.t 40, Opd.t 44]) (some (35, true)),
      IOper.mk (some 46) (IOp.bin BinOp.lss (Opd.t 45) (Opd.c (AV.int IntKind.i64 0)))
      (some (35, true)),
      IOper.mk (some 47) (IOp.pick (Opd.t 35) (Opd.t 46) (Opd.c (AV.bool false))) none]
      [32, 33, 34, 35, 36, 37, 38, 39, 40, 41, 42, 43, 44, 45, 46])
      (IC.cond (Opd.t 47) IC.nop (IC.exit 0)))
      (IC.seq
      (IC.block 1
      (IC.ops false
      [IOper.mk (some 48) (IOp.mv (Opd.t 12)) none,
      IOper.mk (some 49) (IOp.bin BinOp.add (Opd.t 48) (Opd.c (AV.int IntKind.i64 1)))
      none,
      IOper.mk (some 12) (IOp.mv (Opd.t 49)) none]
      [48, 49]))
      (IC.ops false [] [48, 49])))
      (IC.ops false [] [32, 33, 34, 35, 36, 37, 38, 39, 40, 41, 42, 43, 44, 45, 46, 47, 48, 49]))))
      (IC.ops false [] [32, 33, 34, 35, 36, 37, 38, 39, 40, 41, 42, 43, 44, 45, 46, 47, 48, 49]))
      (IC.seq
      (IC.seq
      (IC.block 2
      (IC.loop
      (IC.seq
      (IC.seq
      (IC.seq
      (IC.ops true
      [IOper.mk (some 50) (IOp.mv (Opd.t 12)) none, IOper.mk (some 51) (IOp.mv (Opd.t 13)) none,
      IOper.mk (some 52) (IOp.bin BinOp.leq (Opd.t 50) (Opd.t 51)) none,
      IOper.mk (some 53) (IOp.mv (Opd.t 52)) none,
      IOper.mk (some 54) (IOp.mv (Opd.t 4)) (some (53, true)),
      IOper.mk (some 55) (IOp.mv (Opd.t 0)) (some (53, true)),
      IOper.mk (some 56) (IOp.mv (Opd.t 13)) (some (53, true)),
      IOper.mk (some 57) (IOp.ixa 2 (Opd.t 55) (Opd.t 56)) (some (53, true)),
      IOper.mk (some 58) (IOp.load (some 2) (Opd.t 57)) (some (53, true)),
      IOper.mk (some 59) (IOp.mv (Opd.t 0)) (some (53, true)),
      IOper.mk (some 60) (IOp.mv (Opd.t 1)) (some (53, true)),
      IOper.mk (some 61) (IOp.ixa 2 (Opd.t 59) (Opd.t 60)) (some (53, true)),
      IOper.mk (some 62) (IOp.load (some 2) (Opd.t 61)) (some (53, true)),
      IOper.mk (some 63) (IOp.call (Opd.t 54) [Opd.t 58, Opd.t 62]) (some (53, true)),
      IOper.mk (some 64) (IOp.bin BinOp.lss (Opd.t 63) (Opd.c (AV.int IntKind.i64 0)))
      (some (53, true)),
      IOper.mk (some 65) (IOp.not (Opd.t 64)) (some (53, true)),
      IOper.mk (some 66) (IOp.pick (Opd.t 53) (Opd.t 65) (Opd.c (AV.bool false))) none]
      [50, 51, 52, 53, 54, 55, 56, 57, 58, 59, 60, 61, 62, 63, 64, 65])
      (IC.cond (Opd.t 66) IC.nop (IC.exit 2)))
      (IC.seq
      (IC.block 3
      (IC.ops false
      [IOper.mk (some 67) (IOp.mv (Opd.t 13)) none,
      IOper.mk (some 68)
      (IOp.bin BinOp.sub (Opd.t 67) (Opd.c (AV.int IntKind.i64 1))) none,
      IOper.mk (some 13) (IOp.mv (Opd.t 68)) none]
      [67, 68]))
      (IC.ops false [] [67, 68])))
      (IC.ops false [] [50, 51, 52, 53, 54, 55, 56, 57, 58, 59, 60, 61, 62, 63, 64, 65, 66, 67, 68]))))
      (IC.ops false [] [50, 51, 52, 53, 54, 55, 56, 57, 58, 59, 60, 61, 62, 63, 64, 65, 66, 67, 68]))
      (IC.seq
      (IC.seq
      (IC.ops false
      [IOper.mk (some 69) (IOp.mv (Opd.t 12)) none, IOper.mk (some 70) (IOp.mv (Opd.t 13)) none,
      IOper.mk (some 71) (IOp.bin BinOp.gtr (Opd.t 69) (Opd.t 70)) none]
      [69, 70])
      (IC.cond (Opd.t 71)
      (IC.seq
      (IC.ops true
      [IOper.mk (some 72) (IOp.mv (Opd.t 0)) none, IOper.mk (some 73) (IOp.mv (Opd.t 13)) none,
      IOper.mk (some 74) (IOp.mv (Opd.t 0)) none, IOper.mk (some 75) (IOp.mv (Opd.t 1)) none,
      IOper.mk (some 76) (IOp.mv (Opd.t 0)) none, IOper.mk (some 77) (IOp.mv (Opd.t 1)) none,
      IOper.mk (some 78) (IOp.ixa 2 (Opd.t 76) (Opd.t 77)) none,
      IOper.mk (some 79) (IOp.load (some 2) (Opd.t 78)) none,
      IOper.mk (some 80) (IOp.mv (Opd.t 0)) none, IOper.mk (some 81) (IOp.mv (Opd.t 13)) none,
      IOper.mk (some 82) (IOp.ixa 2 (Opd.t 80) (Opd.t 81)) none,
      IOper.mk (some 83) (IOp.load (some 2) (Opd.t 82)) none,
      IOper.mk (some 84) (IOp.ixa 2 (Opd.t 72) (Opd.t 73)) none,
      IOper.mk none (IOp.store 2 (Opd.t 84) (Opd.t 79)) none,
      IOper.mk (some 85) (IOp.ixa 2 (Opd.t 74) (Opd.t 75)) none,
      IOper.mk none (IOp.store 2 (Opd.t 85) (Opd.t 83)) none]
      [72, 73, 74, 75, 76, 77, 78, 79, 80, 81, 82, 83, 84, 85])
      (IC.seq
      (IC.ops false
      [IOper.mk (some 86) (IOp.mv (Opd.t 13)) none, IOper.mk (some 10) (IOp.mv (Opd.t 86)) none,
      IOper.mk (some 11) (IOp.mv (Opd.c (AV.bool true))) none]
      [86])
      IC.ret))
      IC.nop))
      (IC.seq
      (IC.ops true
      [IOper.mk (some 87) (IOp.mv (Opd.t 0)) none, IOper.mk (some 88) (IOp.mv (Opd.t 12)) none,
      IOper.mk (some 89) (IOp.mv (Opd.t 0)) none, IOper.mk (some 90) (IOp.mv (Opd.t 13)) none,
      IOper.mk (some 91) (IOp.mv (Opd.t 0)) none, IOper.mk (some 92) (IOp.mv (Opd.t 13)) none,
      IOper.mk (some 93) (IOp.ixa 2 (Opd.t 91) (Opd.t 92)) none,
      IOper.mk (some 94) (IOp.load (some 2) (Opd.t 93)) none, IOper.mk (some 95) (IOp.mv (Opd.t 0)) none,
      IOper.mk (some 96) (IOp.mv (Opd.t 12)) none,
      IOper.mk (some 97) (IOp.ixa 2 (Opd.t 95) (Opd.t 96)) none,
      IOper.mk (some 98) (IOp.load (some 2) (Opd.t 97)) none,
      IOper.mk (some 99) (IOp.ixa 2 (Opd.t 87) (Opd.t 88)) none,
      IOper.mk none (IOp.store 2 (Opd.t 99) (Opd.t 94)) none,
      IOper.mk (some 100) (IOp.ixa 2 (Opd.t 89) (Opd.t 90)) none,
      IOper.mk none (IOp.store 2 (Opd.t 100) (Opd.t 98)) none]
      [87, 88, 89, 90, 91, 92, 93, 94, 95, 96, 97, 98, 99, 100])
      (IC.seq
      (IC.ops false
      [IOper.mk (some 101) (IOp.mv (Opd.t 12)) none,
      IOper.mk (some 102) (IOp.bin BinOp.add (Opd.t 101) (Opd.c (AV.int IntKind.i64 1)))
      none,
      IOper.mk (some 12) (IOp.mv (Opd.t 102)) none]
      [101, 102])
      (IC.seq
      (IC.ops false
      [IOper.mk (some 103) (IOp.mv (Opd.t 13)) none,
      IOper.mk (some 104) (IOp.bin BinOp.sub (Opd.t 103) (Opd.c (AV.int IntKind.i64 1)))
      none,
      IOper.mk (some 13) (IOp.mv (Opd.t 104)) none]
      [103, 104])
      (IC.seq
      (IC.seq
      (IC.block 4
      (IC.loop
      (IC.seq
      (IC.seq
      (IC.block 5
      (IC.seq
      (IC.seq
      (IC.block 6
      (IC.loop
      (IC.seq
      (IC.seq
      (IC.seq
      (IC.ops true
      [IOper.mk (some 105) (IOp.mv (Opd.t 12)) none,
      IOper.mk (some 106) (IOp.mv (Opd.t 13)) none,
      IOper.mk (some 107) (IOp.bin BinOp.leq (Opd.t 105) (Opd.t 106))
      none,
      IOper.mk (some 108) (IOp.mv (Opd.t 107)) none,
      IOper.mk (some 109) (IOp.mv (Opd.t 4)) (some (108, true)),
      IOper.mk (some 110) (IOp.mv (Opd.t 0)) (some (108, true)),
      IOper.mk (some 111) (IOp.mv (Opd.t 12)) (some (108, true)),
      IOper.mk (some 112) (IOp.ixa 2 (Opd.t 110) (Opd.t 111))
      (some (108, true)),
      IOper.mk (some 113) (IOp.load (some 2) (Opd.t 112))
      (some (108, true)),
      IOper.mk (some 114) (IOp.mv (Opd.t 0)) (some (108, true)),
      IOper.mk (some 115) (IOp.mv (Opd.t 1)) (some (108, true)),
      IOper.mk (some 116) (IOp.ixa 2 (Opd.t 114) (Opd.t 115))
      (some (108, true)),
      IOper.mk (some 117) (IOp.load (some 2) (Opd.t 116))
      (some (108, true)),
      IOper.mk (some 118) (IOp.call (Opd.t 109) [Opd.t 113, Opd.t 117])
      (some (108, true)),
      IOper.mk (some 119)
      (IOp.bin BinOp.lss (Opd.t 118)
      (Opd.c (AV.int IntKind.i64 0)))
      (some (108, true)),
      IOper.mk (some 120)
      (IOp.pick (Opd.t 108) (Opd.t 119) (Opd.c (AV.bool false))) none]
      [105, 106, 107, 108, 109, 110, 111, 112, 113, 114, 115, 116, 117, 118,
      119])
      (IC.cond (Opd.t 120) IC.nop (IC.exit 6)))
      (IC.seq
      (IC.block 7
      (IC.ops false
      [IOper.mk (some 121) (IOp.mv (Opd.t 12)) none,
      IOper.mk (some 122)
      (IOp.bin BinOp.add (Opd.t 121)
      (Opd.c (AV.int IntKind.i64 1)))
      none,
      IOper.mk (some 12) (IOp.mv (Opd.t 122)) none]
      [121, 122]))
      (IC.ops false [] [121, 122])))
      (IC.ops false []
      [105, 106, 107, 108, 109, 110, 111, 112, 113, 114, 115, 116, 117, 118,
      119, 120, 121, 122]))))
      (IC.ops false []
      [105, 106, 107, 108, 109, 110, 111, 112, 113, 114, 115, 116, 117, 118, 119, 120,
      121, 122]))
      (IC.seq
      (IC.seq
      (IC.block 8
      (IC.loop
      (IC.seq
      (IC.seq
      (IC.seq
      (IC.ops true
      [IOper.mk (some 123) (IOp.mv (Opd.t 12)) none,
      IOper.mk (some 124) (IOp.mv (Opd.t 13)) none,
      IOper.mk (some 125) (IOp.bin BinOp.leq (Opd.t 123) (Opd.t 124))
      none,
      IOper.mk (some 126) (IOp.mv (Opd.t 125)) none,
      IOper.mk (some 127) (IOp.mv (Opd.t 4)) (some (126, true)),
      IOper.mk (some 128) (IOp.mv (Opd.t 0)) (some (126, true)),
      IOper.mk (some 129) (IOp.mv (Opd.t 13)) (some (126, true)),
      IOper.mk (some 130) (IOp.ixa 2 (Opd.t 128) (Opd.t 129))
      (some (126, true)),
      IOper.mk (some 131) (IOp.load (some 2) (Opd.t 130))
      (some (126, true)),
      IOper.mk (some 132) (IOp.mv (Opd.t 0)) (some (126, true)),
      IOper.mk (some 133) (IOp.mv (Opd.t 1)) (some (126, true)),
      IOper.mk (some 134) (IOp.ixa 2 (Opd.t 132) (Opd.t 133))
      (some (126, true)),
      IOper.mk (some 135) (IOp.load (some 2) (Opd.t 134))
      (some (126, true)),
      IOper.mk (some 136) (IOp.call (Opd.t 127) [Opd.t 131, Opd.t 135])
      (some (126, true)),
      IOper.mk (some 137)
      (IOp.bin BinOp.lss (Opd.t 136)
      (Opd.c (AV.int IntKind.i64 0)))
      (some (126, true)),
      IOper.mk (some 138) (IOp.not (Opd.t 137)) (some (126, true)),
      IOper.mk (some 139)
      (IOp.pick (Opd.t 126) (Opd.t 138) (Opd.c (AV.bool false))) none]
      [123, 124, 125, 126, 127, 128, 129, 130, 131, 132, 133, 134, 135,
      136, 137, 138])
      (IC.cond (Opd.t 139) IC.nop (IC.exit 8)))
      (IC.seq
      (IC.block 9
      (IC.ops false
      [IOper.mk (some 140) (IOp.mv (Opd.t 13)) none,
      IOper.mk (some 141)
      (IOp.bin BinOp.sub (Opd.t 140)
      (Opd.c (AV.int IntKind.i64 1)))
      none,
      IOper.mk (some 13) (IOp.mv (Opd.t 141)) none]
      [140, 141]))
      (IC.ops false [] [140, 141])))
      (IC.ops false []
      [123, 124, 125, 126, 127, 128, 129, 130, 131, 132, 133, 134, 135, 136,
      137, 138, 139, 140, 141]))))
      (IC.ops false []
      [123, 124, 125, 126, 127, 128, 129, 130, 131, 132, 133, 134, 135, 136, 137,
      138, 139, 140, 141]))
      (IC.seq
      (IC.seq
      (IC.ops false
      [IOper.mk (some 142) (IOp.mv (Opd.t 12)) none,
      IOper.mk (some 143) (IOp.mv (Opd.t 13)) none,
      IOper.mk (some 144) (IOp.bin BinOp.gtr (Opd.t 142) (Opd.t 143)) none]
      [142, 143])
      (IC.cond (Opd.t 144) (IC.exit 4) IC.nop))
      (IC.seq
      (IC.ops true
      [IOper.mk (some 145) (IOp.mv (Opd.t 0)) none,
      IOper.mk (some 146) (IOp.mv (Opd.t 12)) none,
      IOper.mk (some 147) (IOp.mv (Opd.t 0)) none,
      IOper.mk (some 148) (IOp.mv (Opd.t 13)) none,
      IOper.mk (some 149) (IOp.mv (Opd.t 0)) none,
      IOper.mk (some 150) (IOp.mv (Opd.t 13)) none,
      IOper.mk (some 151) (IOp.ixa 2 (Opd.t 149) (Opd.t 150)) none,
      IOper.mk (some 152) (IOp.load (some 2) (Opd.t 151)) none,
      IOper.mk (some 153) (IOp.mv (Opd.t 0)) none,
      IOper.mk (some 154) (IOp.mv (Opd.t 12)) none,
      IOper.mk (some 155) (IOp.ixa 2 (Opd.t 153) (Opd.t 154)) none,
      IOper.mk (some 156) (IOp.load (some 2) (Opd.t 155)) none,
      IOper.mk (some 157) (IOp.ixa 2 (Opd.t 145) (Opd.t 146)) none,
      IOper.mk none (IOp.store 2 (Opd.t 157) (Opd.t 152)) none,
      IOper.mk (some 158) (IOp.ixa 2 (Opd.t 147) (Opd.t 148)) none,
      IOper.mk none (IOp.store 2 (Opd.t 158) (Opd.t 156)) none]
      [145, 146, 147, 148, 149, 150, 151, 152, 153, 154, 155, 156, 157, 158])
      (IC.seq
      (IC.ops false
      [IOper.mk (some 159) (IOp.mv (Opd.t 12)) none,
      IOper.mk (some 160)
      (IOp.bin BinOp.add (Opd.t 159)
      (Opd.c (AV.int IntKind.i64 1)))
      none,
      IOper.mk (some 12) (IOp.mv (Opd.t 160)) none]
      [159, 160])
      (IC.ops false
      [IOper.mk (some 161) (IOp.mv (Opd.t 13)) none,
      IOper.mk (some 162)
      (IOp.bin BinOp.sub (Opd.t 161)
      (Opd.c (AV.int IntKind.i64 1)))
      none,
      IOper.mk (some 13) (IOp.mv (Opd.t 162)) none]
      [161, 162])))))))
      (IC.ops false []
      [105, 106, 107, 108, 109, 110, 111, 112, 113, 114, 115, 116, 117, 118, 119, 120, 121,
      122, 123, 124, 125, 126, 127, 128, 129, 130, 131, 132, 133, 134, 135, 136, 137, 138,
      139, 140, 141, 142, 143, 144, 145, 146, 147, 148, 149, 150, 151, 152, 153, 154, 155,
      156, 157, 158, 159, 160, 161, 162]))
      (IC.ops false []
      [105, 106, 107, 108, 109, 110, 111, 112, 113, 114, 115, 116, 117, 118, 119, 120, 121,
      122, 123, 124, 125, 126, 127, 128, 129, 130, 131, 132, 133, 134, 135, 136, 137, 138,
      139, 140, 141, 142, 143, 144, 145, 146, 147, 148, 149, 150, 151, 152, 153, 154, 155,
      156, 157, 158, 159, 160, 161, 162]))))
      (IC.ops false []
      [105, 106, 107, 108, 109, 110, 111, 112, 113, 114, 115, 116, 117, 118, 119, 120, 121, 122,
      123, 124, 125, 126, 127, 128, 129, 130, 131, 132, 133, 134, 135, 136, 137, 138, 139, 140,
      141, 142, 143, 144, 145, 146, 147, 148, 149, 150, 151, 152, 153, 154, 155, 156, 157, 158,
      159, 160, 161, 162]))
      (IC.seq
      (IC.ops true
      [IOper.mk (some 163) (IOp.mv (Opd.t 0)) none, IOper.mk (some 164) (IOp.mv (Opd.t 13)) none,
      IOper.mk (some 165) (IOp.mv (Opd.t 0)) none, IOper.mk (some 166) (IOp.mv (Opd.t 1)) none,
      IOper.mk (some 167) (IOp.mv (Opd.t 0)) none, IOper.mk (some 168) (IOp.mv (Opd.t 1)) none,
      IOper.mk (some 169) (IOp.ixa 2 (Opd.t 167) (Opd.t 168)) none,
      IOper.mk (some 170) (IOp.load (some 2) (Opd.t 169)) none,
      IOper.mk (some 171) (IOp.mv (Opd.t 0)) none, IOper.mk (some 172) (IOp.mv (Opd.t 13)) none,
      IOper.mk (some 173) (IOp.ixa 2 (Opd.t 171) (Opd.t 172)) none,
      IOper.mk (some 174) (IOp.load (some 2) (Opd.t 173)) none,
      IOper.mk (some 175) (IOp.ixa 2 (Opd.t 163) (Opd.t 164)) none,
      IOper.mk none (IOp.store 2 (Opd.t 175) (Opd.t 170)) none,
      IOper.mk (some 176) (IOp.ixa 2 (Opd.t 165) (Opd.t 166)) none,
      IOper.mk none (IOp.store 2 (Opd.t 176) (Opd.t 174)) none]
      [163, 164, 165, 166, 167, 168, 169, 170, 171, 172, 173, 174, 175, 176])
      (IC.seq
      (IC.ops false
      [IOper.mk (some 177) (IOp.mv (Opd.t 13)) none, IOper.mk (some 10) (IOp.mv (Opd.t 177)) none,
      IOper.mk (some 11) (IOp.mv (Opd.c (AV.bool false))) none]
      [177])
      IC.ret))))))))))))
theorem fn_slices_partitionCmpFunc_api_Fault : F 78 = some ir_slices_partitionCmpFunc_api_Fault := by kernel_rfl

def ir_slices_partitionEqualCmpFunc_api_Fault : IFun :=
  IFun.mk false 5 [IRes.tmp 10]
  (IC.seq (IC.ops false [IOper.mk (some 10) (IOp.mv (Opd.c (AV.int IntKind.i64 0))) none] [])
    (IC.seq
      (IC.ops true
      [IOper.mk (some 13) (IOp.mv (Opd.t 0)) none, IOper.mk (some 14) (IOp.mv (Opd.t 1)) none,
      IOper.mk (some 15) (IOp.mv (Opd.t 0)) none, IOper.mk (some 16) (IOp.mv (Opd.t 3)) none,
      IOper.mk (some 17) (IOp.mv (Opd.t 0)) none, IOper.mk (some 18) (IOp.mv (Opd.t 3)) none,
      IOper.mk (some 19) (IOp.ixa 2 (Opd.t 17) (Opd.t 18)) none,
      IOper.mk (some 20) (IOp.load (some 2) (Opd.t 19)) none, IOper.mk (some 21) (IOp.mv (Opd.t 0)) none,
      IOper.mk (some 22) (IOp.mv (Opd.t 1)) none, IOper.mk (some 23) (IOp.ixa 2 (Opd.t 21) (Opd.t 22)) none,
      IOper.mk (some 24) (IOp.load (some 2) (Opd.t 23)) none,
      IOper.mk (some 25) (IOp.ixa 2 (Opd.t 13) (Opd.t 14)) none,
      IOper.mk none (IOp.store 2 (Opd.t 25) (Opd.t 20)) none,
      IOper.mk (some 26) (IOp.ixa 2 (Opd.t 15) (Opd.t 16)) none,
      IOper.mk none (IOp.store 2 (Opd.t 26) (Opd.t 24)) none]
      [13, 14, 15, 16, 17, 18, 19, 20, 21, 22, 23, 24, 25, 26])
      (IC.seq
      (IC.ops false
      [IOper.mk (some 27) (IOp.mv (Opd.t 1)) none,
      IOper.mk (some 28) (IOp.bin BinOp.add (Opd.t 27) (Opd.c (AV.int IntKind.i64 1))) none,
      IOper.mk (some 29) (IOp.mv (Opd.t 2)) none,
      IOper.mk (some 30) (IOp.bin BinOp.sub (Opd.t 29) (Opd.c (AV.int IntKind.i64 1))) none,
      IOper.mk (some 11) (IOp.mv (Opd.t 28)) none, IOper.mk (some 12) (IOp.mv (Opd.t 30)) none]
      [27, 28, 29, 30])
      (IC.seq
      (IC.seq
      (IC.block 0
      (IC.loop
      (IC.seq
      (IC.seq
      (IC.block 1
      (IC.seq
      (IC.seq
      (IC.block 2
      (IC.loop
      (IC.seq
      (IC.seq
      (IC.seq
      (IC.ops true
      [IOper.mk (some 31) (IOp.mv (Opd.t 11)) none,
      IOper.mk (some 32) (IOp.mv (Opd.t 12)) none,
      IOper.mk (some 33) (IOp.bin BinOp.leq (Opd.t 31) (Opd.t 32)) none,
      IOper.mk (some 34) (IOp.mv (Opd.t 33)) none,
      IOper.mk (some 35) (IOp.mv (Opd.t 4)) (some (34, true)),
      IOper.mk (some 36) (IOp.mv (Opd.t 0)) (some (34, true)),
      IOper.mk (some 37) (IOp.mv (Opd.t 1)) (some (34, true)),
      IOper.mk (some 38) (IOp.ixa 2 (Opd.t 36) (Opd.t 37)) (some (34, true)),
      IOper.mk (some 39) (IOp.load (some 2) (Opd.t 38)) (some (34, true)),
      IOper.mk (some 40) (IOp.mv (Opd.t 0)) (some (34, true)),
      IOper.mk (some 41) (IOp.mv (Opd.t 11)) (some (34, true)),
      IOper.mk (some 42) (IOp.ixa 2 (Opd.t 40) (Opd.t 41)) (some (34, true)),
      IOper.mk (some 43) (IOp.load (some 2) (Opd.t 42)) (some (34, true)),
      IOper.mk (some 44) (IOp.call (Opd.t 35) [Opd.t 39, Opd.t 43]) (some (34, true)),
      IOper.mk (some 45)
      (IOp.bin BinOp.lss (Opd.t 44) (Opd.c (AV.int IntKind.i64 0)))
      (some (34, true)),
      IOper.mk (some 46) (IOp.not (Opd.t 45)) (some (34, true)),
      IOper.mk (some 47) (IOp.pick (Opd.t 34) (Opd.t 46) (Opd.c (AV.bool false)))
      none]
      [31, 32, 33, 34, 35, 36, 37, 38, 39, 40, 41, 42, 43, 44, 45, 46])
      (IC.cond (Opd.t 47) IC.nop (IC.exit 2)))
      (IC.seq
      (IC.block 3
      (IC.ops false
      [IOper.mk (some 48) (IOp.mv (Opd.t 11)) none,
      IOper.mk (some 49)
      (IOp.bin BinOp.add (Opd.t 48) (Opd.c (AV.int IntKind.i64 1)))
      none,
      IOper.mk (some 11) (IOp.mv (Opd.t 49)) none]
      [48, 49]))
      (IC.ops false [] [48, 49])))
      (IC.ops false []
      [31, 32, 33, 34, 35, 36, 37, 38, 39, 40, 41, 42, 43, 44, 45, 46, 47, 48, 49]))))
      (IC.ops false []
      [31, 32, 33, 34, 35, 36, 37, 38, 39, 40, 41, 42, 43, 44, 45, 46, 47, 48, 49]))
      (IC.seq
      (IC.seq
      (IC.block 4
      (IC.loop
      (IC.seq
      (IC.seq
      (IC.seq
      (IC.ops true
      [IOper.mk (some 50) (IOp.mv (Opd.t 11)) none,
      IOper.mk (some 51) (IOp.mv (Opd.t 12)) none,
      IOper.mk (some 52) (IOp.bin BinOp.leq (Opd.t 50) (Opd.t 51)) none,
      IOper.mk (some 53) (IOp.mv (Opd.t 52)) none,
      IOper.mk (some 54) (IOp.mv (Opd.t 4)) (some (53, true)),
      IOper.mk (some 55) (IOp.mv (Opd.t 0)) (some (53, true)),
      IOper.mk (some 56) (IOp.mv (Opd.t 1)) (some (53, true)),
      IOper.mk (some 57) (IOp.ixa 2 (Opd.t 55) (Opd.t 56)) (some (53, true)),
      IOper.mk (some 58) (IOp.load (some 2) (Opd.t 57)) (some (53, true)),
      IOper.mk (some 59) (IOp.mv (Opd.t 0)) (some (53, true)),
      IOper.mk (some 60) (IOp.mv (Opd.t 12)) (some (53, true)),
      IOper.mk (some 61) (IOp.ixa 2 (Opd.t 59) (Opd.t 60)) (some (53, true)),
      IOper.mk (some 62) (IOp.load (some 2) (Opd.t 61)) (some (53, true)),
      IOper.mk (some 63) (IOp.call (Opd.t 54) [Opd.t 58, Opd.t 62])
      (some (53, true)),
      IOper.mk (some 64)
      (IOp.bin BinOp.lss (Opd.t 63) (Opd.c (AV.int IntKind.i64 0)))
      (some (53, true)),
      IOper.mk (some 65) (IOp.pick (Opd.t 53) (Opd.t 64) (Opd.c (AV.bool false)))
      none]
      [50, 51, 52, 53, 54, 55, 56, 57, 58, 59, 60, 61, 62, 63, 64])
      (IC.cond (Opd.t 65) IC.nop (IC.exit 4)))
      (IC.seq
      (IC.block 5
      (IC.ops false
      [IOper.mk (some 66) (IOp.mv (Opd.t 12)) none,
      IOper.mk (some 67)
      (IOp.bin BinOp.sub (Opd.t 66) (Opd.c (AV.int IntKind.i64 1)))
      none,
      IOper.mk (some 12) (IOp.mv (Opd.t 67)) none]
      [66, 67]))
      (IC.ops false [] [66, 67])))
      (IC.ops false []
      [50, 51, 52, 53, 54, 55, 56, 57, 58, 59, 60, 61, 62, 63, 64, 65, 66, 67]))))
      (IC.ops false [] [50, 51, 52, 53, 54, 55, 56, 57, 58, 59, 60, 61, 62, 63, 64, 65, 66, 67]))
      (IC.seq
      (IC.seq
      (IC.ops false
      [IOper.mk (some 68) (IOp.mv (Opd.t 11)) none,
      IOper.mk (some 69) (IOp.mv (Opd.t 12)) none,
      IOper.mk (some 70) (IOp.bin BinOp.gtr (Opd.t 68) (Opd.t 69)) none]
      [68, 69])
      (IC.cond (Opd.t 70) (IC.exit 0) IC.nop))
      (IC.seq
      (IC.ops true
      [IOper.mk (some 71) (IOp.mv (Opd.t 0)) none,
      IOper.mk (some 72) (IOp.mv (Opd.t 11)) none,
      IOper.mk (some 73) (IOp.mv (Opd.t 0)) none,
      IOper.mk (some 74) (IOp.mv (Opd.t 12)) none,
      IOper.mk (some 75) (IOp.mv (Opd.t 0)) none,
      IOper.mk (some 76) (IOp.mv (Opd.t 12)) none,
      IOper.mk (some 77) (IOp.ixa 2 (Opd.t 75) (Opd.t 76)) none,
      IOper.mk (some 78) (IOp.load (some 2) (Opd.t 77)) none,
      IOper.mk (some 79) (IOp.mv (Opd.t 0)) none,
      IOper.mk (some 80) (IOp.mv (Opd.t 11)) none,
      IOper.mk (some 81) (IOp.ixa 2 (Opd.t 79) (Opd.t 80)) none,
      IOper.mk (some 82) (IOp.load (some 2) (Opd.t 81)) none,
      IOper.mk (some 83) (IOp.ixa 2 (Opd.t 71) (Opd.t 72)) none,
      IOper.mk none (IOp.store 2 (Opd.t 83) (Opd.t 78)) none,
      IOper.mk (some 84) (IOp.ixa 2 (Opd.t 73) (Opd.t 74)) none,
      IOper.mk none (IOp.store 2 (Opd.t 84) (Opd.t 82)) none]
      [71, 72, 73, 74, 75, 76, 77, 78, 79, 80, 81, 82, 83, 84])
      (IC.seq
      (IC.ops false
      [IOper.mk (some 85) (IOp.mv (Opd.t 11)) none,
      IOper.mk (some 86)
      (IOp.bin BinOp.add (Opd.t 85) (Opd.c (AV.int IntKind.i64 1))) none,
      IOper.mk (some 11) (IOp.mv (Opd.t 86)) none]
      [85, 86])
      (IC.ops false
      [IOper.mk (some 87) (IOp.mv (Opd.t 12)) none,
      IOper.mk (some 88)
      (IOp.bin BinOp.sub (Opd.t 87) (Opd.c (AV.int IntKind.i64 1))) none,
      IOper.mk (some 12) (IOp.mv (Opd.t 88)) none]
      [87, 88])))))))
      (IC.ops false []
      [31, 32, 33, 34, 35, 36, 37, 38, 39, 40, 41, 42, 43, 44, 45, 46, 47, 48, 49, 50, 51, 52, 53, 54,
      55, 56, 57, 58, 59, 60, 61, 62, 63, 64, 65, 66, 67, 68, 69, 70, 71, 72, 73, 74, 75, 76, 77, 78,
      79, 80, 81, 82, 83, 84, 85, 86, 87, 88]))
      (IC.ops false []
      [31, 32, 33, 34, 35, 36, 37, 38, 39, 40, 41, 42, 43, 44, 45, 46, 47, 48, 49, 50, 51, 52, 53, 54, 55,
      56, 57, 58, 59, 60, 61, 62, 63, 64, 65, 66, 67, 68, 69, 70, 71, 72, 73, 74, 75, 76, 77, 78, 79,
      80, 81, 82, 83, 84, 85, 86, 87, 88]))))
      (IC.ops false []
      [31, 32, 33, 34, 35, 36, 37, 38, 39, 40, 41, 42, 43, 44, 45, 46, 47, 48, 49, 50, 51, 52, 53, 54, 55, 56,
      57, 58, 59, 60, 61, 62, 63, 64, 65, 66, 67, 68, 69, 70, 71, 72, 73, 74, 75, 76, 77, 78, 79, 80, 81, 82,
      83, 84, 85, 86, 87, 88]))
      (IC.seq
      (IC.ops false [IOper.mk (some 89) (IOp.mv (Opd.t 11)) none, IOper.mk (some 10) (IOp.mv (Opd.t 89)) none]
      [89])
      IC.ret)))))
theorem fn_slices_partitionEqualCmpFunc_api_Fault : F 77 = some ir_slices_partitionEqualCmpFunc_api_Fault := by kernel_rfl

def ir_slices_reverseRangeCmpFunc_api_Fault : IFun :=
  IFun.mk false 4 []
  (IC.seq (IC.ops false [IOper.mk (some 10) (IOp.mv (Opd.t 1)) none, IOper.mk (some 8) (IOp.mv (Opd.t 10)) none] [10])
    (IC.seq
      (IC.ops false
      [IOper.mk (some 11) (IOp.mv (Opd.t 2)) none,
      IOper.mk (some 12) (IOp.bin BinOp.sub (Opd.t 11) (Opd.c (AV.int IntKind.i64 1))) none,
      IOper.mk (some 9) (IOp.mv (Opd.t 12)) none]
      [11, 12])
      (IC.seq
      (IC.block 0
      (IC.loop
      (IC.seq
      (IC.seq
      (IC.seq
      (IC.ops false
      [IOper.mk (some 13) (IOp.mv (Opd.t 8)) none, IOper.mk (some 14) (IOp.mv (Opd.t 9)) none,
      IOper.mk (some 15) (IOp.bin BinOp.lss (Opd.t 13) (Opd.t 14)) none]
      [13, 14])
      (IC.cond (Opd.t 15) IC.nop (IC.exit 0)))
      (IC.seq
      (IC.block 1
      (IC.seq
      (IC.ops true
      [IOper.mk (some 16) (IOp.mv (Opd.t 0)) none, IOper.mk (some 17) (IOp.mv (Opd.t 8)) none,
      IOper.mk (some 18) (IOp.mv (Opd.t 0)) none, IOper.mk (some 19) (IOp.mv (Opd.t 9)) none,
      IOper.mk (some 20) (IOp.mv (Opd.t 0)) none, IOper.mk (some 21) (IOp.mv (Opd.t 9)) none,
      IOper.mk (some 22) (IOp.ixa 2 (Opd.t 20) (Opd.t 21)) none,
      IOper.mk (some 23) (IOp.load (some 2) (Opd.t 22)) none,
      IOper.mk (some 24) (IOp.mv (Opd.t 0)) none, IOper.mk (some 25) (IOp.mv (Opd.t 8)) none,
      IOper.mk (some 26) (IOp.ixa 2 (Opd.t 24) (Opd.t 25)) none,
      IOper.mk (some 27) (IOp.load (some 2) (Opd.t 26)) none,
      IOper.mk (some 28) (IOp.ixa 2 (Opd.t 16) (Opd.t 17)) none,
      IOper.mk none (IOp.store 2 (Opd.t 28) (Opd.t 23)) none,
      IOper.mk (some 29) (IOp.ixa 2 (Opd.t 18) (Opd.t 19)) none,
      IOper.mk none (IOp.store 2 (Opd.t 29) (Opd.t 27)) none]
      [16, 17, 18, 19, 20, 21, 22, 23, 24, 25, 26, 27, 28, 29])
      (IC.seq
      (IC.ops false
      [IOper.mk (some 30) (IOp.mv (Opd.t 8)) none,
      IOper.mk (some 31) (IOp.bin BinOp.add (Opd.t 30) (Opd.c (AV.int IntKind.i64 1)))
      none,
      IOper.mk (some 8) (IOp.mv (Opd.t 31)) none]
      [30, 31])
      (IC.ops false
      [IOper.mk (some 32) (IOp.mv (Opd.t 9)) none,
      IOper.mk (some 33) (IOp.bin BinOp.sub (Opd.t 32) (Opd.c (AV.int IntKind.i64 1)))
      none,
      IOper.mk (some 9) (IOp.mv (Opd.t 33)) none]
      [32, 33]))))
      (IC.ops false [] [16, 17, 18, 19, 20, 21, 22, 23, 24, 25, 26, 27, 28, 29, 30, 31, 32, 33])))
      (IC.ops false [] [13, 14, 15, 16, 17, 18, 19, 20, 21, 22, 23, 24, 25, 26, 27, 28, 29, 30, 31, 32, 33]))))
      (IC.ops false [] [13, 14, 15, 16, 17, 18, 19, 20, 21, 22, 23, 24, 25, 26, 27, 28, 29, 30, 31, 32, 33]))))
theorem fn_slices_reverseRangeCmpFunc_api_Fault : F 75 = some ir_slices_reverseRangeCmpFunc_api_Fault := by kernel_rfl

def ir_slices_symMergeCmpFunc_int : IFun :=
  IFun.mk false 5 []
  (IC.seq
    (IC.seq
      (IC.ops false
      [IOper.mk (some 25) (IOp.mv (Opd.t 2)) none, IOper.mk (some 26) (IOp.mv (Opd.t 1)) none,
      IOper.mk (some 27) (IOp.bin BinOp.sub (Opd.t 25) (Opd.t 26)) none,
      IOper.mk (some 28) (IOp.bin BinOp.eql (Opd.t 27) (Opd.c (AV.int IntKind.i64 1))) none]
      [25, 26, 27])
      (IC.cond (Opd.t 28)
      (IC.seq
      (IC.ops false [IOper.mk (some 29) (IOp.mv (Opd.t 2)) none, IOper.mk (some 10) (IOp.mv (Opd.t 29)) none] [29])
      (IC.seq
      (IC.ops false [IOper.mk (some 30) (IOp.mv (Opd.t 3)) none, IOper.mk (some 11) (IOp.mv (Opd.t 30)) none]
      [30])
      (IC.seq
      (IC.seq
      (IC.block 0
      (IC.loop
      (IC.seq
      (IC.seq
      (IC.seq
      (IC.ops false
      [IOper.mk (some 31) (IOp.mv (Opd.t 10)) none, IOper.mk (some 32) (IOp.mv (Opd.t 11)) none,
      IOper.mk (some 33) (IOp.bin BinOp.lss (Opd.t 31) (Opd.t 32)) none]
      [31, 32])
      (IC.cond (Opd.t 33) IC.nop (IC.exit 0)))
      (IC.seq
      (IC.block 1
      (IC.seq
      (IC.ops false
      [IOper.mk (some 34) (IOp.mv (Opd.t 10)) none,
      IOper.mk (some 35) (IOp.mv (Opd.t 11)) none,
      IOper.mk (some 36) (IOp.bin BinOp.add (Opd.t 34) (Opd.t 35)) none,
      IOper.mk (some 37) (IOp.conv IntKind.u64 (Opd.t 36)) none,
      IOper.mk (some 38)
      (IOp.bin BinOp.shr (Opd.t 37) (Opd.c (AV.int IntKind.u64 1))) none,
      IOper.mk (some 39) (IOp.conv IntKind.i64 (Opd.t 38)) none,
      IOper.mk (some 12) (IOp.mv (Opd.t 39)) none]
      [34, 35, 36, 37, 38, 39])
      (IC.seq
      (IC.ops true
      [IOper.mk (some 40) (IOp.mv (Opd.t 4)) none,
      IOper.mk (some 41) (IOp.mv (Opd.t 0)) none,
      IOper.mk (some 42) (IOp.mv (Opd.t 12)) none,
      IOper.mk (some 43) (IOp.ixa 1 (Opd.t 41) (Opd.t 42)) none,
      IOper.mk (some 44) (IOp.load none (Opd.t 43)) none,
      IOper.mk (some 45) (IOp.mv (Opd.t 0)) none,
      IOper.mk (some 46) (IOp.mv (Opd.t 1)) none,
      IOper.mk (some 47) (IOp.ixa 1 (Opd.t 45) (Opd.t 46)) none,
      IOper.mk (some 48) (IOp.load none (Opd.t 47)) none,
      IOper.mk (some 49) (IOp.call (Opd.t 40) [Opd.t 44, Opd.t 48]) none,
      IOper.mk (some 50)
      (IOp.bin BinOp.lss (Opd.t 49) (Opd.c (AV.int IntKind.i64 0))) none]
      [40, 41, 42, 43, 44, 45, 46, 47, 48, 49])
      (IC.cond (Opd.t 50)
      (IC.ops false
      [IOper.mk (some 51) (IOp.mv (Opd.t 12)) none,
      IOper.mk (some 52)
      (IOp.bin BinOp.add (Opd.t 51) (Opd.c (AV.int IntKind.i64 1))) none,
      IOper.mk (some 10) (IOp.mv (Opd.t 52)) none]
      [51, 52])
      (IC.ops false
      [IOper.mk (some 53) (IOp.mv (Opd.t 12)) none,
      IOper.mk (some 11) (IOp.mv (Opd.t 53)) none]
      [53])))))
      (IC.ops false []
      [34, 35, 36, 37, 38, 39, 12, 40, 41, 42, 43, 44, 45, 46, 47, 48, 49, 50, 51, 52, 53])))
      (IC.ops false []
      [31, 32, 33, 34, 35, 36, 37, 38, 39, 12, 40, 41, 42, 43, 44, 45, 46, 47, 48, 49, 50, 51, 52,
      53]))))
      (IC.ops false []
      [31, 32, 33, 34, 35, 36, 37, 38, 39, 12, 40, 41, 42, 43, 44, 45, 46, 47, 48, 49, 50, 51, 52, 53]))
      (IC.seq
      (IC.seq
      (IC.ops false
      [IOper.mk (some 54) (IOp.mv (Opd.t 1)) none, IOper.mk (some 13) (IOp.mv (Opd.t 54)) none] [54])
      (IC.seq
      (IC.block 2
      (IC.loop
      (IC.seq
      (IC.seq
      (IC.seq
      (IC.ops false
      [IOper.mk (some 55) (IOp.mv (Opd.t 13)) none,
      IOper.mk (some 56) (IOp.mv (Opd.t 10)) none,
      IOper.mk (some 57)
      (IOp.bin BinOp.sub (Opd.t 56) (Opd.c (AV.int IntKind.i64 1))) none,
      IOper.mk (some 58) (IOp.bin BinOp.lss (Opd.t 55) (Opd.t 57)) none]
      [55, 56, 57])
      (IC.cond (Opd.t 58) IC.nop (IC.exit 2)))
      (IC.seq
      (IC.seq
      (IC.block 3
      (IC.ops true
      [IOper.mk (some 61) (IOp.mv (Opd.t 0)) none,
      IOper.mk (some 62) (IOp.mv (Opd.t 13)) none,
      IOper.mk (some 63) (IOp.mv (Opd.t 0)) none,
      IOper.mk (some 64) (IOp.mv (Opd.t 13)) none,
      IOper.mk (some 65)
      (IOp.bin BinOp.add (Opd.t 64) (Opd.c (AV.int IntKind.i64 1))) none,
      IOper.mk (some 66) (IOp.mv (Opd.t 0)) none,
      IOper.mk (some 67) (IOp.mv (Opd.t 13)) none,
      IOper.mk (some 68)
      (IOp.bin BinOp.add (Opd.t 67) (Opd.c (AV.int IntKind.i64 1))) none,
      IOper.mk (some 69) (IOp.ixa 1 (Opd.t 66) (Opd.t 68)) none,
      IOper.mk (some 70) (IOp.load none (Opd.t 69)) none,
      IOper.mk (some 71) (IOp.mv (Opd.t 0)) none,
      IOper.mk (some 72) (IOp.mv (Opd.t 13)) none,
      IOper.mk (some 73) (IOp.ixa 1 (Opd.t 71) (Opd.t 72)) none,
      IOper.mk (some 74) (IOp.load none (Opd.t 73)) none,
      IOper.mk (some 75) (IOp.ixa 1 (Opd.t 61) (Opd.t 62)) none,
      IOper.mk none (IOp.store 1 (Opd.t 75) (Opd.t 70)) none,
      IOper.mk (some 76) (IOp.ixa 1 (Opd.t 63) (Opd.t 65)) none,
      IOper.mk none (IOp.store 1 (Opd.t 76) (Opd.t 74)) none]
      [61, 62, 63, 64, 65, 66, 67, 68, 69, 70, 71, 72, 73, 74, 75, 76]))
      (IC.ops false [] [61, 62, 63, 64, 65, 66, 67, 68, 69, 70, 71, 72, 73, 74, 75, 76]))
      (IC.ops false
      [IOper.mk (some 59) (IOp.mv (Opd.t 13)) none,
      IOper.mk (some 60)
      (IOp.bin BinOp.add (Opd.t 59) (Opd.c (AV.int IntKind.i64 1))) none,
      IOper.mk (some 13) (IOp.mv (Opd.t 60)) none]
      [59, 60])))
      (IC.ops false []
      [55, 56, 57, 58, 61, 62, 63, 64, 65, 66, 67, 68, 69, 70, 71, 72, 73, 74, 75, 76, 59, 60]))))
      (IC.ops false []
      [55, 56, 57, 58, 61, 62, 63, 64, 65, 66, 67, 68, 69, 70, 71, 72, 73, 74, 75, 76, 59, 60])))
      IC.ret))))
      IC.nop))
    (IC.seq
      (IC.seq
      (IC.ops false
      [IOper.mk (some 77) (IOp.mv (Opd.t 3)) none, IOper.mk (some 78) (IOp.mv (Opd.t 2)) none,
      IOper.mk (some 79) (IOp.bin BinOp.sub (Opd.t 77) (Opd.t 78)) none,
      IOper.mk (some 80) (IOp.bin BinOp.eql (Opd.t 79) (Opd.c (AV.int IntKind.i64 1))) none]
      [77, 78, 79])
      (IC.cond (Opd.t 80)
      (IC.seq
      (IC.ops false [IOper.mk (some 81) (IOp.mv (Opd.t 1)) none, IOper.mk (some 14) (IOp.mv (Opd.t 81)) none]
      [81])
      (IC.seq
      (IC.ops false [IOper.mk (some 82) (IOp.mv (Opd.t 2)) none, IOper.mk (some 15) (IOp.mv (Opd.t 82)) none]
      [82])
      (IC.seq
      (IC.seq
      (IC.block 4
      (IC.loop
      (IC.seq
      (IC.seq
      (IC.seq
      (IC.ops false
      [IOper.mk (some 83) (IOp.mv (Opd.t 14)) none, IOper.mk (some 84) (IOp.mv (Opd.t 15)) none,
      IOper.mk (some 85) (IOp.bin BinOp.lss (Opd.t 83) (Opd.t 84)) none]
      [83, 84])
      (IC.cond (Opd.t 85) IC.nop (IC.exit 4)))
      (IC.seq
      (IC.block 5
      (IC.seq
      (IC.ops false
      [IOper.mk (some 86) (IOp.mv (Opd.t 14)) none,
      IOper.mk (some 87) (IOp.mv (Opd.t 15)) none,
      IOper.mk (some 88) (IOp.bin BinOp.add (Opd.t 86) (Opd.t 87)) none,
      IOper.mk (some 89) (IOp.conv IntKind.u64 (Opd.t 88)) none,
      IOper.mk (some 90)
      (IOp.bin BinOp.shr (Opd.t 89) (Opd.c (AV.int IntKind.u64 1))) none,
      IOper.mk (some 91) (IOp.conv IntKind.i64 (Opd.t 90)) none,
      IOper.mk (some 16) (IOp.mv (Opd.t 91)) none]
      [86, 87, 88, 89, 90, 91])
      (IC.seq
      (IC.ops true
      [IOper.mk (some 92) (IOp.mv (Opd.t 4)) none,
      IOper.mk (some 93) (IOp.mv (Opd.t 0)) none,
      IOper.mk (some 94) (IOp.mv (Opd.t 2)) none,
      IOper.mk (some 95) (IOp.ixa 1 (Opd.t 93) (Opd.t 94)) none,
      IOper.mk (some 96) (IOp.load none (Opd.t 95)) none,
      IOper.mk (some 97) (IOp.mv (Opd.t 0)) none,
      IOper.mk (some 98) (IOp.mv (Opd.t 16)) none,
      IOper.mk (some 99) (IOp.ixa 1 (Opd.t 97) (Opd.t 98)) none,
      IOper.mk (some 100) (IOp.load none (Opd.t 99)) none,
      IOper.mk (some 101) (IOp.call (Opd.t 92) [Opd.t 96, Opd.t 100]) none,
      IOper.mk (some 102)
      (IOp.bin BinOp.lss (Opd.t 101) (Opd.c (AV.int IntKind.i64 0))) none,
      IOper.mk (some 103) (IOp.not (Opd.t 102)) none]
      [92, 93, 94, 95, 96, 97, 98, 99, 100, 101, 102])
      (IC.cond (Opd.t 103)
      (IC.ops false
      [IOper.mk (some 104) (IOp.mv (Opd.t 16)) none,
      IOper.mk (some 105)
      (IOp.bin BinOp.add (Opd.t 104) (Opd.c (AV.int IntKind.i64 1)))
      none,
      IOper.mk (some 14) (IOp.mv (Opd.t 105)) none]
      [104, 105])
      (IC.ops false
      [IOper.mk (some 106) (IOp.mv (Opd.t 16)) none,
      IOper.mk (some 15) (IOp.mv (Opd.t 106)) none]
      [106])))))
      (IC.ops false []
      [86, 87, 88, 89, 90, 91, 16, 92, 93, 94, 95, 96, 97, 98, 99, 100, 101, 102, 103, 104, 105,
      106])))
      (IC.ops false []
      [83, 84, 85, 86, 87, 88, 89, 90, 91, 16, 92, 93, 94, 95, 96, 97, 98, 99, 100, 101, 102, 103,
      104, 105, 106]))))
      (IC.ops false []
      [83, 84, 85, 86, 87, 88, 89, 90, 91, 16, 92, 93, 94, 95, 96, 97, 98, 99, 100, 101, 102, 103, 104,
      105, 106]))
      (IC.seq
      (IC.seq
      (IC.ops false
      [IOper.mk (some 107) (IOp.mv (Opd.t 2)) none, IOper.mk (some 17) (IOp.mv (Opd.t 107)) none] [107])
      (IC.seq
      (IC.block 6
      (IC.loop
      (IC.seq
      (IC.seq
      (IC.seq
      (IC.ops false
      [IOper.mk (some 108) (IOp.mv (Opd.t 17)) none,
      IOper.mk (some 109) (IOp.mv (Opd.t 14)) none,
      IOper.mk (some 110) (IOp.bin BinOp.gtr (Opd.t 108) (Opd.t 109)) none]
      [108, 109])
      (IC.cond (Opd.t 110) IC.nop (IC.exit 6)))
      (IC.seq
      (IC.seq
      (IC.block 7
      (IC.ops true
      [IOper.mk (some 113) (IOp.mv (Opd.t 0)) none,
      IOper.mk (some 114) (IOp.mv (Opd.t 17)) none,
      IOper.mk (some 115) (IOp.mv (Opd.t 0)) none,
      IOper.mk (some 116) (IOp.mv (Opd.t 17)) none,
      IOper.mk (some 117)
      (IOp.bin BinOp.sub (Opd.t 116) (Opd.c (AV.int IntKind.i64 1)))
      none,
      IOper.mk (some 118) (IOp.mv (Opd.t 0)) none,
      IOper.mk (some 119) (IOp.mv (Opd.t 17)) none,
      IOper.mk (some 120)
      (IOp.bin BinOp.sub (Opd.t 119) (Opd.c (AV.int IntKind.i64 1)))
      none,
      IOper.mk (some 121) (IOp.ixa 1 (Opd.t 118) (Opd.t 120)) none,
      IOper.mk (some 122) (IOp.load none (Opd.t 121)) none,
      IOper.mk (some 123) (IOp.mv (Opd.t 0)) none,
      IOper.mk (some 124) (IOp.mv (Opd.t 17)) none,
      IOper.mk (some 125) (IOp.ixa 1 (Opd.t 123) (Opd.t 124)) none,
      IOper.mk (some 126) (IOp.load none (Opd.t 125)) none,
      IOper.mk (some 127) (IOp.ixa 1 (Opd.t 113) (Opd.t 114)) none,
      IOper.mk none (IOp.store 1 (Opd.t 127) (Opd.t 122)) none,
      IOper.mk (some 128) (IOp.ixa 1 (Opd.t 115) (Opd.t 117)) none,
      IOper.mk none (IOp.store 1 (Opd.t 128) (Opd.t 126)) none]
      [113, 114, 115, 116, 117, 118, 119, 120, 121, 122, 123, 124, 125, 126, 127, 128]))
      (IC.ops false []
      [113, 114, 115, 116, 117, 118, 119, 120, 121, 122, 123, 124, 125, 126, 127, 128]))
      (IC.ops false
      [IOper.mk (some 111) (IOp.mv (Opd.t 17)) none,
      IOper.mk (some 112)
      (IOp.bin BinOp.sub (Opd.t 111) (Opd.c (AV.int IntKind.i64 1))) none,
      IOper.mk (some 17) (IOp.mv (Opd.t 112)) none]
      [111, 112])))
      (IC.ops false []
      [108, 109, 110, 113, 114, 115, 116, 117, 118, 119, 120, 121, 122, 123, 124, 125, 126, 127,
      128, 111, 112]))))
      (IC.ops false []
      [108, 109, 110, 113, 114, 115, 116, 117, 118, 119, 120, 121, 122, 123, 124, 125, 126, 127, 128,
      111, 112])))
      IC.ret))))
      IC.nop))
      (IC.seq
      (IC.ops false
      [IOper.mk (some 129) (IOp.mv (Opd.t 1)) none, IOper.mk (some 130) (IOp.mv (Opd.t 3)) none,
      IOper.mk (some 131) (IOp.bin BinOp.add (Opd.t 129) (Opd.t 130)) none,
      IOper.mk (some 132) (IOp.conv IntKind.u64 (Opd.t 131)) none,
      IOper.mk (some 133) (IOp.bin BinOp.shr (Opd.t 132) (Opd.c (AV.int IntKind.u64 1))) none,
      IOper.mk (some 134) (IOp.conv IntKind.i64 (Opd.t 133)) none, IOper.mk (some 18) (IOp.mv (Opd.t 134)) none]
      [129, 130, 131, 132, 133, 134])
      (IC.seq
      (IC.ops false
      [IOper.mk (some 135) (IOp.mv (Opd.t 18)) none, IOper.mk (some 136) (IOp.mv (Opd.t 2)) none,
      IOper.mk (some 137) (IOp.bin BinOp.add (Opd.t 135) (Opd.t 136)) none,
      IOper.mk (some 19) (IOp.mv (Opd.t 137)) none]
      [135, 136, 137])
      (IC.seq
      (IC.ops false
      [IOper.mk (some 20) (IOp.mv (Opd.c (AV.int IntKind.i64 0))) none,
      IOper.mk (some 21) (IOp.mv (Opd.c (AV.int IntKind.i64 0))) none]
      [])
      (IC.seq
      (IC.seq
      (IC.ops false
      [IOper.mk (some 138) (IOp.mv (Opd.t 2)) none, IOper.mk (some 139) (IOp.mv (Opd.t 18)) none,
      IOper.mk (some 140) (IOp.bin BinOp.gtr (Opd.t 138) (Opd.t 139)) none]
      [138, 139])
      (IC.cond (Opd.t 140)
      (IC.seq
      (IC.ops false
      [IOper.mk (some 141) (IOp.mv (Opd.t 19)) none, IOper.mk (some 142) (IOp.mv (Opd.t 3)) none,
      IOper.mk (some 143) (IOp.bin BinOp.sub (Opd.t 141) (Opd.t 142)) none,
      IOper.mk (some 20) (IOp.mv (Opd.t 143)) none]
      [141, 142, 143])
      (IC.ops false
      [IOper.mk (some 144) (IOp.mv (Opd.t 18)) none, IOper.mk (some 21) (IOp.mv (Opd.t 144)) none]
      [144]))
      (IC.seq
      (IC.ops false
      [IOper.mk (some 145) (IOp.mv (Opd.t 1)) none, IOper.mk (some 20) (IOp.mv (Opd.t 145)) none] [145])
      (IC.ops false
      [IOper.mk (some 146) (IOp.mv (Opd.t 2)) none, IOper.mk (some 21) (IOp.mv (Opd.t 146)) none]
      [146]))))
      (IC.seq
      (IC.ops false
      [IOper.mk (some 147) (IOp.mv (Opd.t 19)) none,
      IOper.mk (some 148) (IOp.bin BinOp.sub (Opd.t 147) (Opd.c (AV.int IntKind.i64 1))) none,
      IOper.mk (some 22) (IOp.mv (Opd.t 148)) none]
      [147, 148])
      (IC.seq
      (IC.seq
      (IC.block 8
      (IC.loop
      (IC.seq
      (IC.seq
      (IC.seq
      (IC.ops false
      [IOper.mk (some 149) (IOp.mv (Opd.t 20)) none,
      IOper.mk (some 150) (IOp.mv (Opd.t 21)) none,
      IOper.mk (some 151) (IOp.bin BinOp.lss (Opd.t 149) (Opd.t 150)) none]
      [149, 150])
      (IC.cond (Opd.t 151) IC.nop (IC.exit 8)))
      (IC.seq
      (IC.block 9
      (IC.seq
      (IC.ops false
      [IOper.mk (some 152) (IOp.mv (Opd.t 20)) none,
      IOper.mk (some 153) (IOp.mv (Opd.t 21)) none,
      IOper.mk (some 154) (IOp.bin BinOp.add (Opd.t 152) (Opd.t 153)) none,
      IOper.mk (some 155) (IOp.conv IntKind.u64 (Opd.t 154)) none,
      IOper.mk (some 156)
      (IOp.bin BinOp.shr (Opd.t 155) (Opd.c (AV.int IntKind.u64 1))) none,
      IOper.mk (some 157) (IOp.conv IntKind.i64 (Opd.t 156)) none,
      IOper.mk (some 23) (IOp.mv (Opd.t 157)) none]
      [152, 153, 154, 155, 156, 157])
      (IC.seq
      (IC.ops true
      [IOper.mk (some 158) (IOp.mv (Opd.t 4)) none,
      IOper.mk (some 159) (IOp.mv (Opd.t 0)) none,
      IOper.mk (some 160) (IOp.mv (Opd.t 22)) none,
      IOper.mk (some 161) (IOp.mv (Opd.t 23)) none,
      IOper.mk (some 162) (IOp.bin BinOp.sub (Opd.t 160) (Opd.t 161)) none,
      IOper.mk (some 163) (IOp.ixa 1 (Opd.t 159) (Opd.t 162)) none,
      IOper.mk (some 164) (IOp.load none (Opd.t 163)) none,
      IOper.mk (some 165) (IOp.mv (Opd.t 0)) none,
      IOper.mk (some 166) (IOp.mv (Opd.t 23)) none,
      IOper.mk (some 167) (IOp.ixa 1 (Opd.t 165) (Opd.t 166)) none,
      IOper.mk (some 168) (IOp.load none (Opd.t 167)) none,
      IOper.mk (some 169) (IOp.call (Opd.t 158) [Opd.t 164, Opd.t 168]) none,
      IOper.mk (some 170)
      (IOp.bin BinOp.lss (Opd.t 169) (Opd.c (AV.int IntKind.i64 0)))
      none,
      IOper.mk (some 171) (IOp.not (Opd.t 170)) none]
      [158, 159, 160, 161, 162, 163, 164, 165, 166, 167, 168, 169, 170])
      (IC.cond (Opd.t 171)
      (IC.ops false
      [IOper.mk (some 172) (IOp.mv (Opd.t 23)) none,
      IOper.mk (some 173)
      (IOp.bin BinOp.add (Opd.t 172) (Opd.c (AV.int IntKind.i64 1)))
      none,
      IOper.mk (some 20) (IOp.mv (Opd.t 173)) none]
      [172, 173])
      (IC.ops false
      [IOper.mk (some 174) (IOp.mv (Opd.t 23)) none,
      IOper.mk (some 21) (IOp.mv (Opd.t 174)) none]
      [174])))))
      (IC.ops false []
      [152, 153, 154, 155, 156, 157, 23, 158, 159, 160, 161, 162, 163, 164, 165, 166, 167,
      168, 169, 170, 171, 172, 173, 174])))
      (IC.ops false []
      [149, 150, 151, 152, 153, 154, 155, 156, 157, 23, 158, 159, 160, 161, 162, 163, 164, 165,
      166, 167, 168, 169, 170, 171, 172, 173, 174]))))
      (IC.ops false []
      [149, 150, 151, 152, 153, 154, 155, 156, 157, 23, 158, 159, 160, 161, 162, 163, 164, 165, 166,
      167, 168, 169, 170, 171, 172, 173, 174]))
      (IC.seq
      (IC.ops false
      [IOper.mk (some 175) (IOp.mv (Opd.t 19)) none, IOper.mk (some 176) (IOp.mv (Opd.t 20)) none,
      IOper.mk (some 177) (IOp.bin BinOp.sub (Opd.t 175) (Opd.t 176)) none,
      IOper.mk (some 24) (IOp.mv (Opd.t 177)) none]
      [175, 176, 177])
      (IC.seq
      (IC.seq
      (IC.ops false
      [IOper.mk (some 178) (IOp.mv (Opd.t 20)) none, IOper.mk (some 179) (IOp.mv (Opd.t 2)) none,
      IOper.mk (some 180) (IOp.bin BinOp.lss (Opd.t 178) (Opd.t 179)) none,
      IOper.mk (some 181) (IOp.mv (Opd.t 180)) none,
      IOper.mk (some 182) (IOp.mv (Opd.t 2)) (some (181, true)),
      IOper.mk (some 183) (IOp.mv (Opd.t 24)) (some (181, true)),
      IOper.mk (some 184) (IOp.bin BinOp.lss (Opd.t 182) (Opd.t 183)) (some (181, true)),
      IOper.mk (some 185) (IOp.pick (Opd.t 181) (Opd.t 184) (Opd.c (AV.bool false))) none]
      [178, 179, 180, 181, 182, 183, 184])
      (IC.cond (Opd.t 185)
      (IC.ops false
      [IOper.mk (some 186) (IOp.mv (Opd.t 0)) none, IOper.mk (some 187) (IOp.mv (Opd.t 20)) none,
      IOper.mk (some 188) (IOp.mv (Opd.t 2)) none, IOper.mk (some 189) (IOp.mv (Opd.t 24)) none,
      IOper.mk (some 190) (IOp.mv (Opd.t 4)) none,
      IOper.mk (some 191)
      (IOp.call (Opd.c (AV.func (Fn.func 117) [] []))
      [Opd.t 186, Opd.t 187, Opd.t 188, Opd.t 189, Opd.t 190])
      none]
      [186, 187, 188, 189, 190, 191])
      IC.nop))
      (IC.seq
      (IC.seq
      (IC.ops false
      [IOper.mk (some 192) (IOp.mv (Opd.t 1)) none, IOper.mk (some 193) (IOp.mv (Opd.t 20)) none,
      IOper.mk (some 194) (IOp.bin BinOp.lss (Opd.t 192) (Opd.t 193)) none,
      IOper.mk (some 195) (IOp.mv (Opd.t 194)) none,
      IOper.mk (some 196) (IOp.mv (Opd.t 20)) (some (195, true)),
      IOper.mk (some 197) (IOp.mv (Opd.t 18)) (some (195, true)),
      IOper.mk (some 198) (IOp.bin BinOp.lss (Opd.t 196) (Opd.t 197)) (some (195, true)),
      IOper.mk (some 199) (IOp.pick (Opd.t 195) (Opd.t 198) (Opd.c (AV.bool false))) none]
      [192, 193, 194, 195, 196, 197, 198])
      (IC.cond (Opd.t 199)
      (IC.ops false
      [IOper.mk (some 200) (IOp.mv (Opd.t 0)) none, IOper.mk (some 201) (IOp.mv (Opd.t 1)) none,
      IOper.mk (some 202) (IOp.mv (Opd.t 20)) none,
      IOper.mk (some 203) (IOp.mv (Opd.t 18)) none,
      IOper.mk (some 204) (IOp.mv (Opd.t 4)) none,
      IOper.mk (some 205)
      (IOp.call (Opd.c (AV.func (Fn.func 91) [] []))
      [Opd.t 200, Opd.t 201, Opd.t 202, Opd.t 203, Opd.t 204])
      none]
      [200, 201, 202, 203, 204, 205])
      IC.nop))
      (IC.seq
      (IC.ops false
      [IOper.mk (some 206) (IOp.mv (Opd.t 18)) none, IOper.mk (some 207) (IOp.mv (Opd.t 24)) none,
      IOper.mk (some 208) (IOp.bin BinOp.lss (Opd.t 206) (Opd.t 207)) none,
      IOper.mk (some 209) (IOp.mv (Opd.t 208)) none,
      IOper.mk (some 210) (IOp.mv (Opd.t 24)) (some (209, true)),
      IOper.mk (some 211) (IOp.mv (Opd.t 3)) (some (209, true)),
      IOper.mk (some 212) (IOp.bin BinOp.lss (Opd.t 210) (Opd.t 211)) (some (209, true)),
      IOper.mk (some 213) (IOp.pick (Opd.t 209) (Opd.t 212) (Opd.c (AV.bool false))) none]
      [206, 207, 208, 209, 210, 211, 212])
      (IC.cond (Opd.t 213)
      (IC.ops false
      [IOper.mk (some 214) (IOp.mv (Opd.t 0)) none,
      IOper.mk (some 215) (IOp.mv (Opd.t 18)) none,
      IOper.mk (some 216) (IOp.mv (Opd.t 24)) none,
      IOper.mk (some 217) (IOp.mv (Opd.t 3)) none,
      IOper.mk (some 218) (IOp.mv (Opd.t 4)) none,
      IOper.mk (some 219)
      (IOp.call (Opd.c (AV.func (Fn.func 91) [] []))
      [Opd.t 214, Opd.t 215, Opd.t 216, Opd.t 217, Opd.t 218])
      none]
      [214, 215, 216, 217, 218, 219])
      IC.nop)))))))))))))
theorem fn_slices_symMergeCmpFunc_int : F 91 = some ir_slices_symMergeCmpFunc_int := by kernel_rfl

def ir_witness_apart : IFun :=
  IFun.mk false 2 [IRes.tmp 4]
  (IC.seq
    (IC.ops false
      [IOper.mk (some 2) (IOp.box 16 (Opd.t 0)) none, IOper.mk (some 3) (IOp.box 16 (Opd.t 1)) none,
      IOper.mk (some 4) (IOp.mv (Opd.c (AV.bool false))) none]
      [])
    (IC.seq
      (IC.seq
      (IC.ops false
      [IOper.mk (some 5) (IOp.faddr 8 (Opd.t 2)) none, IOper.mk (some 6) (IOp.load none (Opd.t 5)) none,
      IOper.mk (some 7) (IOp.bin BinOp.neq (Opd.t 6) (Opd.c (AV.int IntKind.i64 0))) none,
      IOper.mk (some 8) (IOp.mv (Opd.t 7)) none, IOper.mk (some 9) (IOp.faddr 8 (Opd.t 2)) (some (8, true)),
      IOper.mk (some 10) (IOp.load none (Opd.t 9)) (some (8, true)),
      IOper.mk (some 11) (IOp.faddr 8 (Opd.t 3)) (some (8, true)),
      IOper.mk (some 12) (IOp.load none (Opd.t 11)) (some (8, true)),
      IOper.mk (some 13) (IOp.bin BinOp.eql (Opd.t 10) (Opd.t 12)) (some (8, true)),
      IOper.mk (some 14) (IOp.pick (Opd.t 8) (Opd.t 13) (Opd.c (AV.bool false))) none,
      IOper.mk (some 15) (IOp.mv (Opd.t 14)) none, IOper.mk (some 16) (IOp.faddr 7 (Opd.t 2)) (some (15, false)),
      IOper.mk (some 17) (IOp.load none (Opd.t 16)) (some (15, false)),
      IOper.mk (some 18) (IOp.faddr 7 (Opd.t 3)) (some (15, false)),
      IOper.mk (some 19) (IOp.load none (Opd.t 18)) (some (15, false)),
      IOper.mk (some 20) (IOp.bin BinOp.geq (Opd.t 17) (Opd.t 19)) (some (15, false)),
      IOper.mk (some 21) (IOp.pick (Opd.t 15) (Opd.c (AV.bool true)) (Opd.t 20)) none]
      [5, 6, 7, 8, 9, 10, 11, 12, 13, 14, 15, 16, 17, 18, 19, 20])
      (IC.cond (Opd.t 21) (IC.seq (IC.ops false [IOper.mk (some 4) (IOp.mv (Opd.c (AV.bool false))) none] []) IC.ret)
      IC.nop))
      (IC.seq
      (IC.ops false
      [IOper.mk (some 22) (IOp.faddr 0 (Opd.t 2)) none, IOper.mk (some 23) (IOp.load none (Opd.t 22)) none,
      IOper.mk (some 24) (IOp.faddr 0 (Opd.t 3)) none, IOper.mk (some 25) (IOp.load none (Opd.t 24)) none,
      IOper.mk (some 26) (IOp.bin BinOp.neq (Opd.t 23) (Opd.t 25)) none,
      IOper.mk (some 27) (IOp.mv (Opd.t 26)) none, IOper.mk (some 28) (IOp.faddr 9 (Opd.t 2)) (some (27, false)),
      IOper.mk (some 29) (IOp.load none (Opd.t 28)) (some (27, false)),
      IOper.mk (some 30) (IOp.bin BinOp.neq (Opd.t 29) (Opd.c (AV.int IntKind.i64 0)))
      (some (27, false)),
      IOper.mk (some 31) (IOp.mv (Opd.t 30)) (some (27, false)),
      IOper.mk (some 32) (IOp.faddr 9 (Opd.t 2)) (some (31, true)),
      IOper.mk (some 33) (IOp.load none (Opd.t 32)) (some (31, true)),
      IOper.mk (some 34) (IOp.faddr 7 (Opd.t 3)) (some (31, true)),
      IOper.mk (some 35) (IOp.load none (Opd.t 34)) (some (31, true)),
      IOper.mk (some 36) (IOp.bin BinOp.lss (Opd.t 33) (Opd.t 35)) (some (31, true)),
      IOper.mk (some 37) (IOp.pick (Opd.t 31) (Opd.t 36) (Opd.c (AV.bool false))) (some (27, false)),
      IOper.mk (some 38) (IOp.mv (Opd.t 37)) (some (27, false)),
      IOper.mk (some 39) (IOp.faddr 1 (Opd.t 2)) (some (38, true)),
      IOper.mk (some 40) (IOp.load none (Opd.t 39)) (some (38, true)),
      IOper.mk (some 41) (IOp.faddr 1 (Opd.t 3)) (some (38, true)),
      IOper.mk (some 42) (IOp.load none (Opd.t 41)) (some (38, true)),
      IOper.mk (some 43) (IOp.bin BinOp.lss (Opd.t 40) (Opd.t 42)) (some (38, true)),
      IOper.mk (some 44) (IOp.pick (Opd.t 38) (Opd.t 43) (Opd.c (AV.bool false))) (some (27, false)),
      IOper.mk (some 45) (IOp.pick (Opd.t 27) (Opd.c (AV.bool true)) (Opd.t 44)) none,
      IOper.mk (some 4) (IOp.mv (Opd.t 45)) none]
      [22, 23, 24, 25, 26, 27, 28, 29, 30, 31, 32, 33, 34, 35, 36, 37, 38, 39, 40, 41, 42, 43, 44, 45])
      IC.ret)))
theorem fn_witness_apart : F 42 = some ir_witness_apart := by kernel_rfl

def ir_cursor_New : IFun :=
  IFun.mk true 0 [IRes.tmp 0]
  (IC.seq (IC.ops false [IOper.mk (some 0) (IOp.mv (Opd.c AV.nilptr)) none] [])
    (IC.seq
      (IC.ops false
      [IOper.mk (some 1) IOp.mkmap none,
      IOper.mk (some 2) (IOp.build [AV.int IntKind.i64 0, AV.nilmap] [(1, 1, Opd.t 1)]) none,
      IOper.mk (some 3) (IOp.box 2 (Opd.t 2)) none, IOper.mk (some 0) (IOp.mv (Opd.t 3)) none]
      [1, 2, 3])
      IC.ret))
theorem fn_cursor_New : F 102 = some ir_cursor_New := by kernel_rfl

def ir_cursor_Table_Left : IFun :=
  IFun.mk false 2 [IRes.cell 4 (some 2), IRes.tmp 5, IRes.tmp 6]
  (IC.seq
    (IC.ops false
      [IOper.mk (some 4) (IOp.alloc [AV.str [], AV.str []]) none,
      IOper.mk (some 5) (IOp.mv (Opd.c (AV.bool false))) none,
      IOper.mk (some 6) (IOp.mv (Opd.c (AV.int IntKind.i64 0))) none]
      [])
    (IC.seq
      (IC.ops false
      [IOper.mk (some 10) (IOp.mv (Opd.t 0)) none, IOper.mk (some 11) (IOp.mv (Opd.t 1)) none,
      IOper.mk (some 12) (IOp.call (Opd.c (AV.func (Fn.func 106) [] [])) [Opd.t 10, Opd.t 11]) none,
      IOper.mk (some 9) (IOp.mv (Opd.t 12)) none, IOper.mk (some 13) (IOp.extr (Opd.t 9) 0) none,
      IOper.mk (some 14) (IOp.extr (Opd.t 9) 1) none,
      IOper.mk (some 7) (IOp.alloc [AV.str [], AV.str [], AV.bool false]) none,
      IOper.mk none (IOp.store 3 (Opd.t 7) (Opd.t 13)) none, IOper.mk (some 8) (IOp.mv (Opd.t 14)) none]
      [10, 11, 12, 9, 13, 14])
      (IC.seq
      (IC.ops true
      [IOper.mk (some 15) (IOp.faddr 0 (Opd.t 7)) none, IOper.mk (some 16) (IOp.load (some 2) (Opd.t 15)) none,
      IOper.mk (some 17) (IOp.faddr 2 (Opd.t 7)) none, IOper.mk (some 18) (IOp.load none (Opd.t 17)) none,
      IOper.mk (some 19) (IOp.mv (Opd.t 8)) none, IOper.mk none (IOp.store 2 (Opd.t 4) (Opd.t 16)) none,
      IOper.mk (some 5) (IOp.mv (Opd.t 18)) none, IOper.mk (some 6) (IOp.mv (Opd.t 19)) none,
      IOper.mk none (IOp.diff (Opd.t 17) (Opd.t 4)) none]
      [15, 16, 17, 18, 19])
      IC.ret)))
theorem fn_cursor_Table_Left : F 104 = some ir_cursor_Table_Left := by kernel_rfl

def ir_cursor_Table_Took : IFun :=
  IFun.mk false 4 [IRes.tmp 8, IRes.tmp 9]
  (IC.seq
    (IC.ops false
      [IOper.mk (some 8) (IOp.mv (Opd.c (AV.bool false))) none,
      IOper.mk (some 9) (IOp.mv (Opd.c (AV.int IntKind.i64 0))) none]
      [])
    (IC.seq
      (IC.ops false
      [IOper.mk (some 13) (IOp.mv (Opd.t 0)) none, IOper.mk (some 14) (IOp.mv (Opd.t 1)) none,
      IOper.mk (some 15) (IOp.call (Opd.c (AV.func (Fn.func 106) [] [])) [Opd.t 13, Opd.t 14]) none,
      IOper.mk (some 12) (IOp.mv (Opd.t 15)) none, IOper.mk (some 16) (IOp.extr (Opd.t 12) 0) none,
      IOper.mk (some 17) (IOp.extr (Opd.t 12) 1) none,
      IOper.mk (some 10) (IOp.alloc [AV.str [], AV.str [], AV.bool false]) none,
      IOper.mk none (IOp.store 3 (Opd.t 10) (Opd.t 16)) none, IOper.mk (some 11) (IOp.mv (Opd.t 17)) none]
      [13, 14, 15, 12, 16, 17])
      (IC.seq
      (IC.seq
      (IC.block 0
      (IC.seq
      (IC.ops false
      [IOper.mk (some 29) (IOp.mv (Opd.t 11)) none,
      IOper.mk (some 30) (IOp.bin BinOp.neq (Opd.t 29) (Opd.c (AV.int IntKind.i64 0))) none,
      IOper.mk (some 28) (IOp.mv (Opd.t 30)) none]
      [29, 30])
      (IC.cond (Opd.t 28)
      (IC.seq
      (IC.ops false
      [IOper.mk (some 31) (IOp.mv (Opd.t 11)) none,
      IOper.mk (some 8) (IOp.mv (Opd.c (AV.bool false))) none,
      IOper.mk (some 9) (IOp.mv (Opd.t 31)) none]
      [31])
      IC.ret)
      (IC.seq
      (IC.ops false
      [IOper.mk (some 33) (IOp.faddr 2 (Opd.t 10)) none,
      IOper.mk (some 34) (IOp.load none (Opd.t 33)) none, IOper.mk (some 35) (IOp.mv (Opd.t 34)) none,
      IOper.mk (some 36) (IOp.mv (Opd.t 2)) (some (35, true)),
      IOper.mk (some 37) (IOp.len (Opd.t 36)) (some (35, true)),
      IOper.mk (some 38) (IOp.bin BinOp.gtr (Opd.t 37) (Opd.c (AV.int IntKind.i64 0)))
      (some (35, true)),
      IOper.mk (some 39) (IOp.pick (Opd.t 35) (Opd.t 38) (Opd.c (AV.bool false))) none,
      IOper.mk (some 32) (IOp.mv (Opd.t 39)) none]
      [33, 34, 35, 36, 37, 38, 39])
      (IC.cond (Opd.t 32)
      (IC.seq
      (IC.ops false
      [IOper.mk (some 8) (IOp.mv (Opd.c (AV.bool false))) none,
      IOper.mk (some 9) (IOp.mv (Opd.c (AV.int IntKind.i64 15))) none]
      [])
      IC.ret)
      (IC.seq
      (IC.ops false
      [IOper.mk (some 41) (IOp.mv (Opd.t 3)) none,
      IOper.mk (some 42) (IOp.bin BinOp.lss (Opd.t 41) (Opd.c (AV.int IntKind.i64 1)))
      none,
      IOper.mk (some 40) (IOp.mv (Opd.t 42)) none]
      [41, 42])
      (IC.cond (Opd.t 40)
      (IC.seq
      (IC.ops false
      [IOper.mk (some 8) (IOp.mv (Opd.c (AV.bool false))) none,
      IOper.mk (some 9) (IOp.mv (Opd.c (AV.int IntKind.i64 2))) none]
      [])
      IC.ret)
      (IC.seq
      (IC.ops false
      [IOper.mk (some 44) (IOp.mv (Opd.t 2)) none, IOper.mk (some 45) (IOp.len (Opd.t 44)) none,
      IOper.mk (some 46) (IOp.mv (Opd.t 3)) none,
      IOper.mk (some 47) (IOp.bin BinOp.gtr (Opd.t 45) (Opd.t 46)) none,
      IOper.mk (some 43) (IOp.mv (Opd.t 47)) none]
      [44, 45, 46, 47])
      (IC.cond (Opd.t 43)
      (IC.seq
      (IC.ops false
      [IOper.mk (some 8) (IOp.mv (Opd.c (AV.bool false))) none,
      IOper.mk (some 9) (IOp.mv (Opd.c (AV.int IntKind.i64 4))) none]
      [])
      IC.ret)
      (IC.seq
      (IC.ops false
      [IOper.mk (some 49) (IOp.mv (Opd.t 2)) none,
      IOper.mk (some 50) (IOp.call (Opd.c (AV.func (Fn.func 128) [] [])) [Opd.t 49]) none,
      IOper.mk (some 51) (IOp.not (Opd.t 50)) none,
      IOper.mk (some 52) (IOp.mv (Opd.t 51)) none,
      IOper.mk (some 53) (IOp.mv (Opd.t 2)) (some (52, false)),
      IOper.mk (some 54) (IOp.mkfn (Fn.func 130) [] [Opd.t 10]) (some (52, false)),
      IOper.mk (some 55)
      (IOp.call (Opd.c (AV.func (Fn.func 129) [] [])) [Opd.t 53, Opd.t 54])
      (some (52, false)),
      IOper.mk (some 56) (IOp.pick (Opd.t 52) (Opd.c (AV.bool true)) (Opd.t 55)) none,
      IOper.mk (some 48) (IOp.mv (Opd.t 56)) none]
      [49, 50, 51, 52, 53, 54, 55, 56])
      (IC.cond (Opd.t 48)
      (IC.seq
      (IC.ops false
      [IOper.mk (some 8) (IOp.mv (Opd.c (AV.bool false))) none,
      IOper.mk (some 9) (IOp.mv (Opd.c (AV.int IntKind.i64 16))) none]
      [])
      IC.ret)
      (IC.seq
      (IC.ops false
      [IOper.mk (some 58) (IOp.faddr 2 (Opd.t 10)) none,
      IOper.mk (some 59) (IOp.load none (Opd.t 58)) none,
      IOper.mk (some 60) (IOp.mv (Opd.t 59)) none,
      IOper.mk (some 61) (IOp.mv (Opd.t 2)) (some (60, false)),
      IOper.mk (some 62) (IOp.len (Opd.t 61)) (some (60, false)),
      IOper.mk (some 63) (IOp.mv (Opd.t 3)) (some (60, false)),
      IOper.mk (some 64) (IOp.bin BinOp.lss (Opd.t 62) (Opd.t 63)) (some (60, false)),
      IOper.mk (some 65) (IOp.pick (Opd.t 60) (Opd.c (AV.bool true)) (Opd.t 64)) none,
      IOper.mk (some 57) (IOp.mv (Opd.t 65)) none]
      [58, 59, 60, 61, 62, 63, 64, 65])
      (IC.cond (Opd.t 57)
      (IC.ops false
      [IOper.mk (some 66)
      (IOp.build [AV.str [], AV.str [], AV.bool false]
      [(2, 1, Opd.c (AV.bool true))])
      none,
      IOper.mk none (IOp.store 3 (Opd.t 10) (Opd.t 66)) none]
      [66])
      (IC.ops true
      [IOper.mk (some 18) (IOp.faddr 0 (Opd.t 10)) none,
      IOper.mk (some 19) (IOp.load (some 2) (Opd.t 18)) none,
      IOper.mk (some 20) (IOp.mv (Opd.t 2)) none,
      IOper.mk (some 21) (IOp.mv (Opd.t 2)) none,
      IOper.mk (some 22) (IOp.len (Opd.t 21)) none,
      IOper.mk (some 23)
      (IOp.bin BinOp.sub (Opd.t 22) (Opd.c (AV.int IntKind.i64 1)))
      none,
      IOper.mk (some 24) (IOp.ixa 2 (Opd.t 20) (Opd.t 23)) none,
      IOper.mk (some 25) (IOp.faddr 0 (Opd.t 24)) none,
      IOper.mk (some 26) (IOp.load none (Opd.t 25)) none,
      IOper.mk (some 27)
      (IOp.call (Opd.c (AV.func (Fn.func 131) [] [])) [Opd.t 19, Opd.t 26]) none,
      IOper.mk none (IOp.store 3 (Opd.t 10) (Opd.t 27)) none]
      [18, 19, 20, 21, 22, 23, 24, 25, 26, 27]))))))))))))))
      (IC.ops false []
      [29, 30, 28, 31, 33, 34, 35, 36, 37, 38, 39, 32, 41, 42, 40, 44, 45, 46, 47, 43, 49, 50, 51, 52, 53, 54, 55,
      56, 48, 58, 59, 60, 61, 62, 63, 64, 65, 57, 66, 18, 19, 20, 21, 22, 23, 24, 25, 26, 27]))
      (IC.seq
      (IC.ops true
      [IOper.mk (some 67) (IOp.mv (Opd.t 0)) none, IOper.mk (some 68) (IOp.nilck (Opd.t 67)) none,
      IOper.mk (some 69) (IOp.faddr 1 (Opd.t 68)) none, IOper.mk (some 70) (IOp.load none (Opd.t 69)) none,
      IOper.mk (some 71) (IOp.mv (Opd.t 1)) none, IOper.mk (some 72) (IOp.load (some 3) (Opd.t 10)) none,
      IOper.mk none (IOp.mapup 0 (Opd.t 70) (Opd.t 71) (Opd.t 72)) none]
      [67, 68, 69, 70, 71, 72])
      (IC.seq
      (IC.ops false
      [IOper.mk (some 73) (IOp.faddr 2 (Opd.t 10)) none, IOper.mk (some 74) (IOp.load none (Opd.t 73)) none,
      IOper.mk (some 8) (IOp.mv (Opd.t 74)) none,
      IOper.mk (some 9) (IOp.mv (Opd.c (AV.int IntKind.i64 0))) none]
      [73, 74])
      IC.ret)))))
theorem fn_cursor_Table_Took : F 105 = some ir_cursor_Table_Took := by kernel_rfl

def ir_cursor_Table_find : IFun :=
  IFun.mk false 2 [IRes.cell 4 (some 3), IRes.tmp 5]
  (IC.seq
    (IC.ops false
      [IOper.mk (some 4) (IOp.alloc [AV.str [], AV.str [], AV.bool false]) none,
      IOper.mk (some 5) (IOp.mv (Opd.c (AV.int IntKind.i64 0))) none]
      [])
    (IC.seq
      (IC.seq
      (IC.ops false
      [IOper.mk (some 8) (IOp.mv (Opd.t 0)) none,
      IOper.mk (some 9) (IOp.eqn 0 false (Opd.t 8) (Opd.c AV.nilptr)) none]
      [8])
      (IC.cond (Opd.t 9)
      (IC.seq
      (IC.ops false
      [IOper.mk (some 10) (IOp.build [AV.str [], AV.str [], AV.bool false] []) none,
      IOper.mk none (IOp.store 3 (Opd.t 4) (Opd.t 10)) none,
      IOper.mk (some 5) (IOp.mv (Opd.c (AV.int IntKind.i64 1))) none]
      [10])
      IC.ret)
      IC.nop))
      (IC.seq
      (IC.ops false
      [IOper.mk (some 12) (IOp.mv (Opd.t 0)) none, IOper.mk (some 13) (IOp.nilck (Opd.t 12)) none,
      IOper.mk (some 14) (IOp.faddr 1 (Opd.t 13)) none, IOper.mk (some 15) (IOp.load none (Opd.t 14)) none,
      IOper.mk (some 16) (IOp.mv (Opd.t 1)) none,
      IOper.mk (some 17) (IOp.look 0 (AV.agg [AV.str [], AV.str [], AV.bool false]) true (Opd.t 15) (Opd.t 16))
      none,
      IOper.mk (some 11) (IOp.mv (Opd.t 17)) none, IOper.mk (some 18) (IOp.extr (Opd.t 11) 0) none,
      IOper.mk (some 19) (IOp.extr (Opd.t 11) 1) none,
      IOper.mk (some 6) (IOp.alloc [AV.str [], AV.str [], AV.bool false]) none,
      IOper.mk none (IOp.store 3 (Opd.t 6) (Opd.t 18)) none, IOper.mk (some 7) (IOp.mv (Opd.t 19)) none]
      [12, 13, 14, 15, 16, 17, 11, 18, 19])
      (IC.seq
      (IC.seq
      (IC.ops false [IOper.mk (some 20) (IOp.mv (Opd.t 7)) none, IOper.mk (some 21) (IOp.not (Opd.t 20)) none]
      [20])
      (IC.cond (Opd.t 21)
      (IC.seq
      (IC.ops false
      [IOper.mk (some 22) (IOp.build [AV.str [], AV.str [], AV.bool false] []) none,
      IOper.mk none (IOp.store 3 (Opd.t 4) (Opd.t 22)) none,
      IOper.mk (some 5) (IOp.mv (Opd.c (AV.int IntKind.i64 11))) none]
      [22])
      IC.ret)
      IC.nop))
      (IC.seq
      (IC.ops false
      [IOper.mk (some 23) (IOp.load (some 3) (Opd.t 6)) none,
      IOper.mk none (IOp.store 3 (Opd.t 4) (Opd.t 23)) none,
      IOper.mk (some 5) (IOp.mv (Opd.c (AV.int IntKind.i64 0))) none]
      [23])
      IC.ret)))))
theorem fn_cursor_Table_find : F 106 = some ir_cursor_Table_find := by kernel_rfl

def ir_key_Holds : IFun :=
  IFun.mk false 2 [IRes.tmp 4]
  (IC.seq
    (IC.ops false
      [IOper.mk (some 2) (IOp.box 2 (Opd.t 0)) none, IOper.mk (some 4) (IOp.mv (Opd.c (AV.bool false))) none] [])
    (IC.seq
      (IC.ops false
      [IOper.mk (some 5) (IOp.mv (Opd.t 1)) none, IOper.mk (some 6) (IOp.faddr 0 (Opd.t 2)) none,
      IOper.mk (some 7) (IOp.load none (Opd.t 6)) none,
      IOper.mk (some 8) (IOp.bin BinOp.geq (Opd.t 5) (Opd.t 7)) none, IOper.mk (some 9) (IOp.mv (Opd.t 8)) none,
      IOper.mk (some 10) (IOp.mv (Opd.t 1)) (some (9, true)),
      IOper.mk (some 11) (IOp.faddr 1 (Opd.t 2)) (some (9, true)),
      IOper.mk (some 12) (IOp.load none (Opd.t 11)) (some (9, true)),
      IOper.mk (some 13) (IOp.call (Opd.c (AV.func (Fn.func 120) [] [])) [Opd.t 10, Opd.t 12]) (some (9, true)),
      IOper.mk (some 14) (IOp.pick (Opd.t 9) (Opd.t 13) (Opd.c (AV.bool false))) none,
      IOper.mk (some 4) (IOp.mv (Opd.t 14)) none]
      [5, 6, 7, 8, 9, 10, 11, 12, 13, 14])
      IC.ret))
theorem fn_key_Holds : F 93 = some ir_key_Holds := by kernel_rfl

def ir_key_RightRange : IFun :=
  IFun.mk false 1 [IRes.tmp 2]
  (IC.seq
    (IC.ops false
      [IOper.mk (some 1) (IOp.box 2 (Opd.t 0)) none, IOper.mk (some 2) (IOp.mv (Opd.c (AV.bool false))) none] [])
    (IC.seq
      (IC.ops false
      [IOper.mk (some 3) (IOp.faddr 0 (Opd.t 1)) none, IOper.mk (some 4) (IOp.load none (Opd.t 3)) none,
      IOper.mk (some 5) (IOp.faddr 1 (Opd.t 1)) none, IOper.mk (some 6) (IOp.load none (Opd.t 5)) none,
      IOper.mk (some 7) (IOp.call (Opd.c (AV.func (Fn.func 120) [] [])) [Opd.t 4, Opd.t 6]) none,
      IOper.mk (some 2) (IOp.mv (Opd.t 7)) none]
      [3, 4, 5, 6, 7])
      IC.ret))
theorem fn_key_RightRange : F 103 = some ir_key_RightRange := by kernel_rfl

def ir_msg_Apply : IFun :=
  IFun.mk false 3 [IRes.tmp 6, IRes.tmp 7]
  (IC.seq
    (IC.ops false
      [IOper.mk (some 3) (IOp.box 6 (Opd.t 0)) none, IOper.mk (some 6) (IOp.mv (Opd.c (AV.str []))) none,
      IOper.mk (some 7) (IOp.mv (Opd.c (AV.bool false))) none]
      [])
    (IC.seq
      (IC.seq
      (IC.ops false [IOper.mk (some 8) (IOp.faddr 0 (Opd.t 3)) none, IOper.mk (some 9) (IOp.load none (Opd.t 8)) none]
      [8])
      (IC.seq
      (IC.block 0
      (IC.seq
      (IC.ops false
      [IOper.mk (some 11) (IOp.bin BinOp.eql (Opd.t 9) (Opd.c (AV.int IntKind.u8 1))) none,
      IOper.mk (some 10) (IOp.mv (Opd.t 11)) none]
      [11])
      (IC.cond (Opd.t 10)
      (IC.seq
      (IC.ops false
      [IOper.mk (some 12) (IOp.faddr 4 (Opd.t 3)) none,
      IOper.mk (some 13) (IOp.load none (Opd.t 12)) none, IOper.mk (some 6) (IOp.mv (Opd.t 13)) none,
      IOper.mk (some 7) (IOp.mv (Opd.c (AV.bool true))) none]
      [12, 13])
      IC.ret)
      (IC.seq
      (IC.ops false
      [IOper.mk (some 15) (IOp.bin BinOp.eql (Opd.t 9) (Opd.c (AV.int IntKind.u8 3))) none,
      IOper.mk (some 14) (IOp.mv (Opd.t 15)) none]
      [15])
      (IC.cond (Opd.t 14)
      (IC.seq
      (IC.ops false
      [IOper.mk (some 16) (IOp.mv (Opd.t 1)) none, IOper.mk (some 17) (IOp.mv (Opd.t 2)) none,
      IOper.mk (some 18) (IOp.faddr 5 (Opd.t 3)) none,
      IOper.mk (some 19) (IOp.load none (Opd.t 18)) none,
      IOper.mk (some 20)
      (IOp.call (Opd.c (AV.func (Fn.func 126) [] [])) [Opd.t 16, Opd.t 17, Opd.t 19]) none,
      IOper.mk (some 6) (IOp.mv (Opd.t 20)) none,
      IOper.mk (some 7) (IOp.mv (Opd.c (AV.bool true))) none]
      [16, 17, 18, 19, 20])
      IC.ret)
      (IC.seq
      (IC.seq
      (IC.ops false
      [IOper.mk (some 22) (IOp.bin BinOp.eql (Opd.t 9) (Opd.c (AV.int IntKind.u8 2)))
      none,
      IOper.mk (some 21) (IOp.mv (Opd.t 22)) none]
      [22])
      (IC.cond (Opd.t 21) IC.nop
      (IC.ops false
      [IOper.mk (some 23) (IOp.bin BinOp.eql (Opd.t 9) (Opd.c (AV.int IntKind.u8 4)))
      none,
      IOper.mk (some 21) (IOp.mv (Opd.t 23)) none]
      [23])))
      (IC.cond (Opd.t 21)
      (IC.seq
      (IC.ops false
      [IOper.mk (some 6) (IOp.mv (Opd.c (AV.str []))) none,
      IOper.mk (some 7) (IOp.mv (Opd.c (AV.bool false))) none]
      [])
      IC.ret)
      IC.nop)))))))
      (IC.ops false [] [11, 10, 12, 13, 15, 14, 16, 17, 18, 19, 20, 22, 23, 21])))
      (IC.seq
      (IC.seq
      (IC.ops false [IOper.mk (some 24) (IOp.mv (Opd.t 2)) none, IOper.mk (some 25) (IOp.not (Opd.t 24)) none] [24])
      (IC.cond (Opd.t 25)
      (IC.seq
      (IC.ops false
      [IOper.mk (some 6) (IOp.mv (Opd.c (AV.str []))) none,
      IOper.mk (some 7) (IOp.mv (Opd.c (AV.bool false))) none]
      [])
      IC.ret)
      IC.nop))
      (IC.seq
      (IC.ops false
      [IOper.mk (some 26) (IOp.mv (Opd.t 1)) none, IOper.mk (some 6) (IOp.mv (Opd.t 26)) none,
      IOper.mk (some 7) (IOp.mv (Opd.c (AV.bool true))) none]
      [26])
      IC.ret))))
theorem fn_msg_Apply : F 100 = some ir_msg_Apply := by kernel_rfl

def ir_msg_Span : IFun :=
  IFun.mk false 1 [IRes.cell 2 (some 2)]
  (IC.seq
    (IC.ops false
      [IOper.mk (some 1) (IOp.box 6 (Opd.t 0)) none, IOper.mk (some 2) (IOp.alloc [AV.str [], AV.str []]) none] [])
    (IC.seq
      (IC.seq
      (IC.block 0
      (IC.seq
      (IC.ops false
      [IOper.mk (some 4) (IOp.load (some 6) (Opd.t 1)) none,
      IOper.mk (some 5) (IOp.call (Opd.c (AV.func (Fn.func 123) [] [])) [Opd.t 4]) none,
      IOper.mk (some 3) (IOp.mv (Opd.t 5)) none]
      [4, 5])
      (IC.cond (Opd.t 3)
      (IC.seq
      (IC.ops false
      [IOper.mk (some 6) (IOp.faddr 2 (Opd.t 1)) none, IOper.mk (some 7) (IOp.load none (Opd.t 6)) none,
      IOper.mk (some 8) (IOp.call (Opd.c (AV.func (Fn.func 124) [] [])) [Opd.t 7]) none,
      IOper.mk none (IOp.store 2 (Opd.t 2) (Opd.t 8)) none]
      [6, 7, 8])
      IC.ret)
      (IC.seq
      (IC.ops false
      [IOper.mk (some 10) (IOp.faddr 0 (Opd.t 1)) none, IOper.mk (some 11) (IOp.load none (Opd.t 10)) none,
      IOper.mk (some 12) (IOp.bin BinOp.eql (Opd.t 11) (Opd.c (AV.int IntKind.u8 4))) none,
      IOper.mk (some 9) (IOp.mv (Opd.t 12)) none]
      [10, 11, 12])
      (IC.cond (Opd.t 9)
      (IC.seq
      (IC.ops false
      [IOper.mk (some 13) (IOp.faddr 2 (Opd.t 1)) none,
      IOper.mk (some 14) (IOp.load none (Opd.t 13)) none,
      IOper.mk (some 15) (IOp.faddr 3 (Opd.t 1)) none,
      IOper.mk (some 16) (IOp.load none (Opd.t 15)) none,
      IOper.mk (some 17) (IOp.build [AV.str [], AV.str []] [(0, 1, Opd.t 14), (1, 1, Opd.t 16)]) none,
      IOper.mk none (IOp.store 2 (Opd.t 2) (Opd.t 17)) none]
      [13, 14, 15, 16, 17])
      IC.ret)
      IC.nop)))))
      (IC.ops false [] [4, 5, 3, 6, 7, 8, 10, 11, 12, 9, 13, 14, 15, 16, 17]))
      (IC.seq
      (IC.ops false
      [IOper.mk (some 18) (IOp.build [AV.str [], AV.str []] []) none,
      IOper.mk none (IOp.store 2 (Opd.t 2) (Opd.t 18)) none]
      [18])
      IC.ret)))
theorem fn_msg_Span : F 98 = some ir_msg_Span := by kernel_rfl

def ir_order_Map_string_string_Drop : IFun :=
  IFun.mk true 2 [IRes.tmp 4]
  (IC.seq (IC.ops false [IOper.mk (some 4) (IOp.mv (Opd.c (AV.bool false))) none] [])
    (IC.seq
      (IC.seq
      (IC.ops false
      [IOper.mk (some 6) (IOp.mv (Opd.t 0)) none,
      IOper.mk (some 7) (IOp.eqn 0 false (Opd.t 6) (Opd.c AV.nilptr)) none]
      [6])
      (IC.cond (Opd.t 7) (IC.seq (IC.ops false [IOper.mk (some 4) (IOp.mv (Opd.c (AV.bool false))) none] []) IC.ret)
      IC.nop))
      (IC.seq
      (IC.ops false
      [IOper.mk (some 8) (IOp.mv (Opd.t 0)) none,
      IOper.mk (some 9) (IOp.call (Opd.c (AV.func (Fn.func 60) [] [])) [Opd.t 8]) none,
      IOper.mk (some 5) (IOp.mv (Opd.t 9)) none]
      [8, 9])
      (IC.seq
      (IC.ops false
      [IOper.mk (some 10) (IOp.mv (Opd.t 0)) none, IOper.mk (some 11) (IOp.mv (Opd.t 0)) none,
      IOper.mk (some 12) (IOp.nilck (Opd.t 11)) none, IOper.mk (some 13) (IOp.faddr 0 (Opd.t 12)) none,
      IOper.mk (some 14) (IOp.load none (Opd.t 13)) none, IOper.mk (some 15) (IOp.mv (Opd.t 1)) none,
      IOper.mk (some 16) (IOp.call (Opd.c (AV.func (Fn.func 125) [] [])) [Opd.t 14, Opd.t 15]) none,
      IOper.mk (some 17) (IOp.nilck (Opd.t 10)) none, IOper.mk (some 18) (IOp.faddr 0 (Opd.t 17)) none,
      IOper.mk none (IOp.store 1 (Opd.t 18) (Opd.t 16)) none]
      [10, 11, 12, 13, 14, 15, 16, 17, 18])
      (IC.seq
      (IC.ops false
      [IOper.mk (some 19) (IOp.mv (Opd.t 0)) none,
      IOper.mk (some 20) (IOp.call (Opd.c (AV.func (Fn.func 60) [] [])) [Opd.t 19]) none,
      IOper.mk (some 21) (IOp.mv (Opd.t 5)) none,
      IOper.mk (some 22) (IOp.bin BinOp.lss (Opd.t 20) (Opd.t 21)) none,
      IOper.mk (some 4) (IOp.mv (Opd.t 22)) none]
      [19, 20, 21, 22])
      IC.ret)))))
theorem fn_order_Map_string_string_Drop : F 99 = some ir_order_Map_string_string_Drop := by kernel_rfl

def ir_order_Map_string_string_From : IFun :=
  IFun.mk true 2 [IRes.tmp 4]
  (IC.seq
    (IC.ops false
      [IOper.mk (some 2) (IOp.box 1 (Opd.t 0)) none, IOper.mk (some 3) (IOp.box 1 (Opd.t 1)) none,
      IOper.mk (some 4) (IOp.mv (Opd.c AV.nilFunc)) none]
      [])
    (IC.seq
      (IC.ops false
      [IOper.mk (some 5) (IOp.mkfn (Fn.func 118) [] [Opd.t 2, Opd.t 3]) none,
      IOper.mk (some 4) (IOp.mv (Opd.t 5)) none]
      [5])
      IC.ret))
theorem fn_order_Map_string_string_From : F 92 = some ir_order_Map_string_string_From := by kernel_rfl

def ir_order_Map_string_string_Len : IFun :=
  IFun.mk true 1 [IRes.tmp 2]
  (IC.seq (IC.ops false [IOper.mk (some 2) (IOp.mv (Opd.c (AV.int IntKind.i64 0))) none] [])
    (IC.seq
      (IC.seq
      (IC.ops false
      [IOper.mk (some 3) (IOp.mv (Opd.t 0)) none,
      IOper.mk (some 4) (IOp.eqn 0 false (Opd.t 3) (Opd.c AV.nilptr)) none]
      [3])
      (IC.cond (Opd.t 4)
      (IC.seq (IC.ops false [IOper.mk (some 2) (IOp.mv (Opd.c (AV.int IntKind.i64 0))) none] []) IC.ret)
      IC.nop))
      (IC.seq
      (IC.ops false
      [IOper.mk (some 5) (IOp.mv (Opd.t 0)) none, IOper.mk (some 6) (IOp.nilck (Opd.t 5)) none,
      IOper.mk (some 7) (IOp.faddr 0 (Opd.t 6)) none, IOper.mk (some 8) (IOp.load none (Opd.t 7)) none,
      IOper.mk (some 9) (IOp.call (Opd.c (AV.func (Fn.func 94) [] [])) [Opd.t 8]) none,
      IOper.mk (some 2) (IOp.mv (Opd.t 9)) none]
      [5, 6, 7, 8, 9])
      IC.ret)))
theorem fn_order_Map_string_string_Len : F 60 = some ir_order_Map_string_string_Len := by kernel_rfl

def ir_order_Map_string_string_Put : IFun :=
  IFun.mk true 3 [IRes.tmp 6]
  (IC.seq (IC.ops false [IOper.mk (some 6) (IOp.mv (Opd.c (AV.bool false))) none] [])
    (IC.seq
      (IC.seq
      (IC.ops false
      [IOper.mk (some 8) (IOp.mv (Opd.t 0)) none,
      IOper.mk (some 9) (IOp.eqn 0 false (Opd.t 8) (Opd.c AV.nilptr)) none]
      [8])
      (IC.cond (Opd.t 9) (IC.seq (IC.ops false [IOper.mk (some 6) (IOp.mv (Opd.c (AV.bool false))) none] []) IC.ret)
      IC.nop))
      (IC.seq
      (IC.ops false
      [IOper.mk (some 10) (IOp.mv (Opd.t 0)) none,
      IOper.mk (some 11) (IOp.call (Opd.c (AV.func (Fn.func 60) [] [])) [Opd.t 10]) none,
      IOper.mk (some 7) (IOp.mv (Opd.t 11)) none]
      [10, 11])
      (IC.seq
      (IC.ops false
      [IOper.mk (some 12) (IOp.mv (Opd.t 0)) none, IOper.mk (some 13) (IOp.mv (Opd.t 0)) none,
      IOper.mk (some 14) (IOp.nilck (Opd.t 13)) none, IOper.mk (some 15) (IOp.faddr 0 (Opd.t 14)) none,
      IOper.mk (some 16) (IOp.load none (Opd.t 15)) none, IOper.mk (some 17) (IOp.mv (Opd.t 1)) none,
      IOper.mk (some 18) (IOp.mv (Opd.t 2)) none,
      IOper.mk (some 19) (IOp.call (Opd.c (AV.func (Fn.func 127) [] [])) [Opd.t 16, Opd.t 17, Opd.t 18]) none,
      IOper.mk (some 20) (IOp.nilck (Opd.t 12)) none, IOper.mk (some 21) (IOp.faddr 0 (Opd.t 20)) none,
      IOper.mk none (IOp.store 1 (Opd.t 21) (Opd.t 19)) none]
      [12, 13, 14, 15, 16, 17, 18, 19, 20, 21])
      (IC.seq
      (IC.ops false
      [IOper.mk (some 22) (IOp.mv (Opd.t 0)) none,
      IOper.mk (some 23) (IOp.call (Opd.c (AV.func (Fn.func 60) [] [])) [Opd.t 22]) none,
      IOper.mk (some 24) (IOp.mv (Opd.t 7)) none,
      IOper.mk (some 25) (IOp.bin BinOp.gtr (Opd.t 23) (Opd.t 24)) none,
      IOper.mk (some 6) (IOp.mv (Opd.t 25)) none]
      [22, 23, 24, 25])
      IC.ret)))))
theorem fn_order_Map_string_string_Put : F 101 = some ir_order_Map_string_string_Put := by kernel_rfl

def ir_order_knot_string_string_find : IFun :=
  IFun.mk true 2 [IRes.tmp 4]
  (IC.seq (IC.ops false [IOper.mk (some 4) (IOp.mv (Opd.c AV.nilptr)) none] [])
    (IC.seq
      (IC.seq
      (IC.block 0
      (IC.loop
      (IC.seq
      (IC.seq
      (IC.seq
      (IC.ops false
      [IOper.mk (some 5) (IOp.mv (Opd.t 0)) none,
      IOper.mk (some 6) (IOp.eqn 0 true (Opd.t 5) (Opd.c AV.nilptr)) none]
      [5])
      (IC.cond (Opd.t 6) IC.nop (IC.exit 0)))
      (IC.seq
      (IC.block 1
      (IC.seq
      (IC.ops false
      [IOper.mk (some 7) (IOp.mv (Opd.t 1)) none, IOper.mk (some 8) (IOp.mv (Opd.t 0)) none,
      IOper.mk (some 9) (IOp.nilck (Opd.t 8)) none, IOper.mk (some 10) (IOp.faddr 0 (Opd.t 9)) none,
      IOper.mk (some 11) (IOp.load none (Opd.t 10)) none,
      IOper.mk (some 12) (IOp.callp 122 [Opd.t 7, Opd.t 11]) none]
      [7, 8, 9, 10, 11])
      (IC.seq
      (IC.block 2
      (IC.seq
      (IC.ops false
      [IOper.mk (some 18)
      (IOp.bin BinOp.eql (Opd.t 12) (Opd.c (AV.int IntKind.i64 0))) none,
      IOper.mk (some 17) (IOp.mv (Opd.t 18)) none]
      [18])
      (IC.cond (Opd.t 17)
      (IC.seq
      (IC.ops false
      [IOper.mk (some 19) (IOp.mv (Opd.t 0)) none,
      IOper.mk (some 4) (IOp.mv (Opd.t 19)) none]
      [19])
      IC.ret)
      (IC.seq
      (IC.ops false
      [IOper.mk (some 21)
      (IOp.bin BinOp.eql (Opd.t 12) (Opd.c (AV.int IntKind.i64 (-1)))) none,
      IOper.mk (some 20) (IOp.mv (Opd.t 21)) none]
      [21])
      (IC.cond (Opd.t 20)
      (IC.ops false
      [IOper.mk (some 22) (IOp.mv (Opd.t 0)) none,
      IOper.mk (some 23) (IOp.nilck (Opd.t 22)) none,
      IOper.mk (some 24) (IOp.faddr 2 (Opd.t 23)) none,
      IOper.mk (some 25) (IOp.load none (Opd.t 24)) none,
      IOper.mk (some 0) (IOp.mv (Opd.t 25)) none]
      [22, 23, 24, 25])
      (IC.ops false
      [IOper.mk (some 13) (IOp.mv (Opd.t 0)) none,
      IOper.mk (some 14) (IOp.nilck (Opd.t 13)) none,
      IOper.mk (some 15) (IOp.faddr 3 (Opd.t 14)) none,
      IOper.mk (some 16) (IOp.load none (Opd.t 15)) none,
      IOper.mk (some 0) (IOp.mv (Opd.t 16)) none]
      [13, 14, 15, 16]))))))
      (IC.ops false [] [18, 17, 19, 21, 20, 22, 23, 24, 25, 13, 14, 15, 16]))))
      (IC.ops false [] [7, 8, 9, 10, 11, 12, 18, 17, 19, 21, 20, 22, 23, 24, 25, 13, 14, 15, 16])))
      (IC.ops false [] [5, 6, 7, 8, 9, 10, 11, 12, 18, 17, 19, 21, 20, 22, 23, 24, 25, 13, 14, 15, 16, 0]))))
      (IC.ops false [] [5, 6, 7, 8, 9, 10, 11, 12, 18, 17, 19, 21, 20, 22, 23, 24, 25, 13, 14, 15, 16, 0]))
      (IC.seq (IC.ops false [IOper.mk (some 4) (IOp.mv (Opd.c AV.nilptr)) none] []) IC.ret)))
theorem fn_order_knot_string_string_find : F 97 = some ir_order_knot_string_string_find := by kernel_rfl

def ir_room_batch : IFun :=
  IFun.mk false 2 [IRes.tmp 4]
  (IC.seq
    (IC.ops false
      [IOper.mk (some 3) (IOp.box 9 (Opd.t 1)) none,
      IOper.mk (some 4) (IOp.mv (Opd.c (AV.int IntKind.i64 0))) none]
      [])
    (IC.seq
      (IC.seq
      (IC.ops false
      [IOper.mk (some 10) (IOp.mv (Opd.t 0)) none, IOper.mk (some 11) (IOp.len (Opd.t 10)) none,
      IOper.mk (some 12) (IOp.bin BinOp.gtr (Opd.t 11) (Opd.c (AV.int IntKind.i64 1024))) none]
      [10, 11])
      (IC.cond (Opd.t 12)
      (IC.seq (IC.ops false [IOper.mk (some 4) (IOp.mv (Opd.c (AV.int IntKind.i64 8))) none] []) IC.ret)
      IC.nop))
      (IC.seq
      (IC.seq
      (IC.ops false
      [IOper.mk (some 13) (IOp.mv (Opd.t 0)) none, IOper.mk (some 14) (IOp.len (Opd.t 13)) none,
      IOper.mk (some 15) (IOp.mv (Opd.c (AV.int IntKind.i64 0))) none]
      [])
      (IC.seq
      (IC.block 0
      (IC.loop
      (IC.seq
      (IC.seq (IC.ops false [IOper.mk (some 16) (IOp.bin BinOp.lss (Opd.t 15) (Opd.t 14)) none] [])
      (IC.seq (IC.cond (Opd.t 16) IC.nop (IC.exit 0))
      (IC.seq
      (IC.seq
      (IC.block 1
      (IC.seq
      (IC.ops false
      [IOper.mk (some 17) (IOp.ixa 6 (Opd.t 13) (Opd.t 15)) none,
      IOper.mk (some 18) (IOp.load (some 6) (Opd.t 17)) none,
      IOper.mk (some 6)
      (IOp.alloc
      [AV.int IntKind.u8 0, AV.int IntKind.i64 0, AV.str [],
      AV.str [], AV.str [], AV.int IntKind.u64 0])
      none,
      IOper.mk none (IOp.store 6 (Opd.t 6) (Opd.t 18)) none]
      [17, 18])
      (IC.seq
      (IC.ops false
      [IOper.mk (some 19) (IOp.faddr 1 (Opd.t 6)) none,
      IOper.mk (some 20) (IOp.load none (Opd.t 19)) none,
      IOper.mk (some 21)
      (IOp.bin BinOp.neq (Opd.t 20) (Opd.c (AV.int IntKind.i64 0))) none]
      [19, 20])
      (IC.cond (Opd.t 21)
      (IC.seq
      (IC.ops false
      [IOper.mk (some 4) (IOp.mv (Opd.c (AV.int IntKind.i64 3))) none] [])
      IC.ret)
      IC.nop))))
      (IC.ops false [] [17, 18, 6, 19, 20, 21]))
      (IC.ops false
      [IOper.mk (some 22) (IOp.bin BinOp.add (Opd.t 15) (Opd.c (AV.int IntKind.i64 1)))
      none,
      IOper.mk (some 15) (IOp.mv (Opd.t 22)) none]
      [22]))))
      (IC.ops false [] [16, 17, 18, 6, 19, 20, 21, 22]))))
      (IC.ops false [] [16, 17, 18, 6, 19, 20, 21, 22])))
      (IC.seq
      (IC.seq
      (IC.ops false
      [IOper.mk (some 23) (IOp.mv (Opd.t 0)) none, IOper.mk (some 24) (IOp.len (Opd.t 23)) none,
      IOper.mk (some 25) (IOp.mv (Opd.c (AV.int IntKind.i64 0))) none]
      [])
      (IC.seq
      (IC.block 2
      (IC.loop
      (IC.seq
      (IC.seq (IC.ops false [IOper.mk (some 26) (IOp.bin BinOp.lss (Opd.t 25) (Opd.t 24)) none] [])
      (IC.seq (IC.cond (Opd.t 26) IC.nop (IC.exit 2))
      (IC.seq
      (IC.seq
      (IC.block 3
      (IC.seq
      (IC.ops false
      [IOper.mk (some 27) (IOp.ixa 6 (Opd.t 23) (Opd.t 25)) none,
      IOper.mk (some 28) (IOp.load (some 6) (Opd.t 27)) none,
      IOper.mk (some 8)
      (IOp.alloc
      [AV.int IntKind.u8 0, AV.int IntKind.i64 0, AV.str [],
      AV.str [], AV.str [], AV.int IntKind.u64 0])
      none,
      IOper.mk none (IOp.store 6 (Opd.t 8) (Opd.t 28)) none]
      [27, 28])
      (IC.seq
      (IC.ops false
      [IOper.mk (some 29) (IOp.load (some 6) (Opd.t 8)) none,
      IOper.mk (some 30) (IOp.load (some 9) (Opd.t 3)) none,
      IOper.mk (some 31)
      (IOp.call (Opd.c (AV.func (Fn.func 121) [] [])) [Opd.t 29, Opd.t 30]) none,
      IOper.mk (some 9) (IOp.mv (Opd.t 31)) none]
      [29, 30, 31])
      (IC.seq
      (IC.ops false
      [IOper.mk (some 32) (IOp.mv (Opd.t 9)) none,
      IOper.mk (some 33)
      (IOp.bin BinOp.neq (Opd.t 32) (Opd.c (AV.int IntKind.i64 0)))
      none]
      [32])
      (IC.cond (Opd.t 33)
      (IC.seq
      (IC.ops false
      [IOper.mk (some 34) (IOp.mv (Opd.t 9)) none,
      IOper.mk (some 4) (IOp.mv (Opd.t 34)) none]
      [34])
      IC.ret)
      IC.nop)))))
      (IC.ops false [] [27, 28, 8, 29, 30, 31, 9, 32, 33, 34]))
      (IC.ops false
      [IOper.mk (some 35)
      (IOp.bin BinOp.add (Opd.t 25) (Opd.c (AV.int IntKind.i64 1))) none,
      IOper.mk (some 25) (IOp.mv (Opd.t 35)) none]
      [35]))))
      (IC.ops false [] [26, 27, 28, 8, 29, 30, 31, 9, 32, 33, 34, 35]))))
      (IC.ops false [] [26, 27, 28, 8, 29, 30, 31, 9, 32, 33, 34, 35])))
      (IC.seq (IC.ops false [IOper.mk (some 4) (IOp.mv (Opd.c (AV.int IntKind.i64 0))) none] [])
      IC.ret)))))
theorem fn_room_batch : F 96 = some ir_room_batch := by kernel_rfl

def ir_room_spare : IFun :=
  IFun.mk false 1 [IRes.cell 2 (some 5)]
  (IC.seq
    (IC.ops false
      [IOper.mk (some 1) (IOp.box 5 (Opd.t 0)) none,
      IOper.mk (some 2)
      (IOp.alloc
      [AV.int IntKind.u8 0, AV.str [], AV.str [], AV.int IntKind.i64 0,
      AV.imm true 0 0 (some 0) []])
      none]
      [])
    (IC.seq
      (IC.seq
      (IC.ops false [IOper.mk (some 3) (IOp.faddr 0 (Opd.t 1)) none, IOper.mk (some 4) (IOp.load none (Opd.t 3)) none]
      [3])
      (IC.seq
      (IC.block 0
      (IC.seq
      (IC.seq
      (IC.block 5
      (IC.seq
      (IC.seq
      (IC.block 4
      (IC.seq
      (IC.seq
      (IC.block 3
      (IC.seq
      (IC.seq
      (IC.block 2
      (IC.seq
      (IC.seq
      (IC.block 1
      (IC.seq
      (IC.seq
      (IC.seq
      (IC.ops false
      [IOper.mk (some 6)
      (IOp.bin BinOp.eql (Opd.t 4)
      (Opd.c (AV.int IntKind.u8 1)))
      none,
      IOper.mk (some 5) (IOp.mv (Opd.t 6)) none]
      [6])
      (IC.cond (Opd.t 5) (IC.exit 1) IC.nop))
      (IC.seq
      (IC.seq
      (IC.ops false
      [IOper.mk (some 8)
      (IOp.bin BinOp.eql (Opd.t 4)
      (Opd.c (AV.int IntKind.u8 2)))
      none,
      IOper.mk (some 7) (IOp.mv (Opd.t 8)) none]
      [8])
      (IC.cond (Opd.t 7) (IC.exit 2) IC.nop))
      (IC.seq
      (IC.seq
      (IC.ops false
      [IOper.mk (some 10)
      (IOp.bin BinOp.eql (Opd.t 4)
      (Opd.c (AV.int IntKind.u8 3)))
      none,
      IOper.mk (some 9) (IOp.mv (Opd.t 10)) none]
      [10])
      (IC.cond (Opd.t 9) (IC.exit 3) IC.nop))
      (IC.seq
      (IC.seq
      (IC.ops false
      [IOper.mk (some 12)
      (IOp.bin BinOp.eql (Opd.t 4)
      (Opd.c (AV.int IntKind.u8 4)))
      none,
      IOper.mk (some 11) (IOp.mv (Opd.t 12)) none]
      [12])
      (IC.cond (Opd.t 11) (IC.exit 4) IC.nop))
      (IC.seq
      (IC.seq
      (IC.ops false
      [IOper.mk (some 14)
      (IOp.bin BinOp.eql (Opd.t 4)
      (Opd.c (AV.int IntKind.u8 5)))
      none,
      IOper.mk (some 13) (IOp.mv (Opd.t 14)) none]
      [14])
      (IC.cond (Opd.t 13) IC.nop
      (IC.ops false
      [IOper.mk (some 15)
      (IOp.bin BinOp.eql (Opd.t 4)
      (Opd.c (AV.int IntKind.u8 6)))
      none,
      IOper.mk (some 13) (IOp.mv (Opd.t 15)) none]
      [15])))
      (IC.cond (Opd.t 13) (IC.exit 5) IC.nop))))))
      (IC.exit 0)))
      (IC.ops false [] [6, 5, 8, 7, 10, 9, 12, 11, 14, 15, 13]))
      (IC.seq
      (IC.ops false
      [IOper.mk (some 16) (IOp.faddr 1 (Opd.t 1)) none,
      IOper.mk none (IOp.store 1 (Opd.t 16) (Opd.c (AV.str []))) none]
      [16])
      (IC.exit 0))))
      (IC.ops false [] [6, 5, 8, 7, 10, 9, 12, 11, 14, 15, 13, 16]))
      (IC.seq
      (IC.ops false
      [IOper.mk (some 17) (IOp.faddr 4 (Opd.t 1)) none,
      IOper.mk none (IOp.store 1 (Opd.t 17) (Opd.c (AV.imm true 0 0 (some 0) []))) none]
      [17])
      (IC.exit 0))))
      (IC.ops false [] [6, 5, 8, 7, 10, 9, 12, 11, 14, 15, 13, 16, 17]))
      (IC.ops false
      [IOper.mk (some 18) (IOp.faddr 3 (Opd.t 1)) none,
      IOper.mk none (IOp.store 1 (Opd.t 18) (Opd.c (AV.int IntKind.i64 0))) none]
      [18])))
      (IC.ops false [] [6, 5, 8, 7, 10, 9, 12, 11, 14, 15, 13, 16, 17, 18]))
      (IC.seq
      (IC.ops false
      [IOper.mk (some 19) (IOp.faddr 1 (Opd.t 1)) none,
      IOper.mk none (IOp.store 1 (Opd.t 19) (Opd.c (AV.str []))) none,
      IOper.mk (some 20) (IOp.faddr 2 (Opd.t 1)) none,
      IOper.mk none (IOp.store 1 (Opd.t 20) (Opd.c (AV.str []))) none]
      [19, 20])
      (IC.exit 0))))
      (IC.ops false [] [6, 5, 8, 7, 10, 9, 12, 11, 14, 15, 13, 16, 17, 18, 19, 20]))
      (IC.seq
      (IC.ops false
      [IOper.mk (some 21) (IOp.faddr 3 (Opd.t 1)) none,
      IOper.mk none (IOp.store 1 (Opd.t 21) (Opd.c (AV.int IntKind.i64 0))) none]
      [21])
      (IC.exit 0))))
      (IC.ops false [] [6, 5, 8, 7, 10, 9, 12, 11, 14, 15, 13, 16, 17, 18, 19, 20, 21])))
      (IC.seq
      (IC.ops false
      [IOper.mk (some 22) (IOp.load (some 5) (Opd.t 1)) none, IOper.mk none (IOp.store 5 (Opd.t 2) (Opd.t 22)) none]
      [22])
      IC.ret)))
theorem fn_room_spare : F 95 = some ir_room_spare := by kernel_rfl

def ir_slices_medianAdjacentCmpFunc_api_Fault : IFun :=
  IFun.mk false 4 [IRes.tmp 8]
  (IC.seq (IC.ops false [IOper.mk (some 8) (IOp.mv (Opd.c (AV.int IntKind.i64 0))) none] [])
    (IC.seq
      (IC.ops false
      [IOper.mk (some 9) (IOp.mv (Opd.t 0)) none, IOper.mk (some 10) (IOp.mv (Opd.t 1)) none,
      IOper.mk (some 11) (IOp.bin BinOp.sub (Opd.t 10) (Opd.c (AV.int IntKind.i64 1))) none,
      IOper.mk (some 12) (IOp.mv (Opd.t 1)) none, IOper.mk (some 13) (IOp.mv (Opd.t 1)) none,
      IOper.mk (some 14) (IOp.bin BinOp.add (Opd.t 13) (Opd.c (AV.int IntKind.i64 1))) none,
      IOper.mk (some 15) (IOp.mv (Opd.t 2)) none, IOper.mk (some 16) (IOp.mv (Opd.t 3)) none,
      IOper.mk (some 17)
      (IOp.call (Opd.c (AV.func (Fn.func 111) [] [])) [Opd.t 9, Opd.t 11, Opd.t 12, Opd.t 14, Opd.t 15, Opd.t 16])
      none,
      IOper.mk (some 8) (IOp.mv (Opd.t 17)) none]
      [9, 10, 11, 12, 13, 14, 15, 16, 17])
      IC.ret))
theorem fn_slices_medianAdjacentCmpFunc_api_Fault : F 110 = some ir_slices_medianAdjacentCmpFunc_api_Fault := by kernel_rfl

def ir_slices_medianCmpFunc_api_Fault : IFun :=
  IFun.mk false 6 [IRes.tmp 12]
  (IC.seq (IC.ops false [IOper.mk (some 12) (IOp.mv (Opd.c (AV.int IntKind.i64 0))) none] [])
    (IC.seq
      (IC.ops false
      [IOper.mk (some 14) (IOp.mv (Opd.t 0)) none, IOper.mk (some 15) (IOp.mv (Opd.t 1)) none,
      IOper.mk (some 16) (IOp.mv (Opd.t 2)) none, IOper.mk (some 17) (IOp.mv (Opd.t 4)) none,
      IOper.mk (some 18) (IOp.mv (Opd.t 5)) none,
      IOper.mk (some 19)
      (IOp.call (Opd.c (AV.func (Fn.func 132) [] [])) [Opd.t 14, Opd.t 15, Opd.t 16, Opd.t 17, Opd.t 18]) none,
      IOper.mk (some 13) (IOp.mv (Opd.t 19)) none, IOper.mk (some 20) (IOp.extr (Opd.t 13) 0) none,
      IOper.mk (some 21) (IOp.extr (Opd.t 13) 1) none, IOper.mk (some 1) (IOp.mv (Opd.t 20)) none,
      IOper.mk (some 2) (IOp.mv (Opd.t 21)) none]
      [14, 15, 16, 17, 18, 19, 13, 20, 21])
      (IC.seq
      (IC.ops false
      [IOper.mk (some 23) (IOp.mv (Opd.t 0)) none, IOper.mk (some 24) (IOp.mv (Opd.t 2)) none,
      IOper.mk (some 25) (IOp.mv (Opd.t 3)) none, IOper.mk (some 26) (IOp.mv (Opd.t 4)) none,
      IOper.mk (some 27) (IOp.mv (Opd.t 5)) none,
      IOper.mk (some 28)
      (IOp.call (Opd.c (AV.func (Fn.func 132) [] [])) [Opd.t 23, Opd.t 24, Opd.t 25, Opd.t 26, Opd.t 27]) none,
      IOper.mk (some 22) (IOp.mv (Opd.t 28)) none, IOper.mk (some 29) (IOp.extr (Opd.t 22) 0) none,
      IOper.mk (some 30) (IOp.extr (Opd.t 22) 1) none, IOper.mk (some 2) (IOp.mv (Opd.t 29)) none,
      IOper.mk (some 3) (IOp.mv (Opd.t 30)) none]
      [23, 24, 25, 26, 27, 28, 22, 29, 30, 3])
      (IC.seq
      (IC.ops false
      [IOper.mk (some 32) (IOp.mv (Opd.t 0)) none, IOper.mk (some 33) (IOp.mv (Opd.t 1)) none,
      IOper.mk (some 34) (IOp.mv (Opd.t 2)) none, IOper.mk (some 35) (IOp.mv (Opd.t 4)) none,
      IOper.mk (some 36) (IOp.mv (Opd.t 5)) none,
      IOper.mk (some 37)
      (IOp.call (Opd.c (AV.func (Fn.func 132) [] [])) [Opd.t 32, Opd.t 33, Opd.t 34, Opd.t 35, Opd.t 36])
      none,
      IOper.mk (some 31) (IOp.mv (Opd.t 37)) none, IOper.mk (some 38) (IOp.extr (Opd.t 31) 0) none,
      IOper.mk (some 39) (IOp.extr (Opd.t 31) 1) none, IOper.mk (some 1) (IOp.mv (Opd.t 38)) none,
      IOper.mk (some 2) (IOp.mv (Opd.t 39)) none]
      [32, 33, 34, 35, 36, 37, 31, 38, 39])
      (IC.seq
      (IC.ops false [IOper.mk (some 40) (IOp.mv (Opd.t 2)) none, IOper.mk (some 12) (IOp.mv (Opd.t 40)) none]
      [40])
      IC.ret)))))
theorem fn_slices_medianCmpFunc_api_Fault : F 111 = some ir_slices_medianCmpFunc_api_Fault := by kernel_rfl

def ir_slices_nextPowerOfTwo : IFun :=
  IFun.mk false 1 [IRes.tmp 2]
  (IC.seq (IC.ops false [IOper.mk (some 2) (IOp.mv (Opd.c (AV.int IntKind.u64 0))) none] [])
    (IC.seq
      (IC.ops false
      [IOper.mk (some 3) (IOp.mv (Opd.t 0)) none, IOper.mk (some 4) (IOp.conv IntKind.u64 (Opd.t 3)) none,
      IOper.mk (some 5) (IOp.call (Opd.c (AV.func (Fn.func 47) [] [])) [Opd.t 4]) none,
      IOper.mk (some 6) (IOp.bin BinOp.shl (Opd.c (AV.int IntKind.u64 1)) (Opd.t 5)) none,
      IOper.mk (some 2) (IOp.mv (Opd.t 6)) none]
      [3, 4, 5, 6])
      IC.ret))
theorem fn_slices_nextPowerOfTwo : F 108 = some ir_slices_nextPowerOfTwo := by kernel_rfl

def ir_slices_rotateCmpFunc_int : IFun :=
  IFun.mk false 5 []
  (IC.seq
    (IC.ops false
      [IOper.mk (some 12) (IOp.mv (Opd.t 2)) none, IOper.mk (some 13) (IOp.mv (Opd.t 1)) none,
      IOper.mk (some 14) (IOp.bin BinOp.sub (Opd.t 12) (Opd.t 13)) none, IOper.mk (some 10) (IOp.mv (Opd.t 14)) none]
      [12, 13, 14])
    (IC.seq
      (IC.ops false
      [IOper.mk (some 15) (IOp.mv (Opd.t 3)) none, IOper.mk (some 16) (IOp.mv (Opd.t 2)) none,
      IOper.mk (some 17) (IOp.bin BinOp.sub (Opd.t 15) (Opd.t 16)) none,
      IOper.mk (some 11) (IOp.mv (Opd.t 17)) none]
      [15, 16, 17])
      (IC.seq
      (IC.seq
      (IC.block 0
      (IC.loop
      (IC.seq
      (IC.seq
      (IC.seq
      (IC.ops false
      [IOper.mk (some 18) (IOp.mv (Opd.t 10)) none, IOper.mk (some 19) (IOp.mv (Opd.t 11)) none,
      IOper.mk (some 20) (IOp.bin BinOp.neq (Opd.t 18) (Opd.t 19)) none]
      [18, 19])
      (IC.cond (Opd.t 20) IC.nop (IC.exit 0)))
      (IC.seq
      (IC.block 1
      (IC.seq
      (IC.ops false
      [IOper.mk (some 21) (IOp.mv (Opd.t 10)) none, IOper.mk (some 22) (IOp.mv (Opd.t 11)) none,
      IOper.mk (some 23) (IOp.bin BinOp.gtr (Opd.t 21) (Opd.t 22)) none]
      [21, 22])
      (IC.cond (Opd.t 23)
      (IC.seq
      (IC.ops false
      [IOper.mk (some 24) (IOp.mv (Opd.t 0)) none, IOper.mk (some 25) (IOp.mv (Opd.t 2)) none,
      IOper.mk (some 26) (IOp.mv (Opd.t 10)) none,
      IOper.mk (some 27) (IOp.bin BinOp.sub (Opd.t 25) (Opd.t 26)) none,
      IOper.mk (some 28) (IOp.mv (Opd.t 2)) none, IOper.mk (some 29) (IOp.mv (Opd.t 11)) none,
      IOper.mk (some 30) (IOp.mv (Opd.t 4)) none,
      IOper.mk (some 31)
      (IOp.call (Opd.c (AV.func (Fn.func 135) [] []))
      [Opd.t 24, Opd.t 27, Opd.t 28, Opd.t 29, Opd.t 30])
      none]
      [24, 25, 26, 27, 28, 29, 30, 31])
      (IC.ops false
      [IOper.mk (some 32) (IOp.mv (Opd.t 10)) none, IOper.mk (some 33) (IOp.mv (Opd.t 11)) none,
      IOper.mk (some 34) (IOp.bin BinOp.sub (Opd.t 32) (Opd.t 33)) none,
      IOper.mk (some 10) (IOp.mv (Opd.t 34)) none]
      [32, 33, 34]))
      (IC.seq
      (IC.ops false
      [IOper.mk (some 35) (IOp.mv (Opd.t 0)) none, IOper.mk (some 36) (IOp.mv (Opd.t 2)) none,
      IOper.mk (some 37) (IOp.mv (Opd.t 10)) none,
      IOper.mk (some 38) (IOp.bin BinOp.sub (Opd.t 36) (Opd.t 37)) none,
      IOper.mk (some 39) (IOp.mv (Opd.t 2)) none, IOper.mk (some 40) (IOp.mv (Opd.t 11)) none,
      IOper.mk (some 41) (IOp.bin BinOp.add (Opd.t 39) (Opd.t 40)) none,
      IOper.mk (some 42) (IOp.mv (Opd.t 10)) none,
      IOper.mk (some 43) (IOp.bin BinOp.sub (Opd.t 41) (Opd.t 42)) none,
      IOper.mk (some 44) (IOp.mv (Opd.t 10)) none, IOper.mk (some 45) (IOp.mv (Opd.t 4)) none,
      IOper.mk (some 46)
      (IOp.call (Opd.c (AV.func (Fn.func 135) [] []))
      [Opd.t 35, Opd.t 38, Opd.t 43, Opd.t 44, Opd.t 45])
      none]
      [35, 36, 37, 38, 39, 40, 41, 42, 43, 44, 45, 46])
      (IC.ops false
      [IOper.mk (some 47) (IOp.mv (Opd.t 11)) none, IOper.mk (some 48) (IOp.mv (Opd.t 10)) none,
      IOper.mk (some 49) (IOp.bin BinOp.sub (Opd.t 47) (Opd.t 48)) none,
      IOper.mk (some 11) (IOp.mv (Opd.t 49)) none]
      [47, 48, 49])))))
      (IC.ops false []
      [21, 22, 23, 24, 25, 26, 27, 28, 29, 30, 31, 32, 33, 34, 35, 36, 37, 38, 39, 40, 41, 42, 43, 44,
      45, 46, 47, 48, 49])))
      (IC.ops false []
      [18, 19, 20, 21, 22, 23, 24, 25, 26, 27, 28, 29, 30, 31, 32, 33, 34, 35, 36, 37, 38, 39, 40, 41, 42,
      43, 44, 45, 46, 47, 48, 49]))))
      (IC.ops false []
      [18, 19, 20, 21, 22, 23, 24, 25, 26, 27, 28, 29, 30, 31, 32, 33, 34, 35, 36, 37, 38, 39, 40, 41, 42, 43, 44,
      45, 46, 47, 48, 49]))
      (IC.ops false
      [IOper.mk (some 50) (IOp.mv (Opd.t 0)) none, IOper.mk (some 51) (IOp.mv (Opd.t 2)) none,
      IOper.mk (some 52) (IOp.mv (Opd.t 10)) none,
      IOper.mk (some 53) (IOp.bin BinOp.sub (Opd.t 51) (Opd.t 52)) none,
      IOper.mk (some 54) (IOp.mv (Opd.t 2)) none, IOper.mk (some 55) (IOp.mv (Opd.t 10)) none,
      IOper.mk (some 56) (IOp.mv (Opd.t 4)) none,
      IOper.mk (some 57)
      (IOp.call (Opd.c (AV.func (Fn.func 135) [] [])) [Opd.t 50, Opd.t 53, Opd.t 54, Opd.t 55, Opd.t 56]) none]
      [50, 51, 52, 53, 54, 55, 56, 57]))))
theorem fn_slices_rotateCmpFunc_int : F 117 = some ir_slices_rotateCmpFunc_int := by kernel_rfl

def ir_slices_siftDownCmpFunc_api_Fault : IFun :=
  IFun.mk false 5 []
  (IC.seq (IC.ops false [IOper.mk (some 12) (IOp.mv (Opd.t 1)) none, IOper.mk (some 10) (IOp.mv (Opd.t 12)) none] [12])
    (IC.seq
      (IC.block 0
      (IC.loop
      (IC.seq
      (IC.seq
      (IC.block 1
      (IC.seq
      (IC.ops false
      [IOper.mk (some 13) (IOp.mv (Opd.t 10)) none,
      IOper.mk (some 14) (IOp.bin BinOp.mul (Opd.c (AV.int IntKind.i64 2)) (Opd.t 13)) none,
      IOper.mk (some 15) (IOp.bin BinOp.add (Opd.t 14) (Opd.c (AV.int IntKind.i64 1))) none,
      IOper.mk (some 11) (IOp.mv (Opd.t 15)) none]
      [13, 14, 15])
      (IC.seq
      (IC.seq
      (IC.ops false
      [IOper.mk (some 16) (IOp.mv (Opd.t 11)) none, IOper.mk (some 17) (IOp.mv (Opd.t 2)) none,
      IOper.mk (some 18) (IOp.bin BinOp.geq (Opd.t 16) (Opd.t 17)) none]
      [16, 17])
      (IC.cond (Opd.t 18) (IC.exit 0) IC.nop))
      (IC.seq
      (IC.seq
      (IC.ops true
      [IOper.mk (some 19) (IOp.mv (Opd.t 11)) none,
      IOper.mk (some 20) (IOp.bin BinOp.add (Opd.t 19) (Opd.c (AV.int IntKind.i64 1)))
      none,
      IOper.mk (some 21) (IOp.mv (Opd.t 2)) none,
      IOper.mk (some 22) (IOp.bin BinOp.lss (Opd.t 20) (Opd.t 21)) none,
      IOper.mk (some 23) (IOp.mv (Opd.t 22)) none,
      IOper.mk (some 24) (IOp.mv (Opd.t 4)) (some (23, true)),
      IOper.mk (some 25) (IOp.mv (Opd.t 0)) (some (23, true)),
      IOper.mk (some 26) (IOp.mv (Opd.t 3)) (some (23, true)),
      IOper.mk (some 27) (IOp.mv (Opd.t 11)) (some (23, true)),
      IOper.mk (some 28) (IOp.bin BinOp.add (Opd.t 26) (Opd.t 27)) (some (23, true)),
      IOper.mk (some 29) (IOp.ixa 2 (Opd.t 25) (Opd.t 28)) (some (23, true)),
      IOper.mk (some 30) (IOp.load (some 2) (Opd.t 29)) (some (23, true)),
      IOper.mk (some 31) (IOp.mv (Opd.t 0)) (some (23, true)),
      IOper.mk (some 32) (IOp.mv (Opd.t 3)) (some (23, true)),
      IOper.mk (some 33) (IOp.mv (Opd.t 11)) (some (23, true)),
      IOper.mk (some 34) (IOp.bin BinOp.add (Opd.t 32) (Opd.t 33)) (some (23, true)),
      IOper.mk (some 35) (IOp.bin BinOp.add (Opd.t 34) (Opd.c (AV.int IntKind.i64 1)))
      (some (23, true)),
      IOper.mk (some 36) (IOp.ixa 2 (Opd.t 31) (Opd.t 35)) (some (23, true)),
      IOper.mk (some 37) (IOp.load (some 2) (Opd.t 36)) (some (23, true)),
      IOper.mk (some 38) (IOp.call (Opd.t 24) [Opd.t 30, Opd.t 37]) (some (23, true)),
      IOper.mk (some 39) (IOp.bin BinOp.lss (Opd.t 38) (Opd.c (AV.int IntKind.i64 0)))
      (some (23, true)),
      IOper.mk (some 40) (IOp.pick (Opd.t 23) (Opd.t 39) (Opd.c (AV.bool false))) none]
      [19, 20, 21, 22, 23, 24, 25, 26, 27, 28, 29, 30, 31, 32, 33, 34, 35, 36, 37, 38, 39])
      (IC.cond (Opd.t 40)
      (IC.ops false
      [IOper.mk (some 41) (IOp.mv (Opd.t 11)) none,
      IOper.mk (some 42)
      (IOp.bin BinOp.add (Opd.t 41) (Opd.c (AV.int IntKind.i64 1))) none,
      IOper.mk (some 11) (IOp.mv (Opd.t 42)) none]
      [41, 42])
      IC.nop))
      (IC.seq
      (IC.seq
      (IC.ops true
      [IOper.mk (some 43) (IOp.mv (Opd.t 4)) none, IOper.mk (some 44) (IOp.mv (Opd.t 0)) none,
      IOper.mk (some 45) (IOp.mv (Opd.t 3)) none, IOper.mk (some 46) (IOp.mv (Opd.t 10)) none,
      IOper.mk (some 47) (IOp.bin BinOp.add (Opd.t 45) (Opd.t 46)) none,
      IOper.mk (some 48) (IOp.ixa 2 (Opd.t 44) (Opd.t 47)) none,
      IOper.mk (some 49) (IOp.load (some 2) (Opd.t 48)) none,
      IOper.mk (some 50) (IOp.mv (Opd.t 0)) none, IOper.mk (some 51) (IOp.mv (Opd.t 3)) none,
      IOper.mk (some 52) (IOp.mv (Opd.t 11)) none,
      IOper.mk (some 53) (IOp.bin BinOp.add (Opd.t 51) (Opd.t 52)) none,
      IOper.mk (some 54) (IOp.ixa 2 (Opd.t 50) (Opd.t 53)) none,
      IOper.mk (some 55) (IOp.load (some 2) (Opd.t 54)) none,
      IOper.mk (some 56) (IOp.call (Opd.t 43) [Opd.t 49, Opd.t 55]) none,
      IOper.mk (some 57)
      (IOp.bin BinOp.lss (Opd.t 56) (Opd.c (AV.int IntKind.i64 0))) none,
      IOper.mk (some 58) (IOp.not (Opd.t 57)) none]
      [43, 44, 45, 46, 47, 48, 49, 50, 51, 52, 53, 54, 55, 56, 57])
      (IC.cond (Opd.t 58) IC.ret IC.nop))
      (IC.seq
      (IC.ops true
      [IOper.mk (some 59) (IOp.mv (Opd.t 0)) none, IOper.mk (some 60) (IOp.mv (Opd.t 3)) none,
      IOper.mk (some 61) (IOp.mv (Opd.t 10)) none,
      IOper.mk (some 62) (IOp.bin BinOp.add (Opd.t 60) (Opd.t 61)) none,
      IOper.mk (some 63) (IOp.mv (Opd.t 0)) none, IOper.mk (some 64) (IOp.mv (Opd.t 3)) none,
      IOper.mk (some 65) (IOp.mv (Opd.t 11)) none,
      IOper.mk (some 66) (IOp.bin BinOp.add (Opd.t 64) (Opd.t 65)) none,
      IOper.mk (some 67) (IOp.mv (Opd.t 0)) none, IOper.mk (some 68) (IOp.mv (Opd.t 3)) none,
      IOper.mk (some 69) (IOp.mv (Opd.t 11)) none,
      IOper.mk (some 70) (IOp.bin BinOp.add (Opd.t 68) (Opd.t 69)) none,
      IOper.mk (some 71) (IOp.ixa 2 (Opd.t 67) (Opd.t 70)) none,
      IOper.mk (some 72) (IOp.load (some 2) (Opd.t 71)) none,
      IOper.mk (some 73) (IOp.mv (Opd.t 0)) none, IOper.mk (some 74) (IOp.mv (Opd.t 3)) none,
      IOper.mk (some 75) (IOp.mv (Opd.t 10)) none,
      IOper.mk (some 76) (IOp.bin BinOp.add (Opd.t 74) (Opd.t 75)) none,
      IOper.mk (some 77) (IOp.ixa 2 (Opd.t 73) (Opd.t 76)) none,
      IOper.mk (some 78) (IOp.load (some 2) (Opd.t 77)) none,
      IOper.mk (some 79) (IOp.ixa 2 (Opd.t 59) (Opd.t 62)) none,
      IOper.mk none (IOp.store 2 (Opd.t 79) (Opd.t 72)) none,
      IOper.mk (some 80) (IOp.ixa 2 (Opd.t 63) (Opd.t 66)) none,
      IOper.mk none (IOp.store 2 (Opd.t 80) (Opd.t 78)) none]
      [59, 60, 61, 62, 63, 64, 65, 66, 67, 68, 69, 70, 71, 72, 73, 74, 75, 76, 77, 78, 79, 80])
      (IC.ops false
      [IOper.mk (some 81) (IOp.mv (Opd.t 11)) none, IOper.mk (some 10) (IOp.mv (Opd.t 81)) none]
      [81])))))))
      (IC.ops false []
      [13, 14, 15, 16, 17, 18, 19, 20, 21, 22, 23, 24, 25, 26, 27, 28, 29, 30, 31, 32, 33, 34, 35, 36, 37, 38,
      39, 40, 41, 42, 11, 43, 44, 45, 46, 47, 48, 49, 50, 51, 52, 53, 54, 55, 56, 57, 58, 59, 60, 61, 62,
      63, 64, 65, 66, 67, 68, 69, 70, 71, 72, 73, 74, 75, 76, 77, 78, 79, 80, 81]))
      (IC.ops false []
      [13, 14, 15, 16, 17, 18, 19, 20, 21, 22, 23, 24, 25, 26, 27, 28, 29, 30, 31, 32, 33, 34, 35, 36, 37, 38,
      39, 40, 41, 42, 11, 43, 44, 45, 46, 47, 48, 49, 50, 51, 52, 53, 54, 55, 56, 57, 58, 59, 60, 61, 62, 63,
      64, 65, 66, 67, 68, 69, 70, 71, 72, 73, 74, 75, 76, 77, 78, 79, 80, 81]))))
      (IC.ops false []
      [13, 14, 15, 16, 17, 18, 19, 20, 21, 22, 23, 24, 25, 26, 27, 28, 29, 30, 31, 32, 33, 34, 35, 36, 37, 38, 39, 40,
      41, 42, 11, 43, 44, 45, 46, 47, 48, 49, 50, 51, 52, 53, 54, 55, 56, 57, 58, 59, 60, 61, 62, 63, 64, 65, 66,
      67, 68, 69, 70, 71, 72, 73, 74, 75, 76, 77, 78, 79, 80, 81])))
theorem fn_slices_siftDownCmpFunc_api_Fault : F 107 = some ir_slices_siftDownCmpFunc_api_Fault := by kernel_rfl

def ir_slices_xorshift_Next : IFun :=
  IFun.mk false 1 [IRes.tmp 2]
  (IC.seq (IC.ops false [IOper.mk (some 2) (IOp.mv (Opd.c (AV.int IntKind.u64 0))) none] [])
    (IC.seq
      (IC.ops true
      [IOper.mk (some 3) (IOp.mv (Opd.t 0)) none, IOper.mk (some 4) (IOp.nilck (Opd.t 3)) none,
      IOper.mk (some 5) (IOp.load none (Opd.t 4)) none, IOper.mk (some 6) (IOp.mv (Opd.t 0)) none,
      IOper.mk (some 7) (IOp.nilck (Opd.t 6)) none, IOper.mk (some 8) (IOp.load none (Opd.t 7)) none,
      IOper.mk (some 9) (IOp.bin BinOp.shl (Opd.t 8) (Opd.c (AV.int IntKind.u64 13))) none,
      IOper.mk (some 10) (IOp.bin BinOp.xor (Opd.t 5) (Opd.t 9)) none,
      IOper.mk (some 11) (IOp.nilck (Opd.t 3)) none, IOper.mk none (IOp.store 1 (Opd.t 11) (Opd.t 10)) none]
      [3, 4, 5, 6, 7, 8, 9, 10, 11])
      (IC.seq
      (IC.ops true
      [IOper.mk (some 12) (IOp.mv (Opd.t 0)) none, IOper.mk (some 13) (IOp.nilck (Opd.t 12)) none,
      IOper.mk (some 14) (IOp.load none (Opd.t 13)) none, IOper.mk (some 15) (IOp.mv (Opd.t 0)) none,
      IOper.mk (some 16) (IOp.nilck (Opd.t 15)) none, IOper.mk (some 17) (IOp.load none (Opd.t 16)) none,
      IOper.mk (some 18) (IOp.bin BinOp.shr (Opd.t 17) (Opd.c (AV.int IntKind.u64 7))) none,
      IOper.mk (some 19) (IOp.bin BinOp.xor (Opd.t 14) (Opd.t 18)) none,
      IOper.mk (some 20) (IOp.nilck (Opd.t 12)) none, IOper.mk none (IOp.store 1 (Opd.t 20) (Opd.t 19)) none]
      [12, 13, 14, 15, 16, 17, 18, 19, 20])
      (IC.seq
      (IC.ops true
      [IOper.mk (some 21) (IOp.mv (Opd.t 0)) none, IOper.mk (some 22) (IOp.nilck (Opd.t 21)) none,
      IOper.mk (some 23) (IOp.load none (Opd.t 22)) none, IOper.mk (some 24) (IOp.mv (Opd.t 0)) none,
      IOper.mk (some 25) (IOp.nilck (Opd.t 24)) none, IOper.mk (some 26) (IOp.load none (Opd.t 25)) none,
      IOper.mk (some 27) (IOp.bin BinOp.shl (Opd.t 26) (Opd.c (AV.int IntKind.u64 17))) none,
      IOper.mk (some 28) (IOp.bin BinOp.xor (Opd.t 23) (Opd.t 27)) none,
      IOper.mk (some 29) (IOp.nilck (Opd.t 21)) none, IOper.mk none (IOp.store 1 (Opd.t 29) (Opd.t 28)) none]
      [21, 22, 23, 24, 25, 26, 27, 28, 29])
      (IC.seq
      (IC.ops false
      [IOper.mk (some 30) (IOp.mv (Opd.t 0)) none, IOper.mk (some 31) (IOp.nilck (Opd.t 30)) none,
      IOper.mk (some 32) (IOp.load none (Opd.t 31)) none, IOper.mk (some 2) (IOp.mv (Opd.t 32)) none]
      [30, 31, 32])
      IC.ret)))))
theorem fn_slices_xorshift_Next : F 109 = some ir_slices_xorshift_Next := by kernel_rfl

def ir_cmp_Compare_string : IFun :=
  IFun.mk false 2 [IRes.tmp 4]
  (IC.seq (IC.ops false [IOper.mk (some 4) (IOp.mv (Opd.c (AV.int IntKind.i64 0))) none] [])
    (IC.seq
      (IC.ops false
      [IOper.mk (some 7) (IOp.mv (Opd.t 0)) none,
      IOper.mk (some 8) (IOp.call (Opd.c (AV.func (Fn.func 139) [] [])) [Opd.t 7]) none,
      IOper.mk (some 5) (IOp.mv (Opd.t 8)) none]
      [7, 8])
      (IC.seq
      (IC.ops false
      [IOper.mk (some 9) (IOp.mv (Opd.t 1)) none,
      IOper.mk (some 10) (IOp.call (Opd.c (AV.func (Fn.func 139) [] [])) [Opd.t 9]) none,
      IOper.mk (some 6) (IOp.mv (Opd.t 10)) none]
      [9, 10])
      (IC.seq
      (IC.seq (IC.ops false [IOper.mk (some 11) (IOp.mv (Opd.t 5)) none] [])
      (IC.cond (Opd.t 11)
      (IC.seq
      (IC.seq (IC.ops false [IOper.mk (some 12) (IOp.mv (Opd.t 6)) none] [])
      (IC.cond (Opd.t 12)
      (IC.seq
      (IC.ops false [IOper.mk (some 4) (IOp.mv (Opd.c (AV.int IntKind.i64 0))) none] [])
      IC.ret)
      IC.nop))
      (IC.seq (IC.ops false [IOper.mk (some 4) (IOp.mv (Opd.c (AV.int IntKind.i64 (-1)))) none] [])
      IC.ret))
      IC.nop))
      (IC.seq
      (IC.seq (IC.ops false [IOper.mk (some 13) (IOp.mv (Opd.t 6)) none] [])
      (IC.cond (Opd.t 13)
      (IC.seq (IC.ops false [IOper.mk (some 4) (IOp.mv (Opd.c (AV.int IntKind.i64 1))) none] [])
      IC.ret)
      IC.nop))
      (IC.seq
      (IC.seq
      (IC.ops false
      [IOper.mk (some 14) (IOp.mv (Opd.t 0)) none, IOper.mk (some 15) (IOp.mv (Opd.t 1)) none,
      IOper.mk (some 16) (IOp.bin BinOp.lss (Opd.t 14) (Opd.t 15)) none]
      [14, 15])
      (IC.cond (Opd.t 16)
      (IC.seq
      (IC.ops false [IOper.mk (some 4) (IOp.mv (Opd.c (AV.int IntKind.i64 (-1)))) none] [])
      IC.ret)
      IC.nop))
      (IC.seq
      (IC.seq
      (IC.ops false
      [IOper.mk (some 17) (IOp.mv (Opd.t 0)) none, IOper.mk (some 18) (IOp.mv (Opd.t 1)) none,
      IOper.mk (some 19) (IOp.bin BinOp.gtr (Opd.t 17) (Opd.t 18)) none]
      [17, 18])
      (IC.cond (Opd.t 19)
      (IC.seq
      (IC.ops false [IOper.mk (some 4) (IOp.mv (Opd.c (AV.int IntKind.i64 1))) none] [])
      IC.ret)
      IC.nop))
      (IC.seq (IC.ops false [IOper.mk (some 4) (IOp.mv (Opd.c (AV.int IntKind.i64 0))) none] [])
      IC.ret))))))))
theorem fn_cmp_Compare_string : F 122 = some ir_cmp_Compare_string := by kernel_rfl

def ir_cursor_Table_Took_1 : IFun :=
  IFun.mk false 2 [IRes.tmp 3]
  (IC.seq
    (IC.ops false
      [IOper.mk (some 2) (IOp.box 2 (Opd.t 0)) none, IOper.mk (some 3) (IOp.mv (Opd.c (AV.bool false))) none] [])
    (IC.seq
      (IC.ops false
      [IOper.mk (some 4) (IOp.faddr 0 (Opd.t 1)) none, IOper.mk (some 5) (IOp.load (some 2) (Opd.t 4)) none,
      IOper.mk (some 6) (IOp.faddr 0 (Opd.t 2)) none, IOper.mk (some 7) (IOp.load none (Opd.t 6)) none,
      IOper.mk (some 8) (IOp.call (Opd.c (AV.func (Fn.func 93) [] [])) [Opd.t 5, Opd.t 7]) none,
      IOper.mk (some 9) (IOp.not (Opd.t 8)) none, IOper.mk (some 3) (IOp.mv (Opd.t 9)) none]
      [4, 5, 6, 7, 8, 9])
      IC.ret))
theorem fn_cursor_Table_Took_1 : F 130 = some ir_cursor_Table_Took_1 := by kernel_rfl

def ir_cursor_behind : IFun :=
  IFun.mk false 2 [IRes.cell 4 (some 3)]
  (IC.seq
    (IC.ops false
      [IOper.mk (some 2) (IOp.box 2 (Opd.t 0)) none,
      IOper.mk (some 4) (IOp.alloc [AV.str [], AV.str [], AV.bool false]) none]
      [])
    (IC.seq
      (IC.ops false
      [IOper.mk (some 5) (IOp.mv (Opd.t 1)) none,
      IOper.mk (some 6) (IOp.call (Opd.c (AV.func (Fn.func 140) [] [])) [Opd.t 5]) none,
      IOper.mk (some 7) (IOp.faddr 0 (Opd.t 2)) none, IOper.mk none (IOp.store 1 (Opd.t 7) (Opd.t 6)) none]
      [5, 6, 7])
      (IC.seq
      (IC.seq
      (IC.ops false
      [IOper.mk (some 8) (IOp.load (some 2) (Opd.t 2)) none,
      IOper.mk (some 9) (IOp.call (Opd.c (AV.func (Fn.func 103) [] [])) [Opd.t 8]) none,
      IOper.mk (some 10) (IOp.not (Opd.t 9)) none]
      [8, 9])
      (IC.cond (Opd.t 10)
      (IC.seq
      (IC.ops false
      [IOper.mk (some 11) (IOp.build [AV.str [], AV.str [], AV.bool false] [(2, 1, Opd.c (AV.bool true))])
      none,
      IOper.mk none (IOp.store 3 (Opd.t 4) (Opd.t 11)) none]
      [11])
      IC.ret)
      IC.nop))
      (IC.seq
      (IC.ops false
      [IOper.mk (some 12) (IOp.load (some 2) (Opd.t 2)) none,
      IOper.mk (some 13) (IOp.build [AV.str [], AV.str [], AV.bool false] [(0, 2, Opd.t 12)]) none,
      IOper.mk none (IOp.store 3 (Opd.t 4) (Opd.t 13)) none]
      [12, 13])
      IC.ret))))
theorem fn_cursor_behind : F 131 = some ir_cursor_behind := by kernel_rfl

def ir_fold_Rises : IFun :=
  IFun.mk false 1 [IRes.tmp 2]
  (IC.seq (IC.ops false [IOper.mk (some 2) (IOp.mv (Opd.c (AV.bool false))) none] [])
    (IC.seq
      (IC.seq
      (IC.ops false
      [IOper.mk (some 4) (IOp.mv (Opd.t 0)) none, IOper.mk (some 5) (IOp.len (Opd.t 4)) none,
      IOper.mk (some 6) (IOp.mv (Opd.c (AV.int IntKind.i64 0))) none]
      [4])
      (IC.seq
      (IC.block 0
      (IC.loop
      (IC.seq
      (IC.seq (IC.ops false [IOper.mk (some 7) (IOp.bin BinOp.lss (Opd.t 6) (Opd.t 5)) none] [])
      (IC.seq (IC.cond (Opd.t 7) IC.nop (IC.exit 0))
      (IC.seq
      (IC.seq
      (IC.block 1
      (IC.seq
      (IC.ops false
      [IOper.mk (some 8) (IOp.mv (Opd.t 6)) none, IOper.mk (some 3) (IOp.mv (Opd.t 8)) none]
      [8])
      (IC.seq
      (IC.ops true
      [IOper.mk (some 9) (IOp.mv (Opd.t 3)) none,
      IOper.mk (some 10)
      (IOp.bin BinOp.gtr (Opd.t 9) (Opd.c (AV.int IntKind.i64 0))) none,
      IOper.mk (some 11) (IOp.mv (Opd.t 10)) none,
      IOper.mk (some 12) (IOp.mv (Opd.t 0)) (some (11, true)),
      IOper.mk (some 13) (IOp.mv (Opd.t 3)) (some (11, true)),
      IOper.mk (some 14)
      (IOp.bin BinOp.sub (Opd.t 13) (Opd.c (AV.int IntKind.i64 1)))
      (some (11, true)),
      IOper.mk (some 15) (IOp.ixa 2 (Opd.t 12) (Opd.t 14)) (some (11, true)),
      IOper.mk (some 16) (IOp.faddr 0 (Opd.t 15)) (some (11, true)),
      IOper.mk (some 17) (IOp.load none (Opd.t 16)) (some (11, true)),
      IOper.mk (some 18) (IOp.mv (Opd.t 0)) (some (11, true)),
      IOper.mk (some 19) (IOp.mv (Opd.t 3)) (some (11, true)),
      IOper.mk (some 20) (IOp.ixa 2 (Opd.t 18) (Opd.t 19)) (some (11, true)),
      IOper.mk (some 21) (IOp.faddr 0 (Opd.t 20)) (some (11, true)),
      IOper.mk (some 22) (IOp.load none (Opd.t 21)) (some (11, true)),
      IOper.mk (some 23) (IOp.bin BinOp.geq (Opd.t 17) (Opd.t 22)) (some (11, true)),
      IOper.mk (some 24) (IOp.pick (Opd.t 11) (Opd.t 23) (Opd.c (AV.bool false))) none]
      [9, 10, 11, 12, 13, 14, 15, 16, 17, 18, 19, 20, 21, 22, 23])
      (IC.cond (Opd.t 24)
      (IC.seq (IC.ops false [IOper.mk (some 2) (IOp.mv (Opd.c (AV.bool false))) none] [])
      IC.ret)
      IC.nop))))
      (IC.ops false [] [8, 3, 9, 10, 11, 12, 13, 14, 15, 16, 17, 18, 19, 20, 21, 22, 23, 24]))
      (IC.ops false
      [IOper.mk (some 25) (IOp.bin BinOp.add (Opd.t 6) (Opd.c (AV.int IntKind.i64 1)))
      none,
      IOper.mk (some 6) (IOp.mv (Opd.t 25)) none]
      [25]))))
      (IC.ops false [] [7, 8, 3, 9, 10, 11, 12, 13, 14, 15, 16, 17, 18, 19, 20, 21, 22, 23, 24, 25]))))
      (IC.ops false [] [7, 8, 3, 9, 10, 11, 12, 13, 14, 15, 16, 17, 18, 19, 20, 21, 22, 23, 24, 25])))
      (IC.seq (IC.ops false [IOper.mk (some 2) (IOp.mv (Opd.c (AV.bool true))) none] []) IC.ret)))
theorem fn_fold_Rises : F 128 = some ir_fold_Rises := by kernel_rfl

def ir_key_Point : IFun :=
  IFun.mk false 1 [IRes.cell 2 (some 2)]
  (IC.seq (IC.ops false [IOper.mk (some 2) (IOp.alloc [AV.str [], AV.str []]) none] [])
    (IC.seq
      (IC.ops false
      [IOper.mk (some 3) (IOp.mv (Opd.t 0)) none, IOper.mk (some 4) (IOp.mv (Opd.t 0)) none,
      IOper.mk (some 5) (IOp.call (Opd.c (AV.func (Fn.func 140) [] [])) [Opd.t 4]) none,
      IOper.mk (some 6) (IOp.build [AV.str [], AV.str []] [(0, 1, Opd.t 3), (1, 1, Opd.t 5)]) none,
      IOper.mk none (IOp.store 2 (Opd.t 2) (Opd.t 6)) none]
      [3, 4, 5, 6])
      IC.ret))
theorem fn_key_Point : F 124 = some ir_key_Point := by kernel_rfl

def ir_key_ahead : IFun :=
  IFun.mk false 2 [IRes.tmp 4]
  (IC.seq (IC.ops false [IOper.mk (some 4) (IOp.mv (Opd.c (AV.bool false))) none] [])
    (IC.seq
      (IC.ops false
      [IOper.mk (some 5) (IOp.mv (Opd.t 1)) none,
      IOper.mk (some 6) (IOp.bin BinOp.eql (Opd.t 5) (Opd.c (AV.str []))) none,
      IOper.mk (some 7) (IOp.mv (Opd.t 6)) none, IOper.mk (some 8) (IOp.mv (Opd.t 0)) (some (7, false)),
      IOper.mk (some 9) (IOp.mv (Opd.t 1)) (some (7, false)),
      IOper.mk (some 10) (IOp.bin BinOp.lss (Opd.t 8) (Opd.t 9)) (some (7, false)),
      IOper.mk (some 11) (IOp.pick (Opd.t 7) (Opd.c (AV.bool true)) (Opd.t 10)) none,
      IOper.mk (some 4) (IOp.mv (Opd.t 11)) none]
      [5, 6, 7, 8, 9, 10, 11])
      IC.ret))
theorem fn_key_ahead : F 120 = some ir_key_ahead := by kernel_rfl

def ir_msg_Check : IFun :=
  IFun.mk false 2 [IRes.tmp 4]
  (IC.seq
    (IC.ops false
      [IOper.mk (some 2) (IOp.box 6 (Opd.t 0)) none, IOper.mk (some 3) (IOp.box 9 (Opd.t 1)) none,
      IOper.mk (some 4) (IOp.mv (Opd.c (AV.int IntKind.i64 0))) none]
      [])
    (IC.seq
      (IC.seq
      (IC.ops false
      [IOper.mk (some 5) (IOp.faddr 0 (Opd.t 2)) none, IOper.mk (some 6) (IOp.load none (Opd.t 5)) none,
      IOper.mk (some 7) (IOp.bin BinOp.lss (Opd.t 6) (Opd.c (AV.int IntKind.u8 1))) none,
      IOper.mk (some 8) (IOp.mv (Opd.t 7)) none, IOper.mk (some 9) (IOp.faddr 0 (Opd.t 2)) (some (8, false)),
      IOper.mk (some 10) (IOp.load none (Opd.t 9)) (some (8, false)),
      IOper.mk (some 11) (IOp.bin BinOp.gtr (Opd.t 10) (Opd.c (AV.int IntKind.u8 4)))
      (some (8, false)),
      IOper.mk (some 12) (IOp.pick (Opd.t 8) (Opd.c (AV.bool true)) (Opd.t 11)) none,
      IOper.mk (some 13) (IOp.mv (Opd.t 12)) none,
      IOper.mk (some 14) (IOp.load (some 6) (Opd.t 2)) (some (13, false)),
      IOper.mk (some 15) (IOp.call (Opd.c (AV.func (Fn.func 137) [] [])) [Opd.t 14]) (some (13, false)),
      IOper.mk (some 16)
      (IOp.build
      [AV.int IntKind.u8 0, AV.int IntKind.i64 0, AV.str [], AV.str [], AV.str [],
      AV.int IntKind.u64 0]
      [])
      (some (13, false)),
      IOper.mk (some 17) (IOp.eqa true [(0, 0), (1, 0), (2, 1), (3, 1), (4, 1), (5, 0)] (Opd.t 15) (Opd.t 16))
      (some (13, false)),
      IOper.mk (some 18) (IOp.pick (Opd.t 13) (Opd.c (AV.bool true)) (Opd.t 17)) none]
      [5, 6, 7, 8, 9, 10, 11, 12, 13, 14, 15, 16, 17])
      (IC.cond (Opd.t 18)
      (IC.seq (IC.ops false [IOper.mk (some 4) (IOp.mv (Opd.c (AV.int IntKind.i64 3))) none] []) IC.ret)
      IC.nop))
      (IC.seq
      (IC.seq
      (IC.ops false
      [IOper.mk (some 19) (IOp.faddr 0 (Opd.t 2)) none, IOper.mk (some 20) (IOp.load none (Opd.t 19)) none] [19])
      (IC.seq
      (IC.block 0
      (IC.seq
      (IC.seq
      (IC.block 3
      (IC.seq
      (IC.seq
      (IC.block 2
      (IC.seq
      (IC.seq
      (IC.block 1
      (IC.seq
      (IC.seq
      (IC.seq
      (IC.ops false
      [IOper.mk (some 22)
      (IOp.bin BinOp.eql (Opd.t 20) (Opd.c (AV.int IntKind.u8 4)))
      none,
      IOper.mk (some 21) (IOp.mv (Opd.t 22)) none]
      [22])
      (IC.cond (Opd.t 21) (IC.exit 1) IC.nop))
      (IC.seq
      (IC.ops false
      [IOper.mk (some 24)
      (IOp.bin BinOp.eql (Opd.t 20) (Opd.c (AV.int IntKind.u8 1)))
      none,
      IOper.mk (some 23) (IOp.mv (Opd.t 24)) none]
      [24])
      (IC.cond (Opd.t 23) (IC.exit 2) IC.nop)))
      (IC.exit 3)))
      (IC.ops false [] [22, 21, 24, 23]))
      (IC.seq
      (IC.seq
      (IC.seq
      (IC.ops false
      [IOper.mk (some 25) (IOp.faddr 2 (Opd.t 2)) none,
      IOper.mk (some 26) (IOp.load none (Opd.t 25)) none,
      IOper.mk (some 27) (IOp.lens (Opd.t 26)) none,
      IOper.mk (some 28) (IOp.faddr 0 (Opd.t 3)) none,
      IOper.mk (some 29) (IOp.load none (Opd.t 28)) none,
      IOper.mk (some 30) (IOp.bin BinOp.gtr (Opd.t 27) (Opd.t 29)) none,
      IOper.mk (some 31) (IOp.mv (Opd.t 30)) none,
      IOper.mk (some 32) (IOp.faddr 3 (Opd.t 2)) (some (31, false)),
      IOper.mk (some 33) (IOp.load none (Opd.t 32)) (some (31, false)),
      IOper.mk (some 34) (IOp.lens (Opd.t 33)) (some (31, false)),
      IOper.mk (some 35) (IOp.faddr 0 (Opd.t 3)) (some (31, false)),
      IOper.mk (some 36) (IOp.load none (Opd.t 35)) (some (31, false)),
      IOper.mk (some 37) (IOp.bin BinOp.gtr (Opd.t 34) (Opd.t 36)) (some (31, false)),
      IOper.mk (some 38) (IOp.pick (Opd.t 31) (Opd.c (AV.bool true)) (Opd.t 37)) none]
      [25, 26, 27, 28, 29, 30, 31, 32, 33, 34, 35, 36, 37])
      (IC.cond (Opd.t 38)
      (IC.seq
      (IC.ops false
      [IOper.mk (some 4) (IOp.mv (Opd.c (AV.int IntKind.i64 6))) none] [])
      IC.ret)
      IC.nop))
      (IC.seq
      (IC.ops false
      [IOper.mk (some 39) (IOp.load (some 6) (Opd.t 2)) none,
      IOper.mk (some 40) (IOp.callp 98 [Opd.t 39]) none,
      IOper.mk (some 41) (IOp.call (Opd.c (AV.func (Fn.func 103) [] [])) [Opd.t 40])
      none,
      IOper.mk (some 42) (IOp.not (Opd.t 41)) none]
      [39, 40, 41])
      (IC.cond (Opd.t 42)
      (IC.seq
      (IC.ops false
      [IOper.mk (some 4) (IOp.mv (Opd.c (AV.int IntKind.i64 7))) none] [])
      IC.ret)
      IC.nop)))
      (IC.exit 0))))
      (IC.ops false []
      [22, 21, 24, 23, 25, 26, 27, 28, 29, 30, 31, 32, 33, 34, 35, 36, 37, 38, 39, 40, 41, 42]))
      (IC.seq
      (IC.ops false
      [IOper.mk (some 43) (IOp.faddr 4 (Opd.t 2)) none,
      IOper.mk (some 44) (IOp.load none (Opd.t 43)) none,
      IOper.mk (some 45) (IOp.lens (Opd.t 44)) none,
      IOper.mk (some 46) (IOp.faddr 1 (Opd.t 3)) none,
      IOper.mk (some 47) (IOp.load none (Opd.t 46)) none,
      IOper.mk (some 48) (IOp.bin BinOp.gtr (Opd.t 45) (Opd.t 47)) none]
      [43, 44, 45, 46, 47])
      (IC.cond (Opd.t 48)
      (IC.seq
      (IC.ops false [IOper.mk (some 4) (IOp.mv (Opd.c (AV.int IntKind.i64 6))) none]
      [])
      IC.ret)
      IC.nop))))
      (IC.ops false []
      [22, 21, 24, 23, 25, 26, 27, 28, 29, 30, 31, 32, 33, 34, 35, 36, 37, 38, 39, 40, 41, 42, 43, 44, 45,
      46, 47, 48]))
      (IC.seq
      (IC.seq
      (IC.ops false
      [IOper.mk (some 49) (IOp.faddr 2 (Opd.t 2)) none,
      IOper.mk (some 50) (IOp.load none (Opd.t 49)) none,
      IOper.mk (some 51) (IOp.faddr 0 (Opd.t 3)) none,
      IOper.mk (some 52) (IOp.load none (Opd.t 51)) none,
      IOper.mk (some 53) (IOp.call (Opd.c (AV.func (Fn.func 138) [] [])) [Opd.t 50, Opd.t 52]) none,
      IOper.mk (some 54) (IOp.not (Opd.t 53)) none]
      [49, 50, 51, 52, 53])
      (IC.cond (Opd.t 54)
      (IC.seq
      (IC.ops false [IOper.mk (some 4) (IOp.mv (Opd.c (AV.int IntKind.i64 6))) none] [])
      IC.ret)
      IC.nop))
      (IC.exit 0))))
      (IC.ops false []
      [22, 21, 24, 23, 25, 26, 27, 28, 29, 30, 31, 32, 33, 34, 35, 36, 37, 38, 39, 40, 41, 42, 43, 44, 45, 46,
      47, 48, 49, 50, 51, 52, 53, 54])))
      (IC.seq (IC.ops false [IOper.mk (some 4) (IOp.mv (Opd.c (AV.int IntKind.i64 0))) none] [])
      IC.ret))))
theorem fn_msg_Check : F 121 = some ir_msg_Check := by kernel_rfl

def ir_msg_IsPoint : IFun :=
  IFun.mk false 1 [IRes.tmp 2]
  (IC.seq
    (IC.ops false
      [IOper.mk (some 1) (IOp.box 6 (Opd.t 0)) none, IOper.mk (some 2) (IOp.mv (Opd.c (AV.bool false))) none] [])
    (IC.seq
      (IC.ops false
      [IOper.mk (some 3) (IOp.faddr 0 (Opd.t 1)) none, IOper.mk (some 4) (IOp.load none (Opd.t 3)) none,
      IOper.mk (some 5) (IOp.bin BinOp.eql (Opd.t 4) (Opd.c (AV.int IntKind.u8 1))) none,
      IOper.mk (some 6) (IOp.mv (Opd.t 5)) none, IOper.mk (some 7) (IOp.faddr 0 (Opd.t 1)) (some (6, false)),
      IOper.mk (some 8) (IOp.load none (Opd.t 7)) (some (6, false)),
      IOper.mk (some 9) (IOp.bin BinOp.eql (Opd.t 8) (Opd.c (AV.int IntKind.u8 2))) (some (6, false)),
      IOper.mk (some 10) (IOp.pick (Opd.t 6) (Opd.c (AV.bool true)) (Opd.t 9)) none,
      IOper.mk (some 11) (IOp.mv (Opd.t 10)) none, IOper.mk (some 12) (IOp.faddr 0 (Opd.t 1)) (some (11, false)),
      IOper.mk (some 13) (IOp.load none (Opd.t 12)) (some (11, false)),
      IOper.mk (some 14) (IOp.bin BinOp.eql (Opd.t 13) (Opd.c (AV.int IntKind.u8 3)))
      (some (11, false)),
      IOper.mk (some 15) (IOp.pick (Opd.t 11) (Opd.c (AV.bool true)) (Opd.t 14)) none,
      IOper.mk (some 2) (IOp.mv (Opd.t 15)) none]
      [3, 4, 5, 6, 7, 8, 9, 10, 11, 12, 13, 14, 15])
      IC.ret))
theorem fn_msg_IsPoint : F 123 = some ir_msg_IsPoint := by kernel_rfl

def ir_order_Map_string_string_From_1 : IFun :=
  IFun.mk true 3 []
  (IC.seq
    (IC.ops false
      [IOper.mk (some 4) (IOp.load none (Opd.t 1)) none,
      IOper.mk (some 5) (IOp.eqn 0 true (Opd.t 4) (Opd.c AV.nilptr)) none]
      [4])
    (IC.cond (Opd.t 5)
      (IC.ops false
      [IOper.mk (some 6) (IOp.load none (Opd.t 1)) none, IOper.mk (some 7) (IOp.nilck (Opd.t 6)) none,
      IOper.mk (some 8) (IOp.faddr 0 (Opd.t 7)) none, IOper.mk (some 9) (IOp.load none (Opd.t 8)) none,
      IOper.mk (some 10) (IOp.mv (Opd.t 0)) none,
      IOper.mk (some 11) (IOp.call (Opd.c (AV.func (Fn.func 119) [] [])) [Opd.t 9, Opd.t 2, Opd.t 10]) none]
      [6, 7, 8, 9, 10, 11])
      IC.nop))
theorem fn_order_Map_string_string_From_1 : F 118 = some ir_order_Map_string_string_From_1 := by kernel_rfl
end Go.AS.Wi
