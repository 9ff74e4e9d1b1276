import Derived.Test.YtefnpnokbanbkaaAs1
import Derived.Test.YtefnpnokbanbkaaProg
import Derived.KernelRfl
set_option linter.all false
namespace Go.AS.Ft
open Go Go.AS Go.Proofs
set_option maxRecDepth 100000
def ann : Ann := ⟨[], [], [], [16]⟩
noncomputable abbrev F : Nat → Option IFun := funsOf Try.prog ann

def ir4 : IFun :=
  IFun.mk false 3 [IRes.tmp 6]
  (IC.seq (IC.ops false [IOper.mk (some 6) (IOp.mv (Opd.c (AV.bool false))) none] [])
    (IC.seq
      (IC.ops false
      [IOper.mk (some 14) (IOp.mv (Opd.t 0)) none,
      IOper.mk (some 15) (IOp.call (Opd.c (AV.func (Fn.func 8) [] [])) [Opd.t 14]) none,
      IOper.mk (some 16) (IOp.mv (Opd.t 1)) none,
      IOper.mk (some 17) (IOp.call (Opd.c (AV.func (Fn.func 8) [] [])) [Opd.t 16]) none,
      IOper.mk (some 0) (IOp.mv (Opd.t 15)) none, IOper.mk (some 1) (IOp.mv (Opd.t 17)) none]
      [14, 15, 16, 17])
      (IC.seq
      (IC.ops false
      [IOper.mk (some 18) (IOp.mv (Opd.t 0)) none, IOper.mk (some 19) (IOp.mv (Opd.t 1)) none,
      IOper.mk (some 20) (IOp.call (Opd.c (AV.func (Fn.func 14) [] [])) [Opd.t 18, Opd.t 19]) none,
      IOper.mk (some 7) (IOp.mv (Opd.t 20)) none]
      [18, 19, 20])
      (IC.seq
      (IC.ops false
      [IOper.mk (some 21) (IOp.mv (Opd.t 0)) none, IOper.mk (some 22) (IOp.mv (Opd.t 1)) none,
      IOper.mk (some 23) (IOp.call (Opd.c (AV.func (Fn.func 15) [] [])) [Opd.t 21, Opd.t 22]) none,
      IOper.mk (some 8) (IOp.mv (Opd.t 23)) none]
      [21, 22, 23])
      (IC.seq
      (IC.seq
      (IC.ops false
      [IOper.mk (some 24) (IOp.mv (Opd.t 7)) none, IOper.mk (some 25) (IOp.len (Opd.t 24)) none,
      IOper.mk (some 26) (IOp.mv (Opd.t 8)) none, IOper.mk (some 27) (IOp.len (Opd.t 26)) none,
      IOper.mk (some 28) (IOp.bin BinOp.neq (Opd.t 25) (Opd.t 27)) none]
      [24, 25, 26, 27])
      (IC.cond (Opd.t 28)
      (IC.seq (IC.ops false [IOper.mk (some 6) (IOp.mv (Opd.c (AV.bool false))) none] []) IC.ret) IC.nop))
      (IC.seq (IC.ops false [IOper.mk (some 9) (IOp.mv (Opd.c (AV.int IntKind.i64 0))) none] [])
      (IC.seq
      (IC.seq (IC.ops false [IOper.mk (some 10) (IOp.mv (Opd.c (AV.int IntKind.i64 0))) none] [])
      (IC.seq
      (IC.block 0
      (IC.loop
      (IC.seq
      (IC.seq
      (IC.seq
      (IC.ops false
      [IOper.mk (some 29) (IOp.mv (Opd.t 10)) none,
      IOper.mk (some 30) (IOp.mv (Opd.t 7)) none,
      IOper.mk (some 31) (IOp.len (Opd.t 30)) none,
      IOper.mk (some 32) (IOp.bin BinOp.lss (Opd.t 29) (Opd.t 31)) none]
      [29, 30, 31])
      (IC.cond (Opd.t 32) IC.nop (IC.exit 0)))
      (IC.seq
      (IC.seq
      (IC.block 1
      (IC.seq
      (IC.seq
      (IC.ops true
      [IOper.mk (some 35) (IOp.mv (Opd.t 7)) none,
      IOper.mk (some 36) (IOp.mv (Opd.t 10)) none,
      IOper.mk (some 37) (IOp.ixa 1 (Opd.t 35) (Opd.t 36)) none,
      IOper.mk (some 38) (IOp.load none (Opd.t 37)) none,
      IOper.mk (some 39) (IOp.mv (Opd.t 8)) none,
      IOper.mk (some 40) (IOp.mv (Opd.t 10)) none,
      IOper.mk (some 41) (IOp.ixa 1 (Opd.t 39) (Opd.t 40)) none,
      IOper.mk (some 42) (IOp.load none (Opd.t 41)) none,
      IOper.mk (some 43) (IOp.calls 16 [Opd.t 38, Opd.t 42]) none,
      IOper.mk (some 44) (IOp.not (Opd.t 43)) none,
      IOper.mk (some 45) (IOp.mv (Opd.t 44)) none,
      IOper.mk (some 46) (IOp.mv (Opd.t 7)) (some (45, false)),
      IOper.mk (some 47) (IOp.mv (Opd.t 10)) (some (45, false)),
      IOper.mk (some 48) (IOp.ixa 1 (Opd.t 46) (Opd.t 47)) (some (45, false)),
      IOper.mk (some 49) (IOp.load none (Opd.t 48)) (some (45, false)),
      IOper.mk (some 50) (IOp.len (Opd.t 49)) (some (45, false)),
      IOper.mk (some 51) (IOp.mv (Opd.t 0)) (some (45, false)),
      IOper.mk (some 52) (IOp.len (Opd.t 51)) (some (45, false)),
      IOper.mk (some 53) (IOp.mv (Opd.t 9)) (some (45, false)),
      IOper.mk (some 54) (IOp.bin BinOp.sub (Opd.t 52) (Opd.t 53))
      (some (45, false)),
      IOper.mk (some 55) (IOp.bin BinOp.gtr (Opd.t 50) (Opd.t 54))
      (some (45, false)),
      IOper.mk (some 56) (IOp.pick (Opd.t 45) (Opd.c (AV.bool true)) (Opd.t 55))
      none,
      IOper.mk (some 57) (IOp.mv (Opd.t 56)) none,
      IOper.mk (some 58) (IOp.mv (Opd.t 0)) (some (57, false)),
      IOper.mk (some 59) (IOp.mv (Opd.t 9)) (some (57, false)),
      IOper.mk (some 60) (IOp.mv (Opd.t 9)) (some (57, false)),
      IOper.mk (some 61) (IOp.mv (Opd.t 7)) (some (57, false)),
      IOper.mk (some 62) (IOp.mv (Opd.t 10)) (some (57, false)),
      IOper.mk (some 63) (IOp.ixa 1 (Opd.t 61) (Opd.t 62)) (some (57, false)),
      IOper.mk (some 64) (IOp.load none (Opd.t 63)) (some (57, false)),
      IOper.mk (some 65) (IOp.len (Opd.t 64)) (some (57, false)),
      IOper.mk (some 66) (IOp.bin BinOp.add (Opd.t 60) (Opd.t 65))
      (some (57, false)),
      IOper.mk (some 67)
      (IOp.sub 1 (Opd.t 58) (some (Opd.t 59)) (some (Opd.t 66)) none)
      (some (57, false)),
      IOper.mk (some 68) (IOp.mv (Opd.t 7)) (some (57, false)),
      IOper.mk (some 69) (IOp.mv (Opd.t 10)) (some (57, false)),
      IOper.mk (some 70) (IOp.ixa 1 (Opd.t 68) (Opd.t 69)) (some (57, false)),
      IOper.mk (some 71) (IOp.load none (Opd.t 70)) (some (57, false)),
      IOper.mk (some 72) (IOp.calls 16 [Opd.t 67, Opd.t 71]) (some (57, false)),
      IOper.mk (some 73) (IOp.not (Opd.t 72)) (some (57, false)),
      IOper.mk (some 74) (IOp.pick (Opd.t 57) (Opd.c (AV.bool true)) (Opd.t 73))
      none]
      [35, 36, 37, 38, 39, 40, 41, 42, 43, 44, 45, 46, 47, 48, 49, 50, 51, 52, 53, 54,
      55, 56, 57, 58, 59, 60, 61, 62, 63, 64, 65, 66, 67, 68, 69, 70, 71, 72, 73])
      (IC.cond (Opd.t 74)
      (IC.seq
      (IC.ops false [IOper.mk (some 6) (IOp.mv (Opd.c (AV.bool false))) none] [])
      IC.ret)
      IC.nop))
      (IC.ops false
      [IOper.mk (some 75) (IOp.mv (Opd.t 9)) none,
      IOper.mk (some 76) (IOp.mv (Opd.t 7)) none,
      IOper.mk (some 77) (IOp.mv (Opd.t 10)) none,
      IOper.mk (some 78) (IOp.ixa 1 (Opd.t 76) (Opd.t 77)) none,
      IOper.mk (some 79) (IOp.load none (Opd.t 78)) none,
      IOper.mk (some 80) (IOp.len (Opd.t 79)) none,
      IOper.mk (some 81) (IOp.bin BinOp.add (Opd.t 75) (Opd.t 80)) none,
      IOper.mk (some 9) (IOp.mv (Opd.t 81)) none]
      [75, 76, 77, 78, 79, 80, 81])))
      (IC.ops false []
      [35, 36, 37, 38, 39, 40, 41, 42, 43, 44, 45, 46, 47, 48, 49, 50, 51, 52, 53, 54, 55,
      56, 57, 58, 59, 60, 61, 62, 63, 64, 65, 66, 67, 68, 69, 70, 71, 72, 73, 74, 75, 76,
      77, 78, 79, 80, 81]))
      (IC.ops false
      [IOper.mk (some 33) (IOp.mv (Opd.t 10)) none,
      IOper.mk (some 34)
      (IOp.bin BinOp.add (Opd.t 33) (Opd.c (AV.int IntKind.i64 1))) none,
      IOper.mk (some 10) (IOp.mv (Opd.t 34)) none]
      [33, 34])))
      (IC.ops false []
      [29, 30, 31, 32, 35, 36, 37, 38, 39, 40, 41, 42, 43, 44, 45, 46, 47, 48, 49, 50, 51, 52, 53,
      54, 55, 56, 57, 58, 59, 60, 61, 62, 63, 64, 65, 66, 67, 68, 69, 70, 71, 72, 73, 74, 75,
      76, 77, 78, 79, 80, 81, 33, 34]))))
      (IC.ops false []
      [29, 30, 31, 32, 35, 36, 37, 38, 39, 40, 41, 42, 43, 44, 45, 46, 47, 48, 49, 50, 51, 52, 53, 54,
      55, 56, 57, 58, 59, 60, 61, 62, 63, 64, 65, 66, 67, 68, 69, 70, 71, 72, 73, 74, 75, 76, 77, 78,
      79, 80, 81, 33, 34])))
      (IC.seq
      (IC.seq
      (IC.ops false
      [IOper.mk (some 82) (IOp.mv (Opd.t 2)) none,
      IOper.mk (some 83) (IOp.bin BinOp.gtr (Opd.t 82) (Opd.c (AV.int IntKind.i64 100)))
      none]
      [82])
      (IC.cond (Opd.t 83)
      (IC.seq
      (IC.ops false
      [IOper.mk (some 84) (IOp.call (Opd.c (AV.func (Fn.func 13) [] [])) []) none,
      IOper.mk (some 6) (IOp.mv (Opd.t 84)) none]
      [84])
      IC.ret)
      IC.nop))
      (IC.seq
      (IC.ops false
      [IOper.mk (some 85) (IOp.mv (Opd.t 1)) none, IOper.mk (some 86) (IOp.mv (Opd.t 2)) none,
      IOper.mk (some 87) (IOp.call (Opd.c (AV.func (Fn.func 17) [] [])) [Opd.t 85, Opd.t 86]) none,
      IOper.mk (some 11) (IOp.mv (Opd.t 87)) none]
      [85, 86, 87])
      (IC.seq
      (IC.ops false
      [IOper.mk (some 88) (IOp.bsl false 1 0 [AV.int IntKind.i64 0] []) none,
      IOper.mk (some 12) (IOp.mv (Opd.t 88)) none]
      [88])
      (IC.seq
      (IC.seq
      (IC.ops false [IOper.mk (some 13) (IOp.mv (Opd.c (AV.int IntKind.i64 0))) none]
      [])
      (IC.seq
      (IC.block 2
      (IC.loop
      (IC.seq
      (IC.seq
      (IC.seq
      (IC.ops false
      [IOper.mk (some 89) (IOp.mv (Opd.t 13)) none,
      IOper.mk (some 90) (IOp.mv (Opd.t 2)) none,
      IOper.mk (some 91) (IOp.bin BinOp.lss (Opd.t 89) (Opd.t 90)) none]
      [89, 90])
      (IC.cond (Opd.t 91) IC.nop (IC.exit 2)))
      (IC.seq
      (IC.seq
      (IC.block 3
      (IC.ops false
      [IOper.mk (some 94) (IOp.mv (Opd.t 12)) none,
      IOper.mk (some 95) (IOp.mv (Opd.t 1)) none,
      IOper.mk (some 96) (IOp.append 1 8 (Opd.t 94) (Opd.t 95)) none,
      IOper.mk (some 12) (IOp.mv (Opd.t 96)) none]
      [94, 95, 96]))
      (IC.ops false [] [94, 95, 96]))
      (IC.ops false
      [IOper.mk (some 92) (IOp.mv (Opd.t 13)) none,
      IOper.mk (some 93)
      (IOp.bin BinOp.add (Opd.t 92) (Opd.c (AV.int IntKind.i64 1)))
      none,
      IOper.mk (some 13) (IOp.mv (Opd.t 93)) none]
      [92, 93])))
      (IC.ops false [] [89, 90, 91, 94, 95, 96, 92, 93]))))
      (IC.ops false [] [89, 90, 91, 94, 95, 96, 92, 93])))
      (IC.seq
      (IC.ops false
      [IOper.mk (some 97) (IOp.call (Opd.c (AV.func (Fn.func 13) [] [])) []) none,
      IOper.mk (some 98) (IOp.mv (Opd.t 97)) none,
      IOper.mk (some 99) (IOp.mv (Opd.t 11)) (some (98, true)),
      IOper.mk (some 100) (IOp.mv (Opd.t 12)) (some (98, true)),
      IOper.mk (some 101) (IOp.calls 16 [Opd.t 99, Opd.t 100]) (some (98, true)),
      IOper.mk (some 102) (IOp.pick (Opd.t 98) (Opd.t 101) (Opd.c (AV.bool false))) none,
      IOper.mk (some 6) (IOp.mv (Opd.t 102)) none]
      [97, 98, 99, 100, 101, 102])
      IC.ret))))))))))))
theorem fn4 : F 4 = some ir4 := by kernel_rfl

def ir8 : IFun :=
  IFun.mk false 1 [IRes.tmp 2]
  (IC.seq (IC.ops false [IOper.mk (some 2) (IOp.mv (Opd.c (AV.imm true 0 0 (some 0) []))) none] [])
    (IC.seq
      (IC.ops false
      [IOper.mk (some 3) (IOp.mv (Opd.t 0)) none, IOper.mk (some 4) (IOp.mv (Opd.t 0)) none,
      IOper.mk (some 5) (IOp.len (Opd.t 4)) none,
      IOper.mk (some 6) (IOp.minmax false [Opd.t 5, Opd.c (AV.int IntKind.i64 60)]) none,
      IOper.mk (some 7) (IOp.sub 1 (Opd.t 3) none (some (Opd.t 6)) none) none,
      IOper.mk (some 2) (IOp.mv (Opd.t 7)) none]
      [3, 4, 5, 6, 7])
      IC.ret))
theorem fn8 : F 8 = some ir8 := by kernel_rfl

def ir14 : IFun :=
  IFun.mk false 2 [IRes.tmp 4]
  (IC.seq (IC.ops false [IOper.mk (some 4) (IOp.mv (Opd.c (AV.imm true 0 0 (some 0) []))) none] [])
    (IC.seq (IC.ops false [IOper.mk (some 13) IOp.mkmap none, IOper.mk (some 5) (IOp.mv (Opd.t 13)) none] [13])
      (IC.seq
      (IC.seq
      (IC.ops false
      [IOper.mk (some 14) (IOp.mv (Opd.t 1)) none, IOper.mk (some 15) (IOp.len (Opd.t 14)) none,
      IOper.mk (some 16) (IOp.mv (Opd.c (AV.int IntKind.i64 0))) none]
      [])
      (IC.seq
      (IC.block 0
      (IC.loop
      (IC.seq
      (IC.seq (IC.ops false [IOper.mk (some 17) (IOp.bin BinOp.lss (Opd.t 16) (Opd.t 15)) none] [])
      (IC.seq (IC.cond (Opd.t 17) IC.nop (IC.exit 0))
      (IC.seq
      (IC.seq
      (IC.block 1
      (IC.seq
      (IC.ops false
      [IOper.mk (some 18) (IOp.ixa 1 (Opd.t 14) (Opd.t 16)) none,
      IOper.mk (some 19) (IOp.load none (Opd.t 18)) none,
      IOper.mk (some 7) (IOp.mv (Opd.t 19)) none]
      [18, 19])
      (IC.ops false
      [IOper.mk (some 20) (IOp.mv (Opd.t 5)) none, IOper.mk (some 21) (IOp.mv (Opd.t 7)) none,
      IOper.mk none
      (IOp.mapup 0 (Opd.t 20) (Opd.t 21) (Opd.c (AV.int IntKind.i64 1))) none]
      [20, 21])))
      (IC.ops false [] [18, 19, 7, 20, 21]))
      (IC.ops false
      [IOper.mk (some 22) (IOp.bin BinOp.add (Opd.t 16) (Opd.c (AV.int IntKind.i64 1)))
      none,
      IOper.mk (some 16) (IOp.mv (Opd.t 22)) none]
      [22]))))
      (IC.ops false [] [17, 18, 19, 7, 20, 21, 22]))))
      (IC.ops false [] [17, 18, 19, 7, 20, 21, 22])))
      (IC.seq
      (IC.seq
      (IC.ops false
      [IOper.mk (some 23) (IOp.mv (Opd.t 5)) none, IOper.mk (some 24) (IOp.lenm (Opd.t 23)) none,
      IOper.mk (some 25) (IOp.bin BinOp.eql (Opd.t 24) (Opd.c (AV.int IntKind.i64 0))) none]
      [23, 24])
      (IC.cond (Opd.t 25)
      (IC.seq (IC.ops false [IOper.mk (some 4) (IOp.mv (Opd.c (AV.imm true 0 0 (some 0) []))) none] []) IC.ret)
      IC.nop))
      (IC.seq (IC.ops false [IOper.mk (some 8) (IOp.mv (Opd.c (AV.imm true 0 0 (some 0) []))) none] [])
      (IC.seq (IC.ops false [IOper.mk (some 26) IOp.mkmap none, IOper.mk (some 9) (IOp.mv (Opd.t 26)) none] [26])
      (IC.seq (IC.ops false [IOper.mk (some 10) (IOp.mv (Opd.c (AV.int IntKind.i64 0))) none] [])
      (IC.seq
      (IC.seq
      (IC.ops false
      [IOper.mk (some 27) (IOp.mv (Opd.t 0)) none, IOper.mk (some 28) (IOp.len (Opd.t 27)) none,
      IOper.mk (some 29) (IOp.mv (Opd.c (AV.int IntKind.i64 0))) none]
      [])
      (IC.seq
      (IC.block 2
      (IC.loop
      (IC.seq
      (IC.seq
      (IC.ops false [IOper.mk (some 30) (IOp.bin BinOp.lss (Opd.t 29) (Opd.t 28)) none] [])
      (IC.seq (IC.cond (Opd.t 30) IC.nop (IC.exit 2))
      (IC.seq
      (IC.seq
      (IC.block 3
      (IC.seq
      (IC.ops false
      [IOper.mk (some 31) (IOp.mv (Opd.t 29)) none,
      IOper.mk (some 32) (IOp.ixa 1 (Opd.t 27) (Opd.t 29)) none,
      IOper.mk (some 33) (IOp.load none (Opd.t 32)) none,
      IOper.mk (some 11) (IOp.mv (Opd.t 31)) none,
      IOper.mk (some 12) (IOp.mv (Opd.t 33)) none]
      [31, 32, 33])
      (IC.seq
      (IC.seq
      (IC.ops false
      [IOper.mk (some 34) (IOp.mv (Opd.t 5)) none,
      IOper.mk (some 35) (IOp.mv (Opd.t 12)) none,
      IOper.mk (some 36)
      (IOp.look 0 (AV.int IntKind.i64 0) false (Opd.t 34)
      (Opd.t 35))
      none,
      IOper.mk (some 37)
      (IOp.bin BinOp.gtr (Opd.t 36)
      (Opd.c (AV.int IntKind.i64 0)))
      none]
      [34, 35, 36])
      (IC.cond (Opd.t 37)
      (IC.ops false
      [IOper.mk (some 38) (IOp.mv (Opd.t 9)) none,
      IOper.mk (some 39) (IOp.mv (Opd.t 12)) none,
      IOper.mk none
      (IOp.mapup 0 (Opd.t 38) (Opd.t 39)
      (Opd.c (AV.int IntKind.i64 1)))
      none]
      [38, 39])
      IC.nop))
      (IC.seq
      (IC.ops false
      [IOper.mk (some 40) (IOp.mv (Opd.t 9)) none,
      IOper.mk (some 41) (IOp.lenm (Opd.t 40)) none,
      IOper.mk (some 42) (IOp.mv (Opd.t 5)) none,
      IOper.mk (some 43) (IOp.lenm (Opd.t 42)) none,
      IOper.mk (some 44) (IOp.bin BinOp.eql (Opd.t 41) (Opd.t 43)) none]
      [40, 41, 42, 43])
      (IC.cond (Opd.t 44)
      (IC.seq
      (IC.ops false
      [IOper.mk (some 45) (IOp.mv (Opd.t 8)) none,
      IOper.mk (some 46) (IOp.mv (Opd.t 0)) none,
      IOper.mk (some 47) (IOp.mv (Opd.t 10)) none,
      IOper.mk (some 48) (IOp.mv (Opd.t 11)) none,
      IOper.mk (some 49)
      (IOp.bin BinOp.add (Opd.t 48)
      (Opd.c (AV.int IntKind.i64 1)))
      none,
      IOper.mk (some 50)
      (IOp.sub 1 (Opd.t 46) (some (Opd.t 47)) (some (Opd.t 49)) none)
      none,
      IOper.mk (some 51)
      (IOp.call (Opd.c (AV.func (Fn.func 45) [] [])) [Opd.t 50]) none,
      IOper.mk (some 52)
      (IOp.bsl false 1 1 [AV.imm true 0 0 (some 0) []]
      [(0, 1, Opd.t 51)])
      none,
      IOper.mk (some 53) (IOp.append 1 24 (Opd.t 45) (Opd.t 52)) none,
      IOper.mk (some 8) (IOp.mv (Opd.t 53)) none]
      [45, 46, 47, 48, 49, 50, 51, 52, 53])
      (IC.seq
      (IC.ops false
      [IOper.mk (some 54) (IOp.mv (Opd.t 11)) none,
      IOper.mk (some 55)
      (IOp.bin BinOp.add (Opd.t 54)
      (Opd.c (AV.int IntKind.i64 1)))
      none,
      IOper.mk (some 10) (IOp.mv (Opd.t 55)) none]
      [54, 55])
      (IC.ops false
      [IOper.mk (some 56) (IOp.mv (Opd.t 9)) none,
      IOper.mk none (IOp.clearm (Opd.t 56)) none]
      [56])))
      IC.nop)))))
      (IC.ops false []
      [31, 32, 33, 11, 12, 34, 35, 36, 37, 38, 39, 40, 41, 42, 43, 44, 45, 46, 47, 48,
      49, 50, 51, 52, 53, 54, 55, 56]))
      (IC.ops false
      [IOper.mk (some 57)
      (IOp.bin BinOp.add (Opd.t 29) (Opd.c (AV.int IntKind.i64 1))) none,
      IOper.mk (some 29) (IOp.mv (Opd.t 57)) none]
      [57]))))
      (IC.ops false []
      [30, 31, 32, 33, 11, 12, 34, 35, 36, 37, 38, 39, 40, 41, 42, 43, 44, 45, 46, 47, 48, 49,
      50, 51, 52, 53, 54, 55, 56, 57]))))
      (IC.ops false []
      [30, 31, 32, 33, 11, 12, 34, 35, 36, 37, 38, 39, 40, 41, 42, 43, 44, 45, 46, 47, 48, 49, 50, 51,
      52, 53, 54, 55, 56, 57])))
      (IC.seq
      (IC.ops false
      [IOper.mk (some 58) (IOp.mv (Opd.t 8)) none, IOper.mk (some 4) (IOp.mv (Opd.t 58)) none] [58])
      IC.ret)))))))))
theorem fn14 : F 14 = some ir14 := by kernel_rfl

def ir15 : IFun :=
  IFun.mk false 2 [IRes.tmp 4]
  (IC.seq (IC.ops false [IOper.mk (some 4) (IOp.mv (Opd.c (AV.imm true 0 0 (some 0) []))) none] [])
    (IC.seq
      (IC.ops false
      [IOper.mk (some 10) (IOp.bsl false 1 0 [AV.imm true 0 0 (some 0) []] []) none,
      IOper.mk (some 5) (IOp.mv (Opd.t 10)) none]
      [10])
      (IC.seq (IC.ops false [IOper.mk (some 6) (IOp.mv (Opd.c (AV.int IntKind.i64 0))) none] [])
      (IC.seq
      (IC.seq (IC.ops false [IOper.mk (some 7) (IOp.mv (Opd.c (AV.int IntKind.i64 0))) none] [])
      (IC.seq
      (IC.block 0
      (IC.loop
      (IC.seq
      (IC.seq
      (IC.seq
      (IC.ops false
      [IOper.mk (some 11) (IOp.mv (Opd.t 7)) none, IOper.mk (some 12) (IOp.mv (Opd.t 0)) none,
      IOper.mk (some 13) (IOp.len (Opd.t 12)) none,
      IOper.mk (some 14) (IOp.bin BinOp.lss (Opd.t 11) (Opd.t 13)) none]
      [11, 12, 13])
      (IC.cond (Opd.t 14) IC.nop (IC.exit 0)))
      (IC.seq
      (IC.seq
      (IC.block 1
      (IC.seq
      (IC.ops false
      [IOper.mk (some 17) (IOp.mv (Opd.t 1)) none,
      IOper.mk (some 18) (IOp.len (Opd.t 17)) none,
      IOper.mk (some 19)
      (IOp.bin BinOp.gtr (Opd.t 18) (Opd.c (AV.int IntKind.i64 0))) none,
      IOper.mk (some 8) (IOp.mv (Opd.t 19)) none]
      [17, 18, 19])
      (IC.seq
      (IC.seq
      (IC.ops false
      [IOper.mk (some 9) (IOp.mv (Opd.c (AV.int IntKind.i64 0))) none] [])
      (IC.seq
      (IC.block 2
      (IC.loop
      (IC.seq
      (IC.seq
      (IC.seq
      (IC.ops false
      [IOper.mk (some 20) (IOp.mv (Opd.t 9)) none,
      IOper.mk (some 21) (IOp.mv (Opd.t 1)) none,
      IOper.mk (some 22) (IOp.len (Opd.t 21)) none,
      IOper.mk (some 23) (IOp.bin BinOp.lss (Opd.t 20) (Opd.t 22)) none]
      [20, 21, 22])
      (IC.cond (Opd.t 23) IC.nop (IC.exit 2)))
      (IC.seq
      (IC.seq
      (IC.block 3
      (IC.ops true
      [IOper.mk (some 26) (IOp.mv (Opd.t 8)) none,
      IOper.mk (some 27) (IOp.mv (Opd.t 26)) none,
      IOper.mk (some 28) (IOp.mv (Opd.t 0)) (some (27, true)),
      IOper.mk (some 29) (IOp.mv (Opd.t 6)) (some (27, true)),
      IOper.mk (some 30) (IOp.mv (Opd.t 7)) (some (27, true)),
      IOper.mk (some 31)
      (IOp.bin BinOp.add (Opd.t 30)
      (Opd.c (AV.int IntKind.i64 1)))
      (some (27, true)),
      IOper.mk (some 32)
      (IOp.sub 1 (Opd.t 28) (some (Opd.t 29)) (some (Opd.t 31)) none)
      (some (27, true)),
      IOper.mk (some 33) (IOp.mv (Opd.t 1)) (some (27, true)),
      IOper.mk (some 34) (IOp.mv (Opd.t 9)) (some (27, true)),
      IOper.mk (some 35) (IOp.ixa 1 (Opd.t 33) (Opd.t 34))
      (some (27, true)),
      IOper.mk (some 36) (IOp.load none (Opd.t 35)) (some (27, true)),
      IOper.mk (some 37)
      (IOp.call (Opd.c (AV.func (Fn.func 44) [] []))
      [Opd.t 32, Opd.t 36])
      (some (27, true)),
      IOper.mk (some 38)
      (IOp.pick (Opd.t 27) (Opd.t 37) (Opd.c (AV.bool false))) none,
      IOper.mk (some 8) (IOp.mv (Opd.t 38)) none]
      [26, 27, 28, 29, 30, 31, 32, 33, 34, 35, 36, 37, 38]))
      (IC.ops false [] [26, 27, 28, 29, 30, 31, 32, 33, 34, 35, 36, 37, 38]))
      (IC.ops false
      [IOper.mk (some 24) (IOp.mv (Opd.t 9)) none,
      IOper.mk (some 25)
      (IOp.bin BinOp.add (Opd.t 24)
      (Opd.c (AV.int IntKind.i64 1)))
      none,
      IOper.mk (some 9) (IOp.mv (Opd.t 25)) none]
      [24, 25])))
      (IC.ops false []
      [20, 21, 22, 23, 26, 27, 28, 29, 30, 31, 32, 33, 34, 35, 36, 37, 38, 24,
      25]))))
      (IC.ops false []
      [20, 21, 22, 23, 26, 27, 28, 29, 30, 31, 32, 33, 34, 35, 36, 37, 38, 24, 25])))
      (IC.seq (IC.ops false [IOper.mk (some 39) (IOp.mv (Opd.t 8)) none] [])
      (IC.cond (Opd.t 39)
      (IC.seq
      (IC.ops false
      [IOper.mk (some 40) (IOp.mv (Opd.t 5)) none,
      IOper.mk (some 41) (IOp.mv (Opd.t 0)) none,
      IOper.mk (some 42) (IOp.mv (Opd.t 6)) none,
      IOper.mk (some 43) (IOp.mv (Opd.t 7)) none,
      IOper.mk (some 44)
      (IOp.bin BinOp.add (Opd.t 43) (Opd.c (AV.int IntKind.i64 1)))
      none,
      IOper.mk (some 45)
      (IOp.sub 1 (Opd.t 41) (some (Opd.t 42)) (some (Opd.t 44)) none) none,
      IOper.mk (some 46)
      (IOp.bsl false 1 1 [AV.imm true 0 0 (some 0) []] [(0, 1, Opd.t 45)]) none,
      IOper.mk (some 47) (IOp.append 1 24 (Opd.t 40) (Opd.t 46)) none,
      IOper.mk (some 5) (IOp.mv (Opd.t 47)) none]
      [40, 41, 42, 43, 44, 45, 46, 47])
      (IC.ops false
      [IOper.mk (some 48) (IOp.mv (Opd.t 7)) none,
      IOper.mk (some 49)
      (IOp.bin BinOp.add (Opd.t 48) (Opd.c (AV.int IntKind.i64 1)))
      none,
      IOper.mk (some 6) (IOp.mv (Opd.t 49)) none]
      [48, 49]))
      IC.nop)))))
      (IC.ops false []
      [17, 18, 19, 20, 21, 22, 23, 26, 27, 28, 29, 30, 31, 32, 33, 34, 35, 36, 37, 38, 8, 24, 25,
      9, 39, 40, 41, 42, 43, 44, 45, 46, 47, 48, 49]))
      (IC.ops false
      [IOper.mk (some 15) (IOp.mv (Opd.t 7)) none,
      IOper.mk (some 16) (IOp.bin BinOp.add (Opd.t 15) (Opd.c (AV.int IntKind.i64 1)))
      none,
      IOper.mk (some 7) (IOp.mv (Opd.t 16)) none]
      [15, 16])))
      (IC.ops false []
      [11, 12, 13, 14, 17, 18, 19, 20, 21, 22, 23, 26, 27, 28, 29, 30, 31, 32, 33, 34, 35, 36, 37, 38,
      8, 24, 25, 9, 39, 40, 41, 42, 43, 44, 45, 46, 47, 48, 49, 15, 16]))))
      (IC.ops false []
      [11, 12, 13, 14, 17, 18, 19, 20, 21, 22, 23, 26, 27, 28, 29, 30, 31, 32, 33, 34, 35, 36, 37, 38, 8, 24,
      25, 9, 39, 40, 41, 42, 43, 44, 45, 46, 47, 48, 49, 15, 16])))
      (IC.seq
      (IC.ops false [IOper.mk (some 50) (IOp.mv (Opd.t 5)) none, IOper.mk (some 4) (IOp.mv (Opd.t 50)) none] [50])
      IC.ret)))))
theorem fn15 : F 15 = some ir15 := by kernel_rfl

def ir16 : IFun :=
  IFun.mk false 2 [IRes.tmp 4]
  (IC.seq (IC.ops false [IOper.mk (some 4) (IOp.mv (Opd.c (AV.bool false))) none] [])
    (IC.seq
      (IC.seq
      (IC.ops false
      [IOper.mk (some 6) (IOp.mv (Opd.t 0)) none, IOper.mk (some 7) (IOp.len (Opd.t 6)) none,
      IOper.mk (some 8) (IOp.mv (Opd.t 1)) none, IOper.mk (some 9) (IOp.len (Opd.t 8)) none,
      IOper.mk (some 10) (IOp.bin BinOp.neq (Opd.t 7) (Opd.t 9)) none]
      [6, 7, 8, 9])
      (IC.cond (Opd.t 10) (IC.seq (IC.ops false [IOper.mk (some 4) (IOp.mv (Opd.c (AV.bool false))) none] []) IC.ret)
      IC.nop))
      (IC.seq
      (IC.seq (IC.ops false [IOper.mk (some 5) (IOp.mv (Opd.c (AV.int IntKind.i64 0))) none] [])
      (IC.seq
      (IC.block 0
      (IC.loop
      (IC.seq
      (IC.seq
      (IC.seq
      (IC.ops false
      [IOper.mk (some 11) (IOp.mv (Opd.t 5)) none, IOper.mk (some 12) (IOp.mv (Opd.t 0)) none,
      IOper.mk (some 13) (IOp.len (Opd.t 12)) none,
      IOper.mk (some 14) (IOp.bin BinOp.lss (Opd.t 11) (Opd.t 13)) none]
      [11, 12, 13])
      (IC.cond (Opd.t 14) IC.nop (IC.exit 0)))
      (IC.seq
      (IC.seq
      (IC.block 1
      (IC.seq
      (IC.ops true
      [IOper.mk (some 17) (IOp.mv (Opd.t 0)) none, IOper.mk (some 18) (IOp.mv (Opd.t 5)) none,
      IOper.mk (some 19) (IOp.ixa 1 (Opd.t 17) (Opd.t 18)) none,
      IOper.mk (some 20) (IOp.load none (Opd.t 19)) none,
      IOper.mk (some 21) (IOp.mv (Opd.t 1)) none, IOper.mk (some 22) (IOp.mv (Opd.t 5)) none,
      IOper.mk (some 23) (IOp.ixa 1 (Opd.t 21) (Opd.t 22)) none,
      IOper.mk (some 24) (IOp.load none (Opd.t 23)) none,
      IOper.mk (some 25) (IOp.bin BinOp.neq (Opd.t 20) (Opd.t 24)) none]
      [17, 18, 19, 20, 21, 22, 23, 24])
      (IC.cond (Opd.t 25)
      (IC.seq (IC.ops false [IOper.mk (some 4) (IOp.mv (Opd.c (AV.bool false))) none] [])
      IC.ret)
      IC.nop)))
      (IC.ops false [] [17, 18, 19, 20, 21, 22, 23, 24, 25]))
      (IC.ops false
      [IOper.mk (some 15) (IOp.mv (Opd.t 5)) none,
      IOper.mk (some 16) (IOp.bin BinOp.add (Opd.t 15) (Opd.c (AV.int IntKind.i64 1)))
      none,
      IOper.mk (some 5) (IOp.mv (Opd.t 16)) none]
      [15, 16])))
      (IC.ops false [] [11, 12, 13, 14, 17, 18, 19, 20, 21, 22, 23, 24, 25, 15, 16]))))
      (IC.ops false [] [11, 12, 13, 14, 17, 18, 19, 20, 21, 22, 23, 24, 25, 15, 16])))
      (IC.seq (IC.ops false [IOper.mk (some 4) (IOp.mv (Opd.c (AV.bool true))) none] []) IC.ret))))
theorem fn16 : F 16 = some ir16 := by kernel_rfl

def ir17 : IFun :=
  IFun.mk false 2 [IRes.tmp 4]
  (IC.seq (IC.ops false [IOper.mk (some 4) (IOp.mv (Opd.c (AV.imm true 0 0 (some 0) []))) none] [])
    (IC.seq
      (IC.seq
      (IC.ops false
      [IOper.mk (some 5) (IOp.mv (Opd.t 0)) none, IOper.mk (some 6) (IOp.len (Opd.t 5)) none,
      IOper.mk (some 7) (IOp.bin BinOp.gtr (Opd.t 6) (Opd.c (AV.int IntKind.i64 0))) none]
      [5, 6])
      (IC.cond (Opd.t 7)
      (IC.ops false
      [IOper.mk (some 8) (IOp.mv (Opd.t 1)) none, IOper.mk (some 9) (IOp.mv (Opd.t 0)) none,
      IOper.mk (some 10) (IOp.len (Opd.t 9)) none,
      IOper.mk (some 11) (IOp.bin BinOp.quo (Opd.c (AV.int IntKind.i64 2147483647)) (Opd.t 10))
      none,
      IOper.mk (some 12) (IOp.minmax false [Opd.t 8, Opd.t 11]) none,
      IOper.mk (some 1) (IOp.mv (Opd.t 12)) none]
      [8, 9, 10, 11, 12])
      IC.nop))
      (IC.seq
      (IC.ops false
      [IOper.mk (some 13) (IOp.mv (Opd.t 0)) none, IOper.mk (some 14) (IOp.mv (Opd.t 1)) none,
      IOper.mk (some 15) (IOp.minmax false [Opd.t 14, Opd.c (AV.int IntKind.i64 2147483647)]) none,
      IOper.mk (some 16) (IOp.minmax true [Opd.t 15, Opd.c (AV.int IntKind.i64 0)]) none,
      IOper.mk (some 17) (IOp.call (Opd.c (AV.func (Fn.func 46) [] [])) [Opd.t 13, Opd.t 16]) none,
      IOper.mk (some 4) (IOp.mv (Opd.t 17)) none]
      [13, 14, 15, 16, 17])
      IC.ret)))
theorem fn17 : F 17 = some ir17 := by kernel_rfl

def ir44 : IFun :=
  IFun.mk false 2 [IRes.tmp 4]
  (IC.seq (IC.ops false [IOper.mk (some 4) (IOp.mv (Opd.c (AV.bool false))) none] [])
    (IC.seq
      (IC.seq (IC.ops false [IOper.mk (some 5) (IOp.mv (Opd.c (AV.int IntKind.i64 0))) none] [])
      (IC.seq
      (IC.block 0
      (IC.loop
      (IC.seq
      (IC.seq
      (IC.seq
      (IC.ops false
      [IOper.mk (some 6) (IOp.mv (Opd.t 5)) none, IOper.mk (some 7) (IOp.mv (Opd.t 0)) none,
      IOper.mk (some 8) (IOp.len (Opd.t 7)) none,
      IOper.mk (some 9) (IOp.bin BinOp.lss (Opd.t 6) (Opd.t 8)) none]
      [6, 7, 8])
      (IC.cond (Opd.t 9) IC.nop (IC.exit 0)))
      (IC.seq
      (IC.seq
      (IC.block 1
      (IC.seq
      (IC.ops false
      [IOper.mk (some 12) (IOp.mv (Opd.t 0)) none, IOper.mk (some 13) (IOp.mv (Opd.t 5)) none,
      IOper.mk (some 14) (IOp.ixa 1 (Opd.t 12) (Opd.t 13)) none,
      IOper.mk (some 15) (IOp.load none (Opd.t 14)) none,
      IOper.mk (some 16) (IOp.mv (Opd.t 1)) none,
      IOper.mk (some 17) (IOp.bin BinOp.eql (Opd.t 15) (Opd.t 16)) none]
      [12, 13, 14, 15, 16])
      (IC.cond (Opd.t 17)
      (IC.seq (IC.ops false [IOper.mk (some 4) (IOp.mv (Opd.c (AV.bool true))) none] []) IC.ret)
      IC.nop)))
      (IC.ops false [] [12, 13, 14, 15, 16, 17]))
      (IC.ops false
      [IOper.mk (some 10) (IOp.mv (Opd.t 5)) none,
      IOper.mk (some 11) (IOp.bin BinOp.add (Opd.t 10) (Opd.c (AV.int IntKind.i64 1)))
      none,
      IOper.mk (some 5) (IOp.mv (Opd.t 11)) none]
      [10, 11])))
      (IC.ops false [] [6, 7, 8, 9, 12, 13, 14, 15, 16, 17, 10, 11]))))
      (IC.ops false [] [6, 7, 8, 9, 12, 13, 14, 15, 16, 17, 10, 11])))
      (IC.seq (IC.ops false [IOper.mk (some 4) (IOp.mv (Opd.c (AV.bool false))) none] []) IC.ret)))
theorem fn44 : F 44 = some ir44 := by kernel_rfl

def ir45 : IFun :=
  IFun.mk false 1 [IRes.tmp 2]
  (IC.seq (IC.ops false [IOper.mk (some 2) (IOp.mv (Opd.c (AV.imm true 0 0 (some 0) []))) none] [])
    (IC.seq
      (IC.seq
      (IC.ops false
      [IOper.mk (some 3) (IOp.mv (Opd.t 0)) none,
      IOper.mk (some 4) (IOp.eqn 1 false (Opd.t 3) (Opd.c (AV.imm true 0 0 (some 0) []))) none]
      [3])
      (IC.cond (Opd.t 4)
      (IC.seq (IC.ops false [IOper.mk (some 2) (IOp.mv (Opd.c (AV.imm true 0 0 (some 0) []))) none] []) IC.ret)
      IC.nop))
      (IC.seq
      (IC.ops false
      [IOper.mk (some 5) (IOp.bsl false 1 0 [AV.int IntKind.i64 0] []) none,
      IOper.mk (some 6) (IOp.mv (Opd.t 0)) none, IOper.mk (some 7) (IOp.append 1 8 (Opd.t 5) (Opd.t 6)) none,
      IOper.mk (some 2) (IOp.mv (Opd.t 7)) none]
      [5, 6, 7])
      IC.ret)))
theorem fn45 : F 45 = some ir45 := by kernel_rfl

def ir46 : IFun :=
  IFun.mk false 2 [IRes.tmp 4]
  (IC.seq (IC.ops false [IOper.mk (some 4) (IOp.mv (Opd.c (AV.imm true 0 0 (some 0) []))) none] [])
    (IC.seq
      (IC.seq
      (IC.ops false
      [IOper.mk (some 9) (IOp.mv (Opd.t 1)) none,
      IOper.mk (some 10) (IOp.bin BinOp.lss (Opd.t 9) (Opd.c (AV.int IntKind.i64 0))) none]
      [9])
      (IC.cond (Opd.t 10)
      (IC.ops false
      [IOper.mk (some 11)
      (IOp.mkif 9
      (Opd.c
      (AV.str
      [UInt8.ofNat 99, UInt8.ofNat 97, UInt8.ofNat 110, UInt8.ofNat 110, UInt8.ofNat 111,
      UInt8.ofNat 116, UInt8.ofNat 32, UInt8.ofNat 98, UInt8.ofNat 101, UInt8.ofNat 32,
      UInt8.ofNat 110, UInt8.ofNat 101, UInt8.ofNat 103, UInt8.ofNat 97, UInt8.ofNat 116,
      UInt8.ofNat 105, UInt8.ofNat 118, UInt8.ofNat 101])))
      none,
      IOper.mk none (IOp.panic (Opd.t 11)) none]
      [11])
      IC.nop))
      (IC.seq
      (IC.ops false
      [IOper.mk (some 13) (IOp.mv (Opd.t 0)) none, IOper.mk (some 14) (IOp.len (Opd.t 13)) none,
      IOper.mk (some 15) (IOp.conv IntKind.u64 (Opd.t 14)) none, IOper.mk (some 16) (IOp.mv (Opd.t 1)) none,
      IOper.mk (some 17) (IOp.conv IntKind.u64 (Opd.t 16)) none,
      IOper.mk (some 18) (IOp.call (Opd.c (AV.func (Fn.func 64) [] [])) [Opd.t 15, Opd.t 17]) none,
      IOper.mk (some 12) (IOp.mv (Opd.t 18)) none, IOper.mk (some 19) (IOp.extr (Opd.t 12) 0) none,
      IOper.mk (some 20) (IOp.extr (Opd.t 12) 1) none, IOper.mk (some 5) (IOp.mv (Opd.t 19)) none,
      IOper.mk (some 6) (IOp.mv (Opd.t 20)) none]
      [13, 14, 15, 16, 17, 18, 12, 19, 20])
      (IC.seq
      (IC.seq
      (IC.ops false
      [IOper.mk (some 21) (IOp.mv (Opd.t 5)) none,
      IOper.mk (some 22) (IOp.bin BinOp.gtr (Opd.t 21) (Opd.c (AV.int IntKind.u64 0))) none,
      IOper.mk (some 23) (IOp.mv (Opd.t 22)) none, IOper.mk (some 24) (IOp.mv (Opd.t 6)) (some (23, false)),
      IOper.mk (some 25)
      (IOp.bin BinOp.gtr (Opd.t 24) (Opd.c (AV.int IntKind.u64 9223372036854775807)))
      (some (23, false)),
      IOper.mk (some 26) (IOp.pick (Opd.t 23) (Opd.c (AV.bool true)) (Opd.t 25)) none]
      [21, 22, 23, 24, 25])
      (IC.cond (Opd.t 26)
      (IC.ops false
      [IOper.mk (some 27)
      (IOp.mkif 9
      (Opd.c
      (AV.str
      [UInt8.ofNat 116, UInt8.ofNat 104, UInt8.ofNat 101, UInt8.ofNat 32, UInt8.ofNat 114,
      UInt8.ofNat 101, UInt8.ofNat 115, UInt8.ofNat 117, UInt8.ofNat 108, UInt8.ofNat 116,
      UInt8.ofNat 32, UInt8.ofNat 111, UInt8.ofNat 102, UInt8.ofNat 32, UInt8.ofNat 40,
      UInt8.ofNat 108, UInt8.ofNat 101, UInt8.ofNat 110, UInt8.ofNat 40, UInt8.ofNat 120,
      UInt8.ofNat 41, UInt8.ofNat 32, UInt8.ofNat 42, UInt8.ofNat 32, UInt8.ofNat 99,
      UInt8.ofNat 111, UInt8.ofNat 117, UInt8.ofNat 110, UInt8.ofNat 116, UInt8.ofNat 41,
      UInt8.ofNat 32, UInt8.ofNat 111, UInt8.ofNat 118, UInt8.ofNat 101, UInt8.ofNat 114,
      UInt8.ofNat 102, UInt8.ofNat 108, UInt8.ofNat 111, UInt8.ofNat 119, UInt8.ofNat 115])))
      none,
      IOper.mk none (IOp.panic (Opd.t 27)) none]
      [27])
      IC.nop))
      (IC.seq
      (IC.ops false
      [IOper.mk (some 28) (IOp.mv (Opd.t 6)) none, IOper.mk (some 29) (IOp.conv IntKind.i64 (Opd.t 28)) none,
      IOper.mk (some 30) (IOp.mksl 1 8 [AV.int IntKind.i64 0] (Opd.t 29) (Opd.t 29)) none,
      IOper.mk (some 7) (IOp.mv (Opd.t 30)) none]
      [28, 29, 30])
      (IC.seq
      (IC.ops false
      [IOper.mk (some 31) (IOp.mv (Opd.t 7)) none, IOper.mk (some 32) (IOp.mv (Opd.t 0)) none,
      IOper.mk (some 33) (IOp.copy 1 (Opd.t 31) (Opd.t 32)) none,
      IOper.mk (some 8) (IOp.mv (Opd.t 33)) none]
      [31, 32, 33])
      (IC.seq
      (IC.seq
      (IC.block 0
      (IC.loop
      (IC.seq
      (IC.seq
      (IC.seq
      (IC.ops false
      [IOper.mk (some 34) (IOp.mv (Opd.t 8)) none, IOper.mk (some 35) (IOp.mv (Opd.t 7)) none,
      IOper.mk (some 36) (IOp.len (Opd.t 35)) none,
      IOper.mk (some 37) (IOp.bin BinOp.lss (Opd.t 34) (Opd.t 36)) none]
      [34, 35, 36])
      (IC.cond (Opd.t 37) IC.nop (IC.exit 0)))
      (IC.seq
      (IC.block 1
      (IC.ops true
      [IOper.mk (some 38) (IOp.mv (Opd.t 8)) none, IOper.mk (some 39) (IOp.mv (Opd.t 7)) none,
      IOper.mk (some 40) (IOp.mv (Opd.t 8)) none,
      IOper.mk (some 41) (IOp.sub 1 (Opd.t 39) (some (Opd.t 40)) none none) none,
      IOper.mk (some 42) (IOp.mv (Opd.t 7)) none,
      IOper.mk (some 43) (IOp.mv (Opd.t 8)) none,
      IOper.mk (some 44) (IOp.sub 1 (Opd.t 42) none (some (Opd.t 43)) none) none,
      IOper.mk (some 45) (IOp.copy 1 (Opd.t 41) (Opd.t 44)) none,
      IOper.mk (some 46) (IOp.bin BinOp.add (Opd.t 38) (Opd.t 45)) none,
      IOper.mk (some 8) (IOp.mv (Opd.t 46)) none]
      [38, 39, 40, 41, 42, 43, 44, 45, 46]))
      (IC.ops false [] [38, 39, 40, 41, 42, 43, 44, 45, 46])))
      (IC.ops false [] [34, 35, 36, 37, 38, 39, 40, 41, 42, 43, 44, 45, 46]))))
      (IC.ops false [] [34, 35, 36, 37, 38, 39, 40, 41, 42, 43, 44, 45, 46]))
      (IC.seq
      (IC.ops false [IOper.mk (some 47) (IOp.mv (Opd.t 7)) none, IOper.mk (some 4) (IOp.mv (Opd.t 47)) none]
      [47])
      IC.ret))))))))
theorem fn46 : F 46 = some ir46 := by kernel_rfl

def ir64 : IFun :=
  IFun.mk false 2 [IRes.tmp 4, IRes.tmp 5]
  (IC.seq
    (IC.ops false
      [IOper.mk (some 4) (IOp.mv (Opd.c (AV.int IntKind.u64 0))) none,
      IOper.mk (some 5) (IOp.mv (Opd.c (AV.int IntKind.u64 0))) none]
      [])
    (IC.seq
      (IC.cond (Opd.c (AV.bool false))
      (IC.seq
      (IC.ops false
      [IOper.mk (some 11) (IOp.mv (Opd.t 0)) none, IOper.mk (some 12) (IOp.conv IntKind.u32 (Opd.t 11)) none,
      IOper.mk (some 13) (IOp.mv (Opd.t 1)) none, IOper.mk (some 14) (IOp.conv IntKind.u32 (Opd.t 13)) none,
      IOper.mk (some 15) (IOp.call (Opd.c (AV.func (Fn.func 80) [] [])) [Opd.t 12, Opd.t 14]) none,
      IOper.mk (some 10) (IOp.mv (Opd.t 15)) none, IOper.mk (some 16) (IOp.extr (Opd.t 10) 0) none,
      IOper.mk (some 17) (IOp.extr (Opd.t 10) 1) none, IOper.mk (some 6) (IOp.mv (Opd.t 16)) none,
      IOper.mk (some 7) (IOp.mv (Opd.t 17)) none]
      [11, 12, 13, 14, 15, 10, 16, 17])
      (IC.seq
      (IC.ops false
      [IOper.mk (some 18) (IOp.mv (Opd.t 6)) none, IOper.mk (some 19) (IOp.conv IntKind.u64 (Opd.t 18)) none,
      IOper.mk (some 20) (IOp.mv (Opd.t 7)) none, IOper.mk (some 21) (IOp.conv IntKind.u64 (Opd.t 20)) none,
      IOper.mk (some 4) (IOp.mv (Opd.t 19)) none, IOper.mk (some 5) (IOp.mv (Opd.t 21)) none]
      [18, 19, 20, 21])
      IC.ret))
      IC.nop)
      (IC.seq
      (IC.ops false
      [IOper.mk (some 23) (IOp.mv (Opd.t 0)) none, IOper.mk (some 24) (IOp.mv (Opd.t 1)) none,
      IOper.mk (some 25) (IOp.call (Opd.c (AV.func (Fn.func 81) [] [])) [Opd.t 23, Opd.t 24]) none,
      IOper.mk (some 22) (IOp.mv (Opd.t 25)) none, IOper.mk (some 26) (IOp.extr (Opd.t 22) 0) none,
      IOper.mk (some 27) (IOp.extr (Opd.t 22) 1) none, IOper.mk (some 8) (IOp.mv (Opd.t 26)) none,
      IOper.mk (some 9) (IOp.mv (Opd.t 27)) none]
      [23, 24, 25, 22, 26, 27])
      (IC.seq
      (IC.ops false
      [IOper.mk (some 28) (IOp.mv (Opd.t 8)) none, IOper.mk (some 29) (IOp.mv (Opd.t 9)) none,
      IOper.mk (some 4) (IOp.mv (Opd.t 28)) none, IOper.mk (some 5) (IOp.mv (Opd.t 29)) none]
      [28, 29])
      IC.ret))))
theorem fn64 : F 64 = some ir64 := by kernel_rfl

def ir81 : IFun :=
  IFun.mk false 2 [IRes.tmp 4, IRes.tmp 5]
  (IC.seq
    (IC.ops false
      [IOper.mk (some 4) (IOp.mv (Opd.c (AV.int IntKind.u64 0))) none,
      IOper.mk (some 5) (IOp.mv (Opd.c (AV.int IntKind.u64 0))) none]
      [])
    (IC.seq
      (IC.ops false
      [IOper.mk (some 14) (IOp.mv (Opd.t 0)) none,
      IOper.mk (some 15) (IOp.bin BinOp.and (Opd.t 14) (Opd.c (AV.int IntKind.u64 4294967295))) none,
      IOper.mk (some 6) (IOp.mv (Opd.t 15)) none]
      [14, 15])
      (IC.seq
      (IC.ops false
      [IOper.mk (some 16) (IOp.mv (Opd.t 0)) none,
      IOper.mk (some 17) (IOp.bin BinOp.shr (Opd.t 16) (Opd.c (AV.int IntKind.u64 32))) none,
      IOper.mk (some 7) (IOp.mv (Opd.t 17)) none]
      [16, 17])
      (IC.seq
      (IC.ops false
      [IOper.mk (some 18) (IOp.mv (Opd.t 1)) none,
      IOper.mk (some 19) (IOp.bin BinOp.and (Opd.t 18) (Opd.c (AV.int IntKind.u64 4294967295)))
      none,
      IOper.mk (some 8) (IOp.mv (Opd.t 19)) none]
      [18, 19])
      (IC.seq
      (IC.ops false
      [IOper.mk (some 20) (IOp.mv (Opd.t 1)) none,
      IOper.mk (some 21) (IOp.bin BinOp.shr (Opd.t 20) (Opd.c (AV.int IntKind.u64 32))) none,
      IOper.mk (some 9) (IOp.mv (Opd.t 21)) none]
      [20, 21])
      (IC.seq
      (IC.ops false
      [IOper.mk (some 22) (IOp.mv (Opd.t 6)) none, IOper.mk (some 23) (IOp.mv (Opd.t 8)) none,
      IOper.mk (some 24) (IOp.bin BinOp.mul (Opd.t 22) (Opd.t 23)) none,
      IOper.mk (some 10) (IOp.mv (Opd.t 24)) none]
      [22, 23, 24])
      (IC.seq
      (IC.ops false
      [IOper.mk (some 25) (IOp.mv (Opd.t 7)) none, IOper.mk (some 26) (IOp.mv (Opd.t 8)) none,
      IOper.mk (some 27) (IOp.bin BinOp.mul (Opd.t 25) (Opd.t 26)) none,
      IOper.mk (some 28) (IOp.mv (Opd.t 10)) none,
      IOper.mk (some 29) (IOp.bin BinOp.shr (Opd.t 28) (Opd.c (AV.int IntKind.u64 32))) none,
      IOper.mk (some 30) (IOp.bin BinOp.add (Opd.t 27) (Opd.t 29)) none,
      IOper.mk (some 11) (IOp.mv (Opd.t 30)) none]
      [25, 26, 27, 28, 29, 30])
      (IC.seq
      (IC.ops false
      [IOper.mk (some 31) (IOp.mv (Opd.t 11)) none,
      IOper.mk (some 32)
      (IOp.bin BinOp.and (Opd.t 31) (Opd.c (AV.int IntKind.u64 4294967295))) none,
      IOper.mk (some 12) (IOp.mv (Opd.t 32)) none]
      [31, 32])
      (IC.seq
      (IC.ops false
      [IOper.mk (some 33) (IOp.mv (Opd.t 11)) none,
      IOper.mk (some 34) (IOp.bin BinOp.shr (Opd.t 33) (Opd.c (AV.int IntKind.u64 32)))
      none,
      IOper.mk (some 13) (IOp.mv (Opd.t 34)) none]
      [33, 34])
      (IC.seq
      (IC.ops false
      [IOper.mk (some 35) (IOp.mv (Opd.t 12)) none, IOper.mk (some 36) (IOp.mv (Opd.t 6)) none,
      IOper.mk (some 37) (IOp.mv (Opd.t 9)) none,
      IOper.mk (some 38) (IOp.bin BinOp.mul (Opd.t 36) (Opd.t 37)) none,
      IOper.mk (some 39) (IOp.bin BinOp.add (Opd.t 35) (Opd.t 38)) none,
      IOper.mk (some 12) (IOp.mv (Opd.t 39)) none]
      [35, 36, 37, 38, 39])
      (IC.seq
      (IC.ops false
      [IOper.mk (some 40) (IOp.mv (Opd.t 7)) none, IOper.mk (some 41) (IOp.mv (Opd.t 9)) none,
      IOper.mk (some 42) (IOp.bin BinOp.mul (Opd.t 40) (Opd.t 41)) none,
      IOper.mk (some 43) (IOp.mv (Opd.t 13)) none,
      IOper.mk (some 44) (IOp.bin BinOp.add (Opd.t 42) (Opd.t 43)) none,
      IOper.mk (some 45) (IOp.mv (Opd.t 12)) none,
      IOper.mk (some 46)
      (IOp.bin BinOp.shr (Opd.t 45) (Opd.c (AV.int IntKind.u64 32))) none,
      IOper.mk (some 47) (IOp.bin BinOp.add (Opd.t 44) (Opd.t 46)) none,
      IOper.mk (some 4) (IOp.mv (Opd.t 47)) none]
      [40, 41, 42, 43, 44, 45, 46, 47])
      (IC.seq
      (IC.ops false
      [IOper.mk (some 48) (IOp.mv (Opd.t 0)) none, IOper.mk (some 49) (IOp.mv (Opd.t 1)) none,
      IOper.mk (some 50) (IOp.bin BinOp.mul (Opd.t 48) (Opd.t 49)) none,
      IOper.mk (some 5) (IOp.mv (Opd.t 50)) none]
      [48, 49, 50])
      IC.ret))))))))))))
theorem fn81 : F 81 = some ir81 := by kernel_rfl

theorem live_gives : callV F 60 (.func (.func 13) [] []) [] [] = some (.ret (.bool true), []) := by kernel_rfl
end Go.AS.Ft
