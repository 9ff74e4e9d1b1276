import Derived.Test.YtabbnfifidpmfaaProg
import Derived.KernelRfl
import Derived.Test.YtabbnfifidpmfaaAs1
set_option linter.all false
namespace Go.AS.Li
open Go Go.AS Go.Proofs
set_option maxRecDepth 100000
def ann : Ann := ⟨[39, 72, 41, 105, 76, 34, 70, 161, 53, 55, 58, 80, 84, 86, 87, 89, 90, 117, 118, 120, 121, 122, 142, 143, 146, 157, 158, 159, 32, 23, 36, 61, 92, 56], [48, 17, 28, 69, 30, 26, 27, 44, 72, 99, 100, 101, 151, 130, 85, 149, 160, 164, 114, 163, 8, 6, 7, 31, 18, 19, 20, 16, 34, 70], [8], [6, 33], [78], [(72, 34), (44, 72), (41, 70), (35, 6)], [], [(24, 34)]⟩
noncomputable abbrev F : Nat → Option IFun := funsOf Try.prog ann

def ir_l31_LinAhead : IFun :=
  IFun.mk false 3 [IRes.tmp 6]
  (IC.seq
    (IC.ops false
      [IOper.mk (some 3) (IOp.box 16 (Opd.t 0)) none, IOper.mk (some 4) (IOp.box 16 (Opd.t 1)) none,
      IOper.mk (some 5) (IOp.box 16 (Opd.t 2)) none, IOper.mk (some 6) (IOp.mv (Opd.c (AV.bool false))) none]
      [])
    (IC.seq
      (IC.seq
      (IC.ops true
      [IOper.mk (some 8) (IOp.load (some 16) (Opd.t 3)) none, IOper.mk (some 9) (IOp.load (some 16) (Opd.t 4)) none,
      IOper.mk (some 10) (IOp.callp 6 [Opd.t 8, Opd.t 9]) none,
      IOper.mk (some 11) (IOp.load (some 16) (Opd.t 3)) none,
      IOper.mk (some 12) (IOp.load (some 16) (Opd.t 4)) none,
      IOper.mk (some 13) (IOp.callp 7 [Opd.t 11, Opd.t 12]) none,
      IOper.mk (some 14) (IOp.eqb true (Opd.t 10) (Opd.t 13)) none]
      [8, 9, 10, 11, 12, 13])
      (IC.cond (Opd.t 14) (IC.seq (IC.ops false [IOper.mk (some 6) (IOp.mv (Opd.c (AV.bool false))) none] []) IC.ret)
      IC.nop))
      (IC.seq
      (IC.ops false
      [IOper.mk (some 15) (IOp.faddr 9 (Opd.t 3)) none, IOper.mk (some 16) (IOp.load none (Opd.t 15)) none,
      IOper.mk (some 17) (IOp.bin BinOp.eql (Opd.t 16) (Opd.c (AV.int IntKind.i64 0))) none,
      IOper.mk (some 18) (IOp.mv (Opd.t 17)) none, IOper.mk (some 19) (IOp.faddr 7 (Opd.t 3)) (some (18, false)),
      IOper.mk (some 20) (IOp.load none (Opd.t 19)) (some (18, false)),
      IOper.mk (some 21) (IOp.faddr 9 (Opd.t 3)) (some (18, false)),
      IOper.mk (some 22) (IOp.load none (Opd.t 21)) (some (18, false)),
      IOper.mk (some 23) (IOp.bin BinOp.lss (Opd.t 20) (Opd.t 22)) (some (18, false)),
      IOper.mk (some 24) (IOp.pick (Opd.t 18) (Opd.c (AV.bool true)) (Opd.t 23)) none,
      IOper.mk (some 25) (IOp.mv (Opd.t 24)) none, IOper.mk (some 26) (IOp.faddr 9 (Opd.t 4)) (some (25, true)),
      IOper.mk (some 27) (IOp.load none (Opd.t 26)) (some (25, true)),
      IOper.mk (some 28) (IOp.bin BinOp.eql (Opd.t 27) (Opd.c (AV.int IntKind.i64 0)))
      (some (25, true)),
      IOper.mk (some 29) (IOp.mv (Opd.t 28)) (some (25, true)),
      IOper.mk (some 30) (IOp.faddr 7 (Opd.t 4)) (some (29, false)),
      IOper.mk (some 31) (IOp.load none (Opd.t 30)) (some (29, false)),
      IOper.mk (some 32) (IOp.faddr 9 (Opd.t 4)) (some (29, false)),
      IOper.mk (some 33) (IOp.load none (Opd.t 32)) (some (29, false)),
      IOper.mk (some 34) (IOp.bin BinOp.lss (Opd.t 31) (Opd.t 33)) (some (29, false)),
      IOper.mk (some 35) (IOp.pick (Opd.t 29) (Opd.c (AV.bool true)) (Opd.t 34)) (some (25, true)),
      IOper.mk (some 36) (IOp.pick (Opd.t 25) (Opd.t 35) (Opd.c (AV.bool false))) none,
      IOper.mk (some 7) (IOp.mv (Opd.t 36)) none]
      [15, 16, 17, 18, 19, 20, 21, 22, 23, 24, 25, 26, 27, 28, 29, 30, 31, 32, 33, 34, 35, 36])
      (IC.seq
      (IC.ops false
      [IOper.mk (some 37) (IOp.callp 8 []) none, IOper.mk (some 38) (IOp.mv (Opd.t 37)) none,
      IOper.mk (some 39) (IOp.mv (Opd.t 7)) (some (38, true)),
      IOper.mk (some 40) (IOp.not (Opd.t 39)) (some (38, true)),
      IOper.mk (some 41) (IOp.mv (Opd.t 40)) (some (38, true)),
      IOper.mk (some 42) (IOp.load (some 16) (Opd.t 3)) (some (41, false)),
      IOper.mk (some 43) (IOp.load (some 16) (Opd.t 4)) (some (41, false)),
      IOper.mk (some 44) (IOp.callp 6 [Opd.t 42, Opd.t 43]) (some (41, false)),
      IOper.mk (some 45) (IOp.not (Opd.t 44)) (some (41, false)),
      IOper.mk (some 46) (IOp.pick (Opd.t 41) (Opd.c (AV.bool true)) (Opd.t 45)) (some (38, true)),
      IOper.mk (some 47) (IOp.mv (Opd.t 46)) (some (38, true)),
      IOper.mk (some 48) (IOp.load (some 16) (Opd.t 4)) (some (47, false)),
      IOper.mk (some 49) (IOp.load (some 16) (Opd.t 3)) (some (47, false)),
      IOper.mk (some 50) (IOp.callp 6 [Opd.t 48, Opd.t 49]) (some (47, false)),
      IOper.mk (some 51) (IOp.not (Opd.t 50)) (some (47, false)),
      IOper.mk (some 52) (IOp.pick (Opd.t 47) (Opd.c (AV.bool true)) (Opd.t 51)) (some (38, true)),
      IOper.mk (some 53) (IOp.pick (Opd.t 38) (Opd.t 52) (Opd.c (AV.bool false))) none,
      IOper.mk (some 54) (IOp.mv (Opd.t 53)) none, IOper.mk (some 55) (IOp.mv (Opd.t 7)) (some (54, true)),
      IOper.mk (some 56) (IOp.not (Opd.t 55)) (some (54, true)),
      IOper.mk (some 57) (IOp.mv (Opd.t 56)) (some (54, true)),
      IOper.mk (some 58) (IOp.load (some 16) (Opd.t 3)) (some (57, false)),
      IOper.mk (some 59) (IOp.load (some 16) (Opd.t 4)) (some (57, false)),
      IOper.mk (some 60) (IOp.callp 6 [Opd.t 58, Opd.t 59]) (some (57, false)),
      IOper.mk (some 61) (IOp.not (Opd.t 60)) (some (57, false)),
      IOper.mk (some 62) (IOp.pick (Opd.t 57) (Opd.c (AV.bool true)) (Opd.t 61)) (some (54, true)),
      IOper.mk (some 63) (IOp.mv (Opd.t 62)) (some (54, true)),
      IOper.mk (some 64) (IOp.load (some 16) (Opd.t 4)) (some (63, false)),
      IOper.mk (some 65) (IOp.load (some 16) (Opd.t 5)) (some (63, false)),
      IOper.mk (some 66) (IOp.callp 6 [Opd.t 64, Opd.t 65]) (some (63, false)),
      IOper.mk (some 67) (IOp.not (Opd.t 66)) (some (63, false)),
      IOper.mk (some 68) (IOp.pick (Opd.t 63) (Opd.c (AV.bool true)) (Opd.t 67)) (some (54, true)),
      IOper.mk (some 69) (IOp.mv (Opd.t 68)) (some (54, true)),
      IOper.mk (some 70) (IOp.load (some 16) (Opd.t 3)) (some (69, false)),
      IOper.mk (some 71) (IOp.load (some 16) (Opd.t 5)) (some (69, false)),
      IOper.mk (some 72) (IOp.callp 6 [Opd.t 70, Opd.t 71]) (some (69, false)),
      IOper.mk (some 73) (IOp.pick (Opd.t 69) (Opd.c (AV.bool true)) (Opd.t 72)) (some (54, true)),
      IOper.mk (some 74) (IOp.pick (Opd.t 54) (Opd.t 73) (Opd.c (AV.bool false))) none,
      IOper.mk (some 6) (IOp.mv (Opd.t 74)) none]
      [37, 38, 39, 40, 41, 42, 43, 44, 45, 46, 47, 48, 49, 50, 51, 52, 53, 54, 55, 56, 57, 58, 59, 60, 61, 62, 63,
      64, 65, 66, 67, 68, 69, 70, 71, 72, 73, 74])
      IC.ret))))
theorem fn_l31_LinAhead : F 3 = some ir_l31_LinAhead := by kernel_rfl

def ir_l31_LinMany : IFun :=
  IFun.mk false 4 [IRes.tmp 8]
  (IC.seq
    (IC.ops false
      [IOper.mk (some 4) (IOp.box 9 (Opd.t 0)) none, IOper.mk (some 8) (IOp.mv (Opd.c (AV.bool false))) none] [])
    (IC.seq
      (IC.seq
      (IC.ops false
      [IOper.mk (some 16) (IOp.mv (Opd.t 2)) none,
      IOper.mk (some 17) (IOp.call (Opd.c (AV.func (Fn.func 9) [] [])) [Opd.t 16]) none,
      IOper.mk (some 18) (IOp.not (Opd.t 17)) none, IOper.mk (some 19) (IOp.mv (Opd.t 18)) none,
      IOper.mk (some 20) (IOp.mv (Opd.t 2)) (some (19, false)),
      IOper.mk (some 21) (IOp.call (Opd.c (AV.func (Fn.func 10) [] [])) [Opd.t 20]) (some (19, false)),
      IOper.mk (some 22) (IOp.len (Opd.t 21)) (some (19, false)),
      IOper.mk (some 23) (IOp.bin BinOp.leq (Opd.t 22) (Opd.c (AV.int IntKind.i64 8)))
      (some (19, false)),
      IOper.mk (some 24) (IOp.pick (Opd.t 19) (Opd.c (AV.bool true)) (Opd.t 23)) none]
      [16, 17, 18, 19, 20, 21, 22, 23])
      (IC.cond (Opd.t 24)
      (IC.seq
      (IC.ops false [IOper.mk (some 25) (IOp.callp 8 []) none, IOper.mk (some 8) (IOp.mv (Opd.t 25)) none] [25])
      IC.ret)
      IC.nop))
      (IC.seq (IC.ops false [IOper.mk (some 9) (IOp.mv (Opd.c (AV.int IntKind.i64 4))) none] [])
      (IC.seq
      (IC.seq
      (IC.ops false
      [IOper.mk (some 27) (IOp.load (some 9) (Opd.t 4)) none, IOper.mk (some 28) (IOp.mv (Opd.t 1)) none,
      IOper.mk (some 29) (IOp.call (Opd.c (AV.func (Fn.func 11) [] [])) [Opd.t 27, Opd.t 28]) none,
      IOper.mk (some 26) (IOp.mv (Opd.t 29)) none, IOper.mk (some 30) (IOp.extr (Opd.t 26) 0) none,
      IOper.mk (some 31) (IOp.extr (Opd.t 26) 1) none, IOper.mk (some 10) (IOp.mv (Opd.t 30)) none,
      IOper.mk (some 11) (IOp.mv (Opd.t 31)) none]
      [27, 28, 29, 26, 30, 31, 10])
      (IC.seq
      (IC.ops false
      [IOper.mk (some 32) (IOp.mv (Opd.t 11)) none,
      IOper.mk (some 33) (IOp.bin BinOp.neq (Opd.t 32) (Opd.c (AV.int IntKind.i64 0))) none]
      [32])
      (IC.cond (Opd.t 33)
      (IC.ops false [IOper.mk (some 34) (IOp.mv (Opd.t 11)) none, IOper.mk (some 9) (IOp.mv (Opd.t 34)) none]
      [34])
      IC.nop)))
      (IC.seq
      (IC.ops false
      [IOper.mk (some 36) (IOp.load (some 9) (Opd.t 4)) none, IOper.mk (some 37) (IOp.mv (Opd.t 1)) none,
      IOper.mk (some 38) (IOp.mv (Opd.t 2)) none,
      IOper.mk (some 39) (IOp.call (Opd.c (AV.func (Fn.func 12) [] [])) [Opd.t 36, Opd.t 37, Opd.t 38]) none,
      IOper.mk (some 35) (IOp.mv (Opd.t 39)) none, IOper.mk (some 40) (IOp.extr (Opd.t 35) 0) none,
      IOper.mk (some 41) (IOp.extr (Opd.t 35) 1) none, IOper.mk (some 12) (IOp.mv (Opd.t 40)) none,
      IOper.mk (some 13) (IOp.mv (Opd.t 41)) none]
      [36, 37, 38, 39, 35, 40, 41])
      (IC.seq
      (IC.ops false
      [IOper.mk (some 43) (IOp.load (some 9) (Opd.t 4)) none, IOper.mk (some 44) (IOp.mv (Opd.t 1)) none,
      IOper.mk (some 45) (IOp.mv (Opd.t 2)) none, IOper.mk (some 46) (IOp.mv (Opd.t 3)) none,
      IOper.mk (some 47)
      (IOp.call (Opd.c (AV.func (Fn.func 13) [] [])) [Opd.t 43, Opd.t 44, Opd.t 45, Opd.t 46]) none,
      IOper.mk (some 42) (IOp.mv (Opd.t 47)) none, IOper.mk (some 48) (IOp.extr (Opd.t 42) 0) none,
      IOper.mk (some 49) (IOp.extr (Opd.t 42) 1) none, IOper.mk (some 14) (IOp.mv (Opd.t 48)) none,
      IOper.mk (some 15) (IOp.mv (Opd.t 49)) none]
      [43, 44, 45, 46, 47, 42, 48, 49])
      (IC.seq
      (IC.ops false
      [IOper.mk (some 50) (IOp.callp 8 []) none, IOper.mk (some 51) (IOp.mv (Opd.t 50)) none,
      IOper.mk (some 52) (IOp.mv (Opd.t 12)) (some (51, true)),
      IOper.mk (some 53) (IOp.len (Opd.t 52)) (some (51, true)),
      IOper.mk (some 54) (IOp.bin BinOp.eql (Opd.t 53) (Opd.c (AV.int IntKind.i64 0)))
      (some (51, true)),
      IOper.mk (some 55) (IOp.pick (Opd.t 51) (Opd.t 54) (Opd.c (AV.bool false))) none,
      IOper.mk (some 56) (IOp.mv (Opd.t 55)) none,
      IOper.mk (some 57) (IOp.mv (Opd.t 13)) (some (56, true)),
      IOper.mk (some 58) (IOp.mv (Opd.t 9)) (some (56, true)),
      IOper.mk (some 59) (IOp.bin BinOp.eql (Opd.t 57) (Opd.t 58)) (some (56, true)),
      IOper.mk (some 60) (IOp.pick (Opd.t 56) (Opd.t 59) (Opd.c (AV.bool false))) none,
      IOper.mk (some 61) (IOp.mv (Opd.t 60)) none,
      IOper.mk (some 62) (IOp.mv (Opd.t 14)) (some (61, true)),
      IOper.mk (some 63) (IOp.bin BinOp.eql (Opd.t 62) (Opd.c (AV.int IntKind.i64 0)))
      (some (61, true)),
      IOper.mk (some 64) (IOp.pick (Opd.t 61) (Opd.t 63) (Opd.c (AV.bool false))) none,
      IOper.mk (some 65) (IOp.mv (Opd.t 64)) none,
      IOper.mk (some 66) (IOp.mv (Opd.t 15)) (some (65, true)),
      IOper.mk (some 67) (IOp.mv (Opd.t 9)) (some (65, true)),
      IOper.mk (some 68) (IOp.bin BinOp.eql (Opd.t 66) (Opd.t 67)) (some (65, true)),
      IOper.mk (some 69) (IOp.pick (Opd.t 65) (Opd.t 68) (Opd.c (AV.bool false))) none,
      IOper.mk (some 70) (IOp.mv (Opd.t 69)) none,
      IOper.mk (some 71) (IOp.load (some 9) (Opd.t 4)) (some (70, true)),
      IOper.mk (some 72) (IOp.mv (Opd.t 1)) (some (70, true)),
      IOper.mk (some 73) (IOp.mv (Opd.t 2)) (some (70, true)),
      IOper.mk (some 74) (IOp.call (Opd.c (AV.func (Fn.func 14) [] [])) [Opd.t 71, Opd.t 72, Opd.t 73])
      (some (70, true)),
      IOper.mk (some 75) (IOp.not (Opd.t 74)) (some (70, true)),
      IOper.mk (some 76) (IOp.pick (Opd.t 70) (Opd.t 75) (Opd.c (AV.bool false))) none,
      IOper.mk (some 8) (IOp.mv (Opd.t 76)) none]
      [50, 51, 52, 53, 54, 55, 56, 57, 58, 59, 60, 61, 62, 63, 64, 65, 66, 67, 68, 69, 70, 71, 72, 73, 74,
      75, 76])
      IC.ret)))))))
theorem fn_l31_LinMany : F 4 = some ir_l31_LinMany := by kernel_rfl

def ir_lin_Ahead : IFun :=
  IFun.mk false 2 [IRes.tmp 4]
  (IC.seq
    (IC.ops false
      [IOper.mk (some 2) (IOp.box 16 (Opd.t 0)) none, IOper.mk (some 3) (IOp.box 16 (Opd.t 1)) none,
      IOper.mk (some 4) (IOp.mv (Opd.c (AV.bool false))) none]
      [])
    (IC.seq
      (IC.ops false
      [IOper.mk (some 5) (IOp.faddr 9 (Opd.t 2)) none, IOper.mk (some 6) (IOp.load none (Opd.t 5)) none,
      IOper.mk (some 7) (IOp.bin BinOp.neq (Opd.t 6) (Opd.c (AV.int IntKind.i64 0))) none,
      IOper.mk (some 8) (IOp.mv (Opd.t 7)) none, IOper.mk (some 9) (IOp.faddr 9 (Opd.t 2)) (some (8, true)),
      IOper.mk (some 10) (IOp.load none (Opd.t 9)) (some (8, true)),
      IOper.mk (some 11) (IOp.faddr 7 (Opd.t 3)) (some (8, true)),
      IOper.mk (some 12) (IOp.load none (Opd.t 11)) (some (8, true)),
      IOper.mk (some 13) (IOp.bin BinOp.lss (Opd.t 10) (Opd.t 12)) (some (8, true)),
      IOper.mk (some 14) (IOp.pick (Opd.t 8) (Opd.t 13) (Opd.c (AV.bool false))) none,
      IOper.mk (some 4) (IOp.mv (Opd.t 14)) none]
      [5, 6, 7, 8, 9, 10, 11, 12, 13, 14])
      IC.ret))
theorem fn_lin_Ahead : F 6 = some ir_lin_Ahead := by kernel_rfl

def ir_r31_Ahead : IFun :=
  IFun.mk false 2 [IRes.tmp 4]
  (IC.seq
    (IC.ops false
      [IOper.mk (some 2) (IOp.box 16 (Opd.t 0)) none, IOper.mk (some 3) (IOp.box 16 (Opd.t 1)) none,
      IOper.mk (some 4) (IOp.mv (Opd.c (AV.bool false))) none]
      [])
    (IC.seq
      (IC.ops false
      [IOper.mk (some 5) (IOp.faddr 9 (Opd.t 2)) none, IOper.mk (some 6) (IOp.load none (Opd.t 5)) none,
      IOper.mk (some 7) (IOp.bin BinOp.neq (Opd.t 6) (Opd.c (AV.int IntKind.i64 0))) none,
      IOper.mk (some 8) (IOp.mv (Opd.t 7)) none, IOper.mk (some 9) (IOp.faddr 9 (Opd.t 2)) (some (8, true)),
      IOper.mk (some 10) (IOp.load none (Opd.t 9)) (some (8, true)),
      IOper.mk (some 11) (IOp.faddr 7 (Opd.t 3)) (some (8, true)),
      IOper.mk (some 12) (IOp.load none (Opd.t 11)) (some (8, true)),
      IOper.mk (some 13) (IOp.bin BinOp.lss (Opd.t 10) (Opd.t 12)) (some (8, true)),
      IOper.mk (some 14) (IOp.pick (Opd.t 8) (Opd.t 13) (Opd.c (AV.bool false))) none,
      IOper.mk (some 4) (IOp.mv (Opd.t 14)) none]
      [5, 6, 7, 8, 9, 10, 11, 12, 13, 14])
      IC.ret))
theorem fn_r31_Ahead : F 7 = some ir_r31_Ahead := by kernel_rfl

def ir_r30_Few : IFun :=
  IFun.mk false 1 [IRes.tmp 2]
  (IC.seq (IC.ops false [IOper.mk (some 2) (IOp.mv (Opd.c (AV.bool false))) none] [])
    (IC.seq
      (IC.seq
      (IC.ops false
      [IOper.mk (some 4) (IOp.mv (Opd.t 0)) none, IOper.mk (some 5) (IOp.len (Opd.t 4)) none,
      IOper.mk (some 6) (IOp.bin BinOp.gtr (Opd.t 5) (Opd.c (AV.int IntKind.i64 40))) none]
      [4, 5])
      (IC.cond (Opd.t 6) (IC.seq (IC.ops false [IOper.mk (some 2) (IOp.mv (Opd.c (AV.bool false))) none] []) IC.ret)
      IC.nop))
      (IC.seq
      (IC.seq (IC.ops false [IOper.mk (some 3) (IOp.mv (Opd.c (AV.int IntKind.i64 0))) none] [])
      (IC.seq
      (IC.block 0
      (IC.loop
      (IC.seq
      (IC.seq
      (IC.seq
      (IC.ops false
      [IOper.mk (some 7) (IOp.mv (Opd.t 3)) none, IOper.mk (some 8) (IOp.mv (Opd.t 0)) none,
      IOper.mk (some 9) (IOp.len (Opd.t 8)) none,
      IOper.mk (some 10) (IOp.bin BinOp.lss (Opd.t 7) (Opd.t 9)) none]
      [7, 8, 9])
      (IC.cond (Opd.t 10) IC.nop (IC.exit 0)))
      (IC.seq
      (IC.seq
      (IC.block 1
      (IC.seq
      (IC.ops false
      [IOper.mk (some 13) (IOp.mv (Opd.t 0)) none, IOper.mk (some 14) (IOp.mv (Opd.t 3)) none,
      IOper.mk (some 15) (IOp.ixa 16 (Opd.t 13) (Opd.t 14)) none,
      IOper.mk (some 16) (IOp.faddr 2 (Opd.t 15)) none,
      IOper.mk (some 17) (IOp.faddr 4 (Opd.t 16)) none,
      IOper.mk (some 18) (IOp.load none (Opd.t 17)) none,
      IOper.mk (some 19) (IOp.len (Opd.t 18)) none,
      IOper.mk (some 20)
      (IOp.bin BinOp.gtr (Opd.t 19) (Opd.c (AV.int IntKind.i64 20))) none,
      IOper.mk (some 21) (IOp.mv (Opd.t 20)) none,
      IOper.mk (some 22) (IOp.mv (Opd.t 0)) (some (21, false)),
      IOper.mk (some 23) (IOp.mv (Opd.t 3)) (some (21, false)),
      IOper.mk (some 24) (IOp.ixa 16 (Opd.t 22) (Opd.t 23)) (some (21, false)),
      IOper.mk (some 25) (IOp.faddr 10 (Opd.t 24)) (some (21, false)),
      IOper.mk (some 26) (IOp.faddr 3 (Opd.t 25)) (some (21, false)),
      IOper.mk (some 27) (IOp.load none (Opd.t 26)) (some (21, false)),
      IOper.mk (some 28) (IOp.len (Opd.t 27)) (some (21, false)),
      IOper.mk (some 29)
      (IOp.bin BinOp.gtr (Opd.t 28) (Opd.c (AV.int IntKind.i64 40)))
      (some (21, false)),
      IOper.mk (some 30) (IOp.pick (Opd.t 21) (Opd.c (AV.bool true)) (Opd.t 29)) none]
      [13, 14, 15, 16, 17, 18, 19, 20, 21, 22, 23, 24, 25, 26, 27, 28, 29])
      (IC.cond (Opd.t 30)
      (IC.seq (IC.ops false [IOper.mk (some 2) (IOp.mv (Opd.c (AV.bool false))) none] [])
      IC.ret)
      IC.nop)))
      (IC.ops false [] [13, 14, 15, 16, 17, 18, 19, 20, 21, 22, 23, 24, 25, 26, 27, 28, 29, 30]))
      (IC.ops false
      [IOper.mk (some 11) (IOp.mv (Opd.t 3)) none,
      IOper.mk (some 12) (IOp.bin BinOp.add (Opd.t 11) (Opd.c (AV.int IntKind.i64 1)))
      none,
      IOper.mk (some 3) (IOp.mv (Opd.t 12)) none]
      [11, 12])))
      (IC.ops false []
      [7, 8, 9, 10, 13, 14, 15, 16, 17, 18, 19, 20, 21, 22, 23, 24, 25, 26, 27, 28, 29, 30, 11, 12]))))
      (IC.ops false []
      [7, 8, 9, 10, 13, 14, 15, 16, 17, 18, 19, 20, 21, 22, 23, 24, 25, 26, 27, 28, 29, 30, 11, 12])))
      (IC.seq (IC.ops false [IOper.mk (some 2) (IOp.mv (Opd.c (AV.bool true))) none] []) IC.ret))))
theorem fn_r30_Few : F 9 = some ir_r30_Few := by kernel_rfl

def ir_r31_Places : IFun :=
  IFun.mk false 1 [IRes.tmp 2]
  (IC.seq (IC.ops false [IOper.mk (some 2) (IOp.mv (Opd.c (AV.imm true 0 0 (some 0) []))) none] [])
    (IC.seq
      (IC.ops false
      [IOper.mk (some 5) (IOp.bsl false 1 0 [AV.int IntKind.i64 0] []) none,
      IOper.mk (some 3) (IOp.mv (Opd.t 5)) none]
      [5])
      (IC.seq
      (IC.seq (IC.ops false [IOper.mk (some 4) (IOp.mv (Opd.c (AV.int IntKind.i64 0))) none] [])
      (IC.seq
      (IC.block 0
      (IC.loop
      (IC.seq
      (IC.seq
      (IC.seq
      (IC.ops false
      [IOper.mk (some 6) (IOp.mv (Opd.t 4)) none, IOper.mk (some 7) (IOp.mv (Opd.t 0)) none,
      IOper.mk (some 8) (IOp.len (Opd.t 7)) none,
      IOper.mk (some 9) (IOp.bin BinOp.lss (Opd.t 6) (Opd.t 8)) none]
      [6, 7, 8])
      (IC.cond (Opd.t 9) IC.nop (IC.exit 0)))
      (IC.seq
      (IC.seq
      (IC.block 1
      (IC.seq
      (IC.ops false
      [IOper.mk (some 12) (IOp.mv (Opd.t 0)) none, IOper.mk (some 13) (IOp.mv (Opd.t 4)) none,
      IOper.mk (some 14) (IOp.ixa 16 (Opd.t 12) (Opd.t 13)) none,
      IOper.mk (some 15) (IOp.load (some 16) (Opd.t 14)) none,
      IOper.mk (some 16) (IOp.call (Opd.c (AV.func (Fn.func 21) [] [])) [Opd.t 15]) none,
      IOper.mk (some 17) (IOp.mv (Opd.t 16)) none,
      IOper.mk (some 18) (IOp.mv (Opd.t 0)) (some (17, false)),
      IOper.mk (some 19) (IOp.mv (Opd.t 4)) (some (17, false)),
      IOper.mk (some 20) (IOp.ixa 16 (Opd.t 18) (Opd.t 19)) (some (17, false)),
      IOper.mk (some 21) (IOp.faddr 9 (Opd.t 20)) (some (17, false)),
      IOper.mk (some 22) (IOp.load none (Opd.t 21)) (some (17, false)),
      IOper.mk (some 23)
      (IOp.bin BinOp.eql (Opd.t 22) (Opd.c (AV.int IntKind.i64 0)))
      (some (17, false)),
      IOper.mk (some 24) (IOp.mv (Opd.t 23)) (some (17, false)),
      IOper.mk (some 25) (IOp.mv (Opd.t 0)) (some (24, true)),
      IOper.mk (some 26) (IOp.mv (Opd.t 4)) (some (24, true)),
      IOper.mk (some 27) (IOp.ixa 16 (Opd.t 25) (Opd.t 26)) (some (24, true)),
      IOper.mk (some 28) (IOp.faddr 2 (Opd.t 27)) (some (24, true)),
      IOper.mk (some 29) (IOp.faddr 0 (Opd.t 28)) (some (24, true)),
      IOper.mk (some 30) (IOp.load none (Opd.t 29)) (some (24, true)),
      IOper.mk (some 31)
      (IOp.bin BinOp.eql (Opd.t 30) (Opd.c (AV.int IntKind.u8 2)))
      (some (24, true)),
      IOper.mk (some 32) (IOp.pick (Opd.t 24) (Opd.t 31) (Opd.c (AV.bool false)))
      (some (17, false)),
      IOper.mk (some 33) (IOp.pick (Opd.t 17) (Opd.c (AV.bool true)) (Opd.t 32)) none]
      [12, 13, 14, 15, 16, 17, 18, 19, 20, 21, 22, 23, 24, 25, 26, 27, 28, 29, 30, 31, 32])
      (IC.cond (Opd.t 33)
      (IC.ops false
      [IOper.mk (some 34) (IOp.mv (Opd.t 3)) none, IOper.mk (some 35) (IOp.mv (Opd.t 4)) none,
      IOper.mk (some 36)
      (IOp.bsl false 1 1 [AV.int IntKind.i64 0] [(0, 1, Opd.t 35)]) none,
      IOper.mk (some 37) (IOp.append 1 8 (Opd.t 34) (Opd.t 36)) none,
      IOper.mk (some 3) (IOp.mv (Opd.t 37)) none]
      [34, 35, 36, 37])
      IC.nop)))
      (IC.ops false []
      [12, 13, 14, 15, 16, 17, 18, 19, 20, 21, 22, 23, 24, 25, 26, 27, 28, 29, 30, 31, 32, 33, 34,
      35, 36, 37]))
      (IC.ops false
      [IOper.mk (some 10) (IOp.mv (Opd.t 4)) none,
      IOper.mk (some 11) (IOp.bin BinOp.add (Opd.t 10) (Opd.c (AV.int IntKind.i64 1)))
      none,
      IOper.mk (some 4) (IOp.mv (Opd.t 11)) none]
      [10, 11])))
      (IC.ops false []
      [6, 7, 8, 9, 12, 13, 14, 15, 16, 17, 18, 19, 20, 21, 22, 23, 24, 25, 26, 27, 28, 29, 30, 31, 32, 33,
      34, 35, 36, 37, 10, 11]))))
      (IC.ops false []
      [6, 7, 8, 9, 12, 13, 14, 15, 16, 17, 18, 19, 20, 21, 22, 23, 24, 25, 26, 27, 28, 29, 30, 31, 32, 33, 34,
      35, 36, 37, 10, 11])))
      (IC.seq
      (IC.ops false [IOper.mk (some 38) (IOp.mv (Opd.t 3)) none, IOper.mk (some 2) (IOp.mv (Opd.t 38)) none] [38])
      IC.ret))))
theorem fn_r31_Places : F 10 = some ir_r31_Places := by kernel_rfl

def ir_r28_New : IFun :=
  IFun.mk false 2 [IRes.tmp 4, IRes.tmp 5]
  (IC.seq
    (IC.ops false
      [IOper.mk (some 2) (IOp.box 9 (Opd.t 0)) none, IOper.mk (some 4) (IOp.mv (Opd.c AV.nilptr)) none,
      IOper.mk (some 5) (IOp.mv (Opd.c (AV.int IntKind.i64 0))) none]
      [])
    (IC.seq
      (IC.seq
      (IC.ops false
      [IOper.mk (some 6) (IOp.load (some 9) (Opd.t 2)) none,
      IOper.mk (some 7) (IOp.call (Opd.c (AV.func (Fn.func 22) [] [])) [Opd.t 6]) none,
      IOper.mk (some 8) (IOp.bin BinOp.neq (Opd.t 7) (Opd.c (AV.int IntKind.i64 0))) none,
      IOper.mk (some 9) (IOp.mv (Opd.t 8)) none, IOper.mk (some 10) (IOp.mv (Opd.t 1)) (some (9, false)),
      IOper.mk (some 11) (IOp.bin BinOp.lss (Opd.t 10) (Opd.c (AV.int IntKind.i64 1)))
      (some (9, false)),
      IOper.mk (some 12) (IOp.pick (Opd.t 9) (Opd.c (AV.bool true)) (Opd.t 11)) none,
      IOper.mk (some 13) (IOp.mv (Opd.t 12)) none, IOper.mk (some 14) (IOp.mv (Opd.t 1)) (some (13, false)),
      IOper.mk (some 15) (IOp.bin BinOp.gtr (Opd.t 14) (Opd.c (AV.int IntKind.i64 64)))
      (some (13, false)),
      IOper.mk (some 16) (IOp.pick (Opd.t 13) (Opd.c (AV.bool true)) (Opd.t 15)) none]
      [6, 7, 8, 9, 10, 11, 12, 13, 14, 15])
      (IC.cond (Opd.t 16)
      (IC.seq
      (IC.ops false
      [IOper.mk (some 4) (IOp.mv (Opd.c AV.nilptr)) none,
      IOper.mk (some 5) (IOp.mv (Opd.c (AV.int IntKind.i64 2))) none]
      [])
      IC.ret)
      IC.nop))
      (IC.seq
      (IC.ops true
      [IOper.mk (some 17) (IOp.load (some 9) (Opd.t 2)) none, IOper.mk (some 18) (IOp.mv (Opd.t 1)) none,
      IOper.mk (some 19) (IOp.mv (Opd.t 1)) none,
      IOper.mk (some 20) (IOp.bin BinOp.add (Opd.t 19) (Opd.c (AV.int IntKind.i64 1))) none,
      IOper.mk (some 21) (IOp.mksl 1 24 [AV.imm true 0 0 (some 0) []] (Opd.t 20) (Opd.t 20)) none,
      IOper.mk (some 22)
      (IOp.build
      [AV.int IntKind.i64 0, AV.int IntKind.i64 0, AV.int IntKind.i64 0,
      AV.int IntKind.i64 0, AV.int IntKind.i64 0, AV.int IntKind.i64 0,
      AV.int IntKind.i64 0, AV.int IntKind.i64 0, AV.int IntKind.i64 0,
      AV.int IntKind.i64 0, AV.imm true 0 0 (some 0) [], AV.imm true 0 0 (some 0) [],
      AV.int IntKind.i64 0]
      [(0, 9, Opd.t 17), (9, 1, Opd.t 18), (11, 1, Opd.t 21)])
      none,
      IOper.mk (some 23) (IOp.box 13 (Opd.t 22)) none, IOper.mk (some 4) (IOp.mv (Opd.t 23)) none,
      IOper.mk (some 5) (IOp.mv (Opd.c (AV.int IntKind.i64 0))) none,
      IOper.mk none (IOp.diff (Opd.t 2) (Opd.t 21)) none]
      [17, 18, 19, 20, 21, 22, 23])
      IC.ret)))
theorem fn_r28_New : F 11 = some ir_r28_New := by kernel_rfl

def ir_lin_Explain : IFun :=
  IFun.mk false 3 [IRes.tmp 6, IRes.tmp 7]
  (IC.seq
    (IC.ops false
      [IOper.mk (some 3) (IOp.box 9 (Opd.t 0)) none,
      IOper.mk (some 6) (IOp.mv (Opd.c (AV.imm true 0 0 (some 0) []))) none,
      IOper.mk (some 7) (IOp.mv (Opd.c (AV.int IntKind.i64 0))) none]
      [])
    (IC.seq
      (IC.ops false
      [IOper.mk (some 12) (IOp.load (some 9) (Opd.t 3)) none, IOper.mk (some 13) (IOp.mv (Opd.t 1)) none,
      IOper.mk (some 14) (IOp.mv (Opd.t 2)) none,
      IOper.mk (some 15)
      (IOp.call (Opd.c (AV.func (Fn.func 23) [] []))
      [Opd.t 12, Opd.t 13, Opd.t 14, Opd.c (AV.int IntKind.i64 1)])
      none,
      IOper.mk (some 11) (IOp.mv (Opd.t 15)) none, IOper.mk (some 16) (IOp.extr (Opd.t 11) 0) none,
      IOper.mk (some 17) (IOp.extr (Opd.t 11) 1) none, IOper.mk (some 18) (IOp.extr (Opd.t 11) 2) none,
      IOper.mk (some 8) (IOp.mv (Opd.t 16)) none, IOper.mk (some 9) (IOp.mv (Opd.t 17)) none,
      IOper.mk (some 10) (IOp.mv (Opd.t 18)) none]
      [12, 13, 14, 15, 11, 16, 17, 18])
      (IC.seq
      (IC.seq
      (IC.ops false
      [IOper.mk (some 19) (IOp.mv (Opd.t 10)) none,
      IOper.mk (some 20) (IOp.bin BinOp.neq (Opd.t 19) (Opd.c (AV.int IntKind.i64 0))) none]
      [19])
      (IC.cond (Opd.t 20)
      (IC.seq
      (IC.ops false
      [IOper.mk (some 21) (IOp.mv (Opd.t 10)) none,
      IOper.mk (some 6) (IOp.mv (Opd.c (AV.imm true 0 0 (some 0) []))) none,
      IOper.mk (some 7) (IOp.mv (Opd.t 21)) none]
      [21])
      IC.ret)
      IC.nop))
      (IC.seq
      (IC.ops false
      [IOper.mk (some 22) (IOp.mv (Opd.t 8)) none, IOper.mk (some 23) (IOp.mv (Opd.t 9)) none,
      IOper.mk (some 24) (IOp.mv (Opd.t 8)) none, IOper.mk (some 25) (IOp.nilck (Opd.t 24)) none,
      IOper.mk (some 26) (IOp.faddr 2 (Opd.t 25)) none, IOper.mk (some 27) (IOp.load none (Opd.t 26)) none,
      IOper.mk (some 28) (IOp.call (Opd.c (AV.func (Fn.func 24) [] [])) [Opd.t 22, Opd.t 23, Opd.t 27]) none]
      [22, 23, 24, 25, 26, 27, 28])
      (IC.seq
      (IC.seq
      (IC.ops false
      [IOper.mk (some 29) (IOp.mv (Opd.t 8)) none, IOper.mk (some 30) (IOp.nilck (Opd.t 29)) none,
      IOper.mk (some 31) (IOp.faddr 4 (Opd.t 30)) none, IOper.mk (some 32) (IOp.load none (Opd.t 31)) none,
      IOper.mk (some 33) (IOp.len (Opd.t 32)) none,
      IOper.mk (some 34) (IOp.bin BinOp.eql (Opd.t 33) (Opd.c (AV.int IntKind.i64 0))) none]
      [29, 30, 31, 32, 33])
      (IC.cond (Opd.t 34)
      (IC.seq
      (IC.ops false
      [IOper.mk (some 6) (IOp.mv (Opd.c (AV.imm true 0 0 (some 0) []))) none,
      IOper.mk (some 7) (IOp.mv (Opd.c (AV.int IntKind.i64 14))) none]
      [])
      IC.ret)
      IC.nop))
      (IC.seq
      (IC.ops false
      [IOper.mk (some 35) (IOp.mv (Opd.t 8)) none, IOper.mk (some 36) (IOp.nilck (Opd.t 35)) none,
      IOper.mk (some 37) (IOp.faddr 4 (Opd.t 36)) none, IOper.mk (some 38) (IOp.load none (Opd.t 37)) none,
      IOper.mk (some 39) (IOp.ixa 1 (Opd.t 38) (Opd.c (AV.int IntKind.i64 0))) none,
      IOper.mk (some 40) (IOp.load none (Opd.t 39)) none, IOper.mk (some 6) (IOp.mv (Opd.t 40)) none,
      IOper.mk (some 7) (IOp.mv (Opd.c (AV.int IntKind.i64 0))) none]
      [35, 36, 37, 38, 39, 40])
      IC.ret))))))
theorem fn_lin_Explain : F 12 = some ir_lin_Explain := by kernel_rfl

def ir_lin_Count : IFun :=
  IFun.mk false 4 [IRes.tmp 8, IRes.tmp 9]
  (IC.seq
    (IC.ops false
      [IOper.mk (some 4) (IOp.box 9 (Opd.t 0)) none,
      IOper.mk (some 8) (IOp.mv (Opd.c (AV.int IntKind.i64 0))) none,
      IOper.mk (some 9) (IOp.mv (Opd.c (AV.int IntKind.i64 0))) none]
      [])
    (IC.seq
      (IC.ops false
      [IOper.mk (some 14) (IOp.load (some 9) (Opd.t 4)) none, IOper.mk (some 15) (IOp.mv (Opd.t 1)) none,
      IOper.mk (some 16) (IOp.mv (Opd.t 2)) none, IOper.mk (some 17) (IOp.mv (Opd.t 3)) none,
      IOper.mk (some 18) (IOp.call (Opd.c (AV.func (Fn.func 23) [] [])) [Opd.t 14, Opd.t 15, Opd.t 16, Opd.t 17])
      none,
      IOper.mk (some 13) (IOp.mv (Opd.t 18)) none, IOper.mk (some 19) (IOp.extr (Opd.t 13) 0) none,
      IOper.mk (some 20) (IOp.extr (Opd.t 13) 1) none, IOper.mk (some 21) (IOp.extr (Opd.t 13) 2) none,
      IOper.mk (some 10) (IOp.mv (Opd.t 19)) none, IOper.mk (some 11) (IOp.mv (Opd.t 20)) none,
      IOper.mk (some 12) (IOp.mv (Opd.t 21)) none]
      [14, 15, 16, 17, 18, 13, 19, 20, 21])
      (IC.seq
      (IC.seq
      (IC.ops false
      [IOper.mk (some 22) (IOp.mv (Opd.t 12)) none,
      IOper.mk (some 23) (IOp.bin BinOp.neq (Opd.t 22) (Opd.c (AV.int IntKind.i64 0))) none,
      IOper.mk (some 24) (IOp.mv (Opd.t 23)) none, IOper.mk (some 25) (IOp.mv (Opd.t 3)) (some (24, false)),
      IOper.mk (some 26) (IOp.bin BinOp.lss (Opd.t 25) (Opd.c (AV.int IntKind.i64 1)))
      (some (24, false)),
      IOper.mk (some 27) (IOp.pick (Opd.t 24) (Opd.c (AV.bool true)) (Opd.t 26)) none]
      [22, 23, 24, 25, 26])
      (IC.cond (Opd.t 27)
      (IC.seq
      (IC.ops false
      [IOper.mk (some 28) (IOp.mv (Opd.t 12)) none,
      IOper.mk (some 8) (IOp.mv (Opd.c (AV.int IntKind.i64 0))) none,
      IOper.mk (some 9) (IOp.mv (Opd.t 28)) none]
      [28])
      IC.ret)
      IC.nop))
      (IC.seq
      (IC.ops false
      [IOper.mk (some 29) (IOp.mv (Opd.t 10)) none, IOper.mk (some 30) (IOp.mv (Opd.t 11)) none,
      IOper.mk (some 31) (IOp.mv (Opd.t 10)) none, IOper.mk (some 32) (IOp.nilck (Opd.t 31)) none,
      IOper.mk (some 33) (IOp.faddr 2 (Opd.t 32)) none, IOper.mk (some 34) (IOp.load none (Opd.t 33)) none,
      IOper.mk (some 35) (IOp.call (Opd.c (AV.func (Fn.func 24) [] [])) [Opd.t 29, Opd.t 30, Opd.t 34]) none]
      [29, 30, 31, 32, 33, 34, 35])
      (IC.seq
      (IC.ops false
      [IOper.mk (some 36) (IOp.mv (Opd.t 10)) none, IOper.mk (some 37) (IOp.nilck (Opd.t 36)) none,
      IOper.mk (some 38) (IOp.faddr 4 (Opd.t 37)) none, IOper.mk (some 39) (IOp.load none (Opd.t 38)) none,
      IOper.mk (some 40) (IOp.len (Opd.t 39)) none, IOper.mk (some 8) (IOp.mv (Opd.t 40)) none,
      IOper.mk (some 9) (IOp.mv (Opd.c (AV.int IntKind.i64 0))) none]
      [36, 37, 38, 39, 40])
      IC.ret)))))
theorem fn_lin_Count : F 13 = some ir_lin_Count := by kernel_rfl

def ir_lin_Linear : IFun :=
  IFun.mk false 3 [IRes.tmp 6]
  (IC.seq
    (IC.ops false
      [IOper.mk (some 3) (IOp.box 9 (Opd.t 0)) none, IOper.mk (some 6) (IOp.mv (Opd.c (AV.bool false))) none] [])
    (IC.seq
      (IC.ops false
      [IOper.mk (some 10) (IOp.load (some 9) (Opd.t 3)) none, IOper.mk (some 11) (IOp.mv (Opd.t 1)) none,
      IOper.mk (some 12) (IOp.mv (Opd.t 2)) none,
      IOper.mk (some 13) (IOp.call (Opd.c (AV.func (Fn.func 12) [] [])) [Opd.t 10, Opd.t 11, Opd.t 12]) none,
      IOper.mk (some 9) (IOp.mv (Opd.t 13)) none, IOper.mk (some 14) (IOp.extr (Opd.t 9) 0) none,
      IOper.mk (some 15) (IOp.extr (Opd.t 9) 1) none, IOper.mk (some 7) (IOp.mv (Opd.t 14)) none,
      IOper.mk (some 8) (IOp.mv (Opd.t 15)) none]
      [10, 11, 12, 13, 9, 14, 15, 7])
      (IC.seq
      (IC.ops false
      [IOper.mk (some 16) (IOp.mv (Opd.t 8)) none,
      IOper.mk (some 17) (IOp.bin BinOp.eql (Opd.t 16) (Opd.c (AV.int IntKind.i64 0))) none,
      IOper.mk (some 6) (IOp.mv (Opd.t 17)) none]
      [16, 17])
      IC.ret)))
theorem fn_lin_Linear : F 14 = some ir_lin_Linear := by kernel_rfl

def ir_r31_Required : IFun :=
  IFun.mk false 1 [IRes.tmp 2]
  (IC.seq
    (IC.ops false
      [IOper.mk (some 1) (IOp.box 16 (Opd.t 0)) none, IOper.mk (some 2) (IOp.mv (Opd.c (AV.bool false))) none] [])
    (IC.seq
      (IC.ops false
      [IOper.mk (some 3) (IOp.faddr 9 (Opd.t 1)) none, IOper.mk (some 4) (IOp.load none (Opd.t 3)) none,
      IOper.mk (some 5) (IOp.bin BinOp.neq (Opd.t 4) (Opd.c (AV.int IntKind.i64 0))) none,
      IOper.mk (some 6) (IOp.mv (Opd.t 5)) none, IOper.mk (some 7) (IOp.faddr 10 (Opd.t 1)) (some (6, true)),
      IOper.mk (some 8) (IOp.load (some 6) (Opd.t 7)) (some (6, true)),
      IOper.mk (some 9) (IOp.callp 31 [Opd.t 8]) (some (6, true)),
      IOper.mk (some 10) (IOp.not (Opd.t 9)) (some (6, true)),
      IOper.mk (some 11) (IOp.pick (Opd.t 6) (Opd.t 10) (Opd.c (AV.bool false))) none,
      IOper.mk (some 2) (IOp.mv (Opd.t 11)) none]
      [3, 4, 5, 6, 7, 8, 9, 10, 11])
      IC.ret))
theorem fn_r31_Required : F 21 = some ir_r31_Required := by kernel_rfl

def ir_r21_Check : IFun :=
  IFun.mk false 1 [IRes.tmp 2]
  (IC.seq
    (IC.ops false
      [IOper.mk (some 1) (IOp.box 9 (Opd.t 0)) none,
      IOper.mk (some 2) (IOp.mv (Opd.c (AV.int IntKind.i64 0))) none]
      [])
    (IC.seq
      (IC.seq
      (IC.ops false
      [IOper.mk (some 3) (IOp.faddr 0 (Opd.t 1)) none, IOper.mk (some 4) (IOp.load none (Opd.t 3)) none,
      IOper.mk (some 5) (IOp.bin BinOp.lss (Opd.t 4) (Opd.c (AV.int IntKind.i64 1))) none,
      IOper.mk (some 6) (IOp.mv (Opd.t 5)) none, IOper.mk (some 7) (IOp.faddr 0 (Opd.t 1)) (some (6, false)),
      IOper.mk (some 8) (IOp.load none (Opd.t 7)) (some (6, false)),
      IOper.mk (some 9) (IOp.bin BinOp.gtr (Opd.t 8) (Opd.c (AV.int IntKind.i64 256)))
      (some (6, false)),
      IOper.mk (some 10) (IOp.pick (Opd.t 6) (Opd.c (AV.bool true)) (Opd.t 9)) none,
      IOper.mk (some 11) (IOp.mv (Opd.t 10)) none, IOper.mk (some 12) (IOp.faddr 1 (Opd.t 1)) (some (11, false)),
      IOper.mk (some 13) (IOp.load none (Opd.t 12)) (some (11, false)),
      IOper.mk (some 14) (IOp.bin BinOp.lss (Opd.t 13) (Opd.c (AV.int IntKind.i64 8)))
      (some (11, false)),
      IOper.mk (some 15) (IOp.pick (Opd.t 11) (Opd.c (AV.bool true)) (Opd.t 14)) none,
      IOper.mk (some 16) (IOp.mv (Opd.t 15)) none, IOper.mk (some 17) (IOp.faddr 1 (Opd.t 1)) (some (16, false)),
      IOper.mk (some 18) (IOp.load none (Opd.t 17)) (some (16, false)),
      IOper.mk (some 19) (IOp.bin BinOp.gtr (Opd.t 18) (Opd.c (AV.int IntKind.i64 4096)))
      (some (16, false)),
      IOper.mk (some 20) (IOp.pick (Opd.t 16) (Opd.c (AV.bool true)) (Opd.t 19)) none]
      [3, 4, 5, 6, 7, 8, 9, 10, 11, 12, 13, 14, 15, 16, 17, 18, 19])
      (IC.cond (Opd.t 20)
      (IC.seq (IC.ops false [IOper.mk (some 2) (IOp.mv (Opd.c (AV.int IntKind.i64 2))) none] []) IC.ret)
      IC.nop))
      (IC.seq
      (IC.seq
      (IC.ops false
      [IOper.mk (some 21) (IOp.faddr 2 (Opd.t 1)) none, IOper.mk (some 22) (IOp.load none (Opd.t 21)) none,
      IOper.mk (some 23) (IOp.bin BinOp.lss (Opd.t 22) (Opd.c (AV.int IntKind.i64 4))) none,
      IOper.mk (some 24) (IOp.mv (Opd.t 23)) none,
      IOper.mk (some 25) (IOp.faddr 2 (Opd.t 1)) (some (24, false)),
      IOper.mk (some 26) (IOp.load none (Opd.t 25)) (some (24, false)),
      IOper.mk (some 27) (IOp.bin BinOp.gtr (Opd.t 26) (Opd.c (AV.int IntKind.i64 64)))
      (some (24, false)),
      IOper.mk (some 28) (IOp.pick (Opd.t 24) (Opd.c (AV.bool true)) (Opd.t 27)) none,
      IOper.mk (some 29) (IOp.mv (Opd.t 28)) none,
      IOper.mk (some 30) (IOp.faddr 3 (Opd.t 1)) (some (29, false)),
      IOper.mk (some 31) (IOp.load none (Opd.t 30)) (some (29, false)),
      IOper.mk (some 32) (IOp.bin BinOp.lss (Opd.t 31) (Opd.c (AV.int IntKind.i64 0)))
      (some (29, false)),
      IOper.mk (some 33) (IOp.pick (Opd.t 29) (Opd.c (AV.bool true)) (Opd.t 32)) none,
      IOper.mk (some 34) (IOp.mv (Opd.t 33)) none,
      IOper.mk (some 35) (IOp.faddr 3 (Opd.t 1)) (some (34, false)),
      IOper.mk (some 36) (IOp.load none (Opd.t 35)) (some (34, false)),
      IOper.mk (some 37) (IOp.bin BinOp.gtr (Opd.t 36) (Opd.c (AV.int IntKind.i64 1048576)))
      (some (34, false)),
      IOper.mk (some 38) (IOp.pick (Opd.t 34) (Opd.c (AV.bool true)) (Opd.t 37)) none]
      [21, 22, 23, 24, 25, 26, 27, 28, 29, 30, 31, 32, 33, 34, 35, 36, 37])
      (IC.cond (Opd.t 38)
      (IC.seq (IC.ops false [IOper.mk (some 2) (IOp.mv (Opd.c (AV.int IntKind.i64 2))) none] [])
      IC.ret)
      IC.nop))
      (IC.seq
      (IC.seq
      (IC.ops false
      [IOper.mk (some 39) (IOp.faddr 4 (Opd.t 1)) none, IOper.mk (some 40) (IOp.load none (Opd.t 39)) none,
      IOper.mk (some 41) (IOp.bin BinOp.lss (Opd.t 40) (Opd.c (AV.int IntKind.i64 4))) none,
      IOper.mk (some 42) (IOp.mv (Opd.t 41)) none,
      IOper.mk (some 43) (IOp.faddr 4 (Opd.t 1)) (some (42, false)),
      IOper.mk (some 44) (IOp.load none (Opd.t 43)) (some (42, false)),
      IOper.mk (some 45) (IOp.bin BinOp.gtr (Opd.t 44) (Opd.c (AV.int IntKind.i64 256)))
      (some (42, false)),
      IOper.mk (some 46) (IOp.pick (Opd.t 42) (Opd.c (AV.bool true)) (Opd.t 45)) none,
      IOper.mk (some 47) (IOp.mv (Opd.t 46)) none,
      IOper.mk (some 48) (IOp.faddr 5 (Opd.t 1)) (some (47, false)),
      IOper.mk (some 49) (IOp.load none (Opd.t 48)) (some (47, false)),
      IOper.mk (some 50) (IOp.bin BinOp.lss (Opd.t 49) (Opd.c (AV.int IntKind.i64 2)))
      (some (47, false)),
      IOper.mk (some 51) (IOp.pick (Opd.t 47) (Opd.c (AV.bool true)) (Opd.t 50)) none,
      IOper.mk (some 52) (IOp.mv (Opd.t 51)) none,
      IOper.mk (some 53) (IOp.faddr 5 (Opd.t 1)) (some (52, false)),
      IOper.mk (some 54) (IOp.load none (Opd.t 53)) (some (52, false)),
      IOper.mk (some 55) (IOp.faddr 4 (Opd.t 1)) (some (52, false)),
      IOper.mk (some 56) (IOp.load none (Opd.t 55)) (some (52, false)),
      IOper.mk (some 57) (IOp.bin BinOp.gtr (Opd.t 54) (Opd.t 56)) (some (52, false)),
      IOper.mk (some 58) (IOp.pick (Opd.t 52) (Opd.c (AV.bool true)) (Opd.t 57)) none]
      [39, 40, 41, 42, 43, 44, 45, 46, 47, 48, 49, 50, 51, 52, 53, 54, 55, 56, 57])
      (IC.cond (Opd.t 58)
      (IC.seq (IC.ops false [IOper.mk (some 2) (IOp.mv (Opd.c (AV.int IntKind.i64 2))) none] [])
      IC.ret)
      IC.nop))
      (IC.seq
      (IC.seq
      (IC.ops false
      [IOper.mk (some 59) (IOp.faddr 6 (Opd.t 1)) none, IOper.mk (some 60) (IOp.load none (Opd.t 59)) none,
      IOper.mk (some 61) (IOp.bin BinOp.lss (Opd.t 60) (Opd.c (AV.int IntKind.i64 2))) none,
      IOper.mk (some 62) (IOp.mv (Opd.t 61)) none,
      IOper.mk (some 63) (IOp.faddr 6 (Opd.t 1)) (some (62, false)),
      IOper.mk (some 64) (IOp.load none (Opd.t 63)) (some (62, false)),
      IOper.mk (some 65) (IOp.bin BinOp.gtr (Opd.t 64) (Opd.c (AV.int IntKind.i64 4096)))
      (some (62, false)),
      IOper.mk (some 66) (IOp.pick (Opd.t 62) (Opd.c (AV.bool true)) (Opd.t 65)) none,
      IOper.mk (some 67) (IOp.mv (Opd.t 66)) none,
      IOper.mk (some 68) (IOp.faddr 7 (Opd.t 1)) (some (67, false)),
      IOper.mk (some 69) (IOp.load none (Opd.t 68)) (some (67, false)),
      IOper.mk (some 70) (IOp.bin BinOp.lss (Opd.t 69) (Opd.c (AV.int IntKind.i64 0)))
      (some (67, false)),
      IOper.mk (some 71) (IOp.pick (Opd.t 67) (Opd.c (AV.bool true)) (Opd.t 70)) none,
      IOper.mk (some 72) (IOp.mv (Opd.t 71)) none,
      IOper.mk (some 73) (IOp.faddr 7 (Opd.t 1)) (some (72, false)),
      IOper.mk (some 74) (IOp.load none (Opd.t 73)) (some (72, false)),
      IOper.mk (some 75) (IOp.bin BinOp.gtr (Opd.t 74) (Opd.c (AV.int IntKind.i64 1000)))
      (some (72, false)),
      IOper.mk (some 76) (IOp.pick (Opd.t 72) (Opd.c (AV.bool true)) (Opd.t 75)) none,
      IOper.mk (some 77) (IOp.mv (Opd.t 76)) none,
      IOper.mk (some 78) (IOp.faddr 8 (Opd.t 1)) (some (77, false)),
      IOper.mk (some 79) (IOp.load none (Opd.t 78)) (some (77, false)),
      IOper.mk (some 80) (IOp.bin BinOp.lss (Opd.t 79) (Opd.c (AV.int IntKind.i64 1)))
      (some (77, false)),
      IOper.mk (some 81) (IOp.pick (Opd.t 77) (Opd.c (AV.bool true)) (Opd.t 80)) none,
      IOper.mk (some 82) (IOp.mv (Opd.t 81)) none,
      IOper.mk (some 83) (IOp.faddr 8 (Opd.t 1)) (some (82, false)),
      IOper.mk (some 84) (IOp.load none (Opd.t 83)) (some (82, false)),
      IOper.mk (some 85) (IOp.bin BinOp.gtr (Opd.t 84) (Opd.c (AV.int IntKind.i64 1024)))
      (some (82, false)),
      IOper.mk (some 86) (IOp.pick (Opd.t 82) (Opd.c (AV.bool true)) (Opd.t 85)) none]
      [59, 60, 61, 62, 63, 64, 65, 66, 67, 68, 69, 70, 71, 72, 73, 74, 75, 76, 77, 78, 79, 80, 81, 82, 83, 84,
      85])
      (IC.cond (Opd.t 86)
      (IC.seq (IC.ops false [IOper.mk (some 2) (IOp.mv (Opd.c (AV.int IntKind.i64 2))) none] [])
      IC.ret)
      IC.nop))
      (IC.seq (IC.ops false [IOper.mk (some 2) (IOp.mv (Opd.c (AV.int IntKind.i64 0))) none] [])
      IC.ret))))))
theorem fn_r21_Check : F 22 = some ir_r21_Check := by kernel_rfl

def ir_lin_begin : IFun :=
  IFun.mk true 4 [IRes.tmp 8, IRes.tmp 9, IRes.tmp 10]
  (IC.seq
    (IC.ops false
      [IOper.mk (some 4) (IOp.box 9 (Opd.t 0)) none, IOper.mk (some 8) (IOp.mv (Opd.c AV.nilptr)) none,
      IOper.mk (some 9) (IOp.mv (Opd.c AV.nilptr)) none,
      IOper.mk (some 10) (IOp.mv (Opd.c (AV.int IntKind.i64 0))) none]
      [])
    (IC.seq
      (IC.ops false
      [IOper.mk (some 17) (IOp.load (some 9) (Opd.t 4)) none, IOper.mk (some 18) (IOp.mv (Opd.t 1)) none,
      IOper.mk (some 19) (IOp.call (Opd.c (AV.func (Fn.func 32) [] [])) [Opd.t 17, Opd.t 18]) none,
      IOper.mk (some 16) (IOp.mv (Opd.t 19)) none, IOper.mk (some 20) (IOp.extr (Opd.t 16) 0) none,
      IOper.mk (some 21) (IOp.extr (Opd.t 16) 1) none, IOper.mk (some 11) (IOp.mv (Opd.t 20)) none,
      IOper.mk (some 12) (IOp.mv (Opd.t 21)) none]
      [17, 18, 19, 16, 20, 21])
      (IC.seq
      (IC.seq
      (IC.ops false
      [IOper.mk (some 22) (IOp.mv (Opd.t 12)) none,
      IOper.mk (some 23) (IOp.bin BinOp.neq (Opd.t 22) (Opd.c (AV.int IntKind.i64 0))) none]
      [22])
      (IC.cond (Opd.t 23)
      (IC.seq
      (IC.ops false
      [IOper.mk (some 24) (IOp.mv (Opd.t 12)) none, IOper.mk (some 8) (IOp.mv (Opd.c AV.nilptr)) none,
      IOper.mk (some 9) (IOp.mv (Opd.c AV.nilptr)) none, IOper.mk (some 10) (IOp.mv (Opd.t 24)) none]
      [24])
      IC.ret)
      IC.nop))
      (IC.seq
      (IC.ops false
      [IOper.mk (some 25) (IOp.mv (Opd.t 2)) none, IOper.mk (some 26) (IOp.mv (Opd.t 3)) none,
      IOper.mk (some 27) (IOp.mv (Opd.t 2)) none, IOper.mk (some 28) (IOp.len (Opd.t 27)) none,
      IOper.mk (some 29) (IOp.mksl 1 1 [AV.bool false] (Opd.t 28) (Opd.t 28)) none,
      IOper.mk (some 30)
      (IOp.build
      [AV.imm true 0 0 (some 0) [], AV.imm true 0 0 (some 0) [], AV.int IntKind.i64 0,
      AV.int IntKind.i64 0, AV.imm true 0 0 (some 0) [], AV.imm true 0 0 (some 0) [],
      AV.imm true 0 0 (some 0) []]
      [(0, 1, Opd.t 25), (3, 1, Opd.t 26), (5, 1, Opd.t 29)])
      none,
      IOper.mk (some 31) (IOp.box 7 (Opd.t 30)) none, IOper.mk (some 13) (IOp.mv (Opd.t 31)) none]
      [25, 26, 27, 28, 29, 30, 31])
      (IC.seq
      (IC.seq
      (IC.ops false
      [IOper.mk (some 32) (IOp.mv (Opd.t 2)) none, IOper.mk (some 33) (IOp.len (Opd.t 32)) none,
      IOper.mk (some 34) (IOp.mv (Opd.c (AV.int IntKind.i64 0))) none]
      [])
      (IC.seq
      (IC.block 0
      (IC.loop
      (IC.seq
      (IC.seq (IC.ops false [IOper.mk (some 35) (IOp.bin BinOp.lss (Opd.t 34) (Opd.t 33)) none] [])
      (IC.seq (IC.cond (Opd.t 35) IC.nop (IC.exit 0))
      (IC.seq
      (IC.seq
      (IC.block 1
      (IC.seq
      (IC.ops false
      [IOper.mk (some 36) (IOp.mv (Opd.t 34)) none,
      IOper.mk (some 37) (IOp.ixa 16 (Opd.t 32) (Opd.t 34)) none,
      IOper.mk (some 38) (IOp.load (some 16) (Opd.t 37)) none,
      IOper.mk (some 15)
      (IOp.alloc
      [AV.int IntKind.i64 0, AV.int IntKind.i64 0,
      AV.int IntKind.u8 0, AV.str [], AV.str [],
      AV.int IntKind.i64 0, AV.imm true 0 0 (some 0) [],
      AV.int IntKind.i64 0, AV.int IntKind.i64 0,
      AV.int IntKind.i64 0, AV.int IntKind.i64 0,
      AV.bool false, AV.str [], AV.imm true 0 0 (some 0) [],
      AV.int IntKind.i64 0, AV.bool false])
      none,
      IOper.mk (some 14) (IOp.mv (Opd.t 36)) none,
      IOper.mk none (IOp.store 16 (Opd.t 15) (Opd.t 38)) none]
      [36, 37, 38])
      (IC.seq
      (IC.seq
      (IC.block 2
      (IC.seq
      (IC.ops false
      [IOper.mk (some 40) (IOp.load (some 16) (Opd.t 15)) none,
      IOper.mk (some 41) (IOp.calls 33 [Opd.t 40]) none,
      IOper.mk (some 39) (IOp.mv (Opd.t 41)) none]
      [40, 41])
      (IC.cond (Opd.t 39)
      (IC.ops false
      [IOper.mk (some 42) (IOp.mv (Opd.t 13)) none,
      IOper.mk (some 43) (IOp.nilck (Opd.t 42)) none,
      IOper.mk (some 44) (IOp.faddr 2 (Opd.t 43)) none,
      IOper.mk (some 45) (IOp.load none (Opd.t 44)) none,
      IOper.mk (some 46)
      (IOp.bin BinOp.add (Opd.t 45)
      (Opd.c (AV.int IntKind.i64 1)))
      none,
      IOper.mk (some 47) (IOp.nilck (Opd.t 42)) none,
      IOper.mk (some 48) (IOp.faddr 2 (Opd.t 47)) none,
      IOper.mk none (IOp.store 1 (Opd.t 48) (Opd.t 46)) none]
      [42, 43, 44, 45, 46, 47, 48])
      (IC.seq
      (IC.ops false
      [IOper.mk (some 50) (IOp.faddr 9 (Opd.t 15)) none,
      IOper.mk (some 51) (IOp.load none (Opd.t 50)) none,
      IOper.mk (some 52)
      (IOp.bin BinOp.neq (Opd.t 51)
      (Opd.c (AV.int IntKind.i64 0)))
      none,
      IOper.mk (some 53) (IOp.mv (Opd.t 52)) none,
      IOper.mk (some 54) (IOp.faddr 2 (Opd.t 15)) (some (53, false)),
      IOper.mk (some 55) (IOp.faddr 0 (Opd.t 54)) (some (53, false)),
      IOper.mk (some 56) (IOp.load none (Opd.t 55)) (some (53, false)),
      IOper.mk (some 57)
      (IOp.bin BinOp.neq (Opd.t 56)
      (Opd.c (AV.int IntKind.u8 2)))
      (some (53, false)),
      IOper.mk (some 58)
      (IOp.pick (Opd.t 53) (Opd.c (AV.bool true)) (Opd.t 57)) none,
      IOper.mk (some 49) (IOp.mv (Opd.t 58)) none]
      [50, 51, 52, 53, 54, 55, 56, 57, 58])
      (IC.cond (Opd.t 49) (IC.exit 1) IC.nop)))))
      (IC.ops false []
      [40, 41, 39, 42, 43, 44, 45, 46, 47, 48, 50, 51, 52, 53, 54, 55, 56, 57, 58,
      49]))
      (IC.ops false
      [IOper.mk (some 59) (IOp.mv (Opd.t 13)) none,
      IOper.mk (some 60) (IOp.mv (Opd.t 13)) none,
      IOper.mk (some 61) (IOp.nilck (Opd.t 60)) none,
      IOper.mk (some 62) (IOp.faddr 1 (Opd.t 61)) none,
      IOper.mk (some 63) (IOp.load none (Opd.t 62)) none,
      IOper.mk (some 64) (IOp.mv (Opd.t 14)) none,
      IOper.mk (some 65)
      (IOp.bsl false 1 1 [AV.int IntKind.i64 0] [(0, 1, Opd.t 64)])
      none,
      IOper.mk (some 66) (IOp.append 1 8 (Opd.t 63) (Opd.t 65)) none,
      IOper.mk (some 67) (IOp.nilck (Opd.t 59)) none,
      IOper.mk (some 68) (IOp.faddr 1 (Opd.t 67)) none,
      IOper.mk none (IOp.store 1 (Opd.t 68) (Opd.t 66)) none]
      [59, 60, 61, 62, 63, 64, 65, 66, 67, 68]))))
      (IC.ops false []
      [36, 37, 38, 15, 14, 40, 41, 39, 42, 43, 44, 45, 46, 47, 48, 50, 51, 52, 53, 54, 55, 56,
      57, 58, 49, 59, 60, 61, 62, 63, 64, 65, 66, 67, 68]))
      (IC.ops false
      [IOper.mk (some 69)
      (IOp.bin BinOp.add (Opd.t 34) (Opd.c (AV.int IntKind.i64 1))) none,
      IOper.mk (some 34) (IOp.mv (Opd.t 69)) none]
      [69]))))
      (IC.ops false []
      [35, 36, 37, 38, 15, 14, 40, 41, 39, 42, 43, 44, 45, 46, 47, 48, 50, 51, 52, 53, 54, 55, 56, 57,
      58, 49, 59, 60, 61, 62, 63, 64, 65, 66, 67, 68, 69]))))
      (IC.ops false []
      [35, 36, 37, 38, 15, 14, 40, 41, 39, 42, 43, 44, 45, 46, 47, 48, 50, 51, 52, 53, 54, 55, 56, 57, 58,
      49, 59, 60, 61, 62, 63, 64, 65, 66, 67, 68, 69])))
      (IC.seq
      (IC.seq
      (IC.ops false
      [IOper.mk (some 70) (IOp.mv (Opd.t 13)) none, IOper.mk (some 71) (IOp.nilck (Opd.t 70)) none,
      IOper.mk (some 72) (IOp.faddr 1 (Opd.t 71)) none,
      IOper.mk (some 73) (IOp.load none (Opd.t 72)) none, IOper.mk (some 74) (IOp.len (Opd.t 73)) none,
      IOper.mk (some 75) (IOp.bin BinOp.gtr (Opd.t 74) (Opd.c (AV.int IntKind.i64 8))) none]
      [70, 71, 72, 73, 74])
      (IC.cond (Opd.t 75)
      (IC.seq
      (IC.ops false
      [IOper.mk (some 8) (IOp.mv (Opd.c AV.nilptr)) none,
      IOper.mk (some 9) (IOp.mv (Opd.c AV.nilptr)) none,
      IOper.mk (some 10) (IOp.mv (Opd.c (AV.int IntKind.i64 4))) none]
      [])
      IC.ret)
      IC.nop))
      (IC.seq
      (IC.ops false
      [IOper.mk (some 76) (IOp.mv (Opd.t 13)) none, IOper.mk (some 77) (IOp.mv (Opd.t 11)) none,
      IOper.mk (some 8) (IOp.mv (Opd.t 76)) none, IOper.mk (some 9) (IOp.mv (Opd.t 77)) none,
      IOper.mk (some 10) (IOp.mv (Opd.c (AV.int IntKind.i64 0))) none]
      [76, 77])
      IC.ret)))))))
theorem fn_lin_begin : F 23 = some ir_lin_begin := by kernel_rfl

def ir_r29_Refused : IFun :=
  IFun.mk false 1 [IRes.tmp 2]
  (IC.seq
    (IC.ops false
      [IOper.mk (some 1) (IOp.box 6 (Opd.t 0)) none, IOper.mk (some 2) (IOp.mv (Opd.c (AV.bool false))) none] [])
    (IC.seq
      (IC.ops false
      [IOper.mk (some 3) (IOp.faddr 0 (Opd.t 1)) none, IOper.mk (some 4) (IOp.load none (Opd.t 3)) none,
      IOper.mk (some 5) (IOp.bin BinOp.eql (Opd.t 4) (Opd.c (AV.int IntKind.i64 10))) none,
      IOper.mk (some 6) (IOp.mv (Opd.t 5)) none, IOper.mk (some 7) (IOp.faddr 0 (Opd.t 1)) (some (6, false)),
      IOper.mk (some 8) (IOp.load none (Opd.t 7)) (some (6, false)),
      IOper.mk (some 9) (IOp.bin BinOp.eql (Opd.t 8) (Opd.c (AV.int IntKind.i64 9))) (some (6, false)),
      IOper.mk (some 10) (IOp.pick (Opd.t 6) (Opd.c (AV.bool true)) (Opd.t 9)) none,
      IOper.mk (some 2) (IOp.mv (Opd.t 10)) none]
      [3, 4, 5, 6, 7, 8, 9, 10])
      IC.ret))
theorem fn_r29_Refused : F 31 = some ir_r29_Refused := by kernel_rfl

def ir_model_New : IFun :=
  IFun.mk true 2 [IRes.tmp 4, IRes.tmp 5]
  (IC.seq
    (IC.ops false
      [IOper.mk (some 2) (IOp.box 9 (Opd.t 0)) none, IOper.mk (some 4) (IOp.mv (Opd.c AV.nilptr)) none,
      IOper.mk (some 5) (IOp.mv (Opd.c (AV.int IntKind.i64 0))) none]
      [])
    (IC.seq
      (IC.seq
      (IC.ops false
      [IOper.mk (some 6) (IOp.load (some 9) (Opd.t 2)) none,
      IOper.mk (some 7) (IOp.call (Opd.c (AV.func (Fn.func 52) [] [])) [Opd.t 6]) none,
      IOper.mk (some 8) (IOp.bin BinOp.neq (Opd.t 7) (Opd.c (AV.int IntKind.i64 0))) none,
      IOper.mk (some 9) (IOp.mv (Opd.t 8)) none, IOper.mk (some 10) (IOp.mv (Opd.t 1)) (some (9, false)),
      IOper.mk (some 11) (IOp.bin BinOp.lss (Opd.t 10) (Opd.c (AV.int IntKind.i64 1)))
      (some (9, false)),
      IOper.mk (some 12) (IOp.pick (Opd.t 9) (Opd.c (AV.bool true)) (Opd.t 11)) none,
      IOper.mk (some 13) (IOp.mv (Opd.t 12)) none, IOper.mk (some 14) (IOp.mv (Opd.t 1)) (some (13, false)),
      IOper.mk (some 15) (IOp.bin BinOp.gtr (Opd.t 14) (Opd.c (AV.int IntKind.i64 64)))
      (some (13, false)),
      IOper.mk (some 16) (IOp.pick (Opd.t 13) (Opd.c (AV.bool true)) (Opd.t 15)) none]
      [6, 7, 8, 9, 10, 11, 12, 13, 14, 15])
      (IC.cond (Opd.t 16)
      (IC.seq
      (IC.ops false
      [IOper.mk (some 4) (IOp.mv (Opd.c AV.nilptr)) none,
      IOper.mk (some 5) (IOp.mv (Opd.c (AV.int IntKind.i64 2))) none]
      [])
      IC.ret)
      IC.nop))
      (IC.seq
      (IC.seq (IC.ops false [IOper.mk none (IOp.slots 1) none] [])
      (IC.multi
      [[IOper.mk (some 18) (IOp.mv (Opd.t 1)) none, IOper.mk (some 17) (IOp.load (some 9) (Opd.t 2)) none,
      IOper.mk (some 19) (IOp.call (Opd.c (AV.func (Fn.func 53) [] [])) []) none,
      IOper.mk (some 20) (IOp.mapA 1) none,
      IOper.mk (some 21)
      (IOp.build
      [AV.int IntKind.i64 0, AV.int IntKind.i64 0,
      AV.int IntKind.i64 0, AV.int IntKind.i64 0,
      AV.int IntKind.i64 0, AV.int IntKind.i64 0,
      AV.int IntKind.i64 0, AV.int IntKind.i64 0,
      AV.int IntKind.i64 0, AV.int IntKind.i64 0, AV.nilptr, AV.nilmap,
      AV.int IntKind.i64 0]
      [(0, 9, Opd.t 17), (9, 1, Opd.t 18), (10, 1, Opd.t 19), (11, 1, Opd.t 20)])
      none,
      IOper.mk (some 22) (IOp.box 13 (Opd.t 21)) none, IOper.mk (some 4) (IOp.mv (Opd.t 22)) none,
      IOper.mk (some 5) (IOp.mv (Opd.c (AV.int IntKind.i64 0))) none],
      [IOper.mk (some 18) (IOp.mv (Opd.t 1)) none, IOper.mk (some 17) (IOp.load (some 9) (Opd.t 2)) none,
      IOper.mk (some 20) (IOp.mapA 1) none,
      IOper.mk (some 19) (IOp.call (Opd.c (AV.func (Fn.func 53) [] [])) []) none,
      IOper.mk (some 21)
      (IOp.build
      [AV.int IntKind.i64 0, AV.int IntKind.i64 0,
      AV.int IntKind.i64 0, AV.int IntKind.i64 0,
      AV.int IntKind.i64 0, AV.int IntKind.i64 0,
      AV.int IntKind.i64 0, AV.int IntKind.i64 0,
      AV.int IntKind.i64 0, AV.int IntKind.i64 0, AV.nilptr, AV.nilmap,
      AV.int IntKind.i64 0]
      [(0, 9, Opd.t 17), (9, 1, Opd.t 18), (10, 1, Opd.t 19), (11, 1, Opd.t 20)])
      none,
      IOper.mk (some 22) (IOp.box 13 (Opd.t 21)) none, IOper.mk (some 4) (IOp.mv (Opd.t 22)) none,
      IOper.mk (some 5) (IOp.mv (Opd.c (AV.int IntKind.i64 0))) none],
      [IOper.mk (some 18) (IOp.mv (Opd.t 1)) none,
      IOper.mk (some 19) (IOp.call (Opd.c (AV.func (Fn.func 53) [] [])) []) none,
      IOper.mk (some 17) (IOp.load (some 9) (Opd.t 2)) none, IOper.mk (some 20) (IOp.mapA 1) none,
      IOper.mk (some 21)
      (IOp.build
      [AV.int IntKind.i64 0, AV.int IntKind.i64 0,
      AV.int IntKind.i64 0, AV.int IntKind.i64 0,
      AV.int IntKind.i64 0, AV.int IntKind.i64 0,
      AV.int IntKind.i64 0, AV.int IntKind.i64 0,
      AV.int IntKind.i64 0, AV.int IntKind.i64 0, AV.nilptr, AV.nilmap,
      AV.int IntKind.i64 0]
      [(0, 9, Opd.t 17), (9, 1, Opd.t 18), (10, 1, Opd.t 19), (11, 1, Opd.t 20)])
      none,
      IOper.mk (some 22) (IOp.box 13 (Opd.t 21)) none, IOper.mk (some 4) (IOp.mv (Opd.t 22)) none,
      IOper.mk (some 5) (IOp.mv (Opd.c (AV.int IntKind.i64 0))) none],
      [IOper.mk (some 18) (IOp.mv (Opd.t 1)) none,
      IOper.mk (some 19) (IOp.call (Opd.c (AV.func (Fn.func 53) [] [])) []) none,
      IOper.mk (some 20) (IOp.mapA 1) none, IOper.mk (some 17) (IOp.load (some 9) (Opd.t 2)) none,
      IOper.mk (some 21)
      (IOp.build
      [AV.int IntKind.i64 0, AV.int IntKind.i64 0,
      AV.int IntKind.i64 0, AV.int IntKind.i64 0,
      AV.int IntKind.i64 0, AV.int IntKind.i64 0,
      AV.int IntKind.i64 0, AV.int IntKind.i64 0,
      AV.int IntKind.i64 0, AV.int IntKind.i64 0, AV.nilptr, AV.nilmap,
      AV.int IntKind.i64 0]
      [(0, 9, Opd.t 17), (9, 1, Opd.t 18), (10, 1, Opd.t 19), (11, 1, Opd.t 20)])
      none,
      IOper.mk (some 22) (IOp.box 13 (Opd.t 21)) none, IOper.mk (some 4) (IOp.mv (Opd.t 22)) none,
      IOper.mk (some 5) (IOp.mv (Opd.c (AV.int IntKind.i64 0))) none],
      [IOper.mk (some 18) (IOp.mv (Opd.t 1)) none, IOper.mk (some 20) (IOp.mapA 1) none,
      IOper.mk (some 17) (IOp.load (some 9) (Opd.t 2)) none,
      IOper.mk (some 19) (IOp.call (Opd.c (AV.func (Fn.func 53) [] [])) []) none,
      IOper.mk (some 21)
      (IOp.build
      [AV.int IntKind.i64 0, AV.int IntKind.i64 0,
      AV.int IntKind.i64 0, AV.int IntKind.i64 0,
      AV.int IntKind.i64 0, AV.int IntKind.i64 0,
      AV.int IntKind.i64 0, AV.int IntKind.i64 0,
      AV.int IntKind.i64 0, AV.int IntKind.i64 0, AV.nilptr, AV.nilmap,
      AV.int IntKind.i64 0]
      [(0, 9, Opd.t 17), (9, 1, Opd.t 18), (10, 1, Opd.t 19), (11, 1, Opd.t 20)])
      none,
      IOper.mk (some 22) (IOp.box 13 (Opd.t 21)) none, IOper.mk (some 4) (IOp.mv (Opd.t 22)) none,
      IOper.mk (some 5) (IOp.mv (Opd.c (AV.int IntKind.i64 0))) none],
      [IOper.mk (some 18) (IOp.mv (Opd.t 1)) none, IOper.mk (some 20) (IOp.mapA 1) none,
      IOper.mk (some 19) (IOp.call (Opd.c (AV.func (Fn.func 53) [] [])) []) none,
      IOper.mk (some 17) (IOp.load (some 9) (Opd.t 2)) none,
      IOper.mk (some 21)
      (IOp.build
      [AV.int IntKind.i64 0, AV.int IntKind.i64 0,
      AV.int IntKind.i64 0, AV.int IntKind.i64 0,
      AV.int IntKind.i64 0, AV.int IntKind.i64 0,
      AV.int IntKind.i64 0, AV.int IntKind.i64 0,
      AV.int IntKind.i64 0, AV.int IntKind.i64 0, AV.nilptr, AV.nilmap,
      AV.int IntKind.i64 0]
      [(0, 9, Opd.t 17), (9, 1, Opd.t 18), (10, 1, Opd.t 19), (11, 1, Opd.t 20)])
      none,
      IOper.mk (some 22) (IOp.box 13 (Opd.t 21)) none, IOper.mk (some 4) (IOp.mv (Opd.t 22)) none,
      IOper.mk (some 5) (IOp.mv (Opd.c (AV.int IntKind.i64 0))) none]]
      [17, 18, 19, 20, 21, 22]))
      IC.ret)))
theorem fn_model_New : F 32 = some ir_model_New := by kernel_rfl

def ir_lin_required : IFun :=
  IFun.mk false 1 [IRes.tmp 2]
  (IC.seq
    (IC.ops false
      [IOper.mk (some 1) (IOp.box 16 (Opd.t 0)) none, IOper.mk (some 2) (IOp.mv (Opd.c (AV.bool false))) none] [])
    (IC.seq
      (IC.ops false
      [IOper.mk (some 3) (IOp.faddr 9 (Opd.t 1)) none, IOper.mk (some 4) (IOp.load none (Opd.t 3)) none,
      IOper.mk (some 5) (IOp.bin BinOp.neq (Opd.t 4) (Opd.c (AV.int IntKind.i64 0))) none,
      IOper.mk (some 6) (IOp.mv (Opd.t 5)) none, IOper.mk (some 7) (IOp.faddr 10 (Opd.t 1)) (some (6, true)),
      IOper.mk (some 8) (IOp.load (some 6) (Opd.t 7)) (some (6, true)),
      IOper.mk (some 9) (IOp.call (Opd.c (AV.func (Fn.func 54) [] [])) [Opd.t 8]) (some (6, true)),
      IOper.mk (some 10) (IOp.not (Opd.t 9)) (some (6, true)),
      IOper.mk (some 11) (IOp.pick (Opd.t 6) (Opd.t 10) (Opd.c (AV.bool false))) none,
      IOper.mk (some 2) (IOp.mv (Opd.t 11)) none]
      [3, 4, 5, 6, 7, 8, 9, 10, 11])
      IC.ret))
theorem fn_lin_required : F 33 = some ir_lin_required := by kernel_rfl

def ir_room_Check : IFun :=
  IFun.mk false 1 [IRes.tmp 2]
  (IC.seq
    (IC.ops false
      [IOper.mk (some 1) (IOp.box 9 (Opd.t 0)) none,
      IOper.mk (some 2) (IOp.mv (Opd.c (AV.int IntKind.i64 0))) none]
      [])
    (IC.seq
      (IC.ops false
      [IOper.mk (some 4) (IOp.faddr 0 (Opd.t 1)) none, IOper.mk (some 5) (IOp.load none (Opd.t 4)) none,
      IOper.mk (some 6)
      (IOp.call (Opd.c (AV.func (Fn.func 79) [] []))
      [Opd.t 5, Opd.c (AV.int IntKind.i64 1), Opd.c (AV.int IntKind.i64 256)])
      none,
      IOper.mk (some 7) (IOp.mv (Opd.t 6)) none, IOper.mk (some 8) (IOp.faddr 1 (Opd.t 1)) (some (7, true)),
      IOper.mk (some 9) (IOp.load none (Opd.t 8)) (some (7, true)),
      IOper.mk (some 10)
      (IOp.call (Opd.c (AV.func (Fn.func 79) [] []))
      [Opd.t 9, Opd.c (AV.int IntKind.i64 8), Opd.c (AV.int IntKind.i64 4096)])
      (some (7, true)),
      IOper.mk (some 11) (IOp.pick (Opd.t 7) (Opd.t 10) (Opd.c (AV.bool false))) none,
      IOper.mk (some 12) (IOp.mv (Opd.t 11)) none, IOper.mk (some 13) (IOp.faddr 2 (Opd.t 1)) (some (12, true)),
      IOper.mk (some 14) (IOp.load none (Opd.t 13)) (some (12, true)),
      IOper.mk (some 15)
      (IOp.call (Opd.c (AV.func (Fn.func 79) [] []))
      [Opd.t 14, Opd.c (AV.int IntKind.i64 4), Opd.c (AV.int IntKind.i64 64)])
      (some (12, true)),
      IOper.mk (some 16) (IOp.pick (Opd.t 12) (Opd.t 15) (Opd.c (AV.bool false))) none,
      IOper.mk (some 17) (IOp.mv (Opd.t 16)) none, IOper.mk (some 18) (IOp.faddr 3 (Opd.t 1)) (some (17, true)),
      IOper.mk (some 19) (IOp.load none (Opd.t 18)) (some (17, true)),
      IOper.mk (some 20)
      (IOp.call (Opd.c (AV.func (Fn.func 79) [] []))
      [Opd.t 19, Opd.c (AV.int IntKind.i64 0), Opd.c (AV.int IntKind.i64 1048576)])
      (some (17, true)),
      IOper.mk (some 21) (IOp.pick (Opd.t 17) (Opd.t 20) (Opd.c (AV.bool false))) none,
      IOper.mk (some 22) (IOp.mv (Opd.t 21)) none, IOper.mk (some 23) (IOp.faddr 4 (Opd.t 1)) (some (22, true)),
      IOper.mk (some 24) (IOp.load none (Opd.t 23)) (some (22, true)),
      IOper.mk (some 25)
      (IOp.call (Opd.c (AV.func (Fn.func 79) [] []))
      [Opd.t 24, Opd.c (AV.int IntKind.i64 4), Opd.c (AV.int IntKind.i64 256)])
      (some (22, true)),
      IOper.mk (some 26) (IOp.pick (Opd.t 22) (Opd.t 25) (Opd.c (AV.bool false))) none,
      IOper.mk (some 27) (IOp.mv (Opd.t 26)) none, IOper.mk (some 28) (IOp.faddr 5 (Opd.t 1)) (some (27, true)),
      IOper.mk (some 29) (IOp.load none (Opd.t 28)) (some (27, true)),
      IOper.mk (some 30) (IOp.faddr 4 (Opd.t 1)) (some (27, true)),
      IOper.mk (some 31) (IOp.load none (Opd.t 30)) (some (27, true)),
      IOper.mk (some 32)
      (IOp.call (Opd.c (AV.func (Fn.func 79) [] []))
      [Opd.t 29, Opd.c (AV.int IntKind.i64 2), Opd.t 31])
      (some (27, true)),
      IOper.mk (some 33) (IOp.pick (Opd.t 27) (Opd.t 32) (Opd.c (AV.bool false))) none,
      IOper.mk (some 34) (IOp.mv (Opd.t 33)) none, IOper.mk (some 35) (IOp.faddr 6 (Opd.t 1)) (some (34, true)),
      IOper.mk (some 36) (IOp.load none (Opd.t 35)) (some (34, true)),
      IOper.mk (some 37)
      (IOp.call (Opd.c (AV.func (Fn.func 79) [] []))
      [Opd.t 36, Opd.c (AV.int IntKind.i64 2), Opd.c (AV.int IntKind.i64 4096)])
      (some (34, true)),
      IOper.mk (some 38) (IOp.pick (Opd.t 34) (Opd.t 37) (Opd.c (AV.bool false))) none,
      IOper.mk (some 39) (IOp.mv (Opd.t 38)) none, IOper.mk (some 40) (IOp.faddr 7 (Opd.t 1)) (some (39, true)),
      IOper.mk (some 41) (IOp.load none (Opd.t 40)) (some (39, true)),
      IOper.mk (some 42)
      (IOp.call (Opd.c (AV.func (Fn.func 79) [] []))
      [Opd.t 41, Opd.c (AV.int IntKind.i64 0), Opd.c (AV.int IntKind.i64 1000)])
      (some (39, true)),
      IOper.mk (some 43) (IOp.pick (Opd.t 39) (Opd.t 42) (Opd.c (AV.bool false))) none,
      IOper.mk (some 44) (IOp.mv (Opd.t 43)) none, IOper.mk (some 45) (IOp.faddr 8 (Opd.t 1)) (some (44, true)),
      IOper.mk (some 46) (IOp.load none (Opd.t 45)) (some (44, true)),
      IOper.mk (some 47)
      (IOp.call (Opd.c (AV.func (Fn.func 79) [] []))
      [Opd.t 46, Opd.c (AV.int IntKind.i64 1), Opd.c (AV.int IntKind.i64 1024)])
      (some (44, true)),
      IOper.mk (some 48) (IOp.pick (Opd.t 44) (Opd.t 47) (Opd.c (AV.bool false))) none,
      IOper.mk (some 3) (IOp.mv (Opd.t 48)) none]
      [4, 5, 6, 7, 8, 9, 10, 11, 12, 13, 14, 15, 16, 17, 18, 19, 20, 21, 22, 23, 24, 25, 26, 27, 28, 29, 30, 31, 32,
      33, 34, 35, 36, 37, 38, 39, 40, 41, 42, 43, 44, 45, 46, 47, 48])
      (IC.seq
      (IC.seq
      (IC.ops false [IOper.mk (some 49) (IOp.mv (Opd.t 3)) none, IOper.mk (some 50) (IOp.not (Opd.t 49)) none] [49])
      (IC.cond (Opd.t 50)
      (IC.seq (IC.ops false [IOper.mk (some 2) (IOp.mv (Opd.c (AV.int IntKind.i64 2))) none] [])
      IC.ret)
      IC.nop))
      (IC.seq (IC.ops false [IOper.mk (some 2) (IOp.mv (Opd.c (AV.int IntKind.i64 0))) none] [])
      IC.ret))))
theorem fn_room_Check : F 52 = some ir_room_Check := by kernel_rfl

def ir_order_New_string_string : IFun :=
  IFun.mk true 0 [IRes.tmp 0]
  (IC.seq (IC.ops false [IOper.mk (some 0) (IOp.mv (Opd.c AV.nilptr)) none] [])
    (IC.seq
      (IC.ops false
      [IOper.mk (some 1) (IOp.build [AV.nilptr] []) none, IOper.mk (some 2) (IOp.box 1 (Opd.t 1)) none,
      IOper.mk (some 0) (IOp.mv (Opd.t 2)) none]
      [1, 2])
      IC.ret))
theorem fn_order_New_string_string : F 53 = some ir_order_New_string_string := by kernel_rfl

def ir_model_Refused : IFun :=
  IFun.mk false 1 [IRes.tmp 2]
  (IC.seq
    (IC.ops false
      [IOper.mk (some 1) (IOp.box 6 (Opd.t 0)) none, IOper.mk (some 2) (IOp.mv (Opd.c (AV.bool false))) none] [])
    (IC.seq
      (IC.ops false
      [IOper.mk (some 3) (IOp.faddr 0 (Opd.t 1)) none, IOper.mk (some 4) (IOp.load none (Opd.t 3)) none,
      IOper.mk (some 5) (IOp.bin BinOp.eql (Opd.t 4) (Opd.c (AV.int IntKind.i64 10))) none,
      IOper.mk (some 6) (IOp.mv (Opd.t 5)) none, IOper.mk (some 7) (IOp.faddr 0 (Opd.t 1)) (some (6, false)),
      IOper.mk (some 8) (IOp.load none (Opd.t 7)) (some (6, false)),
      IOper.mk (some 9) (IOp.bin BinOp.eql (Opd.t 8) (Opd.c (AV.int IntKind.i64 9))) (some (6, false)),
      IOper.mk (some 10) (IOp.pick (Opd.t 6) (Opd.c (AV.bool true)) (Opd.t 9)) none,
      IOper.mk (some 2) (IOp.mv (Opd.t 10)) none]
      [3, 4, 5, 6, 7, 8, 9, 10])
      IC.ret))
theorem fn_model_Refused : F 54 = some ir_model_Refused := by kernel_rfl

def ir_room_in : IFun :=
  IFun.mk false 3 [IRes.tmp 6]
  (IC.seq (IC.ops false [IOper.mk (some 6) (IOp.mv (Opd.c (AV.bool false))) none] [])
    (IC.seq
      (IC.ops false
      [IOper.mk (some 7) (IOp.mv (Opd.t 0)) none, IOper.mk (some 8) (IOp.mv (Opd.t 1)) none,
      IOper.mk (some 9) (IOp.bin BinOp.geq (Opd.t 7) (Opd.t 8)) none, IOper.mk (some 10) (IOp.mv (Opd.t 9)) none,
      IOper.mk (some 11) (IOp.mv (Opd.t 0)) (some (10, true)),
      IOper.mk (some 12) (IOp.mv (Opd.t 2)) (some (10, true)),
      IOper.mk (some 13) (IOp.bin BinOp.leq (Opd.t 11) (Opd.t 12)) (some (10, true)),
      IOper.mk (some 14) (IOp.pick (Opd.t 10) (Opd.t 13) (Opd.c (AV.bool false))) none,
      IOper.mk (some 6) (IOp.mv (Opd.t 14)) none]
      [7, 8, 9, 10, 11, 12, 13, 14])
      IC.ret))
theorem fn_room_in : F 79 = some ir_room_in := by kernel_rfl

end Go.AS.Li
