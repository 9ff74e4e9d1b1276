import Derived.Test.YtefnpnokbanbkaaAs1
import Derived.Test.YtefnpnokbanbkaaProg
import Derived.KernelRfl
set_option linter.all false
namespace Go.AS.Fw
open Go Go.Proofs
set_option maxRecDepth 100000
def ann : Ann := ⟨[], [], []⟩
def ir3 : IFun :=
  IFun.mk false 3 [IRes.tmp 6]
  (IC.seq (IC.ops false [IOper.mk (some 6) (IOp.mv (Opd.c (AV.bool false))) none] [])
    (IC.seq
      (IC.ops false
        [IOper.mk (some 8) (IOp.mv (Opd.t 0)) none,
          IOper.mk (some 9) (IOp.call (Opd.c (AV.func (Fn.func 8) [] [])) [Opd.t 8]) none,
          IOper.mk (some 10) (IOp.mv (Opd.t 1)) none,
          IOper.mk (some 11) (IOp.call (Opd.c (AV.func (Fn.func 8) [] [])) [Opd.t 10]) none,
          IOper.mk (some 0) (IOp.mv (Opd.t 9)) none, IOper.mk (some 1) (IOp.mv (Opd.t 11)) none]
        [8, 9, 10, 11])
      (IC.seq
        (IC.ops false
          [IOper.mk (some 12) (IOp.mv (Opd.t 0)) none, IOper.mk (some 13) (IOp.mv (Opd.t 1)) none,
            IOper.mk (some 14) (IOp.call (Opd.c (AV.func (Fn.func 9) [] [])) [Opd.t 12, Opd.t 13]) none,
            IOper.mk (some 7) (IOp.mv (Opd.t 14)) none]
          [12, 13, 14])
        (IC.seq
          (IC.seq
            (IC.ops false
              [IOper.mk (some 15) (IOp.mv (Opd.t 0)) none, IOper.mk (some 16) (IOp.mv (Opd.t 1)) none,
                IOper.mk (some 17) (IOp.mv (Opd.t 2)) none,
                IOper.mk (some 18) (IOp.call (Opd.c (AV.func (Fn.func 10) [] [])) [Opd.t 15, Opd.t 16, Opd.t 17]) none,
                IOper.mk (some 19) (IOp.mv (Opd.t 0)) none, IOper.mk (some 20) (IOp.mv (Opd.t 1)) none,
                IOper.mk (some 21) (IOp.mv (Opd.t 2)) none,
                IOper.mk (some 22) (IOp.call (Opd.c (AV.func (Fn.func 11) [] [])) [Opd.t 19, Opd.t 20, Opd.t 21]) none,
                IOper.mk (some 23) (IOp.eqb true (Opd.t 18) (Opd.t 22)) none,
                IOper.mk (some 24) (IOp.mv (Opd.t 23)) none, IOper.mk (some 25) (IOp.mv (Opd.t 7)) (some (24, false)),
                IOper.mk (some 26) (IOp.mv (Opd.t 0)) (some (24, false)),
                IOper.mk (some 27) (IOp.mv (Opd.t 1)) (some (24, false)),
                IOper.mk (some 28) (IOp.call (Opd.c (AV.func (Fn.func 12) [] [])) [Opd.t 26, Opd.t 27])
                  (some (24, false)),
                IOper.mk (some 29) (IOp.bin BinOp.neq (Opd.t 25) (Opd.t 28)) (some (24, false)),
                IOper.mk (some 30) (IOp.pick (Opd.t 24) (Opd.c (AV.bool true)) (Opd.t 29)) none]
              [15, 16, 17, 18, 19, 20, 21, 22, 23, 24, 25, 26, 27, 28, 29])
            (IC.cond (Opd.t 30)
              (IC.seq (IC.ops false [IOper.mk (some 6) (IOp.mv (Opd.c (AV.bool false))) none] []) IC.ret) IC.nop))
          (IC.seq
            (IC.ops false
              [IOper.mk (some 31) (IOp.call (Opd.c (AV.func (Fn.func 13) [] [])) []) none,
                IOper.mk (some 32) (IOp.mv (Opd.t 31)) none, IOper.mk (some 33) (IOp.mv (Opd.t 0)) (some (32, true)),
                IOper.mk (some 34) (IOp.mv (Opd.t 1)) (some (32, true)),
                IOper.mk (some 35) (IOp.mv (Opd.t 7)) (some (32, true)),
                IOper.mk (some 36) (IOp.call (Opd.c (AV.func (Fn.func 10) [] [])) [Opd.t 33, Opd.t 34, Opd.t 35])
                  (some (32, true)),
                IOper.mk (some 37) (IOp.pick (Opd.t 32) (Opd.t 36) (Opd.c (AV.bool false))) none,
                IOper.mk (some 38) (IOp.mv (Opd.t 37)) none, IOper.mk (some 39) (IOp.mv (Opd.t 0)) (some (38, true)),
                IOper.mk (some 40) (IOp.mv (Opd.t 1)) (some (38, true)),
                IOper.mk (some 41) (IOp.mv (Opd.t 7)) (some (38, true)),
                IOper.mk (some 42) (IOp.bin BinOp.sub (Opd.t 41) (Opd.c (AV.int IntKind.i64 1)))
                  (some (38, true)),
                IOper.mk (some 43) (IOp.call (Opd.c (AV.func (Fn.func 10) [] [])) [Opd.t 39, Opd.t 40, Opd.t 42])
                  (some (38, true)),
                IOper.mk (some 44) (IOp.not (Opd.t 43)) (some (38, true)),
                IOper.mk (some 45) (IOp.pick (Opd.t 38) (Opd.t 44) (Opd.c (AV.bool false))) none,
                IOper.mk (some 46) (IOp.mv (Opd.t 45)) none, IOper.mk (some 47) (IOp.mv (Opd.t 2)) (some (46, true)),
                IOper.mk (some 48) (IOp.mv (Opd.t 7)) (some (46, true)),
                IOper.mk (some 49) (IOp.bin BinOp.lss (Opd.t 47) (Opd.t 48)) (some (46, true)),
                IOper.mk (some 50) (IOp.mv (Opd.t 49)) (some (46, true)),
                IOper.mk (some 51) (IOp.mv (Opd.t 0)) (some (50, false)),
                IOper.mk (some 52) (IOp.mv (Opd.t 1)) (some (50, false)),
                IOper.mk (some 53) (IOp.mv (Opd.t 2)) (some (50, false)),
                IOper.mk (some 54) (IOp.call (Opd.c (AV.func (Fn.func 10) [] [])) [Opd.t 51, Opd.t 52, Opd.t 53])
                  (some (50, false)),
                IOper.mk (some 55) (IOp.pick (Opd.t 50) (Opd.c (AV.bool true)) (Opd.t 54)) (some (46, true)),
                IOper.mk (some 56) (IOp.pick (Opd.t 46) (Opd.t 55) (Opd.c (AV.bool false))) none,
                IOper.mk (some 57) (IOp.mv (Opd.t 56)) none, IOper.mk (some 58) (IOp.mv (Opd.t 7)) (some (57, true)),
                IOper.mk (some 59) (IOp.mv (Opd.t 0)) (some (57, true)),
                IOper.mk (some 60) (IOp.len (Opd.t 59)) (some (57, true)),
                IOper.mk (some 61) (IOp.bin BinOp.add (Opd.t 60) (Opd.c (AV.int IntKind.i64 1)))
                  (some (57, true)),
                IOper.mk (some 62) (IOp.bin BinOp.leq (Opd.t 58) (Opd.t 61)) (some (57, true)),
                IOper.mk (some 63) (IOp.pick (Opd.t 57) (Opd.t 62) (Opd.c (AV.bool false))) none,
                IOper.mk (some 6) (IOp.mv (Opd.t 63)) none]
              [31, 32, 33, 34, 35, 36, 37, 38, 39, 40, 41, 42, 43, 44, 45, 46, 47, 48, 49, 50, 51, 52, 53, 54, 55, 56,
                57, 58, 59, 60, 61, 62, 63])
            IC.ret)))))
theorem fn3 : funsOf Try.prog ann 3 = some ir3 := by kernel_rfl

def ir8 : IFun :=
  IFun.mk false 1 [IRes.tmp 2]
  (IC.seq (IC.ops false [IOper.mk (some 2) (IOp.mv (Opd.c (AV.imm true 0 0 (some 0) []))) none] [])
    (IC.seq
      (IC.ops false
        [IOper.mk (some 3) (IOp.mv (Opd.t 0)) none, IOper.mk (some 4) (IOp.mv (Opd.t 0)) none,
          IOper.mk (some 5) (IOp.len (Opd.t 4)) none,
          IOper.mk (some 6) (IOp.minmax false [Opd.t 5, Opd.c (AV.int IntKind.i64 60)]) none,
          IOper.mk (some 7) (IOp.sub 1 (Opd.t 3) none (some (Opd.t 6)) none) none,
          IOper.mk (some 2) (IOp.mv (Opd.t 7)) none]
        [3, 4, 5, 6, 7])
      IC.ret))
theorem fn8 : funsOf Try.prog ann 8 = some ir8 := by kernel_rfl

def ir9 : IFun :=
  IFun.mk false 2 [IRes.tmp 4]
  (IC.seq (IC.ops false [IOper.mk (some 4) (IOp.mv (Opd.c (AV.int IntKind.i64 0))) none] [])
    (IC.seq (IC.ops false [IOper.mk (some 5) (IOp.mv (Opd.c (AV.int IntKind.i64 1))) none] [])
      (IC.seq
        (IC.seq
          (IC.ops false
            [IOper.mk (some 8) (IOp.mv (Opd.t 1)) none, IOper.mk (some 9) (IOp.len (Opd.t 8)) none,
              IOper.mk (some 10) (IOp.mv (Opd.c (AV.int IntKind.i64 0))) none]
            [])
          (IC.seq
            (IC.block 0
              (IC.loop
                (IC.seq
                  (IC.seq (IC.ops false [IOper.mk (some 11) (IOp.bin BinOp.lss (Opd.t 10) (Opd.t 9)) none] [])
                    (IC.seq (IC.cond (Opd.t 11) IC.nop (IC.exit 0))
                      (IC.seq
                        (IC.seq
                          (IC.block 1
                            (IC.seq
                              (IC.ops false
                                [IOper.mk (some 12) (IOp.ixa 1 (Opd.t 8) (Opd.t 10)) none,
                                  IOper.mk (some 13) (IOp.load none (Opd.t 12)) none,
                                  IOper.mk (some 7) (IOp.mv (Opd.t 13)) none]
                                [12, 13])
                              (IC.ops false
                                [IOper.mk (some 14) (IOp.mv (Opd.t 5)) none, IOper.mk (some 15) (IOp.mv (Opd.t 0)) none,
                                  IOper.mk (some 16) (IOp.mv (Opd.t 7)) none,
                                  IOper.mk (some 17)
                                    (IOp.call (Opd.c (AV.func (Fn.func 43) [] [])) [Opd.t 15, Opd.t 16]) none,
                                  IOper.mk (some 18)
                                    (IOp.bin BinOp.add (Opd.t 17) (Opd.c (AV.int IntKind.i64 1))) none,
                                  IOper.mk (some 19) (IOp.minmax true [Opd.t 14, Opd.t 18]) none,
                                  IOper.mk (some 5) (IOp.mv (Opd.t 19)) none]
                                [14, 15, 16, 17, 18, 19])))
                          (IC.ops false [] [12, 13, 7, 14, 15, 16, 17, 18, 19]))
                        (IC.ops false
                          [IOper.mk (some 20) (IOp.bin BinOp.add (Opd.t 10) (Opd.c (AV.int IntKind.i64 1)))
                              none,
                            IOper.mk (some 10) (IOp.mv (Opd.t 20)) none]
                          [20]))))
                  (IC.ops false [] [11, 12, 13, 7, 14, 15, 16, 17, 18, 19, 20]))))
            (IC.ops false [] [11, 12, 13, 7, 14, 15, 16, 17, 18, 19, 20])))
        (IC.seq
          (IC.ops false [IOper.mk (some 21) (IOp.mv (Opd.t 5)) none, IOper.mk (some 4) (IOp.mv (Opd.t 21)) none] [21])
          IC.ret))))
theorem fn9 : funsOf Try.prog ann 9 = some ir9 := by kernel_rfl

def ir10 : IFun :=
  IFun.mk false 3 [IRes.tmp 6]
  (IC.seq (IC.ops false [IOper.mk (some 6) (IOp.mv (Opd.c (AV.bool false))) none] [])
    (IC.seq
      (IC.ops false
        [IOper.mk (some 7) (IOp.mv (Opd.t 2)) none, IOper.mk (some 8) (IOp.mv (Opd.t 0)) none,
          IOper.mk (some 9) (IOp.mv (Opd.t 1)) none,
          IOper.mk (some 10) (IOp.call (Opd.c (AV.func (Fn.func 9) [] [])) [Opd.t 8, Opd.t 9]) none,
          IOper.mk (some 11) (IOp.bin BinOp.geq (Opd.t 7) (Opd.t 10)) none, IOper.mk (some 6) (IOp.mv (Opd.t 11)) none]
        [7, 8, 9, 10, 11])
      IC.ret))
theorem fn10 : funsOf Try.prog ann 10 = some ir10 := by kernel_rfl

def ir11 : IFun :=
  IFun.mk false 3 [IRes.tmp 6]
  (IC.seq (IC.ops false [IOper.mk (some 6) (IOp.mv (Opd.c (AV.bool false))) none] [])
    (IC.seq
      (IC.seq
        (IC.ops false
          [IOper.mk (some 9) (IOp.mv (Opd.t 2)) none,
            IOper.mk (some 10) (IOp.bin BinOp.lss (Opd.t 9) (Opd.c (AV.int IntKind.i64 1))) none]
          [9])
        (IC.cond (Opd.t 10) (IC.seq (IC.ops false [IOper.mk (some 6) (IOp.mv (Opd.c (AV.bool false))) none] []) IC.ret)
          IC.nop))
      (IC.seq
        (IC.seq (IC.ops false [IOper.mk (some 7) (IOp.mv (Opd.c (AV.int IntKind.i64 0))) none] [])
          (IC.seq
            (IC.block 0
              (IC.loop
                (IC.seq
                  (IC.seq
                    (IC.seq
                      (IC.ops false
                        [IOper.mk (some 11) (IOp.mv (Opd.t 7)) none, IOper.mk (some 12) (IOp.mv (Opd.t 0)) none,
                          IOper.mk (some 13) (IOp.len (Opd.t 12)) none,
                          IOper.mk (some 14) (IOp.bin BinOp.lss (Opd.t 11) (Opd.t 13)) none,
                          IOper.mk (some 15) (IOp.mv (Opd.t 14)) none,
                          IOper.mk (some 16) (IOp.mv (Opd.t 2)) (some (15, true)),
                          IOper.mk (some 17) (IOp.mv (Opd.t 0)) (some (15, true)),
                          IOper.mk (some 18) (IOp.len (Opd.t 17)) (some (15, true)),
                          IOper.mk (some 19) (IOp.mv (Opd.t 7)) (some (15, true)),
                          IOper.mk (some 20) (IOp.bin BinOp.sub (Opd.t 18) (Opd.t 19)) (some (15, true)),
                          IOper.mk (some 21) (IOp.bin BinOp.leq (Opd.t 16) (Opd.t 20)) (some (15, true)),
                          IOper.mk (some 22) (IOp.pick (Opd.t 15) (Opd.t 21) (Opd.c (AV.bool false))) none]
                        [11, 12, 13, 14, 15, 16, 17, 18, 19, 20, 21])
                      (IC.cond (Opd.t 22) IC.nop (IC.exit 0)))
                    (IC.seq
                      (IC.seq
                        (IC.block 1
                          (IC.seq
                            (IC.ops false [IOper.mk (some 8) (IOp.mv (Opd.c (AV.int IntKind.i64 0))) none]
                              [])
                            (IC.seq
                              (IC.block 2
                                (IC.loop
                                  (IC.seq
                                    (IC.seq
                                      (IC.seq
                                        (IC.ops false
                                          [IOper.mk (some 25) (IOp.mv (Opd.t 8)) none,
                                            IOper.mk (some 26) (IOp.mv (Opd.t 1)) none,
                                            IOper.mk (some 27) (IOp.len (Opd.t 26)) none,
                                            IOper.mk (some 28) (IOp.bin BinOp.lss (Opd.t 25) (Opd.t 27)) none]
                                          [25, 26, 27])
                                        (IC.cond (Opd.t 28) IC.nop (IC.exit 2)))
                                      (IC.seq
                                        (IC.seq
                                          (IC.block 3
                                            (IC.seq
                                              (IC.ops true
                                                [IOper.mk (some 31) (IOp.mv (Opd.t 0)) none,
                                                  IOper.mk (some 32) (IOp.mv (Opd.t 7)) none,
                                                  IOper.mk (some 33) (IOp.mv (Opd.t 7)) none,
                                                  IOper.mk (some 34) (IOp.mv (Opd.t 2)) none,
                                                  IOper.mk (some 35) (IOp.bin BinOp.add (Opd.t 33) (Opd.t 34)) none,
                                                  IOper.mk (some 36)
                                                    (IOp.sub 1 (Opd.t 31) (some (Opd.t 32)) (some (Opd.t 35)) none)
                                                    none,
                                                  IOper.mk (some 37) (IOp.mv (Opd.t 1)) none,
                                                  IOper.mk (some 38) (IOp.mv (Opd.t 8)) none,
                                                  IOper.mk (some 39) (IOp.ixa 1 (Opd.t 37) (Opd.t 38)) none,
                                                  IOper.mk (some 40) (IOp.load none (Opd.t 39)) none,
                                                  IOper.mk (some 41)
                                                    (IOp.call (Opd.c (AV.func (Fn.func 44) [] [])) [Opd.t 36, Opd.t 40])
                                                    none,
                                                  IOper.mk (some 42) (IOp.not (Opd.t 41)) none]
                                                [31, 32, 33, 34, 35, 36, 37, 38, 39, 40, 41])
                                              (IC.cond (Opd.t 42)
                                                (IC.seq
                                                  (IC.ops false
                                                    [IOper.mk (some 6) (IOp.mv (Opd.c (AV.bool false))) none] [])
                                                  IC.ret)
                                                IC.nop)))
                                          (IC.ops false [] [31, 32, 33, 34, 35, 36, 37, 38, 39, 40, 41, 42]))
                                        (IC.ops false
                                          [IOper.mk (some 29) (IOp.mv (Opd.t 8)) none,
                                            IOper.mk (some 30)
                                              (IOp.bin BinOp.add (Opd.t 29) (Opd.c (AV.int IntKind.i64 1)))
                                              none,
                                            IOper.mk (some 8) (IOp.mv (Opd.t 30)) none]
                                          [29, 30])))
                                    (IC.ops false []
                                      [25, 26, 27, 28, 31, 32, 33, 34, 35, 36, 37, 38, 39, 40, 41, 42, 29, 30]))))
                              (IC.ops false []
                                [25, 26, 27, 28, 31, 32, 33, 34, 35, 36, 37, 38, 39, 40, 41, 42, 29, 30]))))
                        (IC.ops false [] [25, 26, 27, 28, 31, 32, 33, 34, 35, 36, 37, 38, 39, 40, 41, 42, 29, 30, 8]))
                      (IC.ops false
                        [IOper.mk (some 23) (IOp.mv (Opd.t 7)) none,
                          IOper.mk (some 24) (IOp.bin BinOp.add (Opd.t 23) (Opd.c (AV.int IntKind.i64 1)))
                            none,
                          IOper.mk (some 7) (IOp.mv (Opd.t 24)) none]
                        [23, 24])))
                  (IC.ops false []
                    [11, 12, 13, 14, 15, 16, 17, 18, 19, 20, 21, 22, 25, 26, 27, 28, 31, 32, 33, 34, 35, 36, 37, 38, 39,
                      40, 41, 42, 29, 30, 8, 23, 24]))))
            (IC.ops false []
              [11, 12, 13, 14, 15, 16, 17, 18, 19, 20, 21, 22, 25, 26, 27, 28, 31, 32, 33, 34, 35, 36, 37, 38, 39, 40,
                41, 42, 29, 30, 8, 23, 24])))
        (IC.seq (IC.ops false [IOper.mk (some 6) (IOp.mv (Opd.c (AV.bool true))) none] []) IC.ret))))
theorem fn11 : funsOf Try.prog ann 11 = some ir11 := by kernel_rfl

def ir12 : IFun :=
  IFun.mk false 2 [IRes.tmp 4]
  (IC.seq (IC.ops false [IOper.mk (some 4) (IOp.mv (Opd.c (AV.int IntKind.i64 0))) none] [])
    (IC.seq (IC.ops false [IOper.mk (some 5) (IOp.mv (Opd.c (AV.int IntKind.i64 1))) none] [])
      (IC.seq
        (IC.seq
          (IC.block 0
            (IC.loop
              (IC.seq
                (IC.seq
                  (IC.seq
                    (IC.ops false
                      [IOper.mk (some 6) (IOp.mv (Opd.t 0)) none, IOper.mk (some 7) (IOp.mv (Opd.t 1)) none,
                        IOper.mk (some 8) (IOp.mv (Opd.t 5)) none,
                        IOper.mk (some 9) (IOp.call (Opd.c (AV.func (Fn.func 11) [] [])) [Opd.t 6, Opd.t 7, Opd.t 8])
                          none,
                        IOper.mk (some 10) (IOp.not (Opd.t 9)) none]
                      [6, 7, 8, 9])
                    (IC.cond (Opd.t 10) IC.nop (IC.exit 0)))
                  (IC.seq
                    (IC.block 1
                      (IC.ops false
                        [IOper.mk (some 11) (IOp.mv (Opd.t 5)) none,
                          IOper.mk (some 12) (IOp.bin BinOp.add (Opd.t 11) (Opd.c (AV.int IntKind.i64 1)))
                            none,
                          IOper.mk (some 5) (IOp.mv (Opd.t 12)) none]
                        [11, 12]))
                    (IC.ops false [] [11, 12])))
                (IC.ops false [] [6, 7, 8, 9, 10, 11, 12]))))
          (IC.ops false [] [6, 7, 8, 9, 10, 11, 12]))
        (IC.seq
          (IC.ops false [IOper.mk (some 13) (IOp.mv (Opd.t 5)) none, IOper.mk (some 4) (IOp.mv (Opd.t 13)) none] [13])
          IC.ret))))
theorem fn12 : funsOf Try.prog ann 12 = some ir12 := by kernel_rfl

def ir43 : IFun :=
  IFun.mk false 2 [IRes.tmp 4]
  (IC.seq (IC.ops false [IOper.mk (some 4) (IOp.mv (Opd.c (AV.int IntKind.i64 0))) none] [])
    (IC.seq
      (IC.ops false
        [IOper.mk (some 5) (IOp.mv (Opd.c (AV.int IntKind.i64 0))) none,
          IOper.mk (some 6) (IOp.mv (Opd.c (AV.int IntKind.i64 0))) none]
        [])
      (IC.seq
        (IC.seq
          (IC.ops false
            [IOper.mk (some 9) (IOp.mv (Opd.t 0)) none, IOper.mk (some 10) (IOp.len (Opd.t 9)) none,
              IOper.mk (some 11) (IOp.mv (Opd.c (AV.int IntKind.i64 0))) none]
            [])
          (IC.seq
            (IC.block 0
              (IC.loop
                (IC.seq
                  (IC.seq (IC.ops false [IOper.mk (some 12) (IOp.bin BinOp.lss (Opd.t 11) (Opd.t 10)) none] [])
                    (IC.seq (IC.cond (Opd.t 12) IC.nop (IC.exit 0))
                      (IC.seq
                        (IC.seq
                          (IC.block 1
                            (IC.seq
                              (IC.ops false
                                [IOper.mk (some 13) (IOp.ixa 1 (Opd.t 9) (Opd.t 11)) none,
                                  IOper.mk (some 14) (IOp.load none (Opd.t 13)) none,
                                  IOper.mk (some 8) (IOp.mv (Opd.t 14)) none]
                                [13, 14])
                              (IC.seq
                                (IC.ops false
                                  [IOper.mk (some 15) (IOp.mv (Opd.t 6)) none,
                                    IOper.mk (some 16)
                                      (IOp.bin BinOp.add (Opd.t 15) (Opd.c (AV.int IntKind.i64 1))) none,
                                    IOper.mk (some 6) (IOp.mv (Opd.t 16)) none]
                                  [15, 16])
                                (IC.seq
                                  (IC.seq
                                    (IC.ops false
                                      [IOper.mk (some 17) (IOp.mv (Opd.t 8)) none,
                                        IOper.mk (some 18) (IOp.mv (Opd.t 1)) none,
                                        IOper.mk (some 19) (IOp.bin BinOp.eql (Opd.t 17) (Opd.t 18)) none]
                                      [17, 18])
                                    (IC.cond (Opd.t 19)
                                      (IC.ops false
                                        [IOper.mk (some 6) (IOp.mv (Opd.c (AV.int IntKind.i64 0))) none] [])
                                      IC.nop))
                                  (IC.ops false
                                    [IOper.mk (some 20) (IOp.mv (Opd.t 5)) none,
                                      IOper.mk (some 21) (IOp.mv (Opd.t 6)) none,
                                      IOper.mk (some 22) (IOp.minmax true [Opd.t 20, Opd.t 21]) none,
                                      IOper.mk (some 5) (IOp.mv (Opd.t 22)) none]
                                    [20, 21, 22])))))
                          (IC.ops false [] [13, 14, 8, 15, 16, 17, 18, 19, 20, 21, 22]))
                        (IC.ops false
                          [IOper.mk (some 23) (IOp.bin BinOp.add (Opd.t 11) (Opd.c (AV.int IntKind.i64 1)))
                              none,
                            IOper.mk (some 11) (IOp.mv (Opd.t 23)) none]
                          [23]))))
                  (IC.ops false [] [12, 13, 14, 8, 15, 16, 17, 18, 19, 20, 21, 22, 23]))))
            (IC.ops false [] [12, 13, 14, 8, 15, 16, 17, 18, 19, 20, 21, 22, 23])))
        (IC.seq
          (IC.ops false [IOper.mk (some 24) (IOp.mv (Opd.t 5)) none, IOper.mk (some 4) (IOp.mv (Opd.t 24)) none] [24])
          IC.ret))))
theorem fn43 : funsOf Try.prog ann 43 = some ir43 := by kernel_rfl

def ir44 : IFun :=
  IFun.mk false 2 [IRes.tmp 4]
  (IC.seq (IC.ops false [IOper.mk (some 4) (IOp.mv (Opd.c (AV.bool false))) none] [])
    (IC.seq
      (IC.seq (IC.ops false [IOper.mk (some 5) (IOp.mv (Opd.c (AV.int IntKind.i64 0))) none] [])
        (IC.seq
          (IC.block 0
            (IC.loop
              (IC.seq
                (IC.seq
                  (IC.seq
                    (IC.ops false
                      [IOper.mk (some 6) (IOp.mv (Opd.t 5)) none, IOper.mk (some 7) (IOp.mv (Opd.t 0)) none,
                        IOper.mk (some 8) (IOp.len (Opd.t 7)) none,
                        IOper.mk (some 9) (IOp.bin BinOp.lss (Opd.t 6) (Opd.t 8)) none]
                      [6, 7, 8])
                    (IC.cond (Opd.t 9) IC.nop (IC.exit 0)))
                  (IC.seq
                    (IC.seq
                      (IC.block 1
                        (IC.seq
                          (IC.ops false
                            [IOper.mk (some 12) (IOp.mv (Opd.t 0)) none, IOper.mk (some 13) (IOp.mv (Opd.t 5)) none,
                              IOper.mk (some 14) (IOp.ixa 1 (Opd.t 12) (Opd.t 13)) none,
                              IOper.mk (some 15) (IOp.load none (Opd.t 14)) none,
                              IOper.mk (some 16) (IOp.mv (Opd.t 1)) none,
                              IOper.mk (some 17) (IOp.bin BinOp.eql (Opd.t 15) (Opd.t 16)) none]
                            [12, 13, 14, 15, 16])
                          (IC.cond (Opd.t 17)
                            (IC.seq (IC.ops false [IOper.mk (some 4) (IOp.mv (Opd.c (AV.bool true))) none] []) IC.ret)
                            IC.nop)))
                      (IC.ops false [] [12, 13, 14, 15, 16, 17]))
                    (IC.ops false
                      [IOper.mk (some 10) (IOp.mv (Opd.t 5)) none,
                        IOper.mk (some 11) (IOp.bin BinOp.add (Opd.t 10) (Opd.c (AV.int IntKind.i64 1)))
                          none,
                        IOper.mk (some 5) (IOp.mv (Opd.t 11)) none]
                      [10, 11])))
                (IC.ops false [] [6, 7, 8, 9, 12, 13, 14, 15, 16, 17, 10, 11]))))
          (IC.ops false [] [6, 7, 8, 9, 12, 13, 14, 15, 16, 17, 10, 11])))
      (IC.seq (IC.ops false [IOper.mk (some 4) (IOp.mv (Opd.c (AV.bool false))) none] []) IC.ret)))
theorem fn44 : funsOf Try.prog ann 44 = some ir44 := by kernel_rfl

theorem live_gives : callV (funsOf Try.prog ann) 60 (.func (.func 13) [] []) [] [] = some (.ret (.bool true), []) := by kernel_rfl
end Go.AS.Fw
