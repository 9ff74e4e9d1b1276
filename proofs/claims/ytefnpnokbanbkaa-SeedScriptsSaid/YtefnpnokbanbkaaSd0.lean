import Derived.Test.YtefnpnokbanbkaaProg
import Derived.KernelRfl
import Derived.Test.YtefnpnokbanbkaaAs1
import Derived.Test.YtefnpnokbanbkaaRn0
set_option linter.all false
namespace Go.AS.Sd
open Go Go.AS Go.Proofs
set_option maxRecDepth 100000
def ann : Ann := ⟨[70, 45, 18, 19, 21, 23, 25, 27, 60, 20, 22, 24, 26, 28, 62], [13, 33, 34, 35, 36, 53, 56, 58, 59, 75, 76, 77, 88, 16, 45, 47, 50, 40, 61, 30, 37, 38, 39, 41, 42, 29, 79, 63, 78], [], [29], [87], [(5, 29)], [], [], some (89, 5), [(48, .wbyte 89 5), (68, .wstr 89 5), (49, .bstr 89 5), (51, .repeats)]⟩
noncomputable abbrev F : Nat → Option IFun := funsOf Try.prog ann

def ir_l40_SeedScripts : IFun :=
 IFun.mk false 4 [IRes.tmp 8]
 (IC.seq (IC.ops false [IOper.mk (some 8) (IOp.mv (Opd.c (AV.bool false))) none] [])
 (IC.seq
 (IC.seq
 (IC.ops false
 [IOper.mk (some 14) (IOp.mv (Opd.t 3)) none,
 IOper.mk (some 15) (IOp.bin BinOp.gtr (Opd.t 14) (Opd.c (AV.int IntKind.i64 500))) none]
 [14])
 (IC.cond (Opd.t 15)
 (IC.seq
 (IC.ops false [IOper.mk (some 16) (IOp.callp 30 []) none, IOper.mk (some 8) (IOp.mv (Opd.t 16)) none] [16])
 IC.ret)
 IC.nop))
 (IC.seq
 (IC.ops false
 [IOper.mk (some 17) (IOp.mv (Opd.t 0)) none, IOper.mk (some 18) (IOp.mv (Opd.t 1)) none,
 IOper.mk (some 19) (IOp.mv (Opd.t 2)) none, IOper.mk (some 20) (IOp.mv (Opd.t 3)) none,
 IOper.mk (some 21) (IOp.callp 37 [Opd.t 17, Opd.t 18, Opd.t 19, Opd.t 20]) none,
 IOper.mk (some 9)
 (IOp.alloc
 [AV.int IntKind.i64 0, AV.int IntKind.i64 0, AV.int IntKind.i64 0,
 AV.int IntKind.i64 0, AV.int IntKind.i64 0, AV.int IntKind.i64 0,
 AV.int IntKind.i64 0, AV.int IntKind.i64 0, AV.int IntKind.i64 0,
 AV.imm true 0 0 (some 0) [], AV.imm true 0 0 (some 0) []])
 none,
 IOper.mk none (IOp.store 11 (Opd.t 9) (Opd.t 21)) none]
 [17, 18, 19, 20, 21])
 (IC.seq
 (IC.ops false
 [IOper.mk (some 22) (IOp.mv (Opd.t 0)) none, IOper.mk (some 23) (IOp.mv (Opd.t 1)) none,
 IOper.mk (some 24) (IOp.mv (Opd.t 2)) none, IOper.mk (some 25) (IOp.mv (Opd.t 3)) none,
 IOper.mk (some 26) (IOp.callp 38 [Opd.t 22, Opd.t 23, Opd.t 24, Opd.t 25]) none,
 IOper.mk (some 10)
 (IOp.alloc
 [AV.int IntKind.i64 0, AV.int IntKind.i64 0, AV.int IntKind.i64 0,
 AV.int IntKind.i64 0, AV.int IntKind.i64 0,
 AV.int IntKind.i64 0, AV.int IntKind.i64 0,
 AV.int IntKind.i64 0, AV.int IntKind.i64 0, AV.imm true 0 0 (some 0) [],
 AV.imm true 0 0 (some 0) []])
 none,
 IOper.mk none (IOp.store 11 (Opd.t 10) (Opd.t 26)) none]
 [22, 23, 24, 25, 26])
 (IC.seq
 (IC.seq
 (IC.ops true
 [IOper.mk (some 27) (IOp.load (some 11) (Opd.t 9)) none,
 IOper.mk (some 28) (IOp.load (some 11) (Opd.t 10)) none,
 IOper.mk (some 29) (IOp.callp 39 [Opd.t 27, Opd.t 28]) none,
 IOper.mk (some 30) (IOp.not (Opd.t 29)) none, IOper.mk (some 31) (IOp.mv (Opd.t 30)) none,
 IOper.mk (some 32) (IOp.mv (Opd.t 0)) (some (31, false)),
 IOper.mk (some 33) (IOp.callp 40 [Opd.t 32]) (some (31, false)),
 IOper.mk (some 34) (IOp.faddr 0 (Opd.t 10)) (some (31, false)),
 IOper.mk (some 35) (IOp.load (some 9) (Opd.t 34)) (some (31, false)),
 IOper.mk (some 36)
 (IOp.eqa true [(0, 0), (1, 0), (2, 0), (3, 0), (4, 0), (5, 0), (6, 0), (7, 0), (8, 0)] (Opd.t 33)
 (Opd.t 35))
 (some (31, false)),
 IOper.mk (some 37) (IOp.pick (Opd.t 31) (Opd.c (AV.bool true)) (Opd.t 36)) none]
 [27, 28, 29, 30, 31, 32, 33, 34, 35, 36])
 (IC.cond (Opd.t 37)
 (IC.seq (IC.ops false [IOper.mk (some 8) (IOp.mv (Opd.c (AV.bool false))) none] []) IC.ret) IC.nop))
 (IC.seq
 (IC.ops false
 [IOper.mk (some 39) (IOp.load (some 11) (Opd.t 10)) none,
 IOper.mk (some 40) (IOp.callp 41 [Opd.t 39]) none, IOper.mk (some 38) (IOp.mv (Opd.t 40)) none,
 IOper.mk (some 41) (IOp.extr (Opd.t 38) 0) none, IOper.mk (some 42) (IOp.extr (Opd.t 38) 1) none,
 IOper.mk (some 43) (IOp.extr (Opd.t 38) 2) none, IOper.mk (some 11) (IOp.mv (Opd.t 41)) none,
 IOper.mk (some 12) (IOp.mv (Opd.t 42)) none, IOper.mk (some 13) (IOp.mv (Opd.t 43)) none]
 [39, 40, 38, 41, 42, 43, 11, 12])
 (IC.seq
 (IC.ops false
 [IOper.mk (some 44) (IOp.callp 30 []) none, IOper.mk (some 45) (IOp.mv (Opd.t 44)) none,
 IOper.mk (some 46) (IOp.mv (Opd.t 13)) (some (45, true)),
 IOper.mk (some 47) (IOp.bin BinOp.eql (Opd.t 46) (Opd.c (AV.int IntKind.i64 0)))
 (some (45, true)),
 IOper.mk (some 48) (IOp.pick (Opd.t 45) (Opd.t 47) (Opd.c (AV.bool false))) none,
 IOper.mk (some 49) (IOp.mv (Opd.t 48)) none,
 IOper.mk (some 50) (IOp.faddr 0 (Opd.t 10)) (some (49, true)),
 IOper.mk (some 51) (IOp.load (some 9) (Opd.t 50)) (some (49, true)),
 IOper.mk (some 52) (IOp.callp 42 [Opd.t 51]) (some (49, true)),
 IOper.mk (some 53) (IOp.bin BinOp.eql (Opd.t 52) (Opd.c (AV.int IntKind.i64 0)))
 (some (49, true)),
 IOper.mk (some 54) (IOp.pick (Opd.t 49) (Opd.t 53) (Opd.c (AV.bool false))) none,
 IOper.mk (some 8) (IOp.mv (Opd.t 54)) none]
 [44, 45, 46, 47, 48, 49, 50, 51, 52, 53, 54])
 IC.ret)))))))
 none
theorem fn_l40_SeedScripts : F 7 = some ir_l40_SeedScripts := by kernel_rfl

def ir_seed_New : IFun :=
 IFun.mk true 1 [IRes.tmp 2]
 (IC.seq (IC.ops false [IOper.mk (some 2) (IOp.mv (Opd.c AV.nilptr)) none] [])
 (IC.seq
 (IC.ops false
 [IOper.mk (some 3) (IOp.mv (Opd.t 0)) none,
 IOper.mk (some 4) (IOp.build [AV.int IntKind.u64 0] [(0, 1, Opd.t 3)]) none,
 IOper.mk (some 5) (IOp.box 1 (Opd.t 4)) none, IOper.mk (some 2) (IOp.mv (Opd.t 5)) none]
 [3, 4, 5])
 IC.ret))
 none
theorem fn_seed_New : F 18 = some ir_seed_New := by kernel_rfl

def ir_seed_Source_Next : IFun :=
 IFun.mk true 1 [IRes.tmp 2]
 (IC.seq (IC.ops false [IOper.mk (some 2) (IOp.mv (Opd.c (AV.int IntKind.u64 0))) none] [])
 (IC.seq
 (IC.seq
 (IC.ops false
 [IOper.mk (some 4) (IOp.mv (Opd.t 0)) none,
 IOper.mk (some 5) (IOp.eqn 0 false (Opd.t 4) (Opd.c AV.nilptr)) none]
 [4])
 (IC.cond (Opd.t 5)
 (IC.seq (IC.ops false [IOper.mk (some 2) (IOp.mv (Opd.c (AV.int IntKind.u64 0))) none] []) IC.ret)
 IC.nop))
 (IC.seq
 (IC.ops false
 [IOper.mk (some 6) (IOp.mv (Opd.t 0)) none, IOper.mk (some 7) (IOp.nilck (Opd.t 6)) none,
 IOper.mk (some 8) (IOp.faddr 0 (Opd.t 7)) none, IOper.mk (some 9) (IOp.load none (Opd.t 8)) none,
 IOper.mk (some 10)
 (IOp.bin BinOp.add (Opd.t 9) (Opd.c (AV.int IntKind.u64 11400714819323198485))) none,
 IOper.mk (some 11) (IOp.nilck (Opd.t 6)) none, IOper.mk (some 12) (IOp.faddr 0 (Opd.t 11)) none,
 IOper.mk none (IOp.store 1 (Opd.t 12) (Opd.t 10)) none]
 [6, 7, 8, 9, 10, 11, 12])
 (IC.seq
 (IC.ops false
 [IOper.mk (some 13) (IOp.mv (Opd.t 0)) none, IOper.mk (some 14) (IOp.nilck (Opd.t 13)) none,
 IOper.mk (some 15) (IOp.faddr 0 (Opd.t 14)) none, IOper.mk (some 16) (IOp.load none (Opd.t 15)) none,
 IOper.mk (some 3) (IOp.mv (Opd.t 16)) none]
 [13, 14, 15, 16])
 (IC.seq
 (IC.ops false
 [IOper.mk (some 17) (IOp.mv (Opd.t 3)) none, IOper.mk (some 18) (IOp.mv (Opd.t 3)) none,
 IOper.mk (some 19) (IOp.bin BinOp.shr (Opd.t 18) (Opd.c (AV.int IntKind.u64 30))) none,
 IOper.mk (some 20) (IOp.bin BinOp.xor (Opd.t 17) (Opd.t 19)) none,
 IOper.mk (some 21)
 (IOp.bin BinOp.mul (Opd.t 20) (Opd.c (AV.int IntKind.u64 13787848793156543929))) none,
 IOper.mk (some 3) (IOp.mv (Opd.t 21)) none]
 [17, 18, 19, 20, 21])
 (IC.seq
 (IC.ops false
 [IOper.mk (some 22) (IOp.mv (Opd.t 3)) none, IOper.mk (some 23) (IOp.mv (Opd.t 3)) none,
 IOper.mk (some 24) (IOp.bin BinOp.shr (Opd.t 23) (Opd.c (AV.int IntKind.u64 27))) none,
 IOper.mk (some 25) (IOp.bin BinOp.xor (Opd.t 22) (Opd.t 24)) none,
 IOper.mk (some 26)
 (IOp.bin BinOp.mul (Opd.t 25) (Opd.c (AV.int IntKind.u64 10723151780598845931))) none,
 IOper.mk (some 3) (IOp.mv (Opd.t 26)) none]
 [22, 23, 24, 25, 26])
 (IC.seq
 (IC.ops false
 [IOper.mk (some 27) (IOp.mv (Opd.t 3)) none, IOper.mk (some 28) (IOp.mv (Opd.t 3)) none,
 IOper.mk (some 29) (IOp.bin BinOp.shr (Opd.t 28) (Opd.c (AV.int IntKind.u64 31))) none,
 IOper.mk (some 30) (IOp.bin BinOp.xor (Opd.t 27) (Opd.t 29)) none,
 IOper.mk (some 2) (IOp.mv (Opd.t 30)) none]
 [27, 28, 29, 30])
 IC.ret)))))))
 none
theorem fn_seed_Source_Next : F 19 = some ir_seed_Source_Next := by kernel_rfl

def ir_r40_Next : IFun :=
 IFun.mk true 1 [IRes.tmp 2]
 (IC.seq (IC.ops false [IOper.mk (some 2) (IOp.mv (Opd.c (AV.int IntKind.u64 0))) none] [])
 (IC.seq
 (IC.ops false
 [IOper.mk (some 4) (IOp.mv (Opd.t 0)) none, IOper.mk (some 5) (IOp.mv (Opd.t 0)) none,
 IOper.mk (some 6) (IOp.nilck (Opd.t 5)) none, IOper.mk (some 7) (IOp.faddr 0 (Opd.t 6)) none,
 IOper.mk (some 8) (IOp.load none (Opd.t 7)) none,
 IOper.mk (some 9) (IOp.bin BinOp.add (Opd.t 8) (Opd.c (AV.int IntKind.u64 11400714819323198485)))
 none,
 IOper.mk (some 10) (IOp.nilck (Opd.t 4)) none, IOper.mk (some 11) (IOp.faddr 0 (Opd.t 10)) none,
 IOper.mk none (IOp.store 1 (Opd.t 11) (Opd.t 9)) none]
 [4, 5, 6, 7, 8, 9, 10, 11])
 (IC.seq
 (IC.ops false
 [IOper.mk (some 12) (IOp.mv (Opd.t 0)) none, IOper.mk (some 13) (IOp.nilck (Opd.t 12)) none,
 IOper.mk (some 14) (IOp.faddr 0 (Opd.t 13)) none, IOper.mk (some 15) (IOp.load none (Opd.t 14)) none,
 IOper.mk (some 3) (IOp.mv (Opd.t 15)) none]
 [12, 13, 14, 15])
 (IC.seq
 (IC.ops false
 [IOper.mk (some 16) (IOp.mv (Opd.t 3)) none, IOper.mk (some 17) (IOp.mv (Opd.t 3)) none,
 IOper.mk (some 18) (IOp.bin BinOp.shr (Opd.t 17) (Opd.c (AV.int IntKind.u64 30))) none,
 IOper.mk (some 19) (IOp.bin BinOp.xor (Opd.t 16) (Opd.t 18)) none,
 IOper.mk (some 20)
 (IOp.bin BinOp.mul (Opd.t 19) (Opd.c (AV.int IntKind.u64 13787848793156543929))) none,
 IOper.mk (some 3) (IOp.mv (Opd.t 20)) none]
 [16, 17, 18, 19, 20])
 (IC.seq
 (IC.ops false
 [IOper.mk (some 21) (IOp.mv (Opd.t 3)) none, IOper.mk (some 22) (IOp.mv (Opd.t 3)) none,
 IOper.mk (some 23) (IOp.bin BinOp.shr (Opd.t 22) (Opd.c (AV.int IntKind.u64 27))) none,
 IOper.mk (some 24) (IOp.bin BinOp.xor (Opd.t 21) (Opd.t 23)) none,
 IOper.mk (some 25)
 (IOp.bin BinOp.mul (Opd.t 24) (Opd.c (AV.int IntKind.u64 10723151780598845931))) none,
 IOper.mk (some 3) (IOp.mv (Opd.t 25)) none]
 [21, 22, 23, 24, 25])
 (IC.seq
 (IC.ops false
 [IOper.mk (some 26) (IOp.mv (Opd.t 3)) none, IOper.mk (some 27) (IOp.mv (Opd.t 3)) none,
 IOper.mk (some 28) (IOp.bin BinOp.shr (Opd.t 27) (Opd.c (AV.int IntKind.u64 31))) none,
 IOper.mk (some 29) (IOp.bin BinOp.xor (Opd.t 26) (Opd.t 28)) none,
 IOper.mk (some 2) (IOp.mv (Opd.t 29)) none]
 [26, 27, 28, 29])
 IC.ret))))))
 none
theorem fn_r40_Next : F 20 = some ir_r40_Next := by kernel_rfl

def ir_seed_Source_Below : IFun :=
 IFun.mk true 2 [IRes.tmp 4]
 (IC.seq (IC.ops false [IOper.mk (some 4) (IOp.mv (Opd.c (AV.int IntKind.i64 0))) none] [])
 (IC.seq
 (IC.seq
 (IC.ops false
 [IOper.mk (some 5) (IOp.mv (Opd.t 0)) none,
 IOper.mk (some 6) (IOp.eqn 0 false (Opd.t 5) (Opd.c AV.nilptr)) none,
 IOper.mk (some 7) (IOp.mv (Opd.t 6)) none, IOper.mk (some 8) (IOp.mv (Opd.t 1)) (some (7, false)),
 IOper.mk (some 9) (IOp.bin BinOp.lss (Opd.t 8) (Opd.c (AV.int IntKind.i64 1)))
 (some (7, false)),
 IOper.mk (some 10) (IOp.pick (Opd.t 7) (Opd.c (AV.bool true)) (Opd.t 9)) none]
 [5, 6, 7, 8, 9])
 (IC.cond (Opd.t 10)
 (IC.seq (IC.ops false [IOper.mk (some 4) (IOp.mv (Opd.c (AV.int IntKind.i64 0))) none] []) IC.ret)
 IC.nop))
 (IC.seq
 (IC.ops false
 [IOper.mk (some 11) (IOp.mv (Opd.t 0)) none,
 IOper.mk (some 12) (IOp.call (Opd.c (AV.func (Fn.func 19) [] [])) [Opd.t 11]) none,
 IOper.mk (some 13) (IOp.mv (Opd.t 1)) none, IOper.mk (some 14) (IOp.conv IntKind.u64 (Opd.t 13)) none,
 IOper.mk (some 15) (IOp.bin BinOp.rem (Opd.t 12) (Opd.t 14)) none,
 IOper.mk (some 16) (IOp.conv IntKind.i64 (Opd.t 15)) none, IOper.mk (some 4) (IOp.mv (Opd.t 16)) none]
 [11, 12, 13, 14, 15, 16])
 IC.ret)))
 none
theorem fn_seed_Source_Below : F 21 = some ir_seed_Source_Below := by kernel_rfl

def ir_r40_Below : IFun :=
 IFun.mk true 2 [IRes.tmp 4]
 (IC.seq (IC.ops false [IOper.mk (some 4) (IOp.mv (Opd.c (AV.int IntKind.i64 0))) none] [])
 (IC.seq
 (IC.seq
 (IC.ops false
 [IOper.mk (some 5) (IOp.mv (Opd.t 1)) none,
 IOper.mk (some 6) (IOp.bin BinOp.lss (Opd.t 5) (Opd.c (AV.int IntKind.i64 1))) none]
 [5])
 (IC.cond (Opd.t 6)
 (IC.seq (IC.ops false [IOper.mk (some 4) (IOp.mv (Opd.c (AV.int IntKind.i64 0))) none] []) IC.ret)
 IC.nop))
 (IC.seq
 (IC.ops false
 [IOper.mk (some 7) (IOp.mv (Opd.t 0)) none,
 IOper.mk (some 8) (IOp.call (Opd.c (AV.func (Fn.func 20) [] [])) [Opd.t 7]) none,
 IOper.mk (some 9) (IOp.mv (Opd.t 1)) none, IOper.mk (some 10) (IOp.conv IntKind.u64 (Opd.t 9)) none,
 IOper.mk (some 11) (IOp.bin BinOp.rem (Opd.t 8) (Opd.t 10)) none,
 IOper.mk (some 12) (IOp.conv IntKind.i64 (Opd.t 11)) none, IOper.mk (some 4) (IOp.mv (Opd.t 12)) none]
 [7, 8, 9, 10, 11, 12])
 IC.ret)))
 none
theorem fn_r40_Below : F 22 = some ir_r40_Below := by kernel_rfl

def ir_seed_Source_Key : IFun :=
 IFun.mk true 3 [IRes.tmp 6]
 (IC.seq (IC.ops false [IOper.mk (some 6) (IOp.mv (Opd.c (AV.str []))) none] [])
 (IC.seq
 (IC.seq
 (IC.ops false
 [IOper.mk (some 8) (IOp.mv (Opd.t 0)) none,
 IOper.mk (some 9) (IOp.eqn 0 false (Opd.t 8) (Opd.c AV.nilptr)) none]
 [8])
 (IC.cond (Opd.t 9) (IC.seq (IC.ops false [IOper.mk (some 6) (IOp.mv (Opd.c (AV.str []))) none] []) IC.ret)
 IC.nop))
 (IC.seq
 (IC.ops false
 [IOper.mk (some 10) (IOp.mv (Opd.t 1)) none,
 IOper.mk (some 11)
 (IOp.callp 47
 [Opd.t 10, Opd.c (AV.int IntKind.i64 1), Opd.c (AV.int IntKind.i64 26)])
 none,
 IOper.mk (some 12) (IOp.mv (Opd.t 2)) none,
 IOper.mk (some 13)
 (IOp.callp 47
 [Opd.t 12, Opd.c (AV.int IntKind.i64 1), Opd.c (AV.int IntKind.i64 16)])
 none,
 IOper.mk (some 1) (IOp.mv (Opd.t 11)) none, IOper.mk (some 2) (IOp.mv (Opd.t 13)) none]
 [10, 11, 12, 13])
 (IC.seq (IC.ops false [IOper.mk (some 7) (IOp.newb 89 5) none] [])
 (IC.seq
 (IC.seq
 (IC.ops false
 [IOper.mk (some 14) (IOp.mv (Opd.t 0)) none, IOper.mk (some 15) (IOp.mv (Opd.t 2)) none,
 IOper.mk (some 16) (IOp.call (Opd.c (AV.func (Fn.func 21) [] [])) [Opd.t 14, Opd.t 15]) none,
 IOper.mk (some 17) (IOp.bin BinOp.add (Opd.t 16) (Opd.c (AV.int IntKind.i64 1))) none,
 IOper.mk (some 18) (IOp.mv (Opd.c (AV.int IntKind.i64 0))) none]
 [14, 15, 16])
 (IC.seq
 (IC.block 0
 (IC.loop
 (IC.seq
 (IC.seq (IC.ops false [IOper.mk (some 19) (IOp.bin BinOp.lss (Opd.t 18) (Opd.t 17)) none] [])
 (IC.seq (IC.cond (Opd.t 19) IC.nop (IC.exit 0))
 (IC.seq
 (IC.seq
 (IC.block 1
 (IC.ops false
 [IOper.mk (some 20) (IOp.mv (Opd.t 0)) none,
 IOper.mk (some 21) (IOp.mv (Opd.t 1)) none,
 IOper.mk (some 22)
 (IOp.call (Opd.c (AV.func (Fn.func 21) [] [])) [Opd.t 20, Opd.t 21]) none,
 IOper.mk (some 23) (IOp.conv IntKind.u8 (Opd.t 22)) none,
 IOper.mk (some 24)
 (IOp.bin BinOp.add (Opd.c (AV.int IntKind.u8 97)) (Opd.t 23)) none,
 IOper.mk (some 25)
 (IOp.call (Opd.c (AV.func (Fn.func 48) [] [])) [Opd.t 7, Opd.t 24]) none]
 [20, 21, 22, 23, 24, 25]))
 (IC.ops false [] [20, 21, 22, 23, 24, 25]))
 (IC.ops false
 [IOper.mk (some 26)
 (IOp.bin BinOp.add (Opd.t 18) (Opd.c (AV.int IntKind.i64 1))) none,
 IOper.mk (some 18) (IOp.mv (Opd.t 26)) none]
 [26]))))
 (IC.ops false [] [19, 20, 21, 22, 23, 24, 25, 26]))))
 (IC.ops false [] [19, 20, 21, 22, 23, 24, 25, 26])))
 (IC.seq
 (IC.ops false
 [IOper.mk (some 27) (IOp.call (Opd.c (AV.func (Fn.func 49) [] [])) [Opd.t 7]) none,
 IOper.mk (some 6) (IOp.mv (Opd.t 27)) none]
 [27])
 IC.ret))))))
 none
theorem fn_seed_Source_Key : F 23 = some ir_seed_Source_Key := by kernel_rfl

def ir_r40_Key : IFun :=
 IFun.mk true 3 [IRes.tmp 6]
 (IC.seq (IC.ops false [IOper.mk (some 6) (IOp.mv (Opd.c (AV.str []))) none] [])
 (IC.seq
 (IC.ops false
 [IOper.mk (some 11) (IOp.mv (Opd.t 1)) none,
 IOper.mk (some 12)
 (IOp.callp 50
 [Opd.t 11, Opd.c (AV.int IntKind.i64 1), Opd.c (AV.int IntKind.i64 26)])
 none,
 IOper.mk (some 1) (IOp.mv (Opd.t 12)) none]
 [11, 12])
 (IC.seq
 (IC.ops false
 [IOper.mk (some 13) (IOp.mv (Opd.t 0)) none, IOper.mk (some 14) (IOp.mv (Opd.t 2)) none,
 IOper.mk (some 15)
 (IOp.callp 50
 [Opd.t 14, Opd.c (AV.int IntKind.i64 1), Opd.c (AV.int IntKind.i64 16)])
 none,
 IOper.mk (some 16) (IOp.call (Opd.c (AV.func (Fn.func 22) [] [])) [Opd.t 13, Opd.t 15]) none,
 IOper.mk (some 17) (IOp.bin BinOp.add (Opd.t 16) (Opd.c (AV.int IntKind.i64 1))) none,
 IOper.mk (some 7) (IOp.mv (Opd.t 17)) none]
 [13, 14, 15, 16, 17])
 (IC.seq (IC.ops false [IOper.mk (some 8) (IOp.mv (Opd.c (AV.str []))) none] [])
 (IC.seq
 (IC.seq (IC.ops false [IOper.mk (some 9) (IOp.mv (Opd.c (AV.int IntKind.i64 0))) none] [])
 (IC.seq
 (IC.block 0
 (IC.loop
 (IC.seq
 (IC.seq
 (IC.seq
 (IC.ops false
 [IOper.mk (some 18) (IOp.mv (Opd.t 9)) none, IOper.mk (some 19) (IOp.mv (Opd.t 7)) none,
 IOper.mk (some 20) (IOp.bin BinOp.lss (Opd.t 18) (Opd.t 19)) none]
 [18, 19])
 (IC.cond (Opd.t 20) IC.nop (IC.exit 0)))
 (IC.seq
 (IC.seq
 (IC.block 1
 (IC.seq
 (IC.ops false
 [IOper.mk (some 23) (IOp.mv (Opd.t 0)) none,
 IOper.mk (some 24) (IOp.mv (Opd.t 1)) none,
 IOper.mk (some 25)
 (IOp.call (Opd.c (AV.func (Fn.func 22) [] [])) [Opd.t 23, Opd.t 24]) none,
 IOper.mk (some 10) (IOp.mv (Opd.t 25)) none]
 [23, 24, 25])
 (IC.ops false
 [IOper.mk (some 26) (IOp.mv (Opd.t 8)) none,
 IOper.mk (some 27) (IOp.mv (Opd.t 10)) none,
 IOper.mk (some 28) (IOp.mv (Opd.t 10)) none,
 IOper.mk (some 29)
 (IOp.bin BinOp.add (Opd.t 28) (Opd.c (AV.int IntKind.i64 1))) none,
 IOper.mk (some 30)
 (IOp.subs
 (Opd.c
 (AV.str
 [UInt8.ofNat 97, UInt8.ofNat 98, UInt8.ofNat 99, UInt8.ofNat 100,
 UInt8.ofNat 101, UInt8.ofNat 102, UInt8.ofNat 103, UInt8.ofNat 104,
 UInt8.ofNat 105, UInt8.ofNat 106, UInt8.ofNat 107, UInt8.ofNat 108,
 UInt8.ofNat 109, UInt8.ofNat 110, UInt8.ofNat 111, UInt8.ofNat 112,
 UInt8.ofNat 113, UInt8.ofNat 114, UInt8.ofNat 115, UInt8.ofNat 116,
 UInt8.ofNat 117, UInt8.ofNat 118, UInt8.ofNat 119, UInt8.ofNat 120,
 UInt8.ofNat 121, UInt8.ofNat 122]))
 (some (Opd.t 27)) (some (Opd.t 29)))
 none,
 IOper.mk (some 31) (IOp.bin BinOp.add (Opd.t 26) (Opd.t 30)) none,
 IOper.mk (some 8) (IOp.mv (Opd.t 31)) none]
 [26, 27, 28, 29, 30, 31])))
 (IC.ops false [] [23, 24, 25, 10, 26, 27, 28, 29, 30, 31]))
 (IC.ops false
 [IOper.mk (some 21) (IOp.mv (Opd.t 9)) none,
 IOper.mk (some 22)
 (IOp.bin BinOp.add (Opd.t 21) (Opd.c (AV.int IntKind.i64 1))) none,
 IOper.mk (some 9) (IOp.mv (Opd.t 22)) none]
 [21, 22])))
 (IC.ops false [] [18, 19, 20, 23, 24, 25, 10, 26, 27, 28, 29, 30, 31, 21, 22]))))
 (IC.ops false [] [18, 19, 20, 23, 24, 25, 10, 26, 27, 28, 29, 30, 31, 21, 22])))
 (IC.seq
 (IC.ops false [IOper.mk (some 32) (IOp.mv (Opd.t 8)) none, IOper.mk (some 6) (IOp.mv (Opd.t 32)) none]
 [32])
 IC.ret))))))
 none
theorem fn_r40_Key : F 24 = some ir_r40_Key := by kernel_rfl

def ir_seed_Source_Msg : IFun :=
 IFun.mk true 1 [IRes.cell 2 (some 6)]
 (IC.seq
 (IC.ops false
 [IOper.mk (some 2)
 (IOp.alloc
 [AV.int IntKind.u8 0, AV.int IntKind.i64 0, AV.str [], AV.str [], AV.str [],
 AV.int IntKind.u64 0])
 none]
 [])
 (IC.seq
 (IC.seq
 (IC.ops false
 [IOper.mk (some 6) (IOp.mv (Opd.t 0)) none,
 IOper.mk (some 7) (IOp.eqn 0 false (Opd.t 6) (Opd.c AV.nilptr)) none]
 [6])
 (IC.cond (Opd.t 7)
 (IC.seq
 (IC.ops false
 [IOper.mk (some 8)
 (IOp.build
 [AV.int IntKind.u8 0, AV.int IntKind.i64 0, AV.str [], AV.str [], AV.str [],
 AV.int IntKind.u64 0]
 [])
 none,
 IOper.mk none (IOp.store 6 (Opd.t 2) (Opd.t 8)) none]
 [8])
 IC.ret)
 IC.nop))
 (IC.seq
 (IC.seq
 (IC.ops false
 [IOper.mk (some 9) (IOp.mv (Opd.t 0)) none,
 IOper.mk (some 10)
 (IOp.call (Opd.c (AV.func (Fn.func 21) [] [])) [Opd.t 9, Opd.c (AV.int IntKind.i64 8)])
 none]
 [9])
 (IC.seq
 (IC.block 0
 (IC.seq
 (IC.seq
 (IC.block 4
 (IC.seq
 (IC.block 3
 (IC.seq
 (IC.seq
 (IC.block 2
 (IC.seq
 (IC.seq
 (IC.block 1
 (IC.seq
 (IC.seq
 (IC.seq
 (IC.seq
 (IC.ops false
 [IOper.mk (some 12)
 (IOp.bin BinOp.eql (Opd.t 10)
 (Opd.c (AV.int IntKind.i64 0)))
 none,
 IOper.mk (some 11) (IOp.mv (Opd.t 12)) none]
 [12])
 (IC.cond (Opd.t 11) IC.nop
 (IC.seq
 (IC.ops false
 [IOper.mk (some 13)
 (IOp.bin BinOp.eql (Opd.t 10)
 (Opd.c (AV.int IntKind.i64 1)))
 none,
 IOper.mk (some 11) (IOp.mv (Opd.t 13)) none]
 [13])
 (IC.cond (Opd.t 11) IC.nop
 (IC.seq
 (IC.ops false
 [IOper.mk (some 14)
 (IOp.bin BinOp.eql (Opd.t 10)
 (Opd.c (AV.int IntKind.i64 2)))
 none,
 IOper.mk (some 11) (IOp.mv (Opd.t 14)) none]
 [14])
 (IC.cond (Opd.t 11) IC.nop
 (IC.ops false
 [IOper.mk (some 15)
 (IOp.bin BinOp.eql (Opd.t 10)
 (Opd.c (AV.int IntKind.i64 3)))
 none,
 IOper.mk (some 11) (IOp.mv (Opd.t 15)) none]
 [15])))))))
 (IC.cond (Opd.t 11) (IC.exit 1) IC.nop))
 (IC.seq
 (IC.seq
 (IC.ops false
 [IOper.mk (some 17)
 (IOp.bin BinOp.eql (Opd.t 10)
 (Opd.c (AV.int IntKind.i64 4)))
 none,
 IOper.mk (some 16) (IOp.mv (Opd.t 17)) none]
 [17])
 (IC.cond (Opd.t 16) (IC.exit 2) IC.nop))
 (IC.seq
 (IC.seq
 (IC.ops false
 [IOper.mk (some 19)
 (IOp.bin BinOp.eql (Opd.t 10)
 (Opd.c (AV.int IntKind.i64 5)))
 none,
 IOper.mk (some 18) (IOp.mv (Opd.t 19)) none]
 [19])
 (IC.cond (Opd.t 18) (IC.exit 3) IC.nop))
 (IC.seq
 (IC.ops false
 [IOper.mk (some 21)
 (IOp.bin BinOp.eql (Opd.t 10)
 (Opd.c (AV.int IntKind.i64 6)))
 none,
 IOper.mk (some 20) (IOp.mv (Opd.t 21)) none]
 [21])
 (IC.cond (Opd.t 20) (IC.exit 4) IC.nop)))))
 (IC.exit 0)))
 (IC.ops false [] [12, 13, 14, 15, 11, 17, 16, 19, 18, 21, 20]))
 (IC.seq
 (IC.seq
 (IC.ops false
 [IOper.mk (some 22) (IOp.mv (Opd.t 0)) none,
 IOper.mk (some 23)
 (IOp.call (Opd.c (AV.func (Fn.func 23) [] []))
 [Opd.t 22, Opd.c (AV.int IntKind.i64 4),
 Opd.c (AV.int IntKind.i64 2)])
 none,
 IOper.mk (some 3) (IOp.mv (Opd.t 23)) none]
 [22, 23])
 (IC.seq
 (IC.ops false
 [IOper.mk (some 24) (IOp.mv (Opd.t 3)) none,
 IOper.mk (some 25) (IOp.mv (Opd.t 0)) none,
 IOper.mk (some 26)
 (IOp.call (Opd.c (AV.func (Fn.func 21) [] []))
 [Opd.t 25, Opd.c (AV.int IntKind.i64 3)])
 none,
 IOper.mk (some 27)
 (IOp.call (Opd.c (AV.func (Fn.func 51) [] []))
 [Opd.c (AV.str [UInt8.ofNat 120]), Opd.t 26])
 none,
 IOper.mk (some 28)
 (IOp.build
 [AV.int IntKind.u8 0, AV.int IntKind.i64 0,
 AV.str [], AV.str [], AV.str [], AV.int IntKind.u64 0]
 [(0, 1, Opd.c (AV.int IntKind.u8 1)), (2, 1, Opd.t 24),
 (4, 1, Opd.t 27)])
 none,
 IOper.mk none (IOp.store 6 (Opd.t 2) (Opd.t 28)) none]
 [24, 25, 26, 27, 28])
 IC.ret))
 (IC.exit 0))))
 (IC.ops false []
 [12, 13, 14, 15, 11, 17, 16, 19, 18, 21, 20, 22, 23, 3, 24, 25, 26, 27, 28]))
 (IC.seq
 (IC.seq
 (IC.ops false
 [IOper.mk (some 29) (IOp.mv (Opd.t 0)) none,
 IOper.mk (some 30)
 (IOp.call (Opd.c (AV.func (Fn.func 23) [] []))
 [Opd.t 29, Opd.c (AV.int IntKind.i64 4),
 Opd.c (AV.int IntKind.i64 2)])
 none,
 IOper.mk (some 31)
 (IOp.build
 [AV.int IntKind.u8 0, AV.int IntKind.i64 0, AV.str [],
 AV.str [], AV.str [], AV.int IntKind.u64 0]
 [(0, 1, Opd.c (AV.int IntKind.u8 2)), (2, 1, Opd.t 30)])
 none,
 IOper.mk none (IOp.store 6 (Opd.t 2) (Opd.t 31)) none]
 [29, 30, 31])
 IC.ret)
 (IC.exit 0))))
 (IC.ops false []
 [12, 13, 14, 15, 11, 17, 16, 19, 18, 21, 20, 22, 23, 3, 24, 25, 26, 27, 28, 29, 30, 31])))
 (IC.ops false []
 [12, 13, 14, 15, 11, 17, 16, 19, 18, 21, 20, 22, 23, 3, 24, 25, 26, 27, 28, 29, 30, 31]))
 (IC.seq
 (IC.seq
 (IC.ops false
 [IOper.mk (some 32) (IOp.mv (Opd.t 0)) none,
 IOper.mk (some 33)
 (IOp.call (Opd.c (AV.func (Fn.func 23) [] []))
 [Opd.t 32, Opd.c (AV.int IntKind.i64 4),
 Opd.c (AV.int IntKind.i64 2)])
 none,
 IOper.mk (some 4) (IOp.mv (Opd.t 33)) none]
 [32, 33])
 (IC.seq
 (IC.ops false
 [IOper.mk (some 34) (IOp.mv (Opd.t 4)) none, IOper.mk (some 35) (IOp.mv (Opd.t 0)) none,
 IOper.mk (some 36)
 (IOp.call (Opd.c (AV.func (Fn.func 21) [] []))
 [Opd.t 35, Opd.c (AV.int IntKind.i64 100)])
 none,
 IOper.mk (some 37) (IOp.conv IntKind.u64 (Opd.t 36)) none,
 IOper.mk (some 38)
 (IOp.build
 [AV.int IntKind.u8 0, AV.int IntKind.i64 0, AV.str [], AV.str [],
 AV.str [], AV.int IntKind.u64 0]
 [(0, 1, Opd.c (AV.int IntKind.u8 3)), (2, 1, Opd.t 34), (5, 1, Opd.t 37)])
 none,
 IOper.mk none (IOp.store 6 (Opd.t 2) (Opd.t 38)) none]
 [34, 35, 36, 37, 38])
 IC.ret))
 (IC.exit 0))))
 (IC.ops false []
 [12, 13, 14, 15, 11, 17, 16, 19, 18, 21, 20, 22, 23, 3, 24, 25, 26, 27, 28, 29, 30, 31, 32, 33, 4, 34, 35,
 36, 37, 38])))
 (IC.seq
 (IC.ops false
 [IOper.mk (some 39) (IOp.mv (Opd.t 0)) none,
 IOper.mk (some 40)
 (IOp.call (Opd.c (AV.func (Fn.func 23) [] []))
 [Opd.t 39, Opd.c (AV.int IntKind.i64 4), Opd.c (AV.int IntKind.i64 1)])
 none,
 IOper.mk (some 5) (IOp.mv (Opd.t 40)) none]
 [39, 40])
 (IC.seq
 (IC.ops false
 [IOper.mk (some 41) (IOp.mv (Opd.t 5)) none, IOper.mk (some 42) (IOp.mv (Opd.t 5)) none,
 IOper.mk (some 43) (IOp.bin BinOp.add (Opd.t 42) (Opd.c (AV.str [UInt8.ofNat 122]))) none,
 IOper.mk (some 44)
 (IOp.build
 [AV.int IntKind.u8 0, AV.int IntKind.i64 0, AV.str [], AV.str [], AV.str [],
 AV.int IntKind.u64 0]
 [(0, 1, Opd.c (AV.int IntKind.u8 4)), (2, 1, Opd.t 41), (3, 1, Opd.t 43)])
 none,
 IOper.mk none (IOp.store 6 (Opd.t 2) (Opd.t 44)) none]
 [41, 42, 43, 44])
 IC.ret)))))
 none
theorem fn_seed_Source_Msg : F 25 = some ir_seed_Source_Msg := by kernel_rfl

def ir_r40_Msg : IFun :=
 IFun.mk true 1 [IRes.cell 2 (some 6)]
 (IC.seq
 (IC.ops false
 [IOper.mk (some 2)
 (IOp.alloc
 [AV.int IntKind.u8 0, AV.int IntKind.i64 0, AV.str [], AV.str [], AV.str [],
 AV.int IntKind.u64 0])
 none]
 [])
 (IC.seq
 (IC.ops false
 [IOper.mk (some 8) (IOp.mv (Opd.t 0)) none,
 IOper.mk (some 9)
 (IOp.call (Opd.c (AV.func (Fn.func 22) [] [])) [Opd.t 8, Opd.c (AV.int IntKind.i64 8)]) none,
 IOper.mk (some 3) (IOp.mv (Opd.t 9)) none]
 [8, 9])
 (IC.seq
 (IC.seq
 (IC.ops false
 [IOper.mk (some 10) (IOp.mv (Opd.t 3)) none,
 IOper.mk (some 11) (IOp.bin BinOp.eql (Opd.t 10) (Opd.c (AV.int IntKind.i64 7))) none]
 [10])
 (IC.cond (Opd.t 11)
 (IC.seq
 (IC.ops false
 [IOper.mk (some 12) (IOp.mv (Opd.t 0)) none,
 IOper.mk (some 13)
 (IOp.call (Opd.c (AV.func (Fn.func 24) [] []))
 [Opd.t 12, Opd.c (AV.int IntKind.i64 4), Opd.c (AV.int IntKind.i64 1)])
 none,
 IOper.mk (some 4) (IOp.mv (Opd.t 13)) none]
 [12, 13])
 (IC.seq
 (IC.ops false
 [IOper.mk (some 14) (IOp.mv (Opd.t 4)) none, IOper.mk (some 15) (IOp.mv (Opd.t 4)) none,
 IOper.mk (some 16) (IOp.bin BinOp.add (Opd.t 15) (Opd.c (AV.str [UInt8.ofNat 122]))) none,
 IOper.mk (some 17)
 (IOp.build
 [AV.int IntKind.u8 0, AV.int IntKind.i64 0, AV.str [], AV.str [],
 AV.str [], AV.int IntKind.u64 0]
 [(0, 1, Opd.c (AV.int IntKind.u8 4)), (2, 1, Opd.t 14), (3, 1, Opd.t 16)])
 none,
 IOper.mk none (IOp.store 6 (Opd.t 2) (Opd.t 17)) none]
 [14, 15, 16, 17])
 IC.ret))
 IC.nop))
 (IC.seq
 (IC.ops false
 [IOper.mk (some 18) (IOp.mv (Opd.t 0)) none,
 IOper.mk (some 19)
 (IOp.call (Opd.c (AV.func (Fn.func 24) [] []))
 [Opd.t 18, Opd.c (AV.int IntKind.i64 4), Opd.c (AV.int IntKind.i64 2)])
 none,
 IOper.mk (some 5) (IOp.mv (Opd.t 19)) none]
 [18, 19])
 (IC.seq
 (IC.seq
 (IC.ops false
 [IOper.mk (some 20) (IOp.mv (Opd.t 3)) none,
 IOper.mk (some 21) (IOp.bin BinOp.eql (Opd.t 20) (Opd.c (AV.int IntKind.i64 4))) none]
 [20])
 (IC.cond (Opd.t 21)
 (IC.seq
 (IC.ops false
 [IOper.mk (some 22) (IOp.mv (Opd.t 5)) none,
 IOper.mk (some 23)
 (IOp.build
 [AV.int IntKind.u8 0, AV.int IntKind.i64 0, AV.str [], AV.str [],
 AV.str [], AV.int IntKind.u64 0]
 [(0, 1, Opd.c (AV.int IntKind.u8 2)), (2, 1, Opd.t 22)])
 none,
 IOper.mk none (IOp.store 6 (Opd.t 2) (Opd.t 23)) none]
 [22, 23])
 IC.ret)
 IC.nop))
 (IC.seq
 (IC.seq
 (IC.ops false
 [IOper.mk (some 24) (IOp.mv (Opd.t 3)) none,
 IOper.mk (some 25) (IOp.bin BinOp.gtr (Opd.t 24) (Opd.c (AV.int IntKind.i64 4))) none]
 [24])
 (IC.cond (Opd.t 25)
 (IC.seq
 (IC.ops false
 [IOper.mk (some 26) (IOp.mv (Opd.t 5)) none, IOper.mk (some 27) (IOp.mv (Opd.t 0)) none,
 IOper.mk (some 28)
 (IOp.call (Opd.c (AV.func (Fn.func 22) [] []))
 [Opd.t 27, Opd.c (AV.int IntKind.i64 100)])
 none,
 IOper.mk (some 29) (IOp.conv IntKind.u64 (Opd.t 28)) none,
 IOper.mk (some 30)
 (IOp.build
 [AV.int IntKind.u8 0, AV.int IntKind.i64 0, AV.str [], AV.str [],
 AV.str [], AV.int IntKind.u64 0]
 [(0, 1, Opd.c (AV.int IntKind.u8 3)), (2, 1, Opd.t 26), (5, 1, Opd.t 29)])
 none,
 IOper.mk none (IOp.store 6 (Opd.t 2) (Opd.t 30)) none]
 [26, 27, 28, 29, 30])
 IC.ret)
 IC.nop))
 (IC.seq (IC.ops false [IOper.mk (some 6) (IOp.mv (Opd.c (AV.str []))) none] [])
 (IC.seq
 (IC.seq
 (IC.ops false
 [IOper.mk (some 31) (IOp.mv (Opd.t 0)) none,
 IOper.mk (some 32)
 (IOp.call (Opd.c (AV.func (Fn.func 22) [] []))
 [Opd.t 31, Opd.c (AV.int IntKind.i64 3)])
 none,
 IOper.mk (some 7) (IOp.mv (Opd.t 32)) none]
 [31, 32])
 (IC.seq
 (IC.block 0
 (IC.loop
 (IC.seq
 (IC.seq
 (IC.seq
 (IC.ops false
 [IOper.mk (some 33) (IOp.mv (Opd.t 7)) none,
 IOper.mk (some 34)
 (IOp.bin BinOp.gtr (Opd.t 33) (Opd.c (AV.int IntKind.i64 0))) none]
 [33])
 (IC.cond (Opd.t 34) IC.nop (IC.exit 0)))
 (IC.seq
 (IC.seq
 (IC.block 1
 (IC.ops false
 [IOper.mk (some 37) (IOp.mv (Opd.t 6)) none,
 IOper.mk (some 38)
 (IOp.bin BinOp.add (Opd.t 37) (Opd.c (AV.str [UInt8.ofNat 120]))) none,
 IOper.mk (some 6) (IOp.mv (Opd.t 38)) none]
 [37, 38]))
 (IC.ops false [] [37, 38]))
 (IC.ops false
 [IOper.mk (some 35) (IOp.mv (Opd.t 7)) none,
 IOper.mk (some 36)
 (IOp.bin BinOp.sub (Opd.t 35) (Opd.c (AV.int IntKind.i64 1))) none,
 IOper.mk (some 7) (IOp.mv (Opd.t 36)) none]
 [35, 36])))
 (IC.ops false [] [33, 34, 37, 38, 35, 36]))))
 (IC.ops false [] [33, 34, 37, 38, 35, 36])))
 (IC.seq
 (IC.ops false
 [IOper.mk (some 39) (IOp.mv (Opd.t 5)) none, IOper.mk (some 40) (IOp.mv (Opd.t 6)) none,
 IOper.mk (some 41)
 (IOp.build
 [AV.int IntKind.u8 0, AV.int IntKind.i64 0, AV.str [], AV.str [],
 AV.str [], AV.int IntKind.u64 0]
 [(0, 1, Opd.c (AV.int IntKind.u8 1)), (2, 1, Opd.t 39), (4, 1, Opd.t 40)])
 none,
 IOper.mk none (IOp.store 6 (Opd.t 2) (Opd.t 41)) none]
 [39, 40, 41])
 IC.ret)))))))))
 none
theorem fn_r40_Msg : F 26 = some ir_r40_Msg := by kernel_rfl

def ir_seed_Source_Op : IFun :=
 IFun.mk true 1 [IRes.cell 2 (some 5)]
 (IC.seq
 (IC.ops false
 [IOper.mk (some 2)
 (IOp.alloc
 [AV.int IntKind.u8 0, AV.str [], AV.str [], AV.int IntKind.i64 0,
 AV.imm true 0 0 (some 0) []])
 none]
 [])
 (IC.seq
 (IC.seq
 (IC.ops false
 [IOper.mk (some 5) (IOp.mv (Opd.t 0)) none,
 IOper.mk (some 6) (IOp.eqn 0 false (Opd.t 5) (Opd.c AV.nilptr)) none]
 [5])
 (IC.cond (Opd.t 6)
 (IC.seq
 (IC.ops false
 [IOper.mk (some 7)
 (IOp.build
 [AV.int IntKind.u8 0, AV.str [], AV.str [], AV.int IntKind.i64 0,
 AV.imm true 0 0 (some 0) []]
 [])
 none,
 IOper.mk none (IOp.store 5 (Opd.t 2) (Opd.t 7)) none]
 [7])
 IC.ret)
 IC.nop))
 (IC.seq
 (IC.seq
 (IC.ops false
 [IOper.mk (some 8) (IOp.mv (Opd.t 0)) none,
 IOper.mk (some 9)
 (IOp.call (Opd.c (AV.func (Fn.func 21) [] [])) [Opd.t 8, Opd.c (AV.int IntKind.i64 8)])
 none]
 [8])
 (IC.seq
 (IC.block 0
 (IC.seq
 (IC.seq
 (IC.ops false
 [IOper.mk (some 11) (IOp.bin BinOp.eql (Opd.t 9) (Opd.c (AV.int IntKind.i64 0))) none,
 IOper.mk (some 10) (IOp.mv (Opd.t 11)) none]
 [11])
 (IC.cond (Opd.t 10) IC.nop
 (IC.ops false
 [IOper.mk (some 12) (IOp.bin BinOp.eql (Opd.t 9) (Opd.c (AV.int IntKind.i64 1))) none,
 IOper.mk (some 10) (IOp.mv (Opd.t 12)) none]
 [12])))
 (IC.cond (Opd.t 10)
 (IC.seq
 (IC.ops false
 [IOper.mk (some 13) (IOp.mv (Opd.t 0)) none,
 IOper.mk (some 14)
 (IOp.call (Opd.c (AV.func (Fn.func 23) [] []))
 [Opd.t 13, Opd.c (AV.int IntKind.i64 4),
 Opd.c (AV.int IntKind.i64 2)])
 none,
 IOper.mk (some 15)
 (IOp.build
 [AV.int IntKind.u8 0, AV.str [], AV.str [], AV.int IntKind.i64 0,
 AV.imm true 0 0 (some 0) []]
 [(0, 1, Opd.c (AV.int IntKind.u8 1)), (1, 1, Opd.t 14)])
 none,
 IOper.mk none (IOp.store 5 (Opd.t 2) (Opd.t 15)) none]
 [13, 14, 15])
 IC.ret)
 (IC.seq
 (IC.seq
 (IC.ops false
 [IOper.mk (some 17) (IOp.bin BinOp.eql (Opd.t 9) (Opd.c (AV.int IntKind.i64 2)))
 none,
 IOper.mk (some 16) (IOp.mv (Opd.t 17)) none]
 [17])
 (IC.cond (Opd.t 16) IC.nop
 (IC.seq
 (IC.ops false
 [IOper.mk (some 18) (IOp.bin BinOp.eql (Opd.t 9) (Opd.c (AV.int IntKind.i64 3)))
 none,
 IOper.mk (some 16) (IOp.mv (Opd.t 18)) none]
 [18])
 (IC.cond (Opd.t 16) IC.nop
 (IC.ops false
 [IOper.mk (some 19)
 (IOp.bin BinOp.eql (Opd.t 9) (Opd.c (AV.int IntKind.i64 4))) none,
 IOper.mk (some 16) (IOp.mv (Opd.t 19)) none]
 [19])))))
 (IC.cond (Opd.t 16)
 (IC.seq
 (IC.ops false
 [IOper.mk (some 20)
 (IOp.build
 [AV.int IntKind.u8 0, AV.str [], AV.str [],
 AV.int IntKind.i64 0, AV.imm true 0 0 (some 0) []]
 [(0, 1, Opd.c (AV.int IntKind.u8 2))])
 none,
 IOper.mk (some 3)
 (IOp.alloc
 [AV.int IntKind.u8 0, AV.str [], AV.str [],
 AV.int IntKind.i64 0, AV.imm true 0 0 (some 0) []])
 none,
 IOper.mk none (IOp.store 5 (Opd.t 3) (Opd.t 20)) none]
 [20])
 (IC.seq
 (IC.seq
 (IC.ops false
 [IOper.mk (some 21) (IOp.mv (Opd.t 0)) none,
 IOper.mk (some 22)
 (IOp.call (Opd.c (AV.func (Fn.func 21) [] []))
 [Opd.t 21, Opd.c (AV.int IntKind.i64 3)])
 none,
 IOper.mk (some 23)
 (IOp.bin BinOp.add (Opd.t 22) (Opd.c (AV.int IntKind.i64 1))) none,
 IOper.mk (some 24) (IOp.mv (Opd.c (AV.int IntKind.i64 0))) none]
 [21, 22])
 (IC.seq
 (IC.block 1
 (IC.loop
 (IC.seq
 (IC.seq
 (IC.ops false [IOper.mk (some 25) (IOp.bin BinOp.lss (Opd.t 24) (Opd.t 23)) none]
 [])
 (IC.seq (IC.cond (Opd.t 25) IC.nop (IC.exit 1))
 (IC.seq
 (IC.seq
 (IC.block 2
 (IC.seq (IC.ops false [IOper.mk none (IOp.slots 0) none] [])
 (IC.multi
 [[IOper.mk (some 26) (IOp.faddr 4 (Opd.t 3)) none,
 IOper.mk (some 28) (IOp.mv (Opd.t 0)) none,
 IOper.mk (some 27) (IOp.load none (Opd.t 26)) none,
 IOper.mk (some 29)
 (IOp.call (Opd.c (AV.func (Fn.func 25) [] [])) [Opd.t 28]) none,
 IOper.mk (some 30)
 (IOp.bsl false 6 1
 [AV.int IntKind.u8 0,
 AV.int IntKind.i64 0, AV.str [], AV.str [],
 AV.str [], AV.int IntKind.u64 0]
 [(0, 6, Opd.t 29)])
 none,
 IOper.mk (some 31) (IOp.append 6 72 (Opd.t 27) (Opd.t 30)) none,
 IOper.mk (some 32) (IOp.faddr 4 (Opd.t 3)) none,
 IOper.mk none (IOp.store 1 (Opd.t 32) (Opd.t 31)) none],
 [IOper.mk (some 26) (IOp.faddr 4 (Opd.t 3)) none,
 IOper.mk (some 28) (IOp.mv (Opd.t 0)) none,
 IOper.mk (some 29)
 (IOp.call (Opd.c (AV.func (Fn.func 25) [] [])) [Opd.t 28]) none,
 IOper.mk (some 27) (IOp.load none (Opd.t 26)) none,
 IOper.mk (some 30)
 (IOp.bsl false 6 1
 [AV.int IntKind.u8 0,
 AV.int IntKind.i64 0, AV.str [], AV.str [],
 AV.str [], AV.int IntKind.u64 0]
 [(0, 6, Opd.t 29)])
 none,
 IOper.mk (some 31) (IOp.append 6 72 (Opd.t 27) (Opd.t 30)) none,
 IOper.mk (some 32) (IOp.faddr 4 (Opd.t 3)) none,
 IOper.mk none (IOp.store 1 (Opd.t 32) (Opd.t 31)) none]]
 [26, 27, 28, 29, 30, 31, 32])))
 (IC.ops false [] [26, 27, 28, 29, 30, 31, 32]))
 (IC.ops false
 [IOper.mk (some 33)
 (IOp.bin BinOp.add (Opd.t 24)
 (Opd.c (AV.int IntKind.i64 1)))
 none,
 IOper.mk (some 24) (IOp.mv (Opd.t 33)) none]
 [33]))))
 (IC.ops false [] [25, 26, 27, 28, 29, 30, 31, 32, 33]))))
 (IC.ops false [] [25, 26, 27, 28, 29, 30, 31, 32, 33])))
 (IC.seq
 (IC.ops false
 [IOper.mk (some 34) (IOp.load (some 5) (Opd.t 3)) none,
 IOper.mk none (IOp.store 5 (Opd.t 2) (Opd.t 34)) none]
 [34])
 IC.ret)))
 (IC.seq
 (IC.ops false
 [IOper.mk (some 36) (IOp.bin BinOp.eql (Opd.t 9) (Opd.c (AV.int IntKind.i64 5)))
 none,
 IOper.mk (some 35) (IOp.mv (Opd.t 36)) none]
 [36])
 (IC.cond (Opd.t 35)
 (IC.seq
 (IC.ops false
 [IOper.mk (some 37) (IOp.mv (Opd.t 0)) none,
 IOper.mk (some 38)
 (IOp.call (Opd.c (AV.func (Fn.func 23) [] []))
 [Opd.t 37, Opd.c (AV.int IntKind.i64 4),
 Opd.c (AV.int IntKind.i64 1)])
 none,
 IOper.mk (some 4) (IOp.mv (Opd.t 38)) none]
 [37, 38])
 (IC.seq
 (IC.ops false
 [IOper.mk (some 39) (IOp.mv (Opd.t 4)) none, IOper.mk (some 40) (IOp.mv (Opd.t 0)) none,
 IOper.mk (some 41)
 (IOp.call (Opd.c (AV.func (Fn.func 21) [] []))
 [Opd.t 40, Opd.c (AV.int IntKind.i64 3)])
 none,
 IOper.mk (some 42)
 (IOp.bin BinOp.add (Opd.t 41) (Opd.c (AV.int IntKind.i64 1))) none,
 IOper.mk (some 43)
 (IOp.build
 [AV.int IntKind.u8 0, AV.str [], AV.str [],
 AV.int IntKind.i64 0, AV.imm true 0 0 (some 0) []]
 [(0, 1, Opd.c (AV.int IntKind.u8 3)), (1, 1, Opd.t 39),
 (3, 1, Opd.t 42)])
 none,
 IOper.mk none (IOp.store 5 (Opd.t 2) (Opd.t 43)) none]
 [39, 40, 41, 42, 43])
 IC.ret))
 (IC.seq
 (IC.ops false
 [IOper.mk (some 45)
 (IOp.bin BinOp.eql (Opd.t 9) (Opd.c (AV.int IntKind.i64 6))) none,
 IOper.mk (some 44) (IOp.mv (Opd.t 45)) none]
 [45])
 (IC.cond (Opd.t 44)
 (IC.seq
 (IC.ops false
 [IOper.mk (some 46)
 (IOp.build
 [AV.int IntKind.u8 0, AV.str [], AV.str [],
 AV.int IntKind.i64 0, AV.imm true 0 0 (some 0) []]
 [(0, 1, Opd.c (AV.int IntKind.u8 4))])
 none,
 IOper.mk none (IOp.store 5 (Opd.t 2) (Opd.t 46)) none]
 [46])
 IC.ret)
 IC.nop)))))))))
 (IC.ops false []
 [11, 12, 10, 13, 14, 15, 17, 18, 19, 16, 20, 3, 21, 22, 23, 25, 26, 27, 28, 29, 30, 31, 32, 33, 24, 34,
 36, 35, 37, 38, 4, 39, 40, 41, 42, 43, 45, 44, 46])))
 (IC.seq
 (IC.ops false
 [IOper.mk (some 47)
 (IOp.build
 [AV.int IntKind.u8 0, AV.str [], AV.str [], AV.int IntKind.i64 0,
 AV.imm true 0 0 (some 0) []]
 [(0, 1, Opd.c (AV.int IntKind.u8 5)), (3, 1, Opd.c (AV.int IntKind.i64 1))])
 none,
 IOper.mk none (IOp.store 5 (Opd.t 2) (Opd.t 47)) none]
 [47])
 IC.ret))))
 none
theorem fn_seed_Source_Op : F 27 = some ir_seed_Source_Op := by kernel_rfl

def ir_r40_Op : IFun :=
 IFun.mk true 1 [IRes.cell 2 (some 5)]
 (IC.seq
 (IC.ops false
 [IOper.mk (some 2)
 (IOp.alloc
 [AV.int IntKind.u8 0, AV.str [], AV.str [], AV.int IntKind.i64 0,
 AV.imm true 0 0 (some 0) []])
 none]
 [])
 (IC.seq
 (IC.ops false
 [IOper.mk (some 7) (IOp.mv (Opd.t 0)) none,
 IOper.mk (some 8)
 (IOp.call (Opd.c (AV.func (Fn.func 22) [] [])) [Opd.t 7, Opd.c (AV.int IntKind.i64 8)]) none,
 IOper.mk (some 3) (IOp.mv (Opd.t 8)) none]
 [7, 8])
 (IC.seq
 (IC.seq
 (IC.ops false
 [IOper.mk (some 9) (IOp.mv (Opd.t 3)) none,
 IOper.mk (some 10) (IOp.bin BinOp.lss (Opd.t 9) (Opd.c (AV.int IntKind.i64 2))) none]
 [9])
 (IC.cond (Opd.t 10)
 (IC.seq
 (IC.ops false
 [IOper.mk (some 11) (IOp.mv (Opd.t 0)) none,
 IOper.mk (some 12)
 (IOp.call (Opd.c (AV.func (Fn.func 24) [] []))
 [Opd.t 11, Opd.c (AV.int IntKind.i64 4), Opd.c (AV.int IntKind.i64 2)])
 none,
 IOper.mk (some 13)
 (IOp.build
 [AV.int IntKind.u8 0, AV.str [], AV.str [], AV.int IntKind.i64 0,
 AV.imm true 0 0 (some 0) []]
 [(0, 1, Opd.c (AV.int IntKind.u8 1)), (1, 1, Opd.t 12)])
 none,
 IOper.mk none (IOp.store 5 (Opd.t 2) (Opd.t 13)) none]
 [11, 12, 13])
 IC.ret)
 IC.nop))
 (IC.seq
 (IC.seq
 (IC.ops false
 [IOper.mk (some 14) (IOp.mv (Opd.t 3)) none,
 IOper.mk (some 15) (IOp.bin BinOp.lss (Opd.t 14) (Opd.c (AV.int IntKind.i64 5))) none]
 [14])
 (IC.cond (Opd.t 15)
 (IC.seq
 (IC.ops false
 [IOper.mk (some 16)
 (IOp.bsl false 6 0
 [AV.int IntKind.u8 0, AV.int IntKind.i64 0, AV.str [], AV.str [],
 AV.str [], AV.int IntKind.u64 0]
 [])
 none,
 IOper.mk (some 4) (IOp.mv (Opd.t 16)) none]
 [16])
 (IC.seq
 (IC.seq
 (IC.ops false
 [IOper.mk (some 17) (IOp.mv (Opd.t 0)) none,
 IOper.mk (some 18)
 (IOp.call (Opd.c (AV.func (Fn.func 22) [] []))
 [Opd.t 17, Opd.c (AV.int IntKind.i64 3)])
 none,
 IOper.mk (some 5) (IOp.mv (Opd.t 18)) none]
 [17, 18])
 (IC.seq
 (IC.block 0
 (IC.loop
 (IC.seq
 (IC.seq
 (IC.seq
 (IC.ops false
 [IOper.mk (some 19) (IOp.mv (Opd.t 5)) none,
 IOper.mk (some 20)
 (IOp.bin BinOp.geq (Opd.t 19) (Opd.c (AV.int IntKind.i64 0))) none]
 [19])
 (IC.cond (Opd.t 20) IC.nop (IC.exit 0)))
 (IC.seq
 (IC.seq
 (IC.block 1
 (IC.ops false
 [IOper.mk (some 23) (IOp.mv (Opd.t 4)) none,
 IOper.mk (some 24) (IOp.mv (Opd.t 0)) none,
 IOper.mk (some 25) (IOp.call (Opd.c (AV.func (Fn.func 26) [] [])) [Opd.t 24])
 none,
 IOper.mk (some 26)
 (IOp.bsl false 6 1
 [AV.int IntKind.u8 0, AV.int IntKind.i64 0,
 AV.str [], AV.str [], AV.str [], AV.int IntKind.u64 0]
 [(0, 6, Opd.t 25)])
 none,
 IOper.mk (some 27) (IOp.append 6 72 (Opd.t 23) (Opd.t 26)) none,
 IOper.mk (some 4) (IOp.mv (Opd.t 27)) none]
 [23, 24, 25, 26, 27]))
 (IC.ops false [] [23, 24, 25, 26, 27]))
 (IC.ops false
 [IOper.mk (some 21) (IOp.mv (Opd.t 5)) none,
 IOper.mk (some 22)
 (IOp.bin BinOp.sub (Opd.t 21) (Opd.c (AV.int IntKind.i64 1))) none,
 IOper.mk (some 5) (IOp.mv (Opd.t 22)) none]
 [21, 22])))
 (IC.ops false [] [19, 20, 23, 24, 25, 26, 27, 21, 22]))))
 (IC.ops false [] [19, 20, 23, 24, 25, 26, 27, 21, 22])))
 (IC.seq
 (IC.ops false
 [IOper.mk (some 28) (IOp.mv (Opd.t 4)) none,
 IOper.mk (some 29)
 (IOp.build
 [AV.int IntKind.u8 0, AV.str [], AV.str [], AV.int IntKind.i64 0,
 AV.imm true 0 0 (some 0) []]
 [(0, 1, Opd.c (AV.int IntKind.u8 2)), (4, 1, Opd.t 28)])
 none,
 IOper.mk none (IOp.store 5 (Opd.t 2) (Opd.t 29)) none]
 [28, 29])
 IC.ret)))
 IC.nop))
 (IC.seq
 (IC.seq
 (IC.ops false
 [IOper.mk (some 30) (IOp.mv (Opd.t 3)) none,
 IOper.mk (some 31) (IOp.bin BinOp.eql (Opd.t 30) (Opd.c (AV.int IntKind.i64 5))) none]
 [30])
 (IC.cond (Opd.t 31)
 (IC.seq
 (IC.ops false
 [IOper.mk (some 32) (IOp.mv (Opd.t 0)) none,
 IOper.mk (some 33)
 (IOp.call (Opd.c (AV.func (Fn.func 24) [] []))
 [Opd.t 32, Opd.c (AV.int IntKind.i64 4),
 Opd.c (AV.int IntKind.i64 1)])
 none,
 IOper.mk (some 6) (IOp.mv (Opd.t 33)) none]
 [32, 33])
 (IC.seq
 (IC.ops false
 [IOper.mk (some 34) (IOp.mv (Opd.t 6)) none, IOper.mk (some 35) (IOp.mv (Opd.t 0)) none,
 IOper.mk (some 36)
 (IOp.call (Opd.c (AV.func (Fn.func 22) [] []))
 [Opd.t 35, Opd.c (AV.int IntKind.i64 3)])
 none,
 IOper.mk (some 37) (IOp.bin BinOp.add (Opd.t 36) (Opd.c (AV.int IntKind.i64 1)))
 none,
 IOper.mk (some 38)
 (IOp.build
 [AV.int IntKind.u8 0, AV.str [], AV.str [], AV.int IntKind.i64 0,
 AV.imm true 0 0 (some 0) []]
 [(0, 1, Opd.c (AV.int IntKind.u8 3)), (1, 1, Opd.t 34), (3, 1, Opd.t 37)])
 none,
 IOper.mk none (IOp.store 5 (Opd.t 2) (Opd.t 38)) none]
 [34, 35, 36, 37, 38])
 IC.ret))
 IC.nop))
 (IC.seq
 (IC.seq
 (IC.ops false
 [IOper.mk (some 39) (IOp.mv (Opd.t 3)) none,
 IOper.mk (some 40) (IOp.bin BinOp.eql (Opd.t 39) (Opd.c (AV.int IntKind.i64 6))) none]
 [39])
 (IC.cond (Opd.t 40)
 (IC.seq
 (IC.ops false
 [IOper.mk (some 41)
 (IOp.build
 [AV.int IntKind.u8 0, AV.str [], AV.str [], AV.int IntKind.i64 0,
 AV.imm true 0 0 (some 0) []]
 [(0, 1, Opd.c (AV.int IntKind.u8 4))])
 none,
 IOper.mk none (IOp.store 5 (Opd.t 2) (Opd.t 41)) none]
 [41])
 IC.ret)
 IC.nop))
 (IC.seq
 (IC.ops false
 [IOper.mk (some 42)
 (IOp.build
 [AV.int IntKind.u8 0, AV.str [], AV.str [], AV.int IntKind.i64 0,
 AV.imm true 0 0 (some 0) []]
 [(0, 1, Opd.c (AV.int IntKind.u8 5)),
 (3, 1, Opd.c (AV.int IntKind.i64 1))])
 none,
 IOper.mk none (IOp.store 5 (Opd.t 2) (Opd.t 42)) none]
 [42])
 IC.ret)))))))
 none
theorem fn_r40_Op : F 28 = some ir_r40_Op := by kernel_rfl

def ir_r04_Same : IFun :=
 IFun.mk false 2 [IRes.tmp 4]
 (IC.seq (IC.ops false [IOper.mk (some 4) (IOp.mv (Opd.c (AV.bool false))) none] [])
 (IC.seq
 (IC.seq
 (IC.ops false
 [IOper.mk (some 6) (IOp.mv (Opd.t 0)) none, IOper.mk (some 7) (IOp.len (Opd.t 6)) none,
 IOper.mk (some 8) (IOp.mv (Opd.t 1)) none, IOper.mk (some 9) (IOp.len (Opd.t 8)) none,
 IOper.mk (some 10) (IOp.bin BinOp.neq (Opd.t 7) (Opd.t 9)) none]
 [6, 7, 8, 9])
 (IC.cond (Opd.t 10) (IC.seq (IC.ops false [IOper.mk (some 4) (IOp.mv (Opd.c (AV.bool false))) none] []) IC.ret)
 IC.nop))
 (IC.seq
 (IC.seq (IC.ops false [IOper.mk (some 5) (IOp.mv (Opd.c (AV.int IntKind.i64 0))) none] [])
 (IC.seq
 (IC.block 0
 (IC.loop
 (IC.seq
 (IC.seq
 (IC.seq
 (IC.ops false
 [IOper.mk (some 11) (IOp.mv (Opd.t 5)) none, IOper.mk (some 12) (IOp.mv (Opd.t 0)) none,
 IOper.mk (some 13) (IOp.len (Opd.t 12)) none,
 IOper.mk (some 14) (IOp.bin BinOp.lss (Opd.t 11) (Opd.t 13)) none]
 [11, 12, 13])
 (IC.cond (Opd.t 14) IC.nop (IC.exit 0)))
 (IC.seq
 (IC.seq
 (IC.block 1
 (IC.seq
 (IC.ops true
 [IOper.mk (some 17) (IOp.mv (Opd.t 0)) none, IOper.mk (some 18) (IOp.mv (Opd.t 5)) none,
 IOper.mk (some 19) (IOp.ixa 6 (Opd.t 17) (Opd.t 18)) none,
 IOper.mk (some 20) (IOp.load (some 6) (Opd.t 19)) none,
 IOper.mk (some 21) (IOp.mv (Opd.t 1)) none, IOper.mk (some 22) (IOp.mv (Opd.t 5)) none,
 IOper.mk (some 23) (IOp.ixa 6 (Opd.t 21) (Opd.t 22)) none,
 IOper.mk (some 24) (IOp.load (some 6) (Opd.t 23)) none,
 IOper.mk (some 25)
 (IOp.eqa true [(0, 0), (1, 0), (2, 1), (3, 1), (4, 1), (5, 0)] (Opd.t 20) (Opd.t 24))
 none]
 [17, 18, 19, 20, 21, 22, 23, 24])
 (IC.cond (Opd.t 25)
 (IC.seq (IC.ops false [IOper.mk (some 4) (IOp.mv (Opd.c (AV.bool false))) none] [])
 IC.ret)
 IC.nop)))
 (IC.ops false [] [17, 18, 19, 20, 21, 22, 23, 24, 25]))
 (IC.ops false
 [IOper.mk (some 15) (IOp.mv (Opd.t 5)) none,
 IOper.mk (some 16) (IOp.bin BinOp.add (Opd.t 15) (Opd.c (AV.int IntKind.i64 1)))
 none,
 IOper.mk (some 5) (IOp.mv (Opd.t 16)) none]
 [15, 16])))
 (IC.ops false [] [11, 12, 13, 14, 17, 18, 19, 20, 21, 22, 23, 24, 25, 15, 16]))))
 (IC.ops false [] [11, 12, 13, 14, 17, 18, 19, 20, 21, 22, 23, 24, 25, 15, 16])))
 (IC.seq (IC.ops false [IOper.mk (some 4) (IOp.mv (Opd.c (AV.bool true))) none] []) IC.ret))))
 none
theorem fn_r04_Same : F 29 = some ir_r04_Same := by kernel_rfl

def ir_l40_live : IFun :=
 IFun.mk false 0 [IRes.tmp 0]
 (IC.seq (IC.ops false [IOper.mk (some 0) (IOp.mv (Opd.c (AV.bool false))) none] [])
 (IC.seq
 (IC.ops false
 [IOper.mk (some 4) (IOp.call (Opd.c (AV.func (Fn.func 18) [] [])) [Opd.c (AV.int IntKind.u64 0)])
 none,
 IOper.mk (some 1) (IOp.mv (Opd.t 4)) none]
 [4])
 (IC.seq
 (IC.ops false
 [IOper.mk (some 5) (IOp.mv (Opd.t 1)) none,
 IOper.mk (some 6) (IOp.call (Opd.c (AV.func (Fn.func 19) [] [])) [Opd.t 5]) none,
 IOper.mk (some 7) (IOp.mv (Opd.t 1)) none,
 IOper.mk (some 8) (IOp.call (Opd.c (AV.func (Fn.func 19) [] [])) [Opd.t 7]) none,
 IOper.mk (some 2) (IOp.mv (Opd.t 6)) none, IOper.mk (some 3) (IOp.mv (Opd.t 8)) none]
 [5, 6, 7, 8])
 (IC.seq
 (IC.ops false
 [IOper.mk (some 9) (IOp.mv (Opd.t 2)) none,
 IOper.mk (some 10)
 (IOp.bin BinOp.eql (Opd.t 9) (Opd.c (AV.int IntKind.u64 16294208416658607535))) none,
 IOper.mk (some 11) (IOp.mv (Opd.t 10)) none, IOper.mk (some 12) (IOp.mv (Opd.t 3)) (some (11, true)),
 IOper.mk (some 13)
 (IOp.bin BinOp.eql (Opd.t 12) (Opd.c (AV.int IntKind.u64 7960286522194355700)))
 (some (11, true)),
 IOper.mk (some 14) (IOp.pick (Opd.t 11) (Opd.t 13) (Opd.c (AV.bool false))) none,
 IOper.mk (some 15) (IOp.mv (Opd.t 14)) none,
 IOper.mk (some 16) (IOp.callp 40 [Opd.c (AV.int IntKind.u64 0)]) (some (15, true)),
 IOper.mk (some 17) (IOp.fld 0 none (Opd.t 16)) (some (15, true)),
 IOper.mk (some 18) (IOp.bin BinOp.eql (Opd.t 17) (Opd.c (AV.int IntKind.i64 4)))
 (some (15, true)),
 IOper.mk (some 19) (IOp.pick (Opd.t 15) (Opd.t 18) (Opd.c (AV.bool false))) none,
 IOper.mk (some 0) (IOp.mv (Opd.t 19)) none]
 [9, 10, 11, 12, 13, 14, 15, 16, 17, 18, 19])
 IC.ret))))
 none
theorem fn_l40_live : F 30 = some ir_l40_live := by kernel_rfl

def ir_seed_Script : IFun :=
 IFun.mk false 4 [IRes.cell 8 (some 11)]
 (IC.seq
 (IC.ops false
 [IOper.mk (some 8)
 (IOp.alloc
 [AV.int IntKind.i64 0, AV.int IntKind.i64 0, AV.int IntKind.i64 0,
 AV.int IntKind.i64 0, AV.int IntKind.i64 0, AV.int IntKind.i64 0,
 AV.int IntKind.i64 0, AV.int IntKind.i64 0, AV.int IntKind.i64 0,
 AV.imm true 0 0 (some 0) [], AV.imm true 0 0 (some 0) []])
 none]
 [])
 (IC.seq
 (IC.ops false
 [IOper.mk (some 12) (IOp.mv (Opd.t 0)) none,
 IOper.mk (some 13) (IOp.call (Opd.c (AV.func (Fn.func 18) [] [])) [Opd.t 12]) none,
 IOper.mk (some 9) (IOp.mv (Opd.t 13)) none]
 [12, 13])
 (IC.seq
 (IC.ops false
 [IOper.mk (some 14) (IOp.mv (Opd.t 1)) none,
 IOper.mk (some 15)
 (IOp.callp 47
 [Opd.t 14, Opd.c (AV.int IntKind.i64 1), Opd.c (AV.int IntKind.i64 64)])
 none,
 IOper.mk (some 1) (IOp.mv (Opd.t 15)) none]
 [14, 15])
 (IC.seq
 (IC.ops false
 [IOper.mk (some 16) (IOp.mv (Opd.t 0)) none, IOper.mk (some 17) (IOp.callp 40 [Opd.t 16]) none,
 IOper.mk (some 18)
 (IOp.build
 [AV.int IntKind.i64 0, AV.int IntKind.i64 0, AV.int IntKind.i64 0,
 AV.int IntKind.i64 0, AV.int IntKind.i64 0,
 AV.int IntKind.i64 0, AV.int IntKind.i64 0,
 AV.int IntKind.i64 0, AV.int IntKind.i64 0, AV.imm true 0 0 (some 0) [],
 AV.imm true 0 0 (some 0) []]
 [(0, 9, Opd.t 17)])
 none,
 IOper.mk (some 10)
 (IOp.alloc
 [AV.int IntKind.i64 0, AV.int IntKind.i64 0, AV.int IntKind.i64 0,
 AV.int IntKind.i64 0, AV.int IntKind.i64 0,
 AV.int IntKind.i64 0, AV.int IntKind.i64 0,
 AV.int IntKind.i64 0, AV.int IntKind.i64 0, AV.imm true 0 0 (some 0) [],
 AV.imm true 0 0 (some 0) []])
 none,
 IOper.mk none (IOp.store 11 (Opd.t 10) (Opd.t 18)) none]
 [16, 17, 18])
 (IC.seq
 (IC.seq
 (IC.ops false
 [IOper.mk (some 19) (IOp.mv (Opd.t 1)) none,
 IOper.mk (some 20) (IOp.mv (Opd.c (AV.int IntKind.i64 0))) none]
 [])
 (IC.seq
 (IC.block 0
 (IC.loop
 (IC.seq
 (IC.seq (IC.ops false [IOper.mk (some 21) (IOp.bin BinOp.lss (Opd.t 20) (Opd.t 19)) none] [])
 (IC.seq (IC.cond (Opd.t 21) IC.nop (IC.exit 0))
 (IC.seq
 (IC.seq
 (IC.block 1
 (IC.seq
 (IC.ops false [IOper.mk (some 11) (IOp.mv (Opd.c (AV.imm true 0 0 (some 0) []))) none]
 [])
 (IC.seq
 (IC.seq
 (IC.ops false
 [IOper.mk (some 22) (IOp.mv (Opd.t 2)) none,
 IOper.mk (some 23)
 (IOp.callp 47
 [Opd.t 22, Opd.c (AV.int IntKind.i64 0),
 Opd.c (AV.int IntKind.i64 100)])
 none,
 IOper.mk (some 24) (IOp.mv (Opd.c (AV.int IntKind.i64 0))) none]
 [22])
 (IC.seq
 (IC.block 2
 (IC.loop
 (IC.seq
 (IC.seq
 (IC.ops false
 [IOper.mk (some 25) (IOp.bin BinOp.lss (Opd.t 24) (Opd.t 23)) none]
 [])
 (IC.seq (IC.cond (Opd.t 25) IC.nop (IC.exit 2))
 (IC.seq
 (IC.seq
 (IC.block 3
 (IC.ops false
 [IOper.mk (some 26) (IOp.mv (Opd.t 11)) none,
 IOper.mk (some 27) (IOp.mv (Opd.t 9)) none,
 IOper.mk (some 28)
 (IOp.call (Opd.c (AV.func (Fn.func 27) [] [])) [Opd.t 27])
 none,
 IOper.mk (some 29)
 (IOp.bsl false 5 1
 [AV.int IntKind.u8 0, AV.str [], AV.str [],
 AV.int IntKind.i64 0,
 AV.imm true 0 0 (some 0) []]
 [(0, 5, Opd.t 28)])
 none,
 IOper.mk (some 30) (IOp.append 5 72 (Opd.t 26) (Opd.t 29))
 none,
 IOper.mk (some 11) (IOp.mv (Opd.t 30)) none]
 [26, 27, 28, 29, 30]))
 (IC.ops false [] [26, 27, 28, 29, 30]))
 (IC.ops false
 [IOper.mk (some 31)
 (IOp.bin BinOp.add (Opd.t 24)
 (Opd.c (AV.int IntKind.i64 1)))
 none,
 IOper.mk (some 24) (IOp.mv (Opd.t 31)) none]
 [31]))))
 (IC.ops false [] [25, 26, 27, 28, 29, 30, 31]))))
 (IC.ops false [] [25, 26, 27, 28, 29, 30, 31])))
 (IC.ops false
 [IOper.mk (some 32) (IOp.faddr 9 (Opd.t 10)) none,
 IOper.mk (some 33) (IOp.load none (Opd.t 32)) none,
 IOper.mk (some 34) (IOp.mv (Opd.t 11)) none,
 IOper.mk (some 35)
 (IOp.bsl false 1 1 [AV.imm true 0 0 (some 0) []] [(0, 1, Opd.t 34)]) none,
 IOper.mk (some 36) (IOp.append 1 24 (Opd.t 33) (Opd.t 35)) none,
 IOper.mk (some 37) (IOp.faddr 9 (Opd.t 10)) none,
 IOper.mk none (IOp.store 1 (Opd.t 37) (Opd.t 36)) none]
 [32, 33, 34, 35, 36, 37]))))
 (IC.ops false [] [22, 23, 25, 26, 27, 28, 29, 30, 11, 31, 24, 32, 33, 34, 35, 36, 37]))
 (IC.ops false
 [IOper.mk (some 38)
 (IOp.bin BinOp.add (Opd.t 20) (Opd.c (AV.int IntKind.i64 1))) none,
 IOper.mk (some 20) (IOp.mv (Opd.t 38)) none]
 [38]))))
 (IC.ops false [] [21, 22, 23, 25, 26, 27, 28, 29, 30, 11, 31, 24, 32, 33, 34, 35, 36, 37, 38]))))
 (IC.ops false [] [21, 22, 23, 25, 26, 27, 28, 29, 30, 11, 31, 24, 32, 33, 34, 35, 36, 37, 38])))
 (IC.seq
 (IC.ops false
 [IOper.mk (some 39) (IOp.mv (Opd.t 9)) none, IOper.mk (some 40) (IOp.mv (Opd.t 1)) none,
 IOper.mk (some 41) (IOp.mv (Opd.t 3)) none,
 IOper.mk (some 42) (IOp.call (Opd.c (AV.func (Fn.func 60) [] [])) [Opd.t 39, Opd.t 40, Opd.t 41])
 none,
 IOper.mk (some 43) (IOp.faddr 10 (Opd.t 10)) none,
 IOper.mk none (IOp.store 1 (Opd.t 43) (Opd.t 42)) none]
 [39, 40, 41, 42, 43])
 (IC.seq
 (IC.ops false
 [IOper.mk (some 44) (IOp.load (some 11) (Opd.t 10)) none,
 IOper.mk none (IOp.store 11 (Opd.t 8) (Opd.t 44)) none]
 [44])
 IC.ret)))))))
 none
theorem fn_seed_Script : F 37 = some ir_seed_Script := by kernel_rfl

def ir_r40_Script : IFun :=
 IFun.mk false 4 [IRes.cell 8 (some 11)]
 (IC.seq
 (IC.ops false
 [IOper.mk (some 8)
 (IOp.alloc
 [AV.int IntKind.i64 0, AV.int IntKind.i64 0, AV.int IntKind.i64 0,
 AV.int IntKind.i64 0, AV.int IntKind.i64 0, AV.int IntKind.i64 0,
 AV.int IntKind.i64 0, AV.int IntKind.i64 0, AV.int IntKind.i64 0,
 AV.imm true 0 0 (some 0) [], AV.imm true 0 0 (some 0) []])
 none]
 [])
 (IC.seq
 (IC.ops false
 [IOper.mk (some 15) (IOp.mv (Opd.t 0)) none,
 IOper.mk (some 16) (IOp.build [AV.int IntKind.u64 0] [(0, 1, Opd.t 15)]) none,
 IOper.mk (some 17) (IOp.box 1 (Opd.t 16)) none, IOper.mk (some 9) (IOp.mv (Opd.t 17)) none]
 [15, 16, 17])
 (IC.seq
 (IC.ops false
 [IOper.mk (some 18) (IOp.mv (Opd.t 1)) none,
 IOper.mk (some 19)
 (IOp.callp 50
 [Opd.t 18, Opd.c (AV.int IntKind.i64 1), Opd.c (AV.int IntKind.i64 64)])
 none,
 IOper.mk (some 10) (IOp.mv (Opd.t 19)) none]
 [18, 19])
 (IC.seq
 (IC.ops false
 [IOper.mk (some 20) (IOp.mv (Opd.t 0)) none, IOper.mk (some 21) (IOp.callp 61 [Opd.t 20]) none,
 IOper.mk (some 22)
 (IOp.build
 [AV.int IntKind.i64 0, AV.int IntKind.i64 0, AV.int IntKind.i64 0,
 AV.int IntKind.i64 0, AV.int IntKind.i64 0,
 AV.int IntKind.i64 0, AV.int IntKind.i64 0,
 AV.int IntKind.i64 0, AV.int IntKind.i64 0, AV.imm true 0 0 (some 0) [],
 AV.imm true 0 0 (some 0) []]
 [(0, 9, Opd.t 21)])
 none,
 IOper.mk (some 11)
 (IOp.alloc
 [AV.int IntKind.i64 0, AV.int IntKind.i64 0, AV.int IntKind.i64 0,
 AV.int IntKind.i64 0, AV.int IntKind.i64 0,
 AV.int IntKind.i64 0, AV.int IntKind.i64 0,
 AV.int IntKind.i64 0, AV.int IntKind.i64 0, AV.imm true 0 0 (some 0) [],
 AV.imm true 0 0 (some 0) []])
 none,
 IOper.mk none (IOp.store 11 (Opd.t 11) (Opd.t 22)) none]
 [20, 21, 22])
 (IC.seq
 (IC.seq (IC.ops false [IOper.mk (some 12) (IOp.mv (Opd.c (AV.int IntKind.i64 0))) none] [])
 (IC.seq
 (IC.block 0
 (IC.loop
 (IC.seq
 (IC.seq
 (IC.seq
 (IC.ops false
 [IOper.mk (some 23) (IOp.mv (Opd.t 12)) none, IOper.mk (some 24) (IOp.mv (Opd.t 10)) none,
 IOper.mk (some 25) (IOp.bin BinOp.lss (Opd.t 23) (Opd.t 24)) none]
 [23, 24])
 (IC.cond (Opd.t 25) IC.nop (IC.exit 0)))
 (IC.seq
 (IC.seq
 (IC.block 1
 (IC.seq
 (IC.ops false
 [IOper.mk (some 28)
 (IOp.bsl false 5 0
 [AV.int IntKind.u8 0, AV.str [], AV.str [],
 AV.int IntKind.i64 0, AV.imm true 0 0 (some 0) []]
 [])
 none,
 IOper.mk (some 13) (IOp.mv (Opd.t 28)) none]
 [28])
 (IC.seq
 (IC.seq
 (IC.ops false
 [IOper.mk (some 14) (IOp.mv (Opd.c (AV.int IntKind.i64 0))) none] [])
 (IC.seq
 (IC.block 2
 (IC.loop
 (IC.seq
 (IC.seq
 (IC.seq
 (IC.ops false
 [IOper.mk (some 29) (IOp.mv (Opd.t 14)) none,
 IOper.mk (some 30) (IOp.mv (Opd.t 2)) none,
 IOper.mk (some 31) (IOp.bin BinOp.lss (Opd.t 29) (Opd.t 30)) none,
 IOper.mk (some 32) (IOp.mv (Opd.t 31)) none,
 IOper.mk (some 33) (IOp.mv (Opd.t 14)) (some (32, true)),
 IOper.mk (some 34)
 (IOp.bin BinOp.lss (Opd.t 33)
 (Opd.c (AV.int IntKind.i64 100)))
 (some (32, true)),
 IOper.mk (some 35)
 (IOp.pick (Opd.t 32) (Opd.t 34) (Opd.c (AV.bool false))) none]
 [29, 30, 31, 32, 33, 34])
 (IC.cond (Opd.t 35) IC.nop (IC.exit 2)))
 (IC.seq
 (IC.seq
 (IC.block 3
 (IC.ops false
 [IOper.mk (some 38) (IOp.mv (Opd.t 13)) none,
 IOper.mk (some 39) (IOp.mv (Opd.t 9)) none,
 IOper.mk (some 40)
 (IOp.call (Opd.c (AV.func (Fn.func 28) [] [])) [Opd.t 39])
 none,
 IOper.mk (some 41)
 (IOp.bsl false 5 1
 [AV.int IntKind.u8 0, AV.str [], AV.str [],
 AV.int IntKind.i64 0,
 AV.imm true 0 0 (some 0) []]
 [(0, 5, Opd.t 40)])
 none,
 IOper.mk (some 42) (IOp.append 5 72 (Opd.t 38) (Opd.t 41)) none,
 IOper.mk (some 13) (IOp.mv (Opd.t 42)) none]
 [38, 39, 40, 41, 42]))
 (IC.ops false [] [38, 39, 40, 41, 42]))
 (IC.ops false
 [IOper.mk (some 36) (IOp.mv (Opd.t 14)) none,
 IOper.mk (some 37)
 (IOp.bin BinOp.add (Opd.t 36)
 (Opd.c (AV.int IntKind.i64 1)))
 none,
 IOper.mk (some 14) (IOp.mv (Opd.t 37)) none]
 [36, 37])))
 (IC.ops false []
 [29, 30, 31, 32, 33, 34, 35, 38, 39, 40, 41, 42, 36, 37]))))
 (IC.ops false [] [29, 30, 31, 32, 33, 34, 35, 38, 39, 40, 41, 42, 36, 37])))
 (IC.ops false
 [IOper.mk (some 43) (IOp.faddr 9 (Opd.t 11)) none,
 IOper.mk (some 44) (IOp.load none (Opd.t 43)) none,
 IOper.mk (some 45) (IOp.mv (Opd.t 13)) none,
 IOper.mk (some 46)
 (IOp.bsl false 1 1 [AV.imm true 0 0 (some 0) []] [(0, 1, Opd.t 45)]) none,
 IOper.mk (some 47) (IOp.append 1 24 (Opd.t 44) (Opd.t 46)) none,
 IOper.mk (some 48) (IOp.faddr 9 (Opd.t 11)) none,
 IOper.mk none (IOp.store 1 (Opd.t 48) (Opd.t 47)) none]
 [43, 44, 45, 46, 47, 48]))))
 (IC.ops false []
 [28, 29, 30, 31, 32, 33, 34, 35, 38, 39, 40, 41, 42, 13, 36, 37, 14, 43, 44, 45, 46, 47,
 48]))
 (IC.ops false
 [IOper.mk (some 26) (IOp.mv (Opd.t 12)) none,
 IOper.mk (some 27)
 (IOp.bin BinOp.add (Opd.t 26) (Opd.c (AV.int IntKind.i64 1))) none,
 IOper.mk (some 12) (IOp.mv (Opd.t 27)) none]
 [26, 27])))
 (IC.ops false []
 [23, 24, 25, 28, 29, 30, 31, 32, 33, 34, 35, 38, 39, 40, 41, 42, 13, 36, 37, 14, 43, 44, 45, 46,
 47, 48, 26, 27]))))
 (IC.ops false []
 [23, 24, 25, 28, 29, 30, 31, 32, 33, 34, 35, 38, 39, 40, 41, 42, 13, 36, 37, 14, 43, 44, 45, 46, 47,
 48, 26, 27])))
 (IC.seq
 (IC.ops false
 [IOper.mk (some 49) (IOp.mv (Opd.t 9)) none, IOper.mk (some 50) (IOp.mv (Opd.t 10)) none,
 IOper.mk (some 51) (IOp.mv (Opd.t 3)) none,
 IOper.mk (some 52) (IOp.call (Opd.c (AV.func (Fn.func 62) [] [])) [Opd.t 49, Opd.t 50, Opd.t 51])
 none,
 IOper.mk (some 53) (IOp.faddr 10 (Opd.t 11)) none,
 IOper.mk none (IOp.store 1 (Opd.t 53) (Opd.t 52)) none]
 [49, 50, 51, 52, 53])
 (IC.seq
 (IC.ops false
 [IOper.mk (some 54) (IOp.load (some 11) (Opd.t 11)) none,
 IOper.mk none (IOp.store 11 (Opd.t 8) (Opd.t 54)) none]
 [54])
 IC.ret)))))))
 none
theorem fn_r40_Script : F 38 = some ir_r40_Script := by kernel_rfl

def ir_r33_Same : IFun :=
 IFun.mk false 2 [IRes.tmp 4]
 (IC.seq
 (IC.ops false
 [IOper.mk (some 2) (IOp.box 11 (Opd.t 0)) none, IOper.mk (some 3) (IOp.box 11 (Opd.t 1)) none,
 IOper.mk (some 4) (IOp.mv (Opd.c (AV.bool false))) none]
 [])
 (IC.seq
 (IC.seq
 (IC.ops false
 [IOper.mk (some 10) (IOp.faddr 0 (Opd.t 2)) none, IOper.mk (some 11) (IOp.load (some 9) (Opd.t 10)) none,
 IOper.mk (some 12) (IOp.faddr 0 (Opd.t 3)) none, IOper.mk (some 13) (IOp.load (some 9) (Opd.t 12)) none,
 IOper.mk (some 14)
 (IOp.eqa true [(0, 0), (1, 0), (2, 0), (3, 0), (4, 0), (5, 0), (6, 0), (7, 0), (8, 0)] (Opd.t 11)
 (Opd.t 13))
 none,
 IOper.mk (some 15) (IOp.mv (Opd.t 14)) none, IOper.mk (some 16) (IOp.faddr 9 (Opd.t 2)) (some (15, false)),
 IOper.mk (some 17) (IOp.load none (Opd.t 16)) (some (15, false)),
 IOper.mk (some 18) (IOp.len (Opd.t 17)) (some (15, false)),
 IOper.mk (some 19) (IOp.faddr 9 (Opd.t 3)) (some (15, false)),
 IOper.mk (some 20) (IOp.load none (Opd.t 19)) (some (15, false)),
 IOper.mk (some 21) (IOp.len (Opd.t 20)) (some (15, false)),
 IOper.mk (some 22) (IOp.bin BinOp.neq (Opd.t 18) (Opd.t 21)) (some (15, false)),
 IOper.mk (some 23) (IOp.pick (Opd.t 15) (Opd.c (AV.bool true)) (Opd.t 22)) none,
 IOper.mk (some 24) (IOp.mv (Opd.t 23)) none, IOper.mk (some 25) (IOp.faddr 10 (Opd.t 2)) (some (24, false)),
 IOper.mk (some 26) (IOp.load none (Opd.t 25)) (some (24, false)),
 IOper.mk (some 27) (IOp.len (Opd.t 26)) (some (24, false)),
 IOper.mk (some 28) (IOp.faddr 10 (Opd.t 3)) (some (24, false)),
 IOper.mk (some 29) (IOp.load none (Opd.t 28)) (some (24, false)),
 IOper.mk (some 30) (IOp.len (Opd.t 29)) (some (24, false)),
 IOper.mk (some 31) (IOp.bin BinOp.neq (Opd.t 27) (Opd.t 30)) (some (24, false)),
 IOper.mk (some 32) (IOp.pick (Opd.t 24) (Opd.c (AV.bool true)) (Opd.t 31)) none]
 [10, 11, 12, 13, 14, 15, 16, 17, 18, 19, 20, 21, 22, 23, 24, 25, 26, 27, 28, 29, 30, 31])
 (IC.cond (Opd.t 32) (IC.seq (IC.ops false [IOper.mk (some 4) (IOp.mv (Opd.c (AV.bool false))) none] []) IC.ret)
 IC.nop))
 (IC.seq
 (IC.seq (IC.ops false [IOper.mk (some 5) (IOp.mv (Opd.c (AV.int IntKind.i64 0))) none] [])
 (IC.seq
 (IC.block 0
 (IC.loop
 (IC.seq
 (IC.seq
 (IC.seq
 (IC.ops false
 [IOper.mk (some 33) (IOp.mv (Opd.t 5)) none, IOper.mk (some 34) (IOp.faddr 10 (Opd.t 2)) none,
 IOper.mk (some 35) (IOp.load none (Opd.t 34)) none,
 IOper.mk (some 36) (IOp.len (Opd.t 35)) none,
 IOper.mk (some 37) (IOp.bin BinOp.lss (Opd.t 33) (Opd.t 36)) none]
 [33, 34, 35, 36])
 (IC.cond (Opd.t 37) IC.nop (IC.exit 0)))
 (IC.seq
 (IC.seq
 (IC.block 1
 (IC.seq
 (IC.ops true
 [IOper.mk (some 40) (IOp.faddr 10 (Opd.t 2)) none,
 IOper.mk (some 41) (IOp.load none (Opd.t 40)) none,
 IOper.mk (some 42) (IOp.mv (Opd.t 5)) none,
 IOper.mk (some 43) (IOp.ixa 1 (Opd.t 41) (Opd.t 42)) none,
 IOper.mk (some 44) (IOp.load none (Opd.t 43)) none,
 IOper.mk (some 45) (IOp.faddr 10 (Opd.t 3)) none,
 IOper.mk (some 46) (IOp.load none (Opd.t 45)) none,
 IOper.mk (some 47) (IOp.mv (Opd.t 5)) none,
 IOper.mk (some 48) (IOp.ixa 1 (Opd.t 46) (Opd.t 47)) none,
 IOper.mk (some 49) (IOp.load none (Opd.t 48)) none,
 IOper.mk (some 50) (IOp.bin BinOp.neq (Opd.t 44) (Opd.t 49)) none]
 [40, 41, 42, 43, 44, 45, 46, 47, 48, 49])
 (IC.cond (Opd.t 50)
 (IC.seq (IC.ops false [IOper.mk (some 4) (IOp.mv (Opd.c (AV.bool false))) none] [])
 IC.ret)
 IC.nop)))
 (IC.ops false [] [40, 41, 42, 43, 44, 45, 46, 47, 48, 49, 50]))
 (IC.ops false
 [IOper.mk (some 38) (IOp.mv (Opd.t 5)) none,
 IOper.mk (some 39) (IOp.bin BinOp.add (Opd.t 38) (Opd.c (AV.int IntKind.i64 1)))
 none,
 IOper.mk (some 5) (IOp.mv (Opd.t 39)) none]
 [38, 39])))
 (IC.ops false [] [33, 34, 35, 36, 37, 40, 41, 42, 43, 44, 45, 46, 47, 48, 49, 50, 38, 39]))))
 (IC.ops false [] [33, 34, 35, 36, 37, 40, 41, 42, 43, 44, 45, 46, 47, 48, 49, 50, 38, 39])))
 (IC.seq
 (IC.seq (IC.ops false [IOper.mk (some 6) (IOp.mv (Opd.c (AV.int IntKind.i64 0))) none] [])
 (IC.seq
 (IC.block 2
 (IC.loop
 (IC.seq
 (IC.seq
 (IC.seq
 (IC.ops false
 [IOper.mk (some 51) (IOp.mv (Opd.t 6)) none, IOper.mk (some 52) (IOp.faddr 9 (Opd.t 2)) none,
 IOper.mk (some 53) (IOp.load none (Opd.t 52)) none,
 IOper.mk (some 54) (IOp.len (Opd.t 53)) none,
 IOper.mk (some 55) (IOp.bin BinOp.lss (Opd.t 51) (Opd.t 54)) none]
 [51, 52, 53, 54])
 (IC.cond (Opd.t 55) IC.nop (IC.exit 2)))
 (IC.seq
 (IC.seq
 (IC.block 3
 (IC.seq
 (IC.seq
 (IC.ops true
 [IOper.mk (some 58) (IOp.faddr 9 (Opd.t 2)) none,
 IOper.mk (some 59) (IOp.load none (Opd.t 58)) none,
 IOper.mk (some 60) (IOp.mv (Opd.t 6)) none,
 IOper.mk (some 61) (IOp.ixa 1 (Opd.t 59) (Opd.t 60)) none,
 IOper.mk (some 62) (IOp.load none (Opd.t 61)) none,
 IOper.mk (some 63) (IOp.len (Opd.t 62)) none,
 IOper.mk (some 64) (IOp.faddr 9 (Opd.t 3)) none,
 IOper.mk (some 65) (IOp.load none (Opd.t 64)) none,
 IOper.mk (some 66) (IOp.mv (Opd.t 6)) none,
 IOper.mk (some 67) (IOp.ixa 1 (Opd.t 65) (Opd.t 66)) none,
 IOper.mk (some 68) (IOp.load none (Opd.t 67)) none,
 IOper.mk (some 69) (IOp.len (Opd.t 68)) none,
 IOper.mk (some 70) (IOp.bin BinOp.neq (Opd.t 63) (Opd.t 69)) none]
 [58, 59, 60, 61, 62, 63, 64, 65, 66, 67, 68, 69])
 (IC.cond (Opd.t 70)
 (IC.seq (IC.ops false [IOper.mk (some 4) (IOp.mv (Opd.c (AV.bool false))) none] [])
 IC.ret)
 IC.nop))
 (IC.seq
 (IC.ops false
 [IOper.mk (some 7) (IOp.mv (Opd.c (AV.int IntKind.i64 0))) none] [])
 (IC.seq
 (IC.block 4
 (IC.loop
 (IC.seq
 (IC.seq
 (IC.seq
 (IC.ops false
 [IOper.mk (some 71) (IOp.mv (Opd.t 7)) none,
 IOper.mk (some 72) (IOp.faddr 9 (Opd.t 2)) none,
 IOper.mk (some 73) (IOp.load none (Opd.t 72)) none,
 IOper.mk (some 74) (IOp.mv (Opd.t 6)) none,
 IOper.mk (some 75) (IOp.ixa 1 (Opd.t 73) (Opd.t 74)) none,
 IOper.mk (some 76) (IOp.load none (Opd.t 75)) none,
 IOper.mk (some 77) (IOp.len (Opd.t 76)) none,
 IOper.mk (some 78) (IOp.bin BinOp.lss (Opd.t 71) (Opd.t 77)) none]
 [71, 72, 73, 74, 75, 76, 77])
 (IC.cond (Opd.t 78) IC.nop (IC.exit 4)))
 (IC.seq
 (IC.seq
 (IC.block 5
 (IC.seq
 (IC.ops false
 [IOper.mk (some 81) (IOp.faddr 9 (Opd.t 2)) none,
 IOper.mk (some 82) (IOp.load none (Opd.t 81)) none,
 IOper.mk (some 83) (IOp.mv (Opd.t 6)) none,
 IOper.mk (some 84) (IOp.ixa 1 (Opd.t 82) (Opd.t 83)) none,
 IOper.mk (some 85) (IOp.load none (Opd.t 84)) none,
 IOper.mk (some 86) (IOp.mv (Opd.t 7)) none,
 IOper.mk (some 87) (IOp.ixa 5 (Opd.t 85) (Opd.t 86)) none,
 IOper.mk (some 88) (IOp.load (some 5) (Opd.t 87)) none,
 IOper.mk (some 8)
 (IOp.alloc
 [AV.int IntKind.u8 0, AV.str [], AV.str [],
 AV.int IntKind.i64 0,
 AV.imm true 0 0 (some 0) []])
 none,
 IOper.mk none (IOp.store 5 (Opd.t 8) (Opd.t 88)) none]
 [81, 82, 83, 84, 85, 86, 87, 88])
 (IC.seq
 (IC.ops false
 [IOper.mk (some 89) (IOp.faddr 9 (Opd.t 3)) none,
 IOper.mk (some 90) (IOp.load none (Opd.t 89)) none,
 IOper.mk (some 91) (IOp.mv (Opd.t 6)) none,
 IOper.mk (some 92) (IOp.ixa 1 (Opd.t 90) (Opd.t 91)) none,
 IOper.mk (some 93) (IOp.load none (Opd.t 92)) none,
 IOper.mk (some 94) (IOp.mv (Opd.t 7)) none,
 IOper.mk (some 95) (IOp.ixa 5 (Opd.t 93) (Opd.t 94)) none,
 IOper.mk (some 96) (IOp.load (some 5) (Opd.t 95)) none,
 IOper.mk (some 9)
 (IOp.alloc
 [AV.int IntKind.u8 0, AV.str [], AV.str [],
 AV.int IntKind.i64 0,
 AV.imm true 0 0 (some 0) []])
 none,
 IOper.mk none (IOp.store 5 (Opd.t 9) (Opd.t 96)) none]
 [89, 90, 91, 92, 93, 94, 95, 96])
 (IC.seq
 (IC.ops false
 [IOper.mk (some 97) (IOp.faddr 0 (Opd.t 8)) none,
 IOper.mk (some 98) (IOp.load none (Opd.t 97)) none,
 IOper.mk (some 99) (IOp.faddr 0 (Opd.t 9)) none,
 IOper.mk (some 100) (IOp.load none (Opd.t 99)) none,
 IOper.mk (some 101) (IOp.bin BinOp.neq (Opd.t 98) (Opd.t 100))
 none,
 IOper.mk (some 102) (IOp.mv (Opd.t 101)) none,
 IOper.mk (some 103) (IOp.faddr 1 (Opd.t 8))
 (some (102, false)),
 IOper.mk (some 104) (IOp.load none (Opd.t 103))
 (some (102, false)),
 IOper.mk (some 105) (IOp.faddr 1 (Opd.t 9))
 (some (102, false)),
 IOper.mk (some 106) (IOp.load none (Opd.t 105))
 (some (102, false)),
 IOper.mk (some 107)
 (IOp.bin BinOp.neq (Opd.t 104) (Opd.t 106))
 (some (102, false)),
 IOper.mk (some 108)
 (IOp.pick (Opd.t 102) (Opd.c (AV.bool true)) (Opd.t 107))
 none,
 IOper.mk (some 109) (IOp.mv (Opd.t 108)) none,
 IOper.mk (some 110) (IOp.faddr 2 (Opd.t 8))
 (some (109, false)),
 IOper.mk (some 111) (IOp.load none (Opd.t 110))
 (some (109, false)),
 IOper.mk (some 112) (IOp.faddr 2 (Opd.t 9))
 (some (109, false)),
 IOper.mk (some 113) (IOp.load none (Opd.t 112))
 (some (109, false)),
 IOper.mk (some 114)
 (IOp.bin BinOp.neq (Opd.t 111) (Opd.t 113))
 (some (109, false)),
 IOper.mk (some 115)
 (IOp.pick (Opd.t 109) (Opd.c (AV.bool true)) (Opd.t 114))
 none,
 IOper.mk (some 116) (IOp.mv (Opd.t 115)) none,
 IOper.mk (some 117) (IOp.faddr 3 (Opd.t 8))
 (some (116, false)),
 IOper.mk (some 118) (IOp.load none (Opd.t 117))
 (some (116, false)),
 IOper.mk (some 119) (IOp.faddr 3 (Opd.t 9))
 (some (116, false)),
 IOper.mk (some 120) (IOp.load none (Opd.t 119))
 (some (116, false)),
 IOper.mk (some 121)
 (IOp.bin BinOp.neq (Opd.t 118) (Opd.t 120))
 (some (116, false)),
 IOper.mk (some 122)
 (IOp.pick (Opd.t 116) (Opd.c (AV.bool true)) (Opd.t 121))
 none,
 IOper.mk (some 123) (IOp.mv (Opd.t 122)) none,
 IOper.mk (some 124) (IOp.faddr 4 (Opd.t 8))
 (some (123, false)),
 IOper.mk (some 125) (IOp.load none (Opd.t 124))
 (some (123, false)),
 IOper.mk (some 126) (IOp.faddr 4 (Opd.t 9))
 (some (123, false)),
 IOper.mk (some 127) (IOp.load none (Opd.t 126))
 (some (123, false)),
 IOper.mk (some 128) (IOp.callp 29 [Opd.t 125, Opd.t 127])
 (some (123, false)),
 IOper.mk (some 129) (IOp.not (Opd.t 128)) (some (123, false)),
 IOper.mk (some 130)
 (IOp.pick (Opd.t 123) (Opd.c (AV.bool true)) (Opd.t 129))
 none]
 [97, 98, 99, 100, 101, 102, 103, 104, 105, 106, 107, 108, 109,
 110, 111, 112, 113, 114, 115, 116, 117, 118, 119, 120, 121,
 122, 123, 124, 125, 126, 127, 128, 129])
 (IC.cond (Opd.t 130)
 (IC.seq
 (IC.ops false
 [IOper.mk (some 4) (IOp.mv (Opd.c (AV.bool false))) none]
 [])
 IC.ret)
 IC.nop)))))
 (IC.ops false []
 [81, 82, 83, 84, 85, 86, 87, 88, 8, 89, 90, 91, 92, 93, 94, 95, 96, 9,
 97, 98, 99, 100, 101, 102, 103, 104, 105, 106, 107, 108, 109, 110,
 111, 112, 113, 114, 115, 116, 117, 118, 119, 120, 121, 122, 123, 124,
 125, 126, 127, 128, 129, 130]))
 (IC.ops false
 [IOper.mk (some 79) (IOp.mv (Opd.t 7)) none,
 IOper.mk (some 80)
 (IOp.bin BinOp.add (Opd.t 79)
 (Opd.c (AV.int IntKind.i64 1)))
 none,
 IOper.mk (some 7) (IOp.mv (Opd.t 80)) none]
 [79, 80])))
 (IC.ops false []
 [71, 72, 73, 74, 75, 76, 77, 78, 81, 82, 83, 84, 85, 86, 87, 88, 8, 89, 90,
 91, 92, 93, 94, 95, 96, 9, 97, 98, 99, 100, 101, 102, 103, 104, 105, 106,
 107, 108, 109, 110, 111, 112, 113, 114, 115, 116, 117, 118, 119, 120, 121,
 122, 123, 124, 125, 126, 127, 128, 129, 130, 79, 80]))))
 (IC.ops false []
 [71, 72, 73, 74, 75, 76, 77, 78, 81, 82, 83, 84, 85, 86, 87, 88, 8, 89, 90, 91, 92,
 93, 94, 95, 96, 9, 97, 98, 99, 100, 101, 102, 103, 104, 105, 106, 107, 108, 109,
 110, 111, 112, 113, 114, 115, 116, 117, 118, 119, 120, 121, 122, 123, 124, 125,
 126, 127, 128, 129, 130, 79, 80])))))
 (IC.ops false []
 [58, 59, 60, 61, 62, 63, 64, 65, 66, 67, 68, 69, 70, 71, 72, 73, 74, 75, 76, 77, 78, 81, 82,
 83, 84, 85, 86, 87, 88, 8, 89, 90, 91, 92, 93, 94, 95, 96, 9, 97, 98, 99, 100, 101, 102,
 103, 104, 105, 106, 107, 108, 109, 110, 111, 112, 113, 114, 115, 116, 117, 118, 119, 120,
 121, 122, 123, 124, 125, 126, 127, 128, 129, 130, 79, 80, 7]))
 (IC.ops false
 [IOper.mk (some 56) (IOp.mv (Opd.t 6)) none,
 IOper.mk (some 57) (IOp.bin BinOp.add (Opd.t 56) (Opd.c (AV.int IntKind.i64 1)))
 none,
 IOper.mk (some 6) (IOp.mv (Opd.t 57)) none]
 [56, 57])))
 (IC.ops false []
 [51, 52, 53, 54, 55, 58, 59, 60, 61, 62, 63, 64, 65, 66, 67, 68, 69, 70, 71, 72, 73, 74, 75, 76,
 77, 78, 81, 82, 83, 84, 85, 86, 87, 88, 8, 89, 90, 91, 92, 93, 94, 95, 96, 9, 97, 98, 99, 100,
 101, 102, 103, 104, 105, 106, 107, 108, 109, 110, 111, 112, 113, 114, 115, 116, 117, 118, 119,
 120, 121, 122, 123, 124, 125, 126, 127, 128, 129, 130, 79, 80, 7, 56, 57]))))
 (IC.ops false []
 [51, 52, 53, 54, 55, 58, 59, 60, 61, 62, 63, 64, 65, 66, 67, 68, 69, 70, 71, 72, 73, 74, 75, 76, 77, 78,
 81, 82, 83, 84, 85, 86, 87, 88, 8, 89, 90, 91, 92, 93, 94, 95, 96, 9, 97, 98, 99, 100, 101, 102, 103,
 104, 105, 106, 107, 108, 109, 110, 111, 112, 113, 114, 115, 116, 117, 118, 119, 120, 121, 122, 123,
 124, 125, 126, 127, 128, 129, 130, 79, 80, 7, 56, 57])))
 (IC.seq (IC.ops false [IOper.mk (some 4) (IOp.mv (Opd.c (AV.bool true))) none] []) IC.ret)))))
 none
theorem fn_r33_Same : F 39 = some ir_r33_Same := by kernel_rfl

def ir_seed_Config : IFun :=
 IFun.mk false 1 [IRes.cell 2 (some 9)]
 (IC.seq
 (IC.ops false
 [IOper.mk (some 2)
 (IOp.alloc
 [AV.int IntKind.i64 0, AV.int IntKind.i64 0, AV.int IntKind.i64 0,
 AV.int IntKind.i64 0, AV.int IntKind.i64 0, AV.int IntKind.i64 0,
 AV.int IntKind.i64 0, AV.int IntKind.i64 0, AV.int IntKind.i64 0])
 none]
 [])
 (IC.seq
 (IC.ops false
 [IOper.mk (some 5) (IOp.mv (Opd.t 0)) none,
 IOper.mk (some 6) (IOp.call (Opd.c (AV.func (Fn.func 18) [] [])) [Opd.t 5]) none,
 IOper.mk (some 3) (IOp.mv (Opd.t 6)) none]
 [5, 6])
 (IC.seq
 (IC.ops false
 [IOper.mk (some 7)
 (IOp.build
 [AV.int IntKind.i64 0, AV.int IntKind.i64 0, AV.int IntKind.i64 0,
 AV.int IntKind.i64 0, AV.int IntKind.i64 0, AV.int IntKind.i64 0,
 AV.int IntKind.i64 0, AV.int IntKind.i64 0, AV.int IntKind.i64 0]
 [(0, 1, Opd.c (AV.int IntKind.i64 4)), (1, 1, Opd.c (AV.int IntKind.i64 16))])
 none,
 IOper.mk (some 4)
 (IOp.alloc
 [AV.int IntKind.i64 0, AV.int IntKind.i64 0, AV.int IntKind.i64 0,
 AV.int IntKind.i64 0, AV.int IntKind.i64 0, AV.int IntKind.i64 0,
 AV.int IntKind.i64 0, AV.int IntKind.i64 0, AV.int IntKind.i64 0])
 none,
 IOper.mk none (IOp.store 9 (Opd.t 4) (Opd.t 7)) none]
 [7])
 (IC.seq
 (IC.ops false
 [IOper.mk (some 8) (IOp.mv (Opd.t 3)) none,
 IOper.mk (some 9)
 (IOp.call (Opd.c (AV.func (Fn.func 21) [] [])) [Opd.t 8, Opd.c (AV.int IntKind.i64 5)])
 none,
 IOper.mk (some 10) (IOp.bin BinOp.add (Opd.c (AV.int IntKind.i64 4)) (Opd.t 9)) none,
 IOper.mk (some 11) (IOp.faddr 2 (Opd.t 4)) none, IOper.mk none (IOp.store 1 (Opd.t 11) (Opd.t 10)) none]
 [8, 9, 10, 11])
 (IC.seq
 (IC.ops false
 [IOper.mk (some 12) (IOp.mv (Opd.t 3)) none,
 IOper.mk (some 13)
 (IOp.call (Opd.c (AV.func (Fn.func 21) [] [])) [Opd.t 12, Opd.c (AV.int IntKind.i64 100)])
 none,
 IOper.mk (some 14) (IOp.faddr 3 (Opd.t 4)) none, IOper.mk none (IOp.store 1 (Opd.t 14) (Opd.t 13)) none]
 [12, 13, 14])
 (IC.seq
 (IC.ops false
 [IOper.mk (some 15) (IOp.mv (Opd.t 3)) none,
 IOper.mk (some 16)
 (IOp.call (Opd.c (AV.func (Fn.func 21) [] [])) [Opd.t 15, Opd.c (AV.int IntKind.i64 9)])
 none,
 IOper.mk (some 17) (IOp.bin BinOp.add (Opd.c (AV.int IntKind.i64 4)) (Opd.t 16)) none,
 IOper.mk (some 18) (IOp.faddr 4 (Opd.t 4)) none,
 IOper.mk none (IOp.store 1 (Opd.t 18) (Opd.t 17)) none]
 [15, 16, 17, 18])
 (IC.seq
 (IC.ops false
 [IOper.mk (some 19) (IOp.mv (Opd.t 3)) none,
 IOper.mk (some 20)
 (IOp.call (Opd.c (AV.func (Fn.func 21) [] []))
 [Opd.t 19, Opd.c (AV.int IntKind.i64 3)])
 none,
 IOper.mk (some 21) (IOp.bin BinOp.add (Opd.c (AV.int IntKind.i64 2)) (Opd.t 20)) none,
 IOper.mk (some 22) (IOp.faddr 5 (Opd.t 4)) none,
 IOper.mk none (IOp.store 1 (Opd.t 22) (Opd.t 21)) none]
 [19, 20, 21, 22])
 (IC.seq
 (IC.ops false
 [IOper.mk (some 23) (IOp.mv (Opd.t 3)) none,
 IOper.mk (some 24)
 (IOp.call (Opd.c (AV.func (Fn.func 21) [] []))
 [Opd.t 23, Opd.c (AV.int IntKind.i64 200)])
 none,
 IOper.mk (some 25) (IOp.bin BinOp.add (Opd.c (AV.int IntKind.i64 20)) (Opd.t 24))
 none,
 IOper.mk (some 26) (IOp.faddr 6 (Opd.t 4)) none,
 IOper.mk none (IOp.store 1 (Opd.t 26) (Opd.t 25)) none]
 [23, 24, 25, 26])
 (IC.seq
 (IC.ops false
 [IOper.mk (some 27) (IOp.mv (Opd.t 3)) none,
 IOper.mk (some 28)
 (IOp.call (Opd.c (AV.func (Fn.func 21) [] []))
 [Opd.t 27, Opd.c (AV.int IntKind.i64 5)])
 none,
 IOper.mk (some 29) (IOp.faddr 7 (Opd.t 4)) none,
 IOper.mk none (IOp.store 1 (Opd.t 29) (Opd.t 28)) none]
 [27, 28, 29])
 (IC.seq
 (IC.ops false
 [IOper.mk (some 30) (IOp.mv (Opd.t 3)) none,
 IOper.mk (some 31)
 (IOp.call (Opd.c (AV.func (Fn.func 21) [] []))
 [Opd.t 30, Opd.c (AV.int IntKind.i64 6)])
 none,
 IOper.mk (some 32) (IOp.bin BinOp.add (Opd.c (AV.int IntKind.i64 3)) (Opd.t 31))
 none,
 IOper.mk (some 33) (IOp.faddr 8 (Opd.t 4)) none,
 IOper.mk none (IOp.store 1 (Opd.t 33) (Opd.t 32)) none]
 [30, 31, 32, 33])
 (IC.seq
 (IC.ops false
 [IOper.mk (some 34) (IOp.load (some 9) (Opd.t 4)) none,
 IOper.mk none (IOp.store 9 (Opd.t 2) (Opd.t 34)) none]
 [34])
 IC.ret)))))))))))
 none
theorem fn_seed_Config : F 40 = some ir_seed_Config := by kernel_rfl

def ir_r33_Check : IFun :=
 IFun.mk false 1 [IRes.tmp 2, IRes.tmp 3, IRes.tmp 4]
 (IC.seq
 (IC.ops false
 [IOper.mk (some 1) (IOp.box 11 (Opd.t 0)) none,
 IOper.mk (some 2) (IOp.mv (Opd.c (AV.int IntKind.i64 0))) none,
 IOper.mk (some 3) (IOp.mv (Opd.c (AV.int IntKind.i64 0))) none,
 IOper.mk (some 4) (IOp.mv (Opd.c (AV.int IntKind.i64 0))) none]
 [])
 (IC.seq
 (IC.seq
 (IC.ops false
 [IOper.mk (some 8) (IOp.faddr 0 (Opd.t 1)) none, IOper.mk (some 9) (IOp.load (some 9) (Opd.t 8)) none,
 IOper.mk (some 10) (IOp.callp 42 [Opd.t 9]) none,
 IOper.mk (some 11) (IOp.bin BinOp.neq (Opd.t 10) (Opd.c (AV.int IntKind.i64 0))) none,
 IOper.mk (some 12) (IOp.mv (Opd.t 11)) none, IOper.mk (some 13) (IOp.faddr 9 (Opd.t 1)) (some (12, false)),
 IOper.mk (some 14) (IOp.load none (Opd.t 13)) (some (12, false)),
 IOper.mk (some 15) (IOp.len (Opd.t 14)) (some (12, false)),
 IOper.mk (some 16) (IOp.bin BinOp.lss (Opd.t 15) (Opd.c (AV.int IntKind.i64 1)))
 (some (12, false)),
 IOper.mk (some 17) (IOp.pick (Opd.t 12) (Opd.c (AV.bool true)) (Opd.t 16)) none,
 IOper.mk (some 18) (IOp.mv (Opd.t 17)) none, IOper.mk (some 19) (IOp.faddr 9 (Opd.t 1)) (some (18, false)),
 IOper.mk (some 20) (IOp.load none (Opd.t 19)) (some (18, false)),
 IOper.mk (some 21) (IOp.len (Opd.t 20)) (some (18, false)),
 IOper.mk (some 22) (IOp.bin BinOp.gtr (Opd.t 21) (Opd.c (AV.int IntKind.i64 64)))
 (some (18, false)),
 IOper.mk (some 23) (IOp.pick (Opd.t 18) (Opd.c (AV.bool true)) (Opd.t 22)) none]
 [8, 9, 10, 11, 12, 13, 14, 15, 16, 17, 18, 19, 20, 21, 22])
 (IC.cond (Opd.t 23)
 (IC.seq
 (IC.ops false
 [IOper.mk (some 2) (IOp.mv (Opd.c (AV.int IntKind.i64 0))) none,
 IOper.mk (some 3) (IOp.mv (Opd.c (AV.int IntKind.i64 0))) none,
 IOper.mk (some 4) (IOp.mv (Opd.c (AV.int IntKind.i64 2))) none]
 [])
 IC.ret)
 IC.nop))
 (IC.seq
 (IC.seq (IC.ops false [IOper.mk (some 5) (IOp.mv (Opd.c (AV.int IntKind.i64 0))) none] [])
 (IC.seq
 (IC.block 0
 (IC.loop
 (IC.seq
 (IC.seq
 (IC.seq
 (IC.ops false
 [IOper.mk (some 24) (IOp.mv (Opd.t 5)) none, IOper.mk (some 25) (IOp.faddr 9 (Opd.t 1)) none,
 IOper.mk (some 26) (IOp.load none (Opd.t 25)) none,
 IOper.mk (some 27) (IOp.len (Opd.t 26)) none,
 IOper.mk (some 28) (IOp.bin BinOp.lss (Opd.t 24) (Opd.t 27)) none]
 [24, 25, 26, 27])
 (IC.cond (Opd.t 28) IC.nop (IC.exit 0)))
 (IC.seq
 (IC.seq
 (IC.block 1
 (IC.seq
 (IC.ops false [IOper.mk (some 6) (IOp.mv (Opd.c (AV.int IntKind.i64 0))) none]
 [])
 (IC.seq
 (IC.block 2
 (IC.loop
 (IC.seq
 (IC.seq
 (IC.seq
 (IC.ops false
 [IOper.mk (some 31) (IOp.mv (Opd.t 6)) none,
 IOper.mk (some 32) (IOp.faddr 9 (Opd.t 1)) none,
 IOper.mk (some 33) (IOp.load none (Opd.t 32)) none,
 IOper.mk (some 34) (IOp.mv (Opd.t 5)) none,
 IOper.mk (some 35) (IOp.ixa 1 (Opd.t 33) (Opd.t 34)) none,
 IOper.mk (some 36) (IOp.load none (Opd.t 35)) none,
 IOper.mk (some 37) (IOp.len (Opd.t 36)) none,
 IOper.mk (some 38) (IOp.bin BinOp.lss (Opd.t 31) (Opd.t 37)) none]
 [31, 32, 33, 34, 35, 36, 37])
 (IC.cond (Opd.t 38) IC.nop (IC.exit 2)))
 (IC.seq
 (IC.seq
 (IC.block 3
 (IC.seq
 (IC.ops true
 [IOper.mk (some 41) (IOp.faddr 9 (Opd.t 1)) none,
 IOper.mk (some 42) (IOp.load none (Opd.t 41)) none,
 IOper.mk (some 43) (IOp.mv (Opd.t 5)) none,
 IOper.mk (some 44) (IOp.ixa 1 (Opd.t 42) (Opd.t 43)) none,
 IOper.mk (some 45) (IOp.load none (Opd.t 44)) none,
 IOper.mk (some 46) (IOp.mv (Opd.t 6)) none,
 IOper.mk (some 47) (IOp.ixa 5 (Opd.t 45) (Opd.t 46)) none,
 IOper.mk (some 48) (IOp.load (some 5) (Opd.t 47)) none,
 IOper.mk (some 49) (IOp.faddr 0 (Opd.t 1)) none,
 IOper.mk (some 50) (IOp.load (some 9) (Opd.t 49)) none,
 IOper.mk (some 51) (IOp.callp 63 [Opd.t 48, Opd.t 50]) none,
 IOper.mk (some 7) (IOp.mv (Opd.t 51)) none]
 [41, 42, 43, 44, 45, 46, 47, 48, 49, 50, 51])
 (IC.seq
 (IC.ops false
 [IOper.mk (some 52) (IOp.mv (Opd.t 7)) none,
 IOper.mk (some 53)
 (IOp.bin BinOp.neq (Opd.t 52)
 (Opd.c (AV.int IntKind.i64 0)))
 none]
 [52])
 (IC.cond (Opd.t 53)
 (IC.seq
 (IC.ops false
 [IOper.mk (some 54) (IOp.mv (Opd.t 5)) none,
 IOper.mk (some 55)
 (IOp.bin BinOp.add (Opd.t 54)
 (Opd.c (AV.int IntKind.i64 1)))
 none,
 IOper.mk (some 56) (IOp.mv (Opd.t 6)) none,
 IOper.mk (some 57)
 (IOp.bin BinOp.add (Opd.t 56)
 (Opd.c (AV.int IntKind.i64 1)))
 none,
 IOper.mk (some 58) (IOp.mv (Opd.t 7)) none,
 IOper.mk (some 2) (IOp.mv (Opd.t 55)) none,
 IOper.mk (some 3) (IOp.mv (Opd.t 57)) none,
 IOper.mk (some 4) (IOp.mv (Opd.t 58)) none]
 [54, 55, 56, 57, 58])
 IC.ret)
 IC.nop))))
 (IC.ops false []
 [41, 42, 43, 44, 45, 46, 47, 48, 49, 50, 51, 7, 52, 53, 54, 55, 56, 57,
 58]))
 (IC.ops false
 [IOper.mk (some 39) (IOp.mv (Opd.t 6)) none,
 IOper.mk (some 40)
 (IOp.bin BinOp.add (Opd.t 39) (Opd.c (AV.int IntKind.i64 1)))
 none,
 IOper.mk (some 6) (IOp.mv (Opd.t 40)) none]
 [39, 40])))
 (IC.ops false []
 [31, 32, 33, 34, 35, 36, 37, 38, 41, 42, 43, 44, 45, 46, 47, 48, 49, 50, 51, 7,
 52, 53, 54, 55, 56, 57, 58, 39, 40]))))
 (IC.ops false []
 [31, 32, 33, 34, 35, 36, 37, 38, 41, 42, 43, 44, 45, 46, 47, 48, 49, 50, 51, 7, 52, 53,
 54, 55, 56, 57, 58, 39, 40]))))
 (IC.ops false []
 [31, 32, 33, 34, 35, 36, 37, 38, 41, 42, 43, 44, 45, 46, 47, 48, 49, 50, 51, 7, 52, 53, 54,
 55, 56, 57, 58, 39, 40, 6]))
 (IC.ops false
 [IOper.mk (some 29) (IOp.mv (Opd.t 5)) none,
 IOper.mk (some 30) (IOp.bin BinOp.add (Opd.t 29) (Opd.c (AV.int IntKind.i64 1)))
 none,
 IOper.mk (some 5) (IOp.mv (Opd.t 30)) none]
 [29, 30])))
 (IC.ops false []
 [24, 25, 26, 27, 28, 31, 32, 33, 34, 35, 36, 37, 38, 41, 42, 43, 44, 45, 46, 47, 48, 49, 50, 51, 7,
 52, 53, 54, 55, 56, 57, 58, 39, 40, 6, 29, 30]))))
 (IC.ops false []
 [24, 25, 26, 27, 28, 31, 32, 33, 34, 35, 36, 37, 38, 41, 42, 43, 44, 45, 46, 47, 48, 49, 50, 51, 7, 52,
 53, 54, 55, 56, 57, 58, 39, 40, 6, 29, 30])))
 (IC.seq
 (IC.ops false
 [IOper.mk (some 2) (IOp.mv (Opd.c (AV.int IntKind.i64 0))) none,
 IOper.mk (some 3) (IOp.mv (Opd.c (AV.int IntKind.i64 0))) none,
 IOper.mk (some 4) (IOp.mv (Opd.c (AV.int IntKind.i64 0))) none]
 [])
 IC.ret))))
 none
theorem fn_r33_Check : F 41 = some ir_r33_Check := by kernel_rfl

def ir_r21_Check : IFun :=
 IFun.mk false 1 [IRes.tmp 2]
 (IC.seq
 (IC.ops false
 [IOper.mk (some 1) (IOp.box 9 (Opd.t 0)) none,
 IOper.mk (some 2) (IOp.mv (Opd.c (AV.int IntKind.i64 0))) none]
 [])
 (IC.seq
 (IC.seq
 (IC.ops false
 [IOper.mk (some 3) (IOp.faddr 0 (Opd.t 1)) none, IOper.mk (some 4) (IOp.load none (Opd.t 3)) none,
 IOper.mk (some 5) (IOp.bin BinOp.lss (Opd.t 4) (Opd.c (AV.int IntKind.i64 1))) none,
 IOper.mk (some 6) (IOp.mv (Opd.t 5)) none, IOper.mk (some 7) (IOp.faddr 0 (Opd.t 1)) (some (6, false)),
 IOper.mk (some 8) (IOp.load none (Opd.t 7)) (some (6, false)),
 IOper.mk (some 9) (IOp.bin BinOp.gtr (Opd.t 8) (Opd.c (AV.int IntKind.i64 256)))
 (some (6, false)),
 IOper.mk (some 10) (IOp.pick (Opd.t 6) (Opd.c (AV.bool true)) (Opd.t 9)) none,
 IOper.mk (some 11) (IOp.mv (Opd.t 10)) none, IOper.mk (some 12) (IOp.faddr 1 (Opd.t 1)) (some (11, false)),
 IOper.mk (some 13) (IOp.load none (Opd.t 12)) (some (11, false)),
 IOper.mk (some 14) (IOp.bin BinOp.lss (Opd.t 13) (Opd.c (AV.int IntKind.i64 8)))
 (some (11, false)),
 IOper.mk (some 15) (IOp.pick (Opd.t 11) (Opd.c (AV.bool true)) (Opd.t 14)) none,
 IOper.mk (some 16) (IOp.mv (Opd.t 15)) none, IOper.mk (some 17) (IOp.faddr 1 (Opd.t 1)) (some (16, false)),
 IOper.mk (some 18) (IOp.load none (Opd.t 17)) (some (16, false)),
 IOper.mk (some 19) (IOp.bin BinOp.gtr (Opd.t 18) (Opd.c (AV.int IntKind.i64 4096)))
 (some (16, false)),
 IOper.mk (some 20) (IOp.pick (Opd.t 16) (Opd.c (AV.bool true)) (Opd.t 19)) none]
 [3, 4, 5, 6, 7, 8, 9, 10, 11, 12, 13, 14, 15, 16, 17, 18, 19])
 (IC.cond (Opd.t 20)
 (IC.seq (IC.ops false [IOper.mk (some 2) (IOp.mv (Opd.c (AV.int IntKind.i64 2))) none] []) IC.ret)
 IC.nop))
 (IC.seq
 (IC.seq
 (IC.ops false
 [IOper.mk (some 21) (IOp.faddr 2 (Opd.t 1)) none, IOper.mk (some 22) (IOp.load none (Opd.t 21)) none,
 IOper.mk (some 23) (IOp.bin BinOp.lss (Opd.t 22) (Opd.c (AV.int IntKind.i64 4))) none,
 IOper.mk (some 24) (IOp.mv (Opd.t 23)) none,
 IOper.mk (some 25) (IOp.faddr 2 (Opd.t 1)) (some (24, false)),
 IOper.mk (some 26) (IOp.load none (Opd.t 25)) (some (24, false)),
 IOper.mk (some 27) (IOp.bin BinOp.gtr (Opd.t 26) (Opd.c (AV.int IntKind.i64 64)))
 (some (24, false)),
 IOper.mk (some 28) (IOp.pick (Opd.t 24) (Opd.c (AV.bool true)) (Opd.t 27)) none,
 IOper.mk (some 29) (IOp.mv (Opd.t 28)) none,
 IOper.mk (some 30) (IOp.faddr 3 (Opd.t 1)) (some (29, false)),
 IOper.mk (some 31) (IOp.load none (Opd.t 30)) (some (29, false)),
 IOper.mk (some 32) (IOp.bin BinOp.lss (Opd.t 31) (Opd.c (AV.int IntKind.i64 0)))
 (some (29, false)),
 IOper.mk (some 33) (IOp.pick (Opd.t 29) (Opd.c (AV.bool true)) (Opd.t 32)) none,
 IOper.mk (some 34) (IOp.mv (Opd.t 33)) none,
 IOper.mk (some 35) (IOp.faddr 3 (Opd.t 1)) (some (34, false)),
 IOper.mk (some 36) (IOp.load none (Opd.t 35)) (some (34, false)),
 IOper.mk (some 37) (IOp.bin BinOp.gtr (Opd.t 36) (Opd.c (AV.int IntKind.i64 1048576)))
 (some (34, false)),
 IOper.mk (some 38) (IOp.pick (Opd.t 34) (Opd.c (AV.bool true)) (Opd.t 37)) none]
 [21, 22, 23, 24, 25, 26, 27, 28, 29, 30, 31, 32, 33, 34, 35, 36, 37])
 (IC.cond (Opd.t 38)
 (IC.seq (IC.ops false [IOper.mk (some 2) (IOp.mv (Opd.c (AV.int IntKind.i64 2))) none] [])
 IC.ret)
 IC.nop))
 (IC.seq
 (IC.seq
 (IC.ops false
 [IOper.mk (some 39) (IOp.faddr 4 (Opd.t 1)) none, IOper.mk (some 40) (IOp.load none (Opd.t 39)) none,
 IOper.mk (some 41) (IOp.bin BinOp.lss (Opd.t 40) (Opd.c (AV.int IntKind.i64 4))) none,
 IOper.mk (some 42) (IOp.mv (Opd.t 41)) none,
 IOper.mk (some 43) (IOp.faddr 4 (Opd.t 1)) (some (42, false)),
 IOper.mk (some 44) (IOp.load none (Opd.t 43)) (some (42, false)),
 IOper.mk (some 45) (IOp.bin BinOp.gtr (Opd.t 44) (Opd.c (AV.int IntKind.i64 256)))
 (some (42, false)),
 IOper.mk (some 46) (IOp.pick (Opd.t 42) (Opd.c (AV.bool true)) (Opd.t 45)) none,
 IOper.mk (some 47) (IOp.mv (Opd.t 46)) none,
 IOper.mk (some 48) (IOp.faddr 5 (Opd.t 1)) (some (47, false)),
 IOper.mk (some 49) (IOp.load none (Opd.t 48)) (some (47, false)),
 IOper.mk (some 50) (IOp.bin BinOp.lss (Opd.t 49) (Opd.c (AV.int IntKind.i64 2)))
 (some (47, false)),
 IOper.mk (some 51) (IOp.pick (Opd.t 47) (Opd.c (AV.bool true)) (Opd.t 50)) none,
 IOper.mk (some 52) (IOp.mv (Opd.t 51)) none,
 IOper.mk (some 53) (IOp.faddr 5 (Opd.t 1)) (some (52, false)),
 IOper.mk (some 54) (IOp.load none (Opd.t 53)) (some (52, false)),
 IOper.mk (some 55) (IOp.faddr 4 (Opd.t 1)) (some (52, false)),
 IOper.mk (some 56) (IOp.load none (Opd.t 55)) (some (52, false)),
 IOper.mk (some 57) (IOp.bin BinOp.gtr (Opd.t 54) (Opd.t 56)) (some (52, false)),
 IOper.mk (some 58) (IOp.pick (Opd.t 52) (Opd.c (AV.bool true)) (Opd.t 57)) none]
 [39, 40, 41, 42, 43, 44, 45, 46, 47, 48, 49, 50, 51, 52, 53, 54, 55, 56, 57])
 (IC.cond (Opd.t 58)
 (IC.seq (IC.ops false [IOper.mk (some 2) (IOp.mv (Opd.c (AV.int IntKind.i64 2))) none] [])
 IC.ret)
 IC.nop))
 (IC.seq
 (IC.seq
 (IC.ops false
 [IOper.mk (some 59) (IOp.faddr 6 (Opd.t 1)) none, IOper.mk (some 60) (IOp.load none (Opd.t 59)) none,
 IOper.mk (some 61) (IOp.bin BinOp.lss (Opd.t 60) (Opd.c (AV.int IntKind.i64 2))) none,
 IOper.mk (some 62) (IOp.mv (Opd.t 61)) none,
 IOper.mk (some 63) (IOp.faddr 6 (Opd.t 1)) (some (62, false)),
 IOper.mk (some 64) (IOp.load none (Opd.t 63)) (some (62, false)),
 IOper.mk (some 65) (IOp.bin BinOp.gtr (Opd.t 64) (Opd.c (AV.int IntKind.i64 4096)))
 (some (62, false)),
 IOper.mk (some 66) (IOp.pick (Opd.t 62) (Opd.c (AV.bool true)) (Opd.t 65)) none,
 IOper.mk (some 67) (IOp.mv (Opd.t 66)) none,
 IOper.mk (some 68) (IOp.faddr 7 (Opd.t 1)) (some (67, false)),
 IOper.mk (some 69) (IOp.load none (Opd.t 68)) (some (67, false)),
 IOper.mk (some 70) (IOp.bin BinOp.lss (Opd.t 69) (Opd.c (AV.int IntKind.i64 0)))
 (some (67, false)),
 IOper.mk (some 71) (IOp.pick (Opd.t 67) (Opd.c (AV.bool true)) (Opd.t 70)) none,
 IOper.mk (some 72) (IOp.mv (Opd.t 71)) none,
 IOper.mk (some 73) (IOp.faddr 7 (Opd.t 1)) (some (72, false)),
 IOper.mk (some 74) (IOp.load none (Opd.t 73)) (some (72, false)),
 IOper.mk (some 75) (IOp.bin BinOp.gtr (Opd.t 74) (Opd.c (AV.int IntKind.i64 1000)))
 (some (72, false)),
 IOper.mk (some 76) (IOp.pick (Opd.t 72) (Opd.c (AV.bool true)) (Opd.t 75)) none,
 IOper.mk (some 77) (IOp.mv (Opd.t 76)) none,
 IOper.mk (some 78) (IOp.faddr 8 (Opd.t 1)) (some (77, false)),
 IOper.mk (some 79) (IOp.load none (Opd.t 78)) (some (77, false)),
 IOper.mk (some 80) (IOp.bin BinOp.lss (Opd.t 79) (Opd.c (AV.int IntKind.i64 1)))
 (some (77, false)),
 IOper.mk (some 81) (IOp.pick (Opd.t 77) (Opd.c (AV.bool true)) (Opd.t 80)) none,
 IOper.mk (some 82) (IOp.mv (Opd.t 81)) none,
 IOper.mk (some 83) (IOp.faddr 8 (Opd.t 1)) (some (82, false)),
 IOper.mk (some 84) (IOp.load none (Opd.t 83)) (some (82, false)),
 IOper.mk (some 85) (IOp.bin BinOp.gtr (Opd.t 84) (Opd.c (AV.int IntKind.i64 1024)))
 (some (82, false)),
 IOper.mk (some 86) (IOp.pick (Opd.t 82) (Opd.c (AV.bool true)) (Opd.t 85)) none]
 [59, 60, 61, 62, 63, 64, 65, 66, 67, 68, 69, 70, 71, 72, 73, 74, 75, 76, 77, 78, 79, 80, 81, 82, 83, 84,
 85])
 (IC.cond (Opd.t 86)
 (IC.seq (IC.ops false [IOper.mk (some 2) (IOp.mv (Opd.c (AV.int IntKind.i64 2))) none] [])
 IC.ret)
 IC.nop))
 (IC.seq (IC.ops false [IOper.mk (some 2) (IOp.mv (Opd.c (AV.int IntKind.i64 0))) none] [])
 IC.ret))))))
 none
theorem fn_r21_Check : F 42 = some ir_r21_Check := by kernel_rfl

def ir_seed_clamp : IFun :=
 IFun.mk false 3 [IRes.tmp 6]
 (IC.seq (IC.ops false [IOper.mk (some 6) (IOp.mv (Opd.c (AV.int IntKind.i64 0))) none] [])
 (IC.seq
 (IC.ops false
 [IOper.mk (some 7) (IOp.mv (Opd.t 0)) none, IOper.mk (some 8) (IOp.mv (Opd.t 1)) none,
 IOper.mk (some 9) (IOp.minmax true [Opd.t 7, Opd.t 8]) none, IOper.mk (some 10) (IOp.mv (Opd.t 2)) none,
 IOper.mk (some 11) (IOp.minmax false [Opd.t 9, Opd.t 10]) none, IOper.mk (some 6) (IOp.mv (Opd.t 11)) none]
 [7, 8, 9, 10, 11])
 IC.ret))
 none
theorem fn_seed_clamp : F 47 = some ir_seed_clamp := by kernel_rfl

def ir_r40_Clamp : IFun :=
 IFun.mk false 3 [IRes.tmp 6]
 (IC.seq (IC.ops false [IOper.mk (some 6) (IOp.mv (Opd.c (AV.int IntKind.i64 0))) none] [])
 (IC.seq
 (IC.seq
 (IC.ops false
 [IOper.mk (some 7) (IOp.mv (Opd.t 0)) none, IOper.mk (some 8) (IOp.mv (Opd.t 1)) none,
 IOper.mk (some 9) (IOp.bin BinOp.lss (Opd.t 7) (Opd.t 8)) none]
 [7, 8])
 (IC.cond (Opd.t 9)
 (IC.seq
 (IC.ops false [IOper.mk (some 10) (IOp.mv (Opd.t 1)) none, IOper.mk (some 6) (IOp.mv (Opd.t 10)) none] [10])
 IC.ret)
 IC.nop))
 (IC.seq
 (IC.seq
 (IC.ops false
 [IOper.mk (some 11) (IOp.mv (Opd.t 0)) none, IOper.mk (some 12) (IOp.mv (Opd.t 2)) none,
 IOper.mk (some 13) (IOp.bin BinOp.gtr (Opd.t 11) (Opd.t 12)) none]
 [11, 12])
 (IC.cond (Opd.t 13)
 (IC.seq
 (IC.ops false [IOper.mk (some 14) (IOp.mv (Opd.t 2)) none, IOper.mk (some 6) (IOp.mv (Opd.t 14)) none]
 [14])
 IC.ret)
 IC.nop))
 (IC.seq
 (IC.ops false [IOper.mk (some 15) (IOp.mv (Opd.t 0)) none, IOper.mk (some 6) (IOp.mv (Opd.t 15)) none] [15])
 IC.ret))))
 none
theorem fn_r40_Clamp : F 50 = some ir_r40_Clamp := by kernel_rfl

def ir_seed_Source_Picks : IFun :=
 IFun.mk true 3 [IRes.tmp 6]
 (IC.seq (IC.ops false [IOper.mk (some 6) (IOp.mv (Opd.c (AV.imm true 0 0 (some 0) []))) none] [])
 (IC.seq
 (IC.seq
 (IC.ops false
 [IOper.mk (some 8) (IOp.mv (Opd.t 0)) none,
 IOper.mk (some 9) (IOp.eqn 0 false (Opd.t 8) (Opd.c AV.nilptr)) none,
 IOper.mk (some 10) (IOp.mv (Opd.t 9)) none, IOper.mk (some 11) (IOp.mv (Opd.t 1)) (some (10, false)),
 IOper.mk (some 12) (IOp.bin BinOp.lss (Opd.t 11) (Opd.c (AV.int IntKind.i64 1)))
 (some (10, false)),
 IOper.mk (some 13) (IOp.pick (Opd.t 10) (Opd.c (AV.bool true)) (Opd.t 12)) none]
 [8, 9, 10, 11, 12])
 (IC.cond (Opd.t 13)
 (IC.seq (IC.ops false [IOper.mk (some 6) (IOp.mv (Opd.c (AV.imm true 0 0 (some 0) []))) none] []) IC.ret)
 IC.nop))
 (IC.seq (IC.ops false [IOper.mk (some 7) (IOp.mv (Opd.c (AV.imm true 0 0 (some 0) []))) none] [])
 (IC.seq
 (IC.seq
 (IC.ops false
 [IOper.mk (some 14) (IOp.mv (Opd.t 2)) none,
 IOper.mk (some 15)
 (IOp.callp 47
 [Opd.t 14, Opd.c (AV.int IntKind.i64 0), Opd.c (AV.int IntKind.i64 10000)])
 none,
 IOper.mk (some 16) (IOp.mv (Opd.c (AV.int IntKind.i64 0))) none]
 [14])
 (IC.seq
 (IC.block 0
 (IC.loop
 (IC.seq
 (IC.seq (IC.ops false [IOper.mk (some 17) (IOp.bin BinOp.lss (Opd.t 16) (Opd.t 15)) none] [])
 (IC.seq (IC.cond (Opd.t 17) IC.nop (IC.exit 0))
 (IC.seq
 (IC.seq
 (IC.block 1
 (IC.ops false
 [IOper.mk (some 18) (IOp.mv (Opd.t 7)) none, IOper.mk (some 19) (IOp.mv (Opd.t 0)) none,
 IOper.mk (some 20) (IOp.mv (Opd.t 1)) none,
 IOper.mk (some 21)
 (IOp.call (Opd.c (AV.func (Fn.func 21) [] [])) [Opd.t 19, Opd.t 20]) none,
 IOper.mk (some 22)
 (IOp.bin BinOp.add (Opd.t 21) (Opd.c (AV.int IntKind.i64 1))) none,
 IOper.mk (some 23)
 (IOp.bsl false 1 1 [AV.int IntKind.i64 0] [(0, 1, Opd.t 22)]) none,
 IOper.mk (some 24) (IOp.append 1 8 (Opd.t 18) (Opd.t 23)) none,
 IOper.mk (some 7) (IOp.mv (Opd.t 24)) none]
 [18, 19, 20, 21, 22, 23, 24]))
 (IC.ops false [] [18, 19, 20, 21, 22, 23, 24]))
 (IC.ops false
 [IOper.mk (some 25)
 (IOp.bin BinOp.add (Opd.t 16) (Opd.c (AV.int IntKind.i64 1))) none,
 IOper.mk (some 16) (IOp.mv (Opd.t 25)) none]
 [25]))))
 (IC.ops false [] [17, 18, 19, 20, 21, 22, 23, 24, 25]))))
 (IC.ops false [] [17, 18, 19, 20, 21, 22, 23, 24, 25])))
 (IC.seq
 (IC.ops false [IOper.mk (some 26) (IOp.mv (Opd.t 7)) none, IOper.mk (some 6) (IOp.mv (Opd.t 26)) none] [26])
 IC.ret)))))
 none
theorem fn_seed_Source_Picks : F 60 = some ir_seed_Source_Picks := by kernel_rfl

def ir_r40_Config : IFun :=
 IFun.mk false 1 [IRes.cell 2 (some 9)]
 (IC.seq
 (IC.ops false
 [IOper.mk (some 2)
 (IOp.alloc
 [AV.int IntKind.i64 0, AV.int IntKind.i64 0, AV.int IntKind.i64 0,
 AV.int IntKind.i64 0, AV.int IntKind.i64 0, AV.int IntKind.i64 0,
 AV.int IntKind.i64 0, AV.int IntKind.i64 0, AV.int IntKind.i64 0])
 none]
 [])
 (IC.seq
 (IC.ops false
 [IOper.mk (some 11) (IOp.mv (Opd.t 0)) none,
 IOper.mk (some 12) (IOp.build [AV.int IntKind.u64 0] [(0, 1, Opd.t 11)]) none,
 IOper.mk (some 13) (IOp.box 1 (Opd.t 12)) none, IOper.mk (some 3) (IOp.mv (Opd.t 13)) none]
 [11, 12, 13])
 (IC.seq
 (IC.ops false
 [IOper.mk (some 14) (IOp.mv (Opd.t 3)) none,
 IOper.mk (some 15)
 (IOp.call (Opd.c (AV.func (Fn.func 22) [] [])) [Opd.t 14, Opd.c (AV.int IntKind.i64 5)]) none,
 IOper.mk (some 16) (IOp.bin BinOp.add (Opd.c (AV.int IntKind.i64 4)) (Opd.t 15)) none,
 IOper.mk (some 4) (IOp.mv (Opd.t 16)) none]
 [14, 15, 16])
 (IC.seq
 (IC.ops false
 [IOper.mk (some 17) (IOp.mv (Opd.t 3)) none,
 IOper.mk (some 18)
 (IOp.call (Opd.c (AV.func (Fn.func 22) [] [])) [Opd.t 17, Opd.c (AV.int IntKind.i64 100)])
 none,
 IOper.mk (some 5) (IOp.mv (Opd.t 18)) none]
 [17, 18])
 (IC.seq
 (IC.ops false
 [IOper.mk (some 19) (IOp.mv (Opd.t 3)) none,
 IOper.mk (some 20)
 (IOp.call (Opd.c (AV.func (Fn.func 22) [] [])) [Opd.t 19, Opd.c (AV.int IntKind.i64 9)])
 none,
 IOper.mk (some 21) (IOp.bin BinOp.add (Opd.c (AV.int IntKind.i64 4)) (Opd.t 20)) none,
 IOper.mk (some 6) (IOp.mv (Opd.t 21)) none]
 [19, 20, 21])
 (IC.seq
 (IC.ops false
 [IOper.mk (some 22) (IOp.mv (Opd.t 3)) none,
 IOper.mk (some 23)
 (IOp.call (Opd.c (AV.func (Fn.func 22) [] [])) [Opd.t 22, Opd.c (AV.int IntKind.i64 3)])
 none,
 IOper.mk (some 24) (IOp.bin BinOp.add (Opd.c (AV.int IntKind.i64 2)) (Opd.t 23)) none,
 IOper.mk (some 7) (IOp.mv (Opd.t 24)) none]
 [22, 23, 24])
 (IC.seq
 (IC.ops false
 [IOper.mk (some 25) (IOp.mv (Opd.t 3)) none,
 IOper.mk (some 26)
 (IOp.call (Opd.c (AV.func (Fn.func 22) [] []))
 [Opd.t 25, Opd.c (AV.int IntKind.i64 200)])
 none,
 IOper.mk (some 27) (IOp.bin BinOp.add (Opd.c (AV.int IntKind.i64 20)) (Opd.t 26)) none,
 IOper.mk (some 8) (IOp.mv (Opd.t 27)) none]
 [25, 26, 27])
 (IC.seq
 (IC.ops false
 [IOper.mk (some 28) (IOp.mv (Opd.t 3)) none,
 IOper.mk (some 29)
 (IOp.call (Opd.c (AV.func (Fn.func 22) [] []))
 [Opd.t 28, Opd.c (AV.int IntKind.i64 5)])
 none,
 IOper.mk (some 9) (IOp.mv (Opd.t 29)) none]
 [28, 29])
 (IC.seq
 (IC.ops false
 [IOper.mk (some 30) (IOp.mv (Opd.t 3)) none,
 IOper.mk (some 31)
 (IOp.call (Opd.c (AV.func (Fn.func 22) [] []))
 [Opd.t 30, Opd.c (AV.int IntKind.i64 6)])
 none,
 IOper.mk (some 32) (IOp.bin BinOp.add (Opd.c (AV.int IntKind.i64 3)) (Opd.t 31))
 none,
 IOper.mk (some 10) (IOp.mv (Opd.t 32)) none]
 [30, 31, 32])
 (IC.seq
 (IC.ops false
 [IOper.mk (some 33) (IOp.mv (Opd.t 4)) none, IOper.mk (some 34) (IOp.mv (Opd.t 5)) none,
 IOper.mk (some 35) (IOp.mv (Opd.t 6)) none, IOper.mk (some 36) (IOp.mv (Opd.t 7)) none,
 IOper.mk (some 37) (IOp.mv (Opd.t 8)) none, IOper.mk (some 38) (IOp.mv (Opd.t 9)) none,
 IOper.mk (some 39) (IOp.mv (Opd.t 10)) none,
 IOper.mk (some 40)
 (IOp.build
 [AV.int IntKind.i64 0, AV.int IntKind.i64 0,
 AV.int IntKind.i64 0, AV.int IntKind.i64 0,
 AV.int IntKind.i64 0, AV.int IntKind.i64 0,
 AV.int IntKind.i64 0, AV.int IntKind.i64 0,
 AV.int IntKind.i64 0]
 [(0, 1, Opd.c (AV.int IntKind.i64 4)),
 (1, 1, Opd.c (AV.int IntKind.i64 16)), (2, 1, Opd.t 33), (3, 1, Opd.t 34),
 (4, 1, Opd.t 35), (5, 1, Opd.t 36), (6, 1, Opd.t 37), (7, 1, Opd.t 38),
 (8, 1, Opd.t 39)])
 none,
 IOper.mk none (IOp.store 9 (Opd.t 2) (Opd.t 40)) none]
 [33, 34, 35, 36, 37, 38, 39, 40])
 IC.ret))))))))))
 none
theorem fn_r40_Config : F 61 = some ir_r40_Config := by kernel_rfl

def ir_r40_Picks : IFun :=
 IFun.mk true 3 [IRes.tmp 6]
 (IC.seq (IC.ops false [IOper.mk (some 6) (IOp.mv (Opd.c (AV.imm true 0 0 (some 0) []))) none] [])
 (IC.seq
 (IC.ops false
 [IOper.mk (some 9) (IOp.bsl false 1 0 [AV.int IntKind.i64 0] []) none,
 IOper.mk (some 7) (IOp.mv (Opd.t 9)) none]
 [9])
 (IC.seq
 (IC.seq (IC.ops false [IOper.mk (some 8) (IOp.mv (Opd.c (AV.int IntKind.i64 0))) none] [])
 (IC.seq
 (IC.block 0
 (IC.loop
 (IC.seq
 (IC.seq
 (IC.seq
 (IC.ops false
 [IOper.mk (some 10) (IOp.mv (Opd.t 1)) none,
 IOper.mk (some 11) (IOp.bin BinOp.geq (Opd.t 10) (Opd.c (AV.int IntKind.i64 1)))
 none,
 IOper.mk (some 12) (IOp.mv (Opd.t 11)) none,
 IOper.mk (some 13) (IOp.mv (Opd.t 8)) (some (12, true)),
 IOper.mk (some 14) (IOp.mv (Opd.t 2)) (some (12, true)),
 IOper.mk (some 15) (IOp.bin BinOp.lss (Opd.t 13) (Opd.t 14)) (some (12, true)),
 IOper.mk (some 16) (IOp.pick (Opd.t 12) (Opd.t 15) (Opd.c (AV.bool false))) none,
 IOper.mk (some 17) (IOp.mv (Opd.t 16)) none,
 IOper.mk (some 18) (IOp.mv (Opd.t 8)) (some (17, true)),
 IOper.mk (some 19)
 (IOp.bin BinOp.lss (Opd.t 18) (Opd.c (AV.int IntKind.i64 10000)))
 (some (17, true)),
 IOper.mk (some 20) (IOp.pick (Opd.t 17) (Opd.t 19) (Opd.c (AV.bool false))) none]
 [10, 11, 12, 13, 14, 15, 16, 17, 18, 19])
 (IC.cond (Opd.t 20) IC.nop (IC.exit 0)))
 (IC.seq
 (IC.seq
 (IC.block 1
 (IC.ops false
 [IOper.mk (some 23) (IOp.mv (Opd.t 7)) none, IOper.mk (some 24) (IOp.mv (Opd.t 0)) none,
 IOper.mk (some 25) (IOp.mv (Opd.t 1)) none,
 IOper.mk (some 26) (IOp.call (Opd.c (AV.func (Fn.func 22) [] [])) [Opd.t 24, Opd.t 25])
 none,
 IOper.mk (some 27)
 (IOp.bin BinOp.add (Opd.t 26) (Opd.c (AV.int IntKind.i64 1))) none,
 IOper.mk (some 28)
 (IOp.bsl false 1 1 [AV.int IntKind.i64 0] [(0, 1, Opd.t 27)]) none,
 IOper.mk (some 29) (IOp.append 1 8 (Opd.t 23) (Opd.t 28)) none,
 IOper.mk (some 7) (IOp.mv (Opd.t 29)) none]
 [23, 24, 25, 26, 27, 28, 29]))
 (IC.ops false [] [23, 24, 25, 26, 27, 28, 29]))
 (IC.ops false
 [IOper.mk (some 21) (IOp.mv (Opd.t 8)) none,
 IOper.mk (some 22) (IOp.bin BinOp.add (Opd.t 21) (Opd.c (AV.int IntKind.i64 1)))
 none,
 IOper.mk (some 8) (IOp.mv (Opd.t 22)) none]
 [21, 22])))
 (IC.ops false [] [10, 11, 12, 13, 14, 15, 16, 17, 18, 19, 20, 23, 24, 25, 26, 27, 28, 29, 21, 22]))))
 (IC.ops false [] [10, 11, 12, 13, 14, 15, 16, 17, 18, 19, 20, 23, 24, 25, 26, 27, 28, 29, 21, 22])))
 (IC.seq
 (IC.ops false [IOper.mk (some 30) (IOp.mv (Opd.t 7)) none, IOper.mk (some 6) (IOp.mv (Opd.t 30)) none] [30])
 IC.ret))))
 none
theorem fn_r40_Picks : F 62 = some ir_r40_Picks := by kernel_rfl

def ir_r21_Ask : IFun :=
 IFun.mk false 2 [IRes.tmp 4]
 (IC.seq
 (IC.ops false
 [IOper.mk (some 2) (IOp.box 5 (Opd.t 0)) none, IOper.mk (some 3) (IOp.box 9 (Opd.t 1)) none,
 IOper.mk (some 4) (IOp.mv (Opd.c (AV.int IntKind.i64 0))) none]
 [])
 (IC.seq
 (IC.seq
 (IC.ops false
 [IOper.mk (some 8) (IOp.faddr 0 (Opd.t 2)) none, IOper.mk (some 9) (IOp.load none (Opd.t 8)) none,
 IOper.mk (some 10) (IOp.bin BinOp.lss (Opd.t 9) (Opd.c (AV.int IntKind.u8 1))) none,
 IOper.mk (some 11) (IOp.mv (Opd.t 10)) none, IOper.mk (some 12) (IOp.faddr 0 (Opd.t 2)) (some (11, false)),
 IOper.mk (some 13) (IOp.load none (Opd.t 12)) (some (11, false)),
 IOper.mk (some 14) (IOp.bin BinOp.gtr (Opd.t 13) (Opd.c (AV.int IntKind.u8 6)))
 (some (11, false)),
 IOper.mk (some 15) (IOp.pick (Opd.t 11) (Opd.c (AV.bool true)) (Opd.t 14)) none,
 IOper.mk (some 16) (IOp.mv (Opd.t 15)) none,
 IOper.mk (some 17) (IOp.load (some 5) (Opd.t 2)) (some (16, false)),
 IOper.mk (some 18) (IOp.callp 78 [Opd.t 17]) (some (16, false)),
 IOper.mk (some 19) (IOp.not (Opd.t 18)) (some (16, false)),
 IOper.mk (some 20) (IOp.pick (Opd.t 16) (Opd.c (AV.bool true)) (Opd.t 19)) none]
 [8, 9, 10, 11, 12, 13, 14, 15, 16, 17, 18, 19])
 (IC.cond (Opd.t 20)
 (IC.seq (IC.ops false [IOper.mk (some 4) (IOp.mv (Opd.c (AV.int IntKind.i64 3))) none] []) IC.ret)
 IC.nop))
 (IC.seq
 (IC.seq
 (IC.ops false
 [IOper.mk (some 21) (IOp.faddr 0 (Opd.t 2)) none, IOper.mk (some 22) (IOp.load none (Opd.t 21)) none,
 IOper.mk (some 23) (IOp.bin BinOp.eql (Opd.t 22) (Opd.c (AV.int IntKind.u8 1))) none,
 IOper.mk (some 24) (IOp.mv (Opd.t 23)) none, IOper.mk (some 25) (IOp.faddr 1 (Opd.t 2)) (some (24, true)),
 IOper.mk (some 26) (IOp.load none (Opd.t 25)) (some (24, true)),
 IOper.mk (some 27) (IOp.bin BinOp.eql (Opd.t 26) (Opd.c (AV.str []))) (some (24, true)),
 IOper.mk (some 28) (IOp.mv (Opd.t 27)) (some (24, true)),
 IOper.mk (some 29) (IOp.faddr 1 (Opd.t 2)) (some (28, false)),
 IOper.mk (some 30) (IOp.load none (Opd.t 29)) (some (28, false)),
 IOper.mk (some 31) (IOp.lens (Opd.t 30)) (some (28, false)),
 IOper.mk (some 32) (IOp.faddr 0 (Opd.t 3)) (some (28, false)),
 IOper.mk (some 33) (IOp.load none (Opd.t 32)) (some (28, false)),
 IOper.mk (some 34) (IOp.bin BinOp.gtr (Opd.t 31) (Opd.t 33)) (some (28, false)),
 IOper.mk (some 35) (IOp.pick (Opd.t 28) (Opd.c (AV.bool true)) (Opd.t 34)) (some (24, true)),
 IOper.mk (some 36) (IOp.pick (Opd.t 24) (Opd.t 35) (Opd.c (AV.bool false))) none]
 [21, 22, 23, 24, 25, 26, 27, 28, 29, 30, 31, 32, 33, 34, 35])
 (IC.cond (Opd.t 36)
 (IC.seq (IC.ops false [IOper.mk (some 4) (IOp.mv (Opd.c (AV.int IntKind.i64 6))) none] [])
 IC.ret)
 IC.nop))
 (IC.seq
 (IC.seq
 (IC.ops false
 [IOper.mk (some 37) (IOp.faddr 0 (Opd.t 2)) none, IOper.mk (some 38) (IOp.load none (Opd.t 37)) none,
 IOper.mk (some 39) (IOp.bin BinOp.eql (Opd.t 38) (Opd.c (AV.int IntKind.u8 2))) none,
 IOper.mk (some 40) (IOp.mv (Opd.t 39)) none,
 IOper.mk (some 41) (IOp.faddr 4 (Opd.t 2)) (some (40, true)),
 IOper.mk (some 42) (IOp.load none (Opd.t 41)) (some (40, true)),
 IOper.mk (some 43) (IOp.len (Opd.t 42)) (some (40, true)),
 IOper.mk (some 44) (IOp.bin BinOp.gtr (Opd.t 43) (Opd.c (AV.int IntKind.i64 1024)))
 (some (40, true)),
 IOper.mk (some 45) (IOp.pick (Opd.t 40) (Opd.t 44) (Opd.c (AV.bool false))) none]
 [37, 38, 39, 40, 41, 42, 43, 44])
 (IC.cond (Opd.t 45)
 (IC.seq (IC.ops false [IOper.mk (some 4) (IOp.mv (Opd.c (AV.int IntKind.i64 8))) none] [])
 IC.ret)
 IC.nop))
 (IC.seq
 (IC.seq (IC.ops false [IOper.mk (some 5) (IOp.mv (Opd.c (AV.int IntKind.i64 0))) none] [])
 (IC.seq
 (IC.block 0
 (IC.loop
 (IC.seq
 (IC.seq
 (IC.seq
 (IC.ops false
 [IOper.mk (some 46) (IOp.mv (Opd.t 5)) none,
 IOper.mk (some 47) (IOp.faddr 4 (Opd.t 2)) none,
 IOper.mk (some 48) (IOp.load none (Opd.t 47)) none,
 IOper.mk (some 49) (IOp.len (Opd.t 48)) none,
 IOper.mk (some 50) (IOp.bin BinOp.lss (Opd.t 46) (Opd.t 49)) none]
 [46, 47, 48, 49])
 (IC.cond (Opd.t 50) IC.nop (IC.exit 0)))
 (IC.seq
 (IC.seq
 (IC.block 1
 (IC.seq
 (IC.ops false
 [IOper.mk (some 53) (IOp.faddr 4 (Opd.t 2)) none,
 IOper.mk (some 54) (IOp.load none (Opd.t 53)) none,
 IOper.mk (some 55) (IOp.mv (Opd.t 5)) none,
 IOper.mk (some 56) (IOp.ixa 6 (Opd.t 54) (Opd.t 55)) none,
 IOper.mk (some 57) (IOp.faddr 1 (Opd.t 56)) none,
 IOper.mk (some 58) (IOp.load none (Opd.t 57)) none,
 IOper.mk (some 59)
 (IOp.bin BinOp.neq (Opd.t 58) (Opd.c (AV.int IntKind.i64 0))) none]
 [53, 54, 55, 56, 57, 58])
 (IC.cond (Opd.t 59)
 (IC.seq
 (IC.ops false
 [IOper.mk (some 4) (IOp.mv (Opd.c (AV.int IntKind.i64 3))) none] [])
 IC.ret)
 IC.nop)))
 (IC.ops false [] [53, 54, 55, 56, 57, 58, 59]))
 (IC.ops false
 [IOper.mk (some 51) (IOp.mv (Opd.t 5)) none,
 IOper.mk (some 52)
 (IOp.bin BinOp.add (Opd.t 51) (Opd.c (AV.int IntKind.i64 1))) none,
 IOper.mk (some 5) (IOp.mv (Opd.t 52)) none]
 [51, 52])))
 (IC.ops false [] [46, 47, 48, 49, 50, 53, 54, 55, 56, 57, 58, 59, 51, 52]))))
 (IC.ops false [] [46, 47, 48, 49, 50, 53, 54, 55, 56, 57, 58, 59, 51, 52])))
 (IC.seq
 (IC.seq (IC.ops false [IOper.mk (some 6) (IOp.mv (Opd.c (AV.int IntKind.i64 0))) none] [])
 (IC.seq
 (IC.block 2
 (IC.loop
 (IC.seq
 (IC.seq
 (IC.seq
 (IC.ops false
 [IOper.mk (some 60) (IOp.mv (Opd.t 6)) none,
 IOper.mk (some 61) (IOp.faddr 4 (Opd.t 2)) none,
 IOper.mk (some 62) (IOp.load none (Opd.t 61)) none,
 IOper.mk (some 63) (IOp.len (Opd.t 62)) none,
 IOper.mk (some 64) (IOp.bin BinOp.lss (Opd.t 60) (Opd.t 63)) none]
 [60, 61, 62, 63])
 (IC.cond (Opd.t 64) IC.nop (IC.exit 2)))
 (IC.seq
 (IC.seq
 (IC.block 3
 (IC.seq
 (IC.ops true
 [IOper.mk (some 67) (IOp.faddr 4 (Opd.t 2)) none,
 IOper.mk (some 68) (IOp.load none (Opd.t 67)) none,
 IOper.mk (some 69) (IOp.mv (Opd.t 6)) none,
 IOper.mk (some 70) (IOp.ixa 6 (Opd.t 68) (Opd.t 69)) none,
 IOper.mk (some 71) (IOp.load (some 6) (Opd.t 70)) none,
 IOper.mk (some 72) (IOp.load (some 9) (Opd.t 3)) none,
 IOper.mk (some 73) (IOp.callp 79 [Opd.t 71, Opd.t 72]) none,
 IOper.mk (some 7) (IOp.mv (Opd.t 73)) none]
 [67, 68, 69, 70, 71, 72, 73])
 (IC.seq
 (IC.ops false
 [IOper.mk (some 74) (IOp.mv (Opd.t 7)) none,
 IOper.mk (some 75)
 (IOp.bin BinOp.neq (Opd.t 74) (Opd.c (AV.int IntKind.i64 0)))
 none]
 [74])
 (IC.cond (Opd.t 75)
 (IC.seq
 (IC.ops false
 [IOper.mk (some 76) (IOp.mv (Opd.t 7)) none,
 IOper.mk (some 4) (IOp.mv (Opd.t 76)) none]
 [76])
 IC.ret)
 IC.nop))))
 (IC.ops false [] [67, 68, 69, 70, 71, 72, 73, 7, 74, 75, 76]))
 (IC.ops false
 [IOper.mk (some 65) (IOp.mv (Opd.t 6)) none,
 IOper.mk (some 66)
 (IOp.bin BinOp.add (Opd.t 65) (Opd.c (AV.int IntKind.i64 1))) none,
 IOper.mk (some 6) (IOp.mv (Opd.t 66)) none]
 [65, 66])))
 (IC.ops false [] [60, 61, 62, 63, 64, 67, 68, 69, 70, 71, 72, 73, 7, 74, 75, 76, 65, 66]))))
 (IC.ops false [] [60, 61, 62, 63, 64, 67, 68, 69, 70, 71, 72, 73, 7, 74, 75, 76, 65, 66])))
 (IC.seq
 (IC.seq
 (IC.ops false
 [IOper.mk (some 77) (IOp.faddr 0 (Opd.t 2)) none,
 IOper.mk (some 78) (IOp.load none (Opd.t 77)) none,
 IOper.mk (some 79) (IOp.bin BinOp.neq (Opd.t 78) (Opd.c (AV.int IntKind.u8 3))) none,
 IOper.mk (some 80) (IOp.mv (Opd.t 79)) none,
 IOper.mk (some 81) (IOp.faddr 0 (Opd.t 2)) (some (80, true)),
 IOper.mk (some 82) (IOp.load none (Opd.t 81)) (some (80, true)),
 IOper.mk (some 83) (IOp.bin BinOp.neq (Opd.t 82) (Opd.c (AV.int IntKind.u8 4)))
 (some (80, true)),
 IOper.mk (some 84) (IOp.pick (Opd.t 80) (Opd.t 83) (Opd.c (AV.bool false))) none]
 [77, 78, 79, 80, 81, 82, 83])
 (IC.cond (Opd.t 84)
 (IC.seq
 (IC.ops false [IOper.mk (some 4) (IOp.mv (Opd.c (AV.int IntKind.i64 0))) none] [])
 IC.ret)
 IC.nop))
 (IC.seq
 (IC.seq
 (IC.ops false
 [IOper.mk (some 85) (IOp.faddr 1 (Opd.t 2)) none,
 IOper.mk (some 86) (IOp.load none (Opd.t 85)) none,
 IOper.mk (some 87) (IOp.lens (Opd.t 86)) none, IOper.mk (some 88) (IOp.faddr 0 (Opd.t 3)) none,
 IOper.mk (some 89) (IOp.load none (Opd.t 88)) none,
 IOper.mk (some 90) (IOp.bin BinOp.gtr (Opd.t 87) (Opd.t 89)) none,
 IOper.mk (some 91) (IOp.mv (Opd.t 90)) none,
 IOper.mk (some 92) (IOp.faddr 2 (Opd.t 2)) (some (91, false)),
 IOper.mk (some 93) (IOp.load none (Opd.t 92)) (some (91, false)),
 IOper.mk (some 94) (IOp.lens (Opd.t 93)) (some (91, false)),
 IOper.mk (some 95) (IOp.faddr 0 (Opd.t 3)) (some (91, false)),
 IOper.mk (some 96) (IOp.load none (Opd.t 95)) (some (91, false)),
 IOper.mk (some 97) (IOp.bin BinOp.gtr (Opd.t 94) (Opd.t 96)) (some (91, false)),
 IOper.mk (some 98) (IOp.pick (Opd.t 91) (Opd.c (AV.bool true)) (Opd.t 97)) none]
 [85, 86, 87, 88, 89, 90, 91, 92, 93, 94, 95, 96, 97])
 (IC.cond (Opd.t 98)
 (IC.seq
 (IC.ops false [IOper.mk (some 4) (IOp.mv (Opd.c (AV.int IntKind.i64 6))) none] [])
 IC.ret)
 IC.nop))
 (IC.seq
 (IC.seq
 (IC.ops false
 [IOper.mk (some 99) (IOp.faddr 2 (Opd.t 2)) none,
 IOper.mk (some 100) (IOp.load none (Opd.t 99)) none,
 IOper.mk (some 101) (IOp.bin BinOp.neq (Opd.t 100) (Opd.c (AV.str []))) none,
 IOper.mk (some 102) (IOp.mv (Opd.t 101)) none,
 IOper.mk (some 103) (IOp.faddr 2 (Opd.t 2)) (some (102, true)),
 IOper.mk (some 104) (IOp.load none (Opd.t 103)) (some (102, true)),
 IOper.mk (some 105) (IOp.faddr 1 (Opd.t 2)) (some (102, true)),
 IOper.mk (some 106) (IOp.load none (Opd.t 105)) (some (102, true)),
 IOper.mk (some 107) (IOp.bin BinOp.leq (Opd.t 104) (Opd.t 106)) (some (102, true)),
 IOper.mk (some 108) (IOp.pick (Opd.t 102) (Opd.t 107) (Opd.c (AV.bool false))) none]
 [99, 100, 101, 102, 103, 104, 105, 106, 107])
 (IC.cond (Opd.t 108)
 (IC.seq
 (IC.ops false [IOper.mk (some 4) (IOp.mv (Opd.c (AV.int IntKind.i64 7))) none] [])
 IC.ret)
 IC.nop))
 (IC.seq
 (IC.seq
 (IC.ops false
 [IOper.mk (some 109) (IOp.faddr 0 (Opd.t 2)) none,
 IOper.mk (some 110) (IOp.load none (Opd.t 109)) none,
 IOper.mk (some 111)
 (IOp.bin BinOp.eql (Opd.t 110) (Opd.c (AV.int IntKind.u8 3))) none,
 IOper.mk (some 112) (IOp.mv (Opd.t 111)) none,
 IOper.mk (some 113) (IOp.faddr 3 (Opd.t 2)) (some (112, true)),
 IOper.mk (some 114) (IOp.load none (Opd.t 113)) (some (112, true)),
 IOper.mk (some 115)
 (IOp.bin BinOp.lss (Opd.t 114) (Opd.c (AV.int IntKind.i64 1)))
 (some (112, true)),
 IOper.mk (some 116) (IOp.mv (Opd.t 115)) (some (112, true)),
 IOper.mk (some 117) (IOp.faddr 3 (Opd.t 2)) (some (116, false)),
 IOper.mk (some 118) (IOp.load none (Opd.t 117)) (some (116, false)),
 IOper.mk (some 119) (IOp.faddr 8 (Opd.t 3)) (some (116, false)),
 IOper.mk (some 120) (IOp.load none (Opd.t 119)) (some (116, false)),
 IOper.mk (some 121) (IOp.bin BinOp.gtr (Opd.t 118) (Opd.t 120)) (some (116, false)),
 IOper.mk (some 122) (IOp.pick (Opd.t 116) (Opd.c (AV.bool true)) (Opd.t 121))
 (some (112, true)),
 IOper.mk (some 123) (IOp.pick (Opd.t 112) (Opd.t 122) (Opd.c (AV.bool false))) none]
 [109, 110, 111, 112, 113, 114, 115, 116, 117, 118, 119, 120, 121, 122])
 (IC.cond (Opd.t 123)
 (IC.seq
 (IC.ops false [IOper.mk (some 4) (IOp.mv (Opd.c (AV.int IntKind.i64 4))) none]
 [])
 IC.ret)
 IC.nop))
 (IC.seq
 (IC.ops false [IOper.mk (some 4) (IOp.mv (Opd.c (AV.int IntKind.i64 0))) none] [])
 IC.ret)))))))))))
 none
theorem fn_r21_Ask : F 63 = some ir_r21_Ask := by kernel_rfl

def ir_r21_Cap : IFun :=
 IFun.mk false 1 [IRes.tmp 2]
 (IC.seq (IC.ops false [IOper.mk (some 2) (IOp.mv (Opd.c (AV.int IntKind.i64 0))) none] [])
 (IC.seq
 (IC.seq
 (IC.ops false
 [IOper.mk (some 3) (IOp.mv (Opd.t 0)) none,
 IOper.mk (some 4) (IOp.bin BinOp.lss (Opd.t 3) (Opd.c (AV.int IntKind.i64 0))) none]
 [3])
 (IC.cond (Opd.t 4)
 (IC.seq (IC.ops false [IOper.mk (some 2) (IOp.mv (Opd.c (AV.int IntKind.i64 0))) none] []) IC.ret)
 IC.nop))
 (IC.seq
 (IC.seq
 (IC.ops false
 [IOper.mk (some 5) (IOp.mv (Opd.t 0)) none,
 IOper.mk (some 6) (IOp.bin BinOp.gtr (Opd.t 5) (Opd.c (AV.int IntKind.i64 2147483647))) none]
 [5])
 (IC.cond (Opd.t 6)
 (IC.seq
 (IC.ops false [IOper.mk (some 2) (IOp.mv (Opd.c (AV.int IntKind.i64 2147483647))) none] [])
 IC.ret)
 IC.nop))
 (IC.seq
 (IC.ops false [IOper.mk (some 7) (IOp.mv (Opd.t 0)) none, IOper.mk (some 2) (IOp.mv (Opd.t 7)) none] [7])
 IC.ret))))
 none
theorem fn_r21_Cap : F 77 = some ir_r21_Cap := by kernel_rfl

def ir_r21_zero : IFun :=
 IFun.mk false 1 [IRes.tmp 2]
 (IC.seq
 (IC.ops false
 [IOper.mk (some 1) (IOp.box 5 (Opd.t 0)) none, IOper.mk (some 2) (IOp.mv (Opd.c (AV.bool false))) none] [])
 (IC.seq
 (IC.ops false
 [IOper.mk (some 6) (IOp.faddr 0 (Opd.t 1)) none, IOper.mk (some 7) (IOp.load none (Opd.t 6)) none,
 IOper.mk (some 8) (IOp.bin BinOp.eql (Opd.t 7) (Opd.c (AV.int IntKind.u8 1))) none,
 IOper.mk (some 9) (IOp.mv (Opd.t 8)) none, IOper.mk (some 10) (IOp.faddr 0 (Opd.t 1)) (some (9, false)),
 IOper.mk (some 11) (IOp.load none (Opd.t 10)) (some (9, false)),
 IOper.mk (some 12) (IOp.bin BinOp.eql (Opd.t 11) (Opd.c (AV.int IntKind.u8 3))) (some (9, false)),
 IOper.mk (some 13) (IOp.pick (Opd.t 9) (Opd.c (AV.bool true)) (Opd.t 12)) none,
 IOper.mk (some 14) (IOp.mv (Opd.t 13)) none, IOper.mk (some 15) (IOp.faddr 0 (Opd.t 1)) (some (14, false)),
 IOper.mk (some 16) (IOp.load none (Opd.t 15)) (some (14, false)),
 IOper.mk (some 17) (IOp.bin BinOp.eql (Opd.t 16) (Opd.c (AV.int IntKind.u8 4)))
 (some (14, false)),
 IOper.mk (some 18) (IOp.pick (Opd.t 14) (Opd.c (AV.bool true)) (Opd.t 17)) none,
 IOper.mk (some 3) (IOp.mv (Opd.t 18)) none]
 [6, 7, 8, 9, 10, 11, 12, 13, 14, 15, 16, 17, 18])
 (IC.seq
 (IC.ops false
 [IOper.mk (some 19) (IOp.faddr 0 (Opd.t 1)) none, IOper.mk (some 20) (IOp.load none (Opd.t 19)) none,
 IOper.mk (some 21) (IOp.bin BinOp.eql (Opd.t 20) (Opd.c (AV.int IntKind.u8 3))) none,
 IOper.mk (some 22) (IOp.mv (Opd.t 21)) none, IOper.mk (some 23) (IOp.faddr 0 (Opd.t 1)) (some (22, false)),
 IOper.mk (some 24) (IOp.load none (Opd.t 23)) (some (22, false)),
 IOper.mk (some 25) (IOp.bin BinOp.eql (Opd.t 24) (Opd.c (AV.int IntKind.u8 4)))
 (some (22, false)),
 IOper.mk (some 26) (IOp.pick (Opd.t 22) (Opd.c (AV.bool true)) (Opd.t 25)) none,
 IOper.mk (some 4) (IOp.mv (Opd.t 26)) none]
 [19, 20, 21, 22, 23, 24, 25, 26])
 (IC.seq
 (IC.ops false
 [IOper.mk (some 27) (IOp.faddr 0 (Opd.t 1)) none, IOper.mk (some 28) (IOp.load none (Opd.t 27)) none,
 IOper.mk (some 29) (IOp.bin BinOp.eql (Opd.t 28) (Opd.c (AV.int IntKind.u8 3))) none,
 IOper.mk (some 30) (IOp.mv (Opd.t 29)) none,
 IOper.mk (some 31) (IOp.faddr 0 (Opd.t 1)) (some (30, false)),
 IOper.mk (some 32) (IOp.load none (Opd.t 31)) (some (30, false)),
 IOper.mk (some 33) (IOp.bin BinOp.eql (Opd.t 32) (Opd.c (AV.int IntKind.u8 5)))
 (some (30, false)),
 IOper.mk (some 34) (IOp.pick (Opd.t 30) (Opd.c (AV.bool true)) (Opd.t 33)) none,
 IOper.mk (some 35) (IOp.mv (Opd.t 34)) none,
 IOper.mk (some 36) (IOp.faddr 0 (Opd.t 1)) (some (35, false)),
 IOper.mk (some 37) (IOp.load none (Opd.t 36)) (some (35, false)),
 IOper.mk (some 38) (IOp.bin BinOp.eql (Opd.t 37) (Opd.c (AV.int IntKind.u8 6)))
 (some (35, false)),
 IOper.mk (some 39) (IOp.pick (Opd.t 35) (Opd.c (AV.bool true)) (Opd.t 38)) none,
 IOper.mk (some 5) (IOp.mv (Opd.t 39)) none]
 [27, 28, 29, 30, 31, 32, 33, 34, 35, 36, 37, 38, 39])
 (IC.seq
 (IC.ops false
 [IOper.mk (some 40) (IOp.mv (Opd.t 3)) none, IOper.mk (some 41) (IOp.mv (Opd.t 40)) none,
 IOper.mk (some 42) (IOp.faddr 1 (Opd.t 1)) (some (41, false)),
 IOper.mk (some 43) (IOp.load none (Opd.t 42)) (some (41, false)),
 IOper.mk (some 44) (IOp.bin BinOp.eql (Opd.t 43) (Opd.c (AV.str []))) (some (41, false)),
 IOper.mk (some 45) (IOp.pick (Opd.t 41) (Opd.c (AV.bool true)) (Opd.t 44)) none,
 IOper.mk (some 46) (IOp.mv (Opd.t 45)) none, IOper.mk (some 47) (IOp.mv (Opd.t 4)) (some (46, true)),
 IOper.mk (some 48) (IOp.mv (Opd.t 47)) (some (46, true)),
 IOper.mk (some 49) (IOp.faddr 2 (Opd.t 1)) (some (48, false)),
 IOper.mk (some 50) (IOp.load none (Opd.t 49)) (some (48, false)),
 IOper.mk (some 51) (IOp.bin BinOp.eql (Opd.t 50) (Opd.c (AV.str []))) (some (48, false)),
 IOper.mk (some 52) (IOp.pick (Opd.t 48) (Opd.c (AV.bool true)) (Opd.t 51)) (some (46, true)),
 IOper.mk (some 53) (IOp.pick (Opd.t 46) (Opd.t 52) (Opd.c (AV.bool false))) none,
 IOper.mk (some 54) (IOp.mv (Opd.t 53)) none, IOper.mk (some 55) (IOp.mv (Opd.t 5)) (some (54, true)),
 IOper.mk (some 56) (IOp.mv (Opd.t 55)) (some (54, true)),
 IOper.mk (some 57) (IOp.faddr 3 (Opd.t 1)) (some (56, false)),
 IOper.mk (some 58) (IOp.load none (Opd.t 57)) (some (56, false)),
 IOper.mk (some 59) (IOp.bin BinOp.eql (Opd.t 58) (Opd.c (AV.int IntKind.i64 0)))
 (some (56, false)),
 IOper.mk (some 60) (IOp.pick (Opd.t 56) (Opd.c (AV.bool true)) (Opd.t 59)) (some (54, true)),
 IOper.mk (some 61) (IOp.pick (Opd.t 54) (Opd.t 60) (Opd.c (AV.bool false))) none,
 IOper.mk (some 62) (IOp.mv (Opd.t 61)) none,
 IOper.mk (some 63) (IOp.faddr 0 (Opd.t 1)) (some (62, true)),
 IOper.mk (some 64) (IOp.load none (Opd.t 63)) (some (62, true)),
 IOper.mk (some 65) (IOp.bin BinOp.eql (Opd.t 64) (Opd.c (AV.int IntKind.u8 2)))
 (some (62, true)),
 IOper.mk (some 66) (IOp.mv (Opd.t 65)) (some (62, true)),
 IOper.mk (some 67) (IOp.faddr 4 (Opd.t 1)) (some (66, false)),
 IOper.mk (some 68) (IOp.load none (Opd.t 67)) (some (66, false)),
 IOper.mk (some 69) (IOp.len (Opd.t 68)) (some (66, false)),
 IOper.mk (some 70) (IOp.bin BinOp.eql (Opd.t 69) (Opd.c (AV.int IntKind.i64 0)))
 (some (66, false)),
 IOper.mk (some 71) (IOp.pick (Opd.t 66) (Opd.c (AV.bool true)) (Opd.t 70)) (some (62, true)),
 IOper.mk (some 72) (IOp.pick (Opd.t 62) (Opd.t 71) (Opd.c (AV.bool false))) none,
 IOper.mk (some 2) (IOp.mv (Opd.t 72)) none]
 [40, 41, 42, 43, 44, 45, 46, 47, 48, 49, 50, 51, 52, 53, 54, 55, 56, 57, 58, 59, 60, 61, 62, 63, 64, 65,
 66, 67, 68, 69, 70, 71, 72])
 IC.ret)))))
 none
theorem fn_r21_zero : F 78 = some ir_r21_zero := by kernel_rfl

def ir_r04_Check : IFun :=
 IFun.mk false 2 [IRes.tmp 4]
 (IC.seq
 (IC.ops false
 [IOper.mk (some 2) (IOp.box 6 (Opd.t 0)) none, IOper.mk (some 3) (IOp.box 9 (Opd.t 1)) none,
 IOper.mk (some 4) (IOp.mv (Opd.c (AV.int IntKind.i64 0))) none]
 [])
 (IC.seq
 (IC.ops false
 [IOper.mk (some 6) (IOp.faddr 0 (Opd.t 2)) none, IOper.mk (some 7) (IOp.load none (Opd.t 6)) none,
 IOper.mk (some 8) (IOp.bin BinOp.lss (Opd.t 7) (Opd.c (AV.int IntKind.u8 1))) none,
 IOper.mk (some 9) (IOp.mv (Opd.t 8)) none, IOper.mk (some 10) (IOp.faddr 0 (Opd.t 2)) (some (9, false)),
 IOper.mk (some 11) (IOp.load none (Opd.t 10)) (some (9, false)),
 IOper.mk (some 12) (IOp.bin BinOp.gtr (Opd.t 11) (Opd.c (AV.int IntKind.u8 4))) (some (9, false)),
 IOper.mk (some 13) (IOp.pick (Opd.t 9) (Opd.c (AV.bool true)) (Opd.t 12)) none,
 IOper.mk (some 5) (IOp.mv (Opd.t 13)) none]
 [6, 7, 8, 9, 10, 11, 12, 13])
 (IC.seq
 (IC.ops false
 [IOper.mk (some 14) (IOp.mv (Opd.t 5)) none, IOper.mk (some 15) (IOp.mv (Opd.t 14)) none,
 IOper.mk (some 16) (IOp.faddr 0 (Opd.t 2)) (some (15, false)),
 IOper.mk (some 17) (IOp.load none (Opd.t 16)) (some (15, false)),
 IOper.mk (some 18) (IOp.bin BinOp.neq (Opd.t 17) (Opd.c (AV.int IntKind.u8 1)))
 (some (15, false)),
 IOper.mk (some 19) (IOp.mv (Opd.t 18)) (some (15, false)),
 IOper.mk (some 20) (IOp.faddr 4 (Opd.t 2)) (some (19, true)),
 IOper.mk (some 21) (IOp.load none (Opd.t 20)) (some (19, true)),
 IOper.mk (some 22) (IOp.bin BinOp.neq (Opd.t 21) (Opd.c (AV.str []))) (some (19, true)),
 IOper.mk (some 23) (IOp.pick (Opd.t 19) (Opd.t 22) (Opd.c (AV.bool false))) (some (15, false)),
 IOper.mk (some 24) (IOp.pick (Opd.t 15) (Opd.c (AV.bool true)) (Opd.t 23)) none,
 IOper.mk (some 5) (IOp.mv (Opd.t 24)) none]
 [14, 15, 16, 17, 18, 19, 20, 21, 22, 23, 24])
 (IC.seq
 (IC.ops false
 [IOper.mk (some 25) (IOp.mv (Opd.t 5)) none, IOper.mk (some 26) (IOp.mv (Opd.t 25)) none,
 IOper.mk (some 27) (IOp.faddr 0 (Opd.t 2)) (some (26, false)),
 IOper.mk (some 28) (IOp.load none (Opd.t 27)) (some (26, false)),
 IOper.mk (some 29) (IOp.bin BinOp.neq (Opd.t 28) (Opd.c (AV.int IntKind.u8 3)))
 (some (26, false)),
 IOper.mk (some 30) (IOp.mv (Opd.t 29)) (some (26, false)),
 IOper.mk (some 31) (IOp.faddr 5 (Opd.t 2)) (some (30, true)),
 IOper.mk (some 32) (IOp.load none (Opd.t 31)) (some (30, true)),
 IOper.mk (some 33) (IOp.bin BinOp.neq (Opd.t 32) (Opd.c (AV.int IntKind.u64 0)))
 (some (30, true)),
 IOper.mk (some 34) (IOp.pick (Opd.t 30) (Opd.t 33) (Opd.c (AV.bool false))) (some (26, false)),
 IOper.mk (some 35) (IOp.pick (Opd.t 26) (Opd.c (AV.bool true)) (Opd.t 34)) none,
 IOper.mk (some 5) (IOp.mv (Opd.t 35)) none]
 [25, 26, 27, 28, 29, 30, 31, 32, 33, 34, 35])
 (IC.seq
 (IC.ops false
 [IOper.mk (some 36) (IOp.mv (Opd.t 5)) none, IOper.mk (some 37) (IOp.mv (Opd.t 36)) none,
 IOper.mk (some 38) (IOp.faddr 0 (Opd.t 2)) (some (37, false)),
 IOper.mk (some 39) (IOp.load none (Opd.t 38)) (some (37, false)),
 IOper.mk (some 40) (IOp.bin BinOp.neq (Opd.t 39) (Opd.c (AV.int IntKind.u8 4)))
 (some (37, false)),
 IOper.mk (some 41) (IOp.mv (Opd.t 40)) (some (37, false)),
 IOper.mk (some 42) (IOp.faddr 3 (Opd.t 2)) (some (41, true)),
 IOper.mk (some 43) (IOp.load none (Opd.t 42)) (some (41, true)),
 IOper.mk (some 44) (IOp.bin BinOp.neq (Opd.t 43) (Opd.c (AV.str []))) (some (41, true)),
 IOper.mk (some 45) (IOp.pick (Opd.t 41) (Opd.t 44) (Opd.c (AV.bool false))) (some (37, false)),
 IOper.mk (some 46) (IOp.pick (Opd.t 37) (Opd.c (AV.bool true)) (Opd.t 45)) none,
 IOper.mk (some 5) (IOp.mv (Opd.t 46)) none]
 [36, 37, 38, 39, 40, 41, 42, 43, 44, 45, 46])
 (IC.seq
 (IC.seq (IC.ops false [IOper.mk (some 47) (IOp.mv (Opd.t 5)) none] [])
 (IC.cond (Opd.t 47)
 (IC.seq (IC.ops false [IOper.mk (some 4) (IOp.mv (Opd.c (AV.int IntKind.i64 3))) none] [])
 IC.ret)
 IC.nop))
 (IC.seq
 (IC.seq
 (IC.ops false
 [IOper.mk (some 48) (IOp.faddr 2 (Opd.t 2)) none,
 IOper.mk (some 49) (IOp.load none (Opd.t 48)) none, IOper.mk (some 50) (IOp.lens (Opd.t 49)) none,
 IOper.mk (some 51) (IOp.faddr 0 (Opd.t 3)) none,
 IOper.mk (some 52) (IOp.load none (Opd.t 51)) none,
 IOper.mk (some 53) (IOp.bin BinOp.gtr (Opd.t 50) (Opd.t 52)) none,
 IOper.mk (some 54) (IOp.mv (Opd.t 53)) none,
 IOper.mk (some 55) (IOp.faddr 3 (Opd.t 2)) (some (54, false)),
 IOper.mk (some 56) (IOp.load none (Opd.t 55)) (some (54, false)),
 IOper.mk (some 57) (IOp.lens (Opd.t 56)) (some (54, false)),
 IOper.mk (some 58) (IOp.faddr 0 (Opd.t 3)) (some (54, false)),
 IOper.mk (some 59) (IOp.load none (Opd.t 58)) (some (54, false)),
 IOper.mk (some 60) (IOp.bin BinOp.gtr (Opd.t 57) (Opd.t 59)) (some (54, false)),
 IOper.mk (some 61) (IOp.pick (Opd.t 54) (Opd.c (AV.bool true)) (Opd.t 60)) none,
 IOper.mk (some 62) (IOp.mv (Opd.t 61)) none,
 IOper.mk (some 63) (IOp.load (some 6) (Opd.t 2)) (some (62, false)),
 IOper.mk (some 64) (IOp.call (Opd.c (AV.func (Fn.func 89) [] [])) [Opd.t 63]) (some (62, false)),
 IOper.mk (some 65) (IOp.mv (Opd.t 64)) (some (62, false)),
 IOper.mk (some 66) (IOp.faddr 2 (Opd.t 2)) (some (65, true)),
 IOper.mk (some 67) (IOp.load none (Opd.t 66)) (some (65, true)),
 IOper.mk (some 68) (IOp.bin BinOp.eql (Opd.t 67) (Opd.c (AV.str []))) (some (65, true)),
 IOper.mk (some 69) (IOp.pick (Opd.t 65) (Opd.t 68) (Opd.c (AV.bool false))) (some (62, false)),
 IOper.mk (some 70) (IOp.pick (Opd.t 62) (Opd.c (AV.bool true)) (Opd.t 69)) none,
 IOper.mk (some 71) (IOp.mv (Opd.t 70)) none,
 IOper.mk (some 72) (IOp.faddr 0 (Opd.t 2)) (some (71, false)),
 IOper.mk (some 73) (IOp.load none (Opd.t 72)) (some (71, false)),
 IOper.mk (some 74) (IOp.bin BinOp.eql (Opd.t 73) (Opd.c (AV.int IntKind.u8 1)))
 (some (71, false)),
 IOper.mk (some 75) (IOp.mv (Opd.t 74)) (some (71, false)),
 IOper.mk (some 76) (IOp.faddr 4 (Opd.t 2)) (some (75, true)),
 IOper.mk (some 77) (IOp.load none (Opd.t 76)) (some (75, true)),
 IOper.mk (some 78) (IOp.lens (Opd.t 77)) (some (75, true)),
 IOper.mk (some 79) (IOp.faddr 1 (Opd.t 3)) (some (75, true)),
 IOper.mk (some 80) (IOp.load none (Opd.t 79)) (some (75, true)),
 IOper.mk (some 81) (IOp.bin BinOp.gtr (Opd.t 78) (Opd.t 80)) (some (75, true)),
 IOper.mk (some 82) (IOp.pick (Opd.t 75) (Opd.t 81) (Opd.c (AV.bool false))) (some (71, false)),
 IOper.mk (some 83) (IOp.pick (Opd.t 71) (Opd.c (AV.bool true)) (Opd.t 82)) none]
 [48, 49, 50, 51, 52, 53, 54, 55, 56, 57, 58, 59, 60, 61, 62, 63, 64, 65, 66, 67, 68, 69, 70, 71, 72,
 73, 74, 75, 76, 77, 78, 79, 80, 81, 82])
 (IC.cond (Opd.t 83)
 (IC.seq
 (IC.ops false [IOper.mk (some 4) (IOp.mv (Opd.c (AV.int IntKind.i64 6))) none] [])
 IC.ret)
 IC.nop))
 (IC.seq
 (IC.seq
 (IC.ops false
 [IOper.mk (some 84) (IOp.faddr 0 (Opd.t 2)) none,
 IOper.mk (some 85) (IOp.load none (Opd.t 84)) none,
 IOper.mk (some 86) (IOp.bin BinOp.eql (Opd.t 85) (Opd.c (AV.int IntKind.u8 4)))
 none,
 IOper.mk (some 87) (IOp.mv (Opd.t 86)) none,
 IOper.mk (some 88) (IOp.faddr 3 (Opd.t 2)) (some (87, true)),
 IOper.mk (some 89) (IOp.load none (Opd.t 88)) (some (87, true)),
 IOper.mk (some 90) (IOp.bin BinOp.neq (Opd.t 89) (Opd.c (AV.str []))) (some (87, true)),
 IOper.mk (some 91) (IOp.pick (Opd.t 87) (Opd.t 90) (Opd.c (AV.bool false))) none,
 IOper.mk (some 92) (IOp.mv (Opd.t 91)) none,
 IOper.mk (some 93) (IOp.faddr 3 (Opd.t 2)) (some (92, true)),
 IOper.mk (some 94) (IOp.load none (Opd.t 93)) (some (92, true)),
 IOper.mk (some 95) (IOp.faddr 2 (Opd.t 2)) (some (92, true)),
 IOper.mk (some 96) (IOp.load none (Opd.t 95)) (some (92, true)),
 IOper.mk (some 97) (IOp.bin BinOp.leq (Opd.t 94) (Opd.t 96)) (some (92, true)),
 IOper.mk (some 98) (IOp.pick (Opd.t 92) (Opd.t 97) (Opd.c (AV.bool false))) none]
 [84, 85, 86, 87, 88, 89, 90, 91, 92, 93, 94, 95, 96, 97])
 (IC.cond (Opd.t 98)
 (IC.seq
 (IC.ops false [IOper.mk (some 4) (IOp.mv (Opd.c (AV.int IntKind.i64 7))) none] [])
 IC.ret)
 IC.nop))
 (IC.seq (IC.ops false [IOper.mk (some 4) (IOp.mv (Opd.c (AV.int IntKind.i64 0))) none] [])
 IC.ret)))))))))
 none
theorem fn_r04_Check : F 79 = some ir_r04_Check := by kernel_rfl

def ir_r04_Point : IFun :=
 IFun.mk false 1 [IRes.tmp 2]
 (IC.seq
 (IC.ops false
 [IOper.mk (some 1) (IOp.box 6 (Opd.t 0)) none, IOper.mk (some 2) (IOp.mv (Opd.c (AV.bool false))) none] [])
 (IC.seq
 (IC.ops false
 [IOper.mk (some 3) (IOp.faddr 0 (Opd.t 1)) none, IOper.mk (some 4) (IOp.load none (Opd.t 3)) none,
 IOper.mk (some 5) (IOp.bin BinOp.geq (Opd.t 4) (Opd.c (AV.int IntKind.u8 1))) none,
 IOper.mk (some 6) (IOp.mv (Opd.t 5)) none, IOper.mk (some 7) (IOp.faddr 0 (Opd.t 1)) (some (6, true)),
 IOper.mk (some 8) (IOp.load none (Opd.t 7)) (some (6, true)),
 IOper.mk (some 9) (IOp.bin BinOp.leq (Opd.t 8) (Opd.c (AV.int IntKind.u8 3))) (some (6, true)),
 IOper.mk (some 10) (IOp.pick (Opd.t 6) (Opd.t 9) (Opd.c (AV.bool false))) none,
 IOper.mk (some 2) (IOp.mv (Opd.t 10)) none]
 [3, 4, 5, 6, 7, 8, 9, 10])
 IC.ret))
 none
theorem fn_r04_Point : F 89 = some ir_r04_Point := by kernel_rfl

def ir_r21_plus : IFun :=
 IFun.mk false 2 [IRes.tmp 4]
 (IC.seq (IC.ops false [IOper.mk (some 4) (IOp.mv (Opd.c (AV.int IntKind.i64 0))) none] [])
 (IC.seq
 (IC.ops false
 [IOper.mk (some 5) (IOp.mv (Opd.t 0)) none, IOper.mk (some 6) (IOp.callp 77 [Opd.t 5]) none,
 IOper.mk (some 7) (IOp.mv (Opd.t 1)) none, IOper.mk (some 8) (IOp.callp 77 [Opd.t 7]) none,
 IOper.mk (some 9) (IOp.bin BinOp.add (Opd.t 6) (Opd.t 8)) none,
 IOper.mk (some 10) (IOp.callp 77 [Opd.t 9]) none, IOper.mk (some 4) (IOp.mv (Opd.t 10)) none]
 [5, 6, 7, 8, 9, 10])
 IC.ret))
 none
theorem fn_r21_plus : F 58 = some ir_r21_plus := by kernel_rfl

def ir_r21_times : IFun :=
 IFun.mk false 2 [IRes.tmp 4]
 (IC.seq (IC.ops false [IOper.mk (some 4) (IOp.mv (Opd.c (AV.int IntKind.i64 0))) none] [])
 (IC.seq
 (IC.ops false
 [IOper.mk (some 5) (IOp.mv (Opd.t 0)) none, IOper.mk (some 6) (IOp.callp 77 [Opd.t 5]) none,
 IOper.mk (some 7) (IOp.mv (Opd.t 1)) none, IOper.mk (some 8) (IOp.callp 77 [Opd.t 7]) none,
 IOper.mk (some 9) (IOp.bin BinOp.mul (Opd.t 6) (Opd.t 8)) none,
 IOper.mk (some 10) (IOp.callp 77 [Opd.t 9]) none, IOper.mk (some 4) (IOp.mv (Opd.t 10)) none]
 [5, 6, 7, 8, 9, 10])
 IC.ret))
 none
theorem fn_r21_times : F 59 = some ir_r21_times := by kernel_rfl

def ir_strings_Builder_WriteByte : IFun :=
 IFun.mk true 0 [] IC.nop (some (NatK.wbyte 89 5))
theorem fn_strings_Builder_WriteByte : F 48 = some ir_strings_Builder_WriteByte := by kernel_rfl

def ir_strings_Builder_String : IFun :=
 IFun.mk true 0 [] IC.nop (some (NatK.bstr 89 5))
theorem fn_strings_Builder_String : F 49 = some ir_strings_Builder_String := by kernel_rfl

def ir_strings_Repeat : IFun :=
 IFun.mk true 0 [] IC.nop (some NatK.repeats)
theorem fn_strings_Repeat : F 51 = some ir_strings_Repeat := by kernel_rfl

end Go.AS.Sd

namespace Go.AS.Sd
open Go Go.AS Go.Proofs
set_option maxHeartbeats 2000000
set_option maxRecDepth 8000
theorem hat_some {H : Heap} {k : Nat} {cs : List AV} (h : hat H k = .cells cs) : k < H.length := (List.getElem?_eq_some_iff.1 (hat_lt (by intro h; cases h) h)).1
theorem eqn_ptr {H : Heap} {i l o : Nat} {b : Bool} : opV H (.eqn 0 b (.c (.ptr i l o)) (.c .nilptr)) = some (.bool b, H) := by cases b <;> rfl
/-- The next state; the number that is told of it. -/
def nS (st : Int) : Int := IntKind.u64.wrap (st + 11400714819323198485)
def mx (z s c : Int) : Int := IntKind.u64.wrap (bitop .xor .u64 z (z.fdiv (2 ^ min (Int.toNat s) IntKind.u64.bits)) * c)
def nO (z : Int) : Int := bitop .xor .u64 (mx (mx z 30 13787848793156543929) 27 10723151780598845931) ((mx (mx z 30 13787848793156543929) 27 10723151780598845931).fdiv (2 ^ min (Int.toNat 31) IntKind.u64.bits))
theorem next_p {H : Heap} {S : Stack} {k : Nat} {st : Int} (hk : hat H k = .cells [.int .u64 st]) :
    Rets F (.func (.func 19) [] []) [.ptr k 1 0] (H :: S) (.int .u64 (nO (nS st))) (hset H k (.cells [.int .u64 (nS st)]) :: S) := by
  have hl := hat_some hk
  refine Rets.mem fn_seed_Source_Next rfl rfl ?_
  simp only [ir_seed_Source_Next, List.nil_append, List.cons_append]
  simp -failIfUnchanged (disch := first | assumption | omega | (refine room_i _ _ ?_ ?_ <;> omega) | (refine @_root_.id _ ?_; with_unfolding_all exact Eq.refl _) | (simp only [List.length_take, List.length_drop, List.length_append, List.length_cons, List.length_nil, List.length_replicate, List.length_map] <;> omega) | fail) only [rnL, opL, ruL, hpL, rsL, natL, outL, Nat.add_sub_cancel_left, Nat.mul_one, List.length_cons, List.length_nil, Nat.zero_add, Nat.add_zero, Nat.reduceAdd, Nat.reduceMul, Nat.reduceSub, Nat.reduceEqDiff, Nat.reduceLT, Nat.reduceLeDiff, litd_t, litd_f, decide_true, decide_false, Bool.not_true, Bool.not_false, not_true_eq_false, not_false_eq_true, true_and, and_true, false_and, and_false, true_or, or_true, false_or, or_false, Int.toNat_natCast, cond_true, cond_false, List.map_cons, List.map_nil, Option.map_some, Option.map_none, hk, eqn_ptr, hat_hset_eq]
  exact ⟨.inr rfl, rfl, rfl⟩
theorem next_r {H : Heap} {S : Stack} {k : Nat} {st : Int} (hk : hat H k = .cells [.int .u64 st]) :
    Rets F (.func (.func 20) [] []) [.ptr k 1 0] (H :: S) (.int .u64 (nO (nS st))) (hset H k (.cells [.int .u64 (nS st)]) :: S) := by
  have hl := hat_some hk
  refine Rets.mem fn_r40_Next rfl rfl ?_
  simp only [ir_r40_Next, List.nil_append, List.cons_append]
  simp -failIfUnchanged (disch := first | assumption | omega | (refine room_i _ _ ?_ ?_ <;> omega) | (refine @_root_.id _ ?_; with_unfolding_all exact Eq.refl _) | (simp only [List.length_take, List.length_drop, List.length_append, List.length_cons, List.length_nil, List.length_replicate, List.length_map] <;> omega) | fail) only [rnL, opL, ruL, hpL, rsL, natL, outL, Nat.add_sub_cancel_left, Nat.mul_one, List.length_cons, List.length_nil, Nat.zero_add, Nat.add_zero, Nat.reduceAdd, Nat.reduceMul, Nat.reduceSub, Nat.reduceEqDiff, Nat.reduceLT, Nat.reduceLeDiff, litd_t, litd_f, decide_true, decide_false, Bool.not_true, Bool.not_false, not_true_eq_false, not_false_eq_true, true_and, and_true, false_and, and_false, true_or, or_true, false_or, or_false, Int.toNat_natCast, cond_true, cond_false, List.map_cons, List.map_nil, Option.map_some, Option.map_none, hk, eqn_ptr, hat_hset_eq]
  exact ⟨.inr rfl, rfl, rfl⟩
theorem wrap_u64_nn (n : Int) : 0 ≤ IntKind.u64.wrap n ∧ IntKind.u64.wrap n < 18446744073709551616 := by
  have : IntKind.u64.wrap n = n % 18446744073709551616 := rfl
  omega
theorem nO_nn (z : Int) : 0 ≤ nO z := (wrap_u64_nn _).1
/-- A number below n, and the state behind it. -/
def bV (n st : Int) : Int := if n < 1 then 0 else (nO (nS st)).tmod n
def bS (n st : Int) : Int := if n < 1 then st else nS st
theorem bV_nn (n st : Int) : 0 ≤ bV n st := by
  unfold bV
  split
  · omega
  · exact Int.tmod_nonneg _ (nO_nn _)
theorem bV_lt (n st : Int) (h : 1 ≤ n) : bV n st < n := by
  unfold bV
  rw [if_neg (by omega)]
  exact Int.tmod_lt_of_pos _ (by omega)
theorem hset_same {H : Heap} {k : Nat} {cs : List AV} (h : hat H k = .cells cs) : hset H k (.cells cs) = H := by
  have h1 := hat_lt (by intro h; cases h) h
  rw [← hset_eq]
  apply List.ext_getElem?
  intro j
  by_cases hj : j = k
  · subst hj
    rw [List.getElem?_set_self (List.getElem?_eq_some_iff.1 h1).1, h1]
  · rw [List.getElem?_set_ne (Ne.symm hj)]
theorem below_p {H : Heap} {S : Stack} {k : Nat} {st n : Int} (hk : hat H k = .cells [.int .u64 st]) (hn : n ≤ 9223372036854775807) :
    Rets F (.func (.func 21) [] []) [.ptr k 1 0, .int .i64 n] (H :: S) (.int .i64 (bV n st)) (hset H k (.cells [.int .u64 (bS n st)]) :: S) := by
  have hl := hat_some hk
  refine Rets.mem fn_seed_Source_Below rfl rfl ?_
  simp only [ir_seed_Source_Below, List.nil_append, List.cons_append]
  simp -failIfUnchanged (disch := first | assumption | omega | (refine room_i _ _ ?_ ?_ <;> omega) | (refine @_root_.id _ ?_; with_unfolding_all exact Eq.refl _) | (simp only [List.length_take, List.length_drop, List.length_append, List.length_cons, List.length_nil, List.length_replicate, List.length_map] <;> omega) | fail) only [rnL, opL, ruL, hpL, rsL, natL, outL, Nat.add_sub_cancel_left, Nat.mul_one, List.length_cons, List.length_nil, Nat.zero_add, Nat.add_zero, Nat.reduceAdd, Nat.reduceMul, Nat.reduceSub, Nat.reduceEqDiff, Nat.reduceLT, Nat.reduceLeDiff, litd_t, litd_f, decide_true, decide_false, Bool.not_true, Bool.not_false, not_true_eq_false, not_false_eq_true, true_and, and_true, false_and, and_false, true_or, or_true, false_or, or_false, Int.toNat_natCast, cond_true, cond_false, List.map_cons, List.map_nil, Option.map_some, Option.map_none, hk, eqn_ptr, hat_hset_eq]
  (first | refine RunB_i (fun h1 => ?_) (fun h1 => ?_) | refine RunG_i (fun h1 => ?_) (fun h1 => ?_) | refine RunB_ib (fun h1 => ?_) (fun h1 => ?_))
  · simp -failIfUnchanged (disch := first | assumption | omega | (refine room_i _ _ ?_ ?_ <;> omega) | (refine @_root_.id _ ?_; with_unfolding_all exact Eq.refl _) | (simp only [List.length_take, List.length_drop, List.length_append, List.length_cons, List.length_nil, List.length_replicate, List.length_map] <;> omega) | fail) only [rnL, opL, ruL, hpL, rsL, natL, outL, Nat.add_sub_cancel_left, Nat.mul_one, List.length_cons, List.length_nil, Nat.zero_add, Nat.add_zero, Nat.reduceAdd, Nat.reduceMul, Nat.reduceSub, Nat.reduceEqDiff, Nat.reduceLT, Nat.reduceLeDiff, litd_t, litd_f, decide_true, decide_false, Bool.not_true, Bool.not_false, not_true_eq_false, not_false_eq_true, true_and, and_true, false_and, and_false, true_or, or_true, false_or, or_false, Int.toNat_natCast, cond_true, cond_false, List.map_cons, List.map_nil, Option.map_some, Option.map_none, hk]
    refine ⟨.inr rfl, ?_, ?_⟩
    · unfold bS; rw [if_pos h1, hset_same hk]
    · unfold bV; rw [if_pos h1]; rfl
  simp -failIfUnchanged (disch := first | assumption | omega | (refine room_i _ _ ?_ ?_ <;> omega) | (refine @_root_.id _ ?_; with_unfolding_all exact Eq.refl _) | (simp only [List.length_take, List.length_drop, List.length_append, List.length_cons, List.length_nil, List.length_replicate, List.length_map] <;> omega) | fail) only [rnL, opL, ruL, hpL, rsL, natL, outL, Nat.add_sub_cancel_left, Nat.mul_one, List.length_cons, List.length_nil, Nat.zero_add, Nat.add_zero, Nat.reduceAdd, Nat.reduceMul, Nat.reduceSub, Nat.reduceEqDiff, Nat.reduceLT, Nat.reduceLeDiff, litd_t, litd_f, decide_true, decide_false, Bool.not_true, Bool.not_false, not_true_eq_false, not_false_eq_true, true_and, and_true, false_and, and_false, true_or, or_true, false_or, or_false, Int.toNat_natCast, cond_true, cond_false, List.map_cons, List.map_nil, Option.map_some, Option.map_none, hk]
  refine RunC_r (next_p hk) ?_
  have e1 : IntKind.u64.wrap n = n := wrap_u64 (by omega) (by omega)
  have e2 := bV_lt n st (by omega)
  have e3 := bV_nn n st
  unfold bV at e2 e3
  rw [if_neg (by omega)] at e2 e3
  have e4 : IntKind.i64.wrap ((nO (nS st)).tmod n) = (nO (nS st)).tmod n := wrap_i64 (by omega) (by omega)
  simp -failIfUnchanged (disch := first | assumption | omega | (refine room_i _ _ ?_ ?_ <;> omega) | (refine @_root_.id _ ?_; with_unfolding_all exact Eq.refl _) | (simp only [List.length_take, List.length_drop, List.length_append, List.length_cons, List.length_nil, List.length_replicate, List.length_map] <;> omega) | fail) only [rnL, opL, ruL, hpL, rsL, natL, outL, Nat.add_sub_cancel_left, Nat.mul_one, List.length_cons, List.length_nil, Nat.zero_add, Nat.add_zero, Nat.reduceAdd, Nat.reduceMul, Nat.reduceSub, Nat.reduceEqDiff, Nat.reduceLT, Nat.reduceLeDiff, litd_t, litd_f, decide_true, decide_false, Bool.not_true, Bool.not_false, not_true_eq_false, not_false_eq_true, true_and, and_true, false_and, and_false, true_or, or_true, false_or, or_false, Int.toNat_natCast, cond_true, cond_false, List.map_cons, List.map_nil, Option.map_some, Option.map_none, hk, e1, e4]
  refine ⟨.inr rfl, ?_, ?_⟩
  · unfold bS; rw [if_neg h1]
  · unfold bV; rw [if_neg h1]; rfl
theorem below_r {H : Heap} {S : Stack} {k : Nat} {st n : Int} (hk : hat H k = .cells [.int .u64 st]) (hn : n ≤ 9223372036854775807) :
    Rets F (.func (.func 22) [] []) [.ptr k 1 0, .int .i64 n] (H :: S) (.int .i64 (bV n st)) (hset H k (.cells [.int .u64 (bS n st)]) :: S) := by
  have hl := hat_some hk
  refine Rets.mem fn_r40_Below rfl rfl ?_
  simp only [ir_r40_Below, List.nil_append, List.cons_append]
  simp -failIfUnchanged (disch := first | assumption | omega | (refine room_i _ _ ?_ ?_ <;> omega) | (refine @_root_.id _ ?_; with_unfolding_all exact Eq.refl _) | (simp only [List.length_take, List.length_drop, List.length_append, List.length_cons, List.length_nil, List.length_replicate, List.length_map] <;> omega) | fail) only [rnL, opL, ruL, hpL, rsL, natL, outL, Nat.add_sub_cancel_left, Nat.mul_one, List.length_cons, List.length_nil, Nat.zero_add, Nat.add_zero, Nat.reduceAdd, Nat.reduceMul, Nat.reduceSub, Nat.reduceEqDiff, Nat.reduceLT, Nat.reduceLeDiff, litd_t, litd_f, decide_true, decide_false, Bool.not_true, Bool.not_false, not_true_eq_false, not_false_eq_true, true_and, and_true, false_and, and_false, true_or, or_true, false_or, or_false, Int.toNat_natCast, cond_true, cond_false, List.map_cons, List.map_nil, Option.map_some, Option.map_none, hk, eqn_ptr, hat_hset_eq]
  (first | refine RunB_i (fun h1 => ?_) (fun h1 => ?_) | refine RunG_i (fun h1 => ?_) (fun h1 => ?_) | refine RunB_ib (fun h1 => ?_) (fun h1 => ?_))
  · simp -failIfUnchanged (disch := first | assumption | omega | (refine room_i _ _ ?_ ?_ <;> omega) | (refine @_root_.id _ ?_; with_unfolding_all exact Eq.refl _) | (simp only [List.length_take, List.length_drop, List.length_append, List.length_cons, List.length_nil, List.length_replicate, List.length_map] <;> omega) | fail) only [rnL, opL, ruL, hpL, rsL, natL, outL, Nat.add_sub_cancel_left, Nat.mul_one, List.length_cons, List.length_nil, Nat.zero_add, Nat.add_zero, Nat.reduceAdd, Nat.reduceMul, Nat.reduceSub, Nat.reduceEqDiff, Nat.reduceLT, Nat.reduceLeDiff, litd_t, litd_f, decide_true, decide_false, Bool.not_true, Bool.not_false, not_true_eq_false, not_false_eq_true, true_and, and_true, false_and, and_false, true_or, or_true, false_or, or_false, Int.toNat_natCast, cond_true, cond_false, List.map_cons, List.map_nil, Option.map_some, Option.map_none, hk]
    refine ⟨.inr rfl, ?_, ?_⟩
    · unfold bS; rw [if_pos h1, hset_same hk]
    · unfold bV; rw [if_pos h1]; rfl
  simp -failIfUnchanged (disch := first | assumption | omega | (refine room_i _ _ ?_ ?_ <;> omega) | (refine @_root_.id _ ?_; with_unfolding_all exact Eq.refl _) | (simp only [List.length_take, List.length_drop, List.length_append, List.length_cons, List.length_nil, List.length_replicate, List.length_map] <;> omega) | fail) only [rnL, opL, ruL, hpL, rsL, natL, outL, Nat.add_sub_cancel_left, Nat.mul_one, List.length_cons, List.length_nil, Nat.zero_add, Nat.add_zero, Nat.reduceAdd, Nat.reduceMul, Nat.reduceSub, Nat.reduceEqDiff, Nat.reduceLT, Nat.reduceLeDiff, litd_t, litd_f, decide_true, decide_false, Bool.not_true, Bool.not_false, not_true_eq_false, not_false_eq_true, true_and, and_true, false_and, and_false, true_or, or_true, false_or, or_false, Int.toNat_natCast, cond_true, cond_false, List.map_cons, List.map_nil, Option.map_some, Option.map_none, hk]
  refine RunC_r (next_r hk) ?_
  have e1 : IntKind.u64.wrap n = n := wrap_u64 (by omega) (by omega)
  have e2 := bV_lt n st (by omega)
  have e3 := bV_nn n st
  unfold bV at e2 e3
  rw [if_neg (by omega)] at e2 e3
  have e4 : IntKind.i64.wrap ((nO (nS st)).tmod n) = (nO (nS st)).tmod n := wrap_i64 (by omega) (by omega)
  simp -failIfUnchanged (disch := first | assumption | omega | (refine room_i _ _ ?_ ?_ <;> omega) | (refine @_root_.id _ ?_; with_unfolding_all exact Eq.refl _) | (simp only [List.length_take, List.length_drop, List.length_append, List.length_cons, List.length_nil, List.length_replicate, List.length_map] <;> omega) | fail) only [rnL, opL, ruL, hpL, rsL, natL, outL, Nat.add_sub_cancel_left, Nat.mul_one, List.length_cons, List.length_nil, Nat.zero_add, Nat.add_zero, Nat.reduceAdd, Nat.reduceMul, Nat.reduceSub, Nat.reduceEqDiff, Nat.reduceLT, Nat.reduceLeDiff, litd_t, litd_f, decide_true, decide_false, Bool.not_true, Bool.not_false, not_true_eq_false, not_false_eq_true, true_and, and_true, false_and, and_false, true_or, or_true, false_or, or_false, Int.toNat_natCast, cond_true, cond_false, List.map_cons, List.map_nil, Option.map_some, Option.map_none, hk, e1, e4]
  refine ⟨.inr rfl, ?_, ?_⟩
  · unfold bS; rw [if_neg h1]
  · unfold bV; rw [if_neg h1]; rfl
/-- A number in its range. -/
def clp (n a b : Int) : Int := min (max n a) b
theorem clamp_p (n a b : Int) : Gives F 47 [.int .i64 n, .int .i64 a, .int .i64 b] (.int .i64 (clp n a b)) := by
  refine Gives.of fn_seed_clamp rfl rfl (args' := [.int .i64 n, .int .i64 a, .int .i64 b]) (by simp only [mapO_nil, mapO_c2, consO_some, upf_v]) ?_
  simp only [ir_seed_clamp]
  simp -failIfUnchanged (disch := first | assumption | omega | (refine room_i _ _ ?_ ?_ <;> omega) | (refine @_root_.id _ ?_; with_unfolding_all exact Eq.refl _) | (simp only [List.length_take, List.length_drop, List.length_append, List.length_cons, List.length_nil, List.length_replicate, List.length_map] <;> omega) | fail) only [rnL, opL, ruL, hpL, rsL, natL, outL, Nat.add_sub_cancel_left, Nat.mul_one, List.length_cons, List.length_nil, Nat.zero_add, Nat.add_zero, Nat.reduceAdd, Nat.reduceMul, Nat.reduceSub, Nat.reduceEqDiff, Nat.reduceLT, Nat.reduceLeDiff, litd_t, litd_f, decide_true, decide_false, Bool.not_true, Bool.not_false, not_true_eq_false, not_false_eq_true, true_and, and_true, false_and, and_false, true_or, or_true, false_or, or_false, Int.toNat_natCast, cond_true, cond_false, List.map_cons, List.map_nil, Option.map_some, Option.map_none]
  (refine Fin_g (.inr rfl) (by simp -failIfUnchanged (disch := first | assumption | omega | (refine room_i _ _ ?_ ?_ <;> omega) | (refine @_root_.id _ ?_; with_unfolding_all exact Eq.refl _) | (simp only [List.length_take, List.length_drop, List.length_append, List.length_cons, List.length_nil, List.length_replicate, List.length_map] <;> omega) | fail) only [rnL, opL, ruL, hpL, rsL, natL, outL, Nat.add_sub_cancel_left, Nat.mul_one, List.length_cons, List.length_nil, Nat.zero_add, Nat.add_zero, Nat.reduceAdd, Nat.reduceMul, Nat.reduceSub, Nat.reduceEqDiff, Nat.reduceLT, Nat.reduceLeDiff, litd_t, litd_f, decide_true, decide_false, Bool.not_true, Bool.not_false, not_true_eq_false, not_false_eq_true, true_and, and_true, false_and, and_false, true_or, or_true, false_or, or_false, Int.toNat_natCast, cond_true, cond_false, List.map_cons, List.map_nil, Option.map_some, Option.map_none]; rfl) ?_; simp -failIfUnchanged (disch := first | assumption | omega | (refine room_i _ _ ?_ ?_ <;> omega) | (refine @_root_.id _ ?_; with_unfolding_all exact Eq.refl _) | (simp only [List.length_take, List.length_drop, List.length_append, List.length_cons, List.length_nil, List.length_replicate, List.length_map] <;> omega) | fail) only [rnL, opL, ruL, hpL, rsL, natL, outL, Nat.add_sub_cancel_left, Nat.mul_one, List.length_cons, List.length_nil, Nat.zero_add, Nat.add_zero, Nat.reduceAdd, Nat.reduceMul, Nat.reduceSub, Nat.reduceEqDiff, Nat.reduceLT, Nat.reduceLeDiff, litd_t, litd_f, decide_true, decide_false, Bool.not_true, Bool.not_false, not_true_eq_false, not_false_eq_true, true_and, and_true, false_and, and_false, true_or, or_true, false_or, or_false, Int.toNat_natCast, cond_true, cond_false, List.map_cons, List.map_nil, Option.map_some, Option.map_none])
  rfl
theorem clamp_r (n a b : Int) (hab : a ≤ b) : Gives F 50 [.int .i64 n, .int .i64 a, .int .i64 b] (.int .i64 (clp n a b)) := by
  refine Gives.of fn_r40_Clamp rfl rfl (args' := [.int .i64 n, .int .i64 a, .int .i64 b]) (by simp only [mapO_nil, mapO_c2, consO_some, upf_v]) ?_
  simp only [ir_r40_Clamp]
  have e : ∀ v, v = clp n a b → some (AV.int .i64 v) = some (.int .i64 (clp n a b)) := fun v h => by rw [h]
  unfold clp at *
  simp -failIfUnchanged (disch := first | assumption | omega | (refine room_i _ _ ?_ ?_ <;> omega) | (refine @_root_.id _ ?_; with_unfolding_all exact Eq.refl _) | (simp only [List.length_take, List.length_drop, List.length_append, List.length_cons, List.length_nil, List.length_replicate, List.length_map] <;> omega) | fail) only [rnL, opL, ruL, hpL, rsL, natL, outL, Nat.add_sub_cancel_left, Nat.mul_one, List.length_cons, List.length_nil, Nat.zero_add, Nat.add_zero, Nat.reduceAdd, Nat.reduceMul, Nat.reduceSub, Nat.reduceEqDiff, Nat.reduceLT, Nat.reduceLeDiff, litd_t, litd_f, decide_true, decide_false, Bool.not_true, Bool.not_false, not_true_eq_false, not_false_eq_true, true_and, and_true, false_and, and_false, true_or, or_true, false_or, or_false, Int.toNat_natCast, cond_true, cond_false, List.map_cons, List.map_nil, Option.map_some, Option.map_none]
  (first | refine RunB_i (fun h1 => ?_) (fun h1 => ?_) | refine RunG_i (fun h1 => ?_) (fun h1 => ?_) | refine RunB_ib (fun h1 => ?_) (fun h1 => ?_))
  · simp -failIfUnchanged (disch := first | assumption | omega | (refine room_i _ _ ?_ ?_ <;> omega) | (refine @_root_.id _ ?_; with_unfolding_all exact Eq.refl _) | (simp only [List.length_take, List.length_drop, List.length_append, List.length_cons, List.length_nil, List.length_replicate, List.length_map] <;> omega) | fail) only [rnL, opL, ruL, hpL, rsL, natL, outL, Nat.add_sub_cancel_left, Nat.mul_one, List.length_cons, List.length_nil, Nat.zero_add, Nat.add_zero, Nat.reduceAdd, Nat.reduceMul, Nat.reduceSub, Nat.reduceEqDiff, Nat.reduceLT, Nat.reduceLeDiff, litd_t, litd_f, decide_true, decide_false, Bool.not_true, Bool.not_false, not_true_eq_false, not_false_eq_true, true_and, and_true, false_and, and_false, true_or, or_true, false_or, or_false, Int.toNat_natCast, cond_true, cond_false, List.map_cons, List.map_nil, Option.map_some, Option.map_none]
    (refine Fin_g (.inr rfl) (by simp -failIfUnchanged (disch := first | assumption | omega | (refine room_i _ _ ?_ ?_ <;> omega) | (refine @_root_.id _ ?_; with_unfolding_all exact Eq.refl _) | (simp only [List.length_take, List.length_drop, List.length_append, List.length_cons, List.length_nil, List.length_replicate, List.length_map] <;> omega) | fail) only [rnL, opL, ruL, hpL, rsL, natL, outL, Nat.add_sub_cancel_left, Nat.mul_one, List.length_cons, List.length_nil, Nat.zero_add, Nat.add_zero, Nat.reduceAdd, Nat.reduceMul, Nat.reduceSub, Nat.reduceEqDiff, Nat.reduceLT, Nat.reduceLeDiff, litd_t, litd_f, decide_true, decide_false, Bool.not_true, Bool.not_false, not_true_eq_false, not_false_eq_true, true_and, and_true, false_and, and_false, true_or, or_true, false_or, or_false, Int.toNat_natCast, cond_true, cond_false, List.map_cons, List.map_nil, Option.map_some, Option.map_none]; rfl) ?_; simp -failIfUnchanged (disch := first | assumption | omega | (refine room_i _ _ ?_ ?_ <;> omega) | (refine @_root_.id _ ?_; with_unfolding_all exact Eq.refl _) | (simp only [List.length_take, List.length_drop, List.length_append, List.length_cons, List.length_nil, List.length_replicate, List.length_map] <;> omega) | fail) only [rnL, opL, ruL, hpL, rsL, natL, outL, Nat.add_sub_cancel_left, Nat.mul_one, List.length_cons, List.length_nil, Nat.zero_add, Nat.add_zero, Nat.reduceAdd, Nat.reduceMul, Nat.reduceSub, Nat.reduceEqDiff, Nat.reduceLT, Nat.reduceLeDiff, litd_t, litd_f, decide_true, decide_false, Bool.not_true, Bool.not_false, not_true_eq_false, not_false_eq_true, true_and, and_true, false_and, and_false, true_or, or_true, false_or, or_false, Int.toNat_natCast, cond_true, cond_false, List.map_cons, List.map_nil, Option.map_some, Option.map_none])
    exact e _ (by omega)
  simp -failIfUnchanged (disch := first | assumption | omega | (refine room_i _ _ ?_ ?_ <;> omega) | (refine @_root_.id _ ?_; with_unfolding_all exact Eq.refl _) | (simp only [List.length_take, List.length_drop, List.length_append, List.length_cons, List.length_nil, List.length_replicate, List.length_map] <;> omega) | fail) only [rnL, opL, ruL, hpL, rsL, natL, outL, Nat.add_sub_cancel_left, Nat.mul_one, List.length_cons, List.length_nil, Nat.zero_add, Nat.add_zero, Nat.reduceAdd, Nat.reduceMul, Nat.reduceSub, Nat.reduceEqDiff, Nat.reduceLT, Nat.reduceLeDiff, litd_t, litd_f, decide_true, decide_false, Bool.not_true, Bool.not_false, not_true_eq_false, not_false_eq_true, true_and, and_true, false_and, and_false, true_or, or_true, false_or, or_false, Int.toNat_natCast, cond_true, cond_false, List.map_cons, List.map_nil, Option.map_some, Option.map_none]
  (first | refine RunB_i (fun h2 => ?_) (fun h2 => ?_) | refine RunG_i (fun h2 => ?_) (fun h2 => ?_) | refine RunB_ib (fun h2 => ?_) (fun h2 => ?_))
  · simp -failIfUnchanged (disch := first | assumption | omega | (refine room_i _ _ ?_ ?_ <;> omega) | (refine @_root_.id _ ?_; with_unfolding_all exact Eq.refl _) | (simp only [List.length_take, List.length_drop, List.length_append, List.length_cons, List.length_nil, List.length_replicate, List.length_map] <;> omega) | fail) only [rnL, opL, ruL, hpL, rsL, natL, outL, Nat.add_sub_cancel_left, Nat.mul_one, List.length_cons, List.length_nil, Nat.zero_add, Nat.add_zero, Nat.reduceAdd, Nat.reduceMul, Nat.reduceSub, Nat.reduceEqDiff, Nat.reduceLT, Nat.reduceLeDiff, litd_t, litd_f, decide_true, decide_false, Bool.not_true, Bool.not_false, not_true_eq_false, not_false_eq_true, true_and, and_true, false_and, and_false, true_or, or_true, false_or, or_false, Int.toNat_natCast, cond_true, cond_false, List.map_cons, List.map_nil, Option.map_some, Option.map_none]; (refine Fin_g (.inr rfl) (by simp -failIfUnchanged (disch := first | assumption | omega | (refine room_i _ _ ?_ ?_ <;> omega) | (refine @_root_.id _ ?_; with_unfolding_all exact Eq.refl _) | (simp only [List.length_take, List.length_drop, List.length_append, List.length_cons, List.length_nil, List.length_replicate, List.length_map] <;> omega) | fail) only [rnL, opL, ruL, hpL, rsL, natL, outL, Nat.add_sub_cancel_left, Nat.mul_one, List.length_cons, List.length_nil, Nat.zero_add, Nat.add_zero, Nat.reduceAdd, Nat.reduceMul, Nat.reduceSub, Nat.reduceEqDiff, Nat.reduceLT, Nat.reduceLeDiff, litd_t, litd_f, decide_true, decide_false, Bool.not_true, Bool.not_false, not_true_eq_false, not_false_eq_true, true_and, and_true, false_and, and_false, true_or, or_true, false_or, or_false, Int.toNat_natCast, cond_true, cond_false, List.map_cons, List.map_nil, Option.map_some, Option.map_none]; rfl) ?_; simp -failIfUnchanged (disch := first | assumption | omega | (refine room_i _ _ ?_ ?_ <;> omega) | (refine @_root_.id _ ?_; with_unfolding_all exact Eq.refl _) | (simp only [List.length_take, List.length_drop, List.length_append, List.length_cons, List.length_nil, List.length_replicate, List.length_map] <;> omega) | fail) only [rnL, opL, ruL, hpL, rsL, natL, outL, Nat.add_sub_cancel_left, Nat.mul_one, List.length_cons, List.length_nil, Nat.zero_add, Nat.add_zero, Nat.reduceAdd, Nat.reduceMul, Nat.reduceSub, Nat.reduceEqDiff, Nat.reduceLT, Nat.reduceLeDiff, litd_t, litd_f, decide_true, decide_false, Bool.not_true, Bool.not_false, not_true_eq_false, not_false_eq_true, true_and, and_true, false_and, and_false, true_or, or_true, false_or, or_false, Int.toNat_natCast, cond_true, cond_false, List.map_cons, List.map_nil, Option.map_some, Option.map_none]); exact e _ (by omega)
  · simp -failIfUnchanged (disch := first | assumption | omega | (refine room_i _ _ ?_ ?_ <;> omega) | (refine @_root_.id _ ?_; with_unfolding_all exact Eq.refl _) | (simp only [List.length_take, List.length_drop, List.length_append, List.length_cons, List.length_nil, List.length_replicate, List.length_map] <;> omega) | fail) only [rnL, opL, ruL, hpL, rsL, natL, outL, Nat.add_sub_cancel_left, Nat.mul_one, List.length_cons, List.length_nil, Nat.zero_add, Nat.add_zero, Nat.reduceAdd, Nat.reduceMul, Nat.reduceSub, Nat.reduceEqDiff, Nat.reduceLT, Nat.reduceLeDiff, litd_t, litd_f, decide_true, decide_false, Bool.not_true, Bool.not_false, not_true_eq_false, not_false_eq_true, true_and, and_true, false_and, and_false, true_or, or_true, false_or, or_false, Int.toNat_natCast, cond_true, cond_false, List.map_cons, List.map_nil, Option.map_some, Option.map_none]; (refine Fin_g (.inr rfl) (by simp -failIfUnchanged (disch := first | assumption | omega | (refine room_i _ _ ?_ ?_ <;> omega) | (refine @_root_.id _ ?_; with_unfolding_all exact Eq.refl _) | (simp only [List.length_take, List.length_drop, List.length_append, List.length_cons, List.length_nil, List.length_replicate, List.length_map] <;> omega) | fail) only [rnL, opL, ruL, hpL, rsL, natL, outL, Nat.add_sub_cancel_left, Nat.mul_one, List.length_cons, List.length_nil, Nat.zero_add, Nat.add_zero, Nat.reduceAdd, Nat.reduceMul, Nat.reduceSub, Nat.reduceEqDiff, Nat.reduceLT, Nat.reduceLeDiff, litd_t, litd_f, decide_true, decide_false, Bool.not_true, Bool.not_false, not_true_eq_false, not_false_eq_true, true_and, and_true, false_and, and_false, true_or, or_true, false_or, or_false, Int.toNat_natCast, cond_true, cond_false, List.map_cons, List.map_nil, Option.map_some, Option.map_none]; rfl) ?_; simp -failIfUnchanged (disch := first | assumption | omega | (refine room_i _ _ ?_ ?_ <;> omega) | (refine @_root_.id _ ?_; with_unfolding_all exact Eq.refl _) | (simp only [List.length_take, List.length_drop, List.length_append, List.length_cons, List.length_nil, List.length_replicate, List.length_map] <;> omega) | fail) only [rnL, opL, ruL, hpL, rsL, natL, outL, Nat.add_sub_cancel_left, Nat.mul_one, List.length_cons, List.length_nil, Nat.zero_add, Nat.add_zero, Nat.reduceAdd, Nat.reduceMul, Nat.reduceSub, Nat.reduceEqDiff, Nat.reduceLT, Nat.reduceLeDiff, litd_t, litd_f, decide_true, decide_false, Bool.not_true, Bool.not_false, not_true_eq_false, not_false_eq_true, true_and, and_true, false_and, and_false, true_or, or_true, false_or, or_false, Int.toNat_natCast, cond_true, cond_false, List.map_cons, List.map_nil, Option.map_some, Option.map_none]); exact e _ (by omega)
end Go.AS.Sd

namespace Go.AS.Sd
open Go Go.AS Go.Proofs
set_option maxHeartbeats 2000000
set_option maxRecDepth 8000
/-- What is left as it was. -/
structure Kp (k : Nat) (H H' : Heap) : Prop where
  len : H.length ≤ H'.length
  at_ : ∀ j, j < H.length → j ≠ k → hat H' j = hat H j
theorem Kp.refl (k : Nat) (H : Heap) : Kp k H H := ⟨Nat.le_refl _, fun _ _ _ => rfl⟩
theorem Kp.trans {k : Nat} {a b c : Heap} (h : Kp k a b) (g : Kp k b c) : Kp k a c :=
  ⟨Nat.le_trans h.len g.len, fun j h1 h2 => (g.at_ j (Nat.lt_of_lt_of_le h1 h.len) h2).trans (h.at_ j h1 h2)⟩
theorem Kp.hset {k : Nat} {H L : Heap} {o : AObj} : Kp k H (hset H k o ++ L) :=
  ⟨by rw [List.length_append, hset_len]; omega, fun j h1 h2 => by rw [hat_app_lt (by rw [hset_len]; exact h1), hat_hset_ne _ (Ne.symm h2)]⟩
theorem Kp.hset0 {k : Nat} {H : Heap} {o : AObj} : Kp k H (Go.AS.hset H k o) :=
  ⟨by rw [hset_len]; omega, fun j h1 h2 => hat_hset_ne _ (Ne.symm h2)⟩
theorem hset_hset (H : Heap) (k : Nat) (a b : AObj) : hset (hset H k a) k b = hset H k b := by
  rw [← hset_eq, ← hset_eq, ← hset_eq, List.set_set]
theorem hat_endh (H : Heap) (k : Nat) (a b : AObj) : hat (hset H k a ++ [b]) H.length = b := by
  have := hat_end0 (hset H k a) [b]
  rwa [hset_len] at this
theorem hset_endh (H : Heap) (k : Nat) (a b c : AObj) : hset (hset H k a ++ [b]) H.length c = hset H k a ++ [c] := by
  have := hset_end0 (hset H k a) [b] c
  rwa [hset_len] at this
theorem hset_apph {H : Heap} {k : Nat} (a b c : AObj) (h : k < H.length) : hset (hset H k a ++ [b]) k c = hset H k c ++ [b] := by
  rw [hset_app_lt (by rw [hset_len]; exact h), hset_hset]
/-- A key's bytes: the states, the bytes. -/
def ksF (lt st : Int) : Nat → Int
  | 0 => st
  | m + 1 => bS lt (ksF lt st m)
def klF (lt st : Int) : Nat → List UInt8
  | 0 => []
  | m + 1 => klF lt st m ++ [UInt8.ofNat (97 + bV lt (ksF lt st m)).toNat]
theorem klF_len (lt st : Int) (m : Nat) : (klF lt st m).length = m := by
  induction m with
  | zero => rfl
  | succ m ih => simp [klF, ih]
def kN (most st : Int) : Nat := (bV (clp most 1 16) st + 1).toNat
def kV (letters most st : Int) : List UInt8 := klF (clp letters 1 26) (bS (clp most 1 16) st) (kN most st)
def kS (letters most st : Int) : Int := ksF (clp letters 1 26) (bS (clp most 1 16) st) (kN most st)
theorem kN_b (most st : Int) : 1 ≤ kN most st ∧ kN most st ≤ 16 ∧ (kN most st : Int) = bV (clp most 1 16) st + 1 := by
  have h1 := bV_nn (clp most 1 16) st
  have h2 := bV_lt (clp most 1 16) st (by unfold clp; omega)
  have h3 : clp most 1 16 ≤ 16 := by unfold clp; omega
  unfold kN
  omega
/-- A function of a source's, its answer made of numbers and texts. -/
def Step (f : Nat) (xs : List AV) (v : Int → AV) (nx : Int → Int) : Prop := ∀ (H : Heap) (S : Stack) (k : Nat) (st : Int), hat H k = .cells [.int .u64 st] → ∃ H', Rets F (.func (.func f) [] []) (.ptr k 1 0 :: xs) (H :: S) (v st) (H' :: S) ∧ hat H' k = .cells [.int .u64 (nx st)] ∧ Kp k H H'
theorem key_p (letters most : Int) : Step 23 [.int .i64 letters, .int .i64 most] (fun st => .str (kV letters most st)) (kS letters most) := by
  intro H S k st hk
  have hl := hat_some hk
  obtain ⟨n1, n2, n3⟩ := kN_b most st
  refine ⟨hset H k (.cells [.int .u64 (kS letters most st)]) ++ [.bld 89 5 (kV letters most st)], ?_, ?_, Kp.hset⟩
  · refine Rets.mem fn_seed_Source_Key rfl rfl ?_
    simp only [ir_seed_Source_Key, List.nil_append, List.cons_append]
    have c1 := clamp_p letters 1 26
    have c2 := clamp_p most 1 16
    have hk1 : ∀ o, hat (H ++ [o]) k = .cells [.int .u64 st] := fun o => (hat_app_lt hl).trans hk
    simp -failIfUnchanged (disch := first | assumption | omega | (refine room_i _ _ ?_ ?_ <;> omega) | (refine @_root_.id _ ?_; with_unfolding_all exact Eq.refl _) | (simp only [List.length_take, List.length_drop, List.length_append, List.length_cons, List.length_nil, List.length_replicate, List.length_map] <;> omega) | fail) only [rnL, opL, ruL, hpL, rsL, natL, outL, Nat.add_sub_cancel_left, Nat.mul_one, List.length_cons, List.length_nil, Nat.zero_add, Nat.add_zero, Nat.reduceAdd, Nat.reduceMul, Nat.reduceSub, Nat.reduceEqDiff, Nat.reduceLT, Nat.reduceLeDiff, litd_t, litd_f, decide_true, decide_false, Bool.not_true, Bool.not_false, not_true_eq_false, not_false_eq_true, true_and, and_true, false_and, and_false, true_or, or_true, false_or, or_false, Int.toNat_natCast, cond_true, cond_false, List.map_cons, List.map_nil, Option.map_some, Option.map_none, eqn_ptr, c1.isp, c2.isp]
    refine RunC_r (below_p (hk1 _) (by unfold clp; omega)) ?_
    simp -failIfUnchanged (disch := first | assumption | omega | (refine room_i _ _ ?_ ?_ <;> omega) | (refine @_root_.id _ ?_; with_unfolding_all exact Eq.refl _) | (simp only [List.length_take, List.length_drop, List.length_append, List.length_cons, List.length_nil, List.length_replicate, List.length_map] <;> omega) | fail) only [rnL, opL, ruL, hpL, rsL, natL, outL, Nat.add_sub_cancel_left, Nat.mul_one, List.length_cons, List.length_nil, Nat.zero_add, Nat.add_zero, Nat.reduceAdd, Nat.reduceMul, Nat.reduceSub, Nat.reduceEqDiff, Nat.reduceLT, Nat.reduceLeDiff, litd_t, litd_f, decide_true, decide_false, Bool.not_true, Bool.not_false, not_true_eq_false, not_false_eq_true, true_and, and_true, false_and, and_false, true_or, or_true, false_or, or_false, Int.toNat_natCast, cond_true, cond_false, List.map_cons, List.map_nil, Option.map_some, Option.map_none, ← n3, hset_app_lt hl]
    refine Run_upto (kN most st) (fun i => [(0, .ptr k 1 0), (1, .int .i64 (clp letters 1 26)), (2, .int .i64 (clp most 1 16)), (6, .str []), (7, .ptr H.length 0 0), (9, .bool false), (17, .int .i64 (kN most st)), (18, .int .i64 i)])
      (fun i => (hset H k (.cells [.int .u64 (ksF (clp letters 1 26) (bS (clp most 1 16) st) i)]) ++ [.bld 89 5 (klF (clp letters 1 26) (bS (clp most 1 16) st) i)]) :: S) (fun _ => True) ?_ rfl trivial ?_
    · rfl
    intro i hi _
    simp -failIfUnchanged (disch := first | assumption | omega | (refine room_i _ _ ?_ ?_ <;> omega) | (refine @_root_.id _ ?_; with_unfolding_all exact Eq.refl _) | (simp only [List.length_take, List.length_drop, List.length_append, List.length_cons, List.length_nil, List.length_replicate, List.length_map] <;> omega) | fail) only [rnL, opL, ruL, hpL, rsL, natL, outL, Nat.add_sub_cancel_left, Nat.mul_one, List.length_cons, List.length_nil, Nat.zero_add, Nat.add_zero, Nat.reduceAdd, Nat.reduceMul, Nat.reduceSub, Nat.reduceEqDiff, Nat.reduceLT, Nat.reduceLeDiff, litd_t, litd_f, decide_true, decide_false, Bool.not_true, Bool.not_false, not_true_eq_false, not_false_eq_true, true_and, and_true, false_and, and_false, true_or, or_true, false_or, or_false, Int.toNat_natCast, cond_true, cond_false, List.map_cons, List.map_nil, Option.map_some, Option.map_none]
    (first | refine RunB_i (fun h1 => ?_) (fun h1 => ?_) | refine RunG_i (fun h1 => ?_) (fun h1 => ?_) | refine RunB_ib (fun h1 => ?_) (fun h1 => ?_))
    · have hk2 : ∀ o, hat (hset H k (.cells [.int .u64 (ksF (clp letters 1 26) (bS (clp most 1 16) st) i)]) ++ [o]) k = .cells [.int .u64 (ksF (clp letters 1 26) (bS (clp most 1 16) st) i)] := fun o => by
        rw [hat_app_lt (by rw [hset_len]; exact hl), hat_hset_eq _ hl]
      have b1 := bV_nn (clp letters 1 26) (ksF (clp letters 1 26) (bS (clp most 1 16) st) i)
      have b2 := bV_lt (clp letters 1 26) (ksF (clp letters 1 26) (bS (clp most 1 16) st) i) (by unfold clp; omega)
      have b3 : clp letters 1 26 ≤ 26 := by unfold clp; omega
      simp -failIfUnchanged (disch := first | assumption | omega | (refine room_i _ _ ?_ ?_ <;> omega) | (refine @_root_.id _ ?_; with_unfolding_all exact Eq.refl _) | (simp only [List.length_take, List.length_drop, List.length_append, List.length_cons, List.length_nil, List.length_replicate, List.length_map] <;> omega) | fail) only [rnL, opL, ruL, hpL, rsL, natL, outL, Nat.add_sub_cancel_left, Nat.mul_one, List.length_cons, List.length_nil, Nat.zero_add, Nat.add_zero, Nat.reduceAdd, Nat.reduceMul, Nat.reduceSub, Nat.reduceEqDiff, Nat.reduceLT, Nat.reduceLeDiff, litd_t, litd_f, decide_true, decide_false, Bool.not_true, Bool.not_false, not_true_eq_false, not_false_eq_true, true_and, and_true, false_and, and_false, true_or, or_true, false_or, or_false, Int.toNat_natCast, cond_true, cond_false, List.map_cons, List.map_nil, Option.map_some, Option.map_none]
      refine RunC_r (below_p (hk2 _) (by omega)) ?_
      simp -failIfUnchanged (disch := first | assumption | omega | (refine room_i _ _ ?_ ?_ <;> omega) | (refine @_root_.id _ ?_; with_unfolding_all exact Eq.refl _) | (simp only [List.length_take, List.length_drop, List.length_append, List.length_cons, List.length_nil, List.length_replicate, List.length_map] <;> omega) | fail) only [rnL, opL, ruL, hpL, rsL, natL, outL, Nat.add_sub_cancel_left, Nat.mul_one, List.length_cons, List.length_nil, Nat.zero_add, Nat.add_zero, Nat.reduceAdd, Nat.reduceMul, Nat.reduceSub, Nat.reduceEqDiff, Nat.reduceLT, Nat.reduceLeDiff, litd_t, litd_f, decide_true, decide_false, Bool.not_true, Bool.not_false, not_true_eq_false, not_false_eq_true, true_and, and_true, false_and, and_false, true_or, or_true, false_or, or_false, Int.toNat_natCast, cond_true, cond_false, List.map_cons, List.map_nil, Option.map_some, Option.map_none, hset_apph, hset_endh]
      refine RunC_r (wbyte_r fn_strings_Builder_WriteByte (hat_endh _ _ _ _) (by rw [klF_len]; unfold maxText; omega) (by omega) (by omega)) ?_
      simp -failIfUnchanged (disch := first | assumption | omega | (refine room_i _ _ ?_ ?_ <;> omega) | (refine @_root_.id _ ?_; with_unfolding_all exact Eq.refl _) | (simp only [List.length_take, List.length_drop, List.length_append, List.length_cons, List.length_nil, List.length_replicate, List.length_map] <;> omega) | fail) only [rnL, opL, ruL, hpL, rsL, natL, outL, Nat.add_sub_cancel_left, Nat.mul_one, List.length_cons, List.length_nil, Nat.zero_add, Nat.add_zero, Nat.reduceAdd, Nat.reduceMul, Nat.reduceSub, Nat.reduceEqDiff, Nat.reduceLT, Nat.reduceLeDiff, litd_t, litd_f, decide_true, decide_false, Bool.not_true, Bool.not_false, not_true_eq_false, not_false_eq_true, true_and, and_true, false_and, and_false, true_or, or_true, false_or, or_false, Int.toNat_natCast, cond_true, cond_false, List.map_cons, List.map_nil, Option.map_some, Option.map_none, hset_apph, hset_endh]
      exact Nx.i (by omega) rfl rfl trivial
    · simp -failIfUnchanged (disch := first | assumption | omega | (refine room_i _ _ ?_ ?_ <;> omega) | (refine @_root_.id _ ?_; with_unfolding_all exact Eq.refl _) | (simp only [List.length_take, List.length_drop, List.length_append, List.length_cons, List.length_nil, List.length_replicate, List.length_map] <;> omega) | fail) only [rnL, opL, ruL, hpL, rsL, natL, outL, Nat.add_sub_cancel_left, Nat.mul_one, List.length_cons, List.length_nil, Nat.zero_add, Nat.add_zero, Nat.reduceAdd, Nat.reduceMul, Nat.reduceSub, Nat.reduceEqDiff, Nat.reduceLT, Nat.reduceLeDiff, litd_t, litd_f, decide_true, decide_false, Bool.not_true, Bool.not_false, not_true_eq_false, not_false_eq_true, true_and, and_true, false_and, and_false, true_or, or_true, false_or, or_false, Int.toNat_natCast, cond_true, cond_false, List.map_cons, List.map_nil, Option.map_some, Option.map_none]
      refine RunC_r (bstr_r fn_strings_Builder_String (bs := klF (clp letters 1 26) (bS (clp most 1 16) st) i) ?_) ?_
      · exact hat_endh _ _ _ _
      simp -failIfUnchanged (disch := first | assumption | omega | (refine room_i _ _ ?_ ?_ <;> omega) | (refine @_root_.id _ ?_; with_unfolding_all exact Eq.refl _) | (simp only [List.length_take, List.length_drop, List.length_append, List.length_cons, List.length_nil, List.length_replicate, List.length_map] <;> omega) | fail) only [rnL, opL, ruL, hpL, rsL, natL, outL, Nat.add_sub_cancel_left, Nat.mul_one, List.length_cons, List.length_nil, Nat.zero_add, Nat.add_zero, Nat.reduceAdd, Nat.reduceMul, Nat.reduceSub, Nat.reduceEqDiff, Nat.reduceLT, Nat.reduceLeDiff, litd_t, litd_f, decide_true, decide_false, Bool.not_true, Bool.not_false, not_true_eq_false, not_false_eq_true, true_and, and_true, false_and, and_false, true_or, or_true, false_or, or_false, Int.toNat_natCast, cond_true, cond_false, List.map_cons, List.map_nil, Option.map_some, Option.map_none, hset_apph, hset_endh]
      have : i = kN most st := by omega
      subst this
      exact ⟨.inr rfl, rfl, rfl⟩
  · rw [hat_app_lt (by rw [hset_len]; exact hl), hat_hset_eq _ hl]
theorem abc_nat : ∀ n, n < 26 → List.take (n + 1 - n) (List.drop n [UInt8.ofNat 97, UInt8.ofNat 98, UInt8.ofNat 99, UInt8.ofNat 100, UInt8.ofNat 101, UInt8.ofNat 102, UInt8.ofNat 103, UInt8.ofNat 104, UInt8.ofNat 105, UInt8.ofNat 106, UInt8.ofNat 107, UInt8.ofNat 108, UInt8.ofNat 109, UInt8.ofNat 110, UInt8.ofNat 111, UInt8.ofNat 112, UInt8.ofNat 113, UInt8.ofNat 114, UInt8.ofNat 115, UInt8.ofNat 116, UInt8.ofNat 117, UInt8.ofNat 118, UInt8.ofNat 119, UInt8.ofNat 120, UInt8.ofNat 121, UInt8.ofNat 122]) = [UInt8.ofNat (97 + n)] := by decide
theorem abc_sub (b : Int) (h0 : 0 ≤ b) (h1 : b < 26) : List.take ((b + 1).toNat - b.toNat) (List.drop b.toNat [UInt8.ofNat 97, UInt8.ofNat 98, UInt8.ofNat 99, UInt8.ofNat 100, UInt8.ofNat 101, UInt8.ofNat 102, UInt8.ofNat 103, UInt8.ofNat 104, UInt8.ofNat 105, UInt8.ofNat 106, UInt8.ofNat 107, UInt8.ofNat 108, UInt8.ofNat 109, UInt8.ofNat 110, UInt8.ofNat 111, UInt8.ofNat 112, UInt8.ofNat 113, UInt8.ofNat 114, UInt8.ofNat 115, UInt8.ofNat 116, UInt8.ofNat 117, UInt8.ofNat 118, UInt8.ofNat 119, UInt8.ofNat 120, UInt8.ofNat 121, UInt8.ofNat 122]) = [UInt8.ofNat (97 + b).toNat] := by
  obtain ⟨n, rfl⟩ : ∃ n : Nat, b = n := ⟨b.toNat, by omega⟩
  have := abc_nat n (by omega)
  rw [show ((n : Int) + 1).toNat = n + 1 by omega, show (n : Int).toNat = n by omega, show (97 + (n : Int)).toNat = 97 + n by omega]
  exact this
theorem key_r (letters most : Int) : Step 24 [.int .i64 letters, .int .i64 most] (fun st => .str (kV letters most st)) (kS letters most) := by
  intro H S k st hk
  have hl := hat_some hk
  obtain ⟨n1, n2, n3⟩ := kN_b most st
  refine ⟨hset H k (.cells [.int .u64 (kS letters most st)]), ?_, hat_hset_eq _ hl, Kp.hset0⟩
  refine Rets.mem fn_r40_Key rfl rfl ?_
  simp only [ir_r40_Key, List.nil_append, List.cons_append]
  have c1 := clamp_r letters 1 26 (by omega)
  have c2 := clamp_r most 1 16 (by omega)
  simp -failIfUnchanged (disch := first | assumption | omega | (refine room_i _ _ ?_ ?_ <;> omega) | (refine @_root_.id _ ?_; with_unfolding_all exact Eq.refl _) | (simp only [List.length_take, List.length_drop, List.length_append, List.length_cons, List.length_nil, List.length_replicate, List.length_map] <;> omega) | fail) only [rnL, opL, ruL, hpL, rsL, natL, outL, Nat.add_sub_cancel_left, Nat.mul_one, List.length_cons, List.length_nil, Nat.zero_add, Nat.add_zero, Nat.reduceAdd, Nat.reduceMul, Nat.reduceSub, Nat.reduceEqDiff, Nat.reduceLT, Nat.reduceLeDiff, litd_t, litd_f, decide_true, decide_false, Bool.not_true, Bool.not_false, not_true_eq_false, not_false_eq_true, true_and, and_true, false_and, and_false, true_or, or_true, false_or, or_false, Int.toNat_natCast, cond_true, cond_false, List.map_cons, List.map_nil, Option.map_some, Option.map_none, eqn_ptr, c1.isp, c2.isp]
  refine RunC_r (below_r hk (by unfold clp; omega)) ?_
  simp -failIfUnchanged (disch := first | assumption | omega | (refine room_i _ _ ?_ ?_ <;> omega) | (refine @_root_.id _ ?_; with_unfolding_all exact Eq.refl _) | (simp only [List.length_take, List.length_drop, List.length_append, List.length_cons, List.length_nil, List.length_replicate, List.length_map] <;> omega) | fail) only [rnL, opL, ruL, hpL, rsL, natL, outL, Nat.add_sub_cancel_left, Nat.mul_one, List.length_cons, List.length_nil, Nat.zero_add, Nat.add_zero, Nat.reduceAdd, Nat.reduceMul, Nat.reduceSub, Nat.reduceEqDiff, Nat.reduceLT, Nat.reduceLeDiff, litd_t, litd_f, decide_true, decide_false, Bool.not_true, Bool.not_false, not_true_eq_false, not_false_eq_true, true_and, and_true, false_and, and_false, true_or, or_true, false_or, or_false, Int.toNat_natCast, cond_true, cond_false, List.map_cons, List.map_nil, Option.map_some, Option.map_none, ← n3]
  refine Run_upto (kN most st) (fun i => [(0, .ptr k 1 0), (1, .int .i64 (clp letters 1 26)), (2, .int .i64 most), (6, .str []), (7, .int .i64 (kN most st)), (8, .str (klF (clp letters 1 26) (bS (clp most 1 16) st) i)), (9, .int .i64 i)])
    (fun i => hset H k (.cells [.int .u64 (ksF (clp letters 1 26) (bS (clp most 1 16) st) i)]) :: S) (fun _ => True) ?_ rfl trivial ?_
  · rfl
  intro i hi _
  simp -failIfUnchanged (disch := first | assumption | omega | (refine room_i _ _ ?_ ?_ <;> omega) | (refine @_root_.id _ ?_; with_unfolding_all exact Eq.refl _) | (simp only [List.length_take, List.length_drop, List.length_append, List.length_cons, List.length_nil, List.length_replicate, List.length_map] <;> omega) | fail) only [rnL, opL, ruL, hpL, rsL, natL, outL, Nat.add_sub_cancel_left, Nat.mul_one, List.length_cons, List.length_nil, Nat.zero_add, Nat.add_zero, Nat.reduceAdd, Nat.reduceMul, Nat.reduceSub, Nat.reduceEqDiff, Nat.reduceLT, Nat.reduceLeDiff, litd_t, litd_f, decide_true, decide_false, Bool.not_true, Bool.not_false, not_true_eq_false, not_false_eq_true, true_and, and_true, false_and, and_false, true_or, or_true, false_or, or_false, Int.toNat_natCast, cond_true, cond_false, List.map_cons, List.map_nil, Option.map_some, Option.map_none]
  (first | refine RunB_i (fun h1 => ?_) (fun h1 => ?_) | refine RunG_i (fun h1 => ?_) (fun h1 => ?_) | refine RunB_ib (fun h1 => ?_) (fun h1 => ?_))
  · have hk2 := hat_hset_eq (H := H) (i := k) (.cells [.int .u64 (ksF (clp letters 1 26) (bS (clp most 1 16) st) i)]) hl
    have b1 := bV_nn (clp letters 1 26) (ksF (clp letters 1 26) (bS (clp most 1 16) st) i)
    have b2 := bV_lt (clp letters 1 26) (ksF (clp letters 1 26) (bS (clp most 1 16) st) i) (by unfold clp; omega)
    have b3 : clp letters 1 26 ≤ 26 := by unfold clp; omega
    simp -failIfUnchanged (disch := first | assumption | omega | (refine room_i _ _ ?_ ?_ <;> omega) | (refine @_root_.id _ ?_; with_unfolding_all exact Eq.refl _) | (simp only [List.length_take, List.length_drop, List.length_append, List.length_cons, List.length_nil, List.length_replicate, List.length_map] <;> omega) | fail) only [rnL, opL, ruL, hpL, rsL, natL, outL, Nat.add_sub_cancel_left, Nat.mul_one, List.length_cons, List.length_nil, Nat.zero_add, Nat.add_zero, Nat.reduceAdd, Nat.reduceMul, Nat.reduceSub, Nat.reduceEqDiff, Nat.reduceLT, Nat.reduceLeDiff, litd_t, litd_f, decide_true, decide_false, Bool.not_true, Bool.not_false, not_true_eq_false, not_false_eq_true, true_and, and_true, false_and, and_false, true_or, or_true, false_or, or_false, Int.toNat_natCast, cond_true, cond_false, List.map_cons, List.map_nil, Option.map_some, Option.map_none]
    refine RunC_r (below_r hk2 (by omega)) ?_
    have b4 := klF_len (clp letters 1 26) (bS (clp most 1 16) st) i
    simp -failIfUnchanged (disch := first | assumption | omega | (refine room_i _ _ ?_ ?_ <;> omega) | (refine @_root_.id _ ?_; with_unfolding_all exact Eq.refl _) | (simp only [List.length_take, List.length_drop, List.length_append, List.length_cons, List.length_nil, List.length_replicate, List.length_map] <;> omega) | fail) only [rnL, opL, ruL, hpL, rsL, natL, outL, Nat.add_sub_cancel_left, Nat.mul_one, List.length_cons, List.length_nil, Nat.zero_add, Nat.add_zero, Nat.reduceAdd, Nat.reduceMul, Nat.reduceSub, Nat.reduceEqDiff, Nat.reduceLT, Nat.reduceLeDiff, litd_t, litd_f, decide_true, decide_false, Bool.not_true, Bool.not_false, not_true_eq_false, not_false_eq_true, true_and, and_true, false_and, and_false, true_or, or_true, false_or, or_false, Int.toNat_natCast, cond_true, cond_false, List.map_cons, List.map_nil, Option.map_some, Option.map_none, hset_hset]
    exact Nx.i (by omega) (by rw [abc_sub _ b1 (by omega)]; rfl) rfl trivial
  · simp -failIfUnchanged (disch := first | assumption | omega | (refine room_i _ _ ?_ ?_ <;> omega) | (refine @_root_.id _ ?_; with_unfolding_all exact Eq.refl _) | (simp only [List.length_take, List.length_drop, List.length_append, List.length_cons, List.length_nil, List.length_replicate, List.length_map] <;> omega) | fail) only [rnL, opL, ruL, hpL, rsL, natL, outL, Nat.add_sub_cancel_left, Nat.mul_one, List.length_cons, List.length_nil, Nat.zero_add, Nat.add_zero, Nat.reduceAdd, Nat.reduceMul, Nat.reduceSub, Nat.reduceEqDiff, Nat.reduceLT, Nat.reduceLeDiff, litd_t, litd_f, decide_true, decide_false, Bool.not_true, Bool.not_false, not_true_eq_false, not_false_eq_true, true_and, and_true, false_and, and_false, true_or, or_true, false_or, or_false, Int.toNat_natCast, cond_true, cond_false, List.map_cons, List.map_nil, Option.map_some, Option.map_none]
    have : i = kN most st := by omega
    subst this
    exact ⟨.inr rfl, rfl, rfl⟩
end Go.AS.Sd

/-
  The program's data. By an AI agent.
-/
namespace Go.AS
open Go

structure Rng where
  lo : Str
  hi : Str
  deriving DecidableEq
instance celRng : Cel Rng := ⟨2, fun r => [.str r.lo, .str r.hi], fun _ => rfl, fun _ => rfl, fun _ => rfl⟩
structure Ent where
  key : Str
  value : Str
  deriving DecidableEq
instance celEnt : Cel Ent := ⟨2, fun r => [.str r.key, .str r.value], fun _ => rfl, fun _ => rfl, fun _ => rfl⟩
structure Msg where
  kind : UInt8
  seq : Int
  key : Str
  to : Str
  value : Str
  delta : UInt64
  deriving DecidableEq
instance celMsg : Cel Msg := ⟨6, fun m => [.int .u8 m.kind.toNat, .int .i64 m.seq, .str m.key, .str m.to, .str m.value, .int .u64 m.delta.toNat], fun _ => rfl, fun _ => rfl, fun _ => rfl⟩
structure Nd where
  kind : UInt8
  pivots : Sl Str
  kids : Sl Int
  msgs : Sl Msg
  blocks : Sl (Sl Ent)
theorem hfrees_cons (v : AV) (r : List AV) : hfrees (v :: r) = (hfree v && hfrees r) := rfl
theorem fgs_cons (v : AV) (r : List AV) : fgs (v :: r) = fg v :: fgs r := rfl
instance celNd : Cel Nd := ⟨5, fun n => [.int .u8 n.kind.toNat, sl n.pivots.nil n.pivots.l, sl n.kids.nil n.kids.l, sl n.msgs.nil n.msgs.l, sl n.blocks.nil n.blocks.l], fun _ => rfl,
  fun n => by simp only [hfrees_cons, sl_free]; rfl, fun n => by simp only [fgs_cons, sl_canon]; rfl⟩
structure Tr where
  nodes : Sl Nd
instance celTr : Cel Tr := ⟨1, fun t => [sl t.nodes.nil t.nodes.l], fun _ => rfl, fun t => by simp only [hfrees_cons, sl_free]; rfl, fun n => by simp only [fgs_cons, sl_canon]; rfl⟩
structure Cfg where
  key : Int
  value : Int
  fanout : Int
  buffer : Int
  leaf : Int
  block : Int
  nodes : Int
  budget : Int
  chunk : Int
  deriving DecidableEq
instance celCfg : Cel Cfg := ⟨9, fun c => [.int .i64 c.key, .int .i64 c.value, .int .i64 c.fanout, .int .i64 c.buffer, .int .i64 c.leaf, .int .i64 c.block, .int .i64 c.nodes, .int .i64 c.budget, .int .i64 c.chunk], fun _ => rfl, fun _ => rfl, fun _ => rfl⟩
/-- An operation. -/
structure Opn where
  kind : UInt8
  key : Str
  to : Str
  n : Int
  batch : Sl Msg
instance celOpn : Cel Opn := ⟨5, fun o => [.int .u8 o.kind.toNat, .str o.key, .str o.to, .int .i64 o.n, sl o.batch.nil o.batch.l], fun _ => rfl, fun n => by simp only [hfrees_cons, sl_free]; rfl, fun n => by simp only [fgs_cons, sl_canon]; rfl⟩
structure Rep where
  err : Int
  found : Bool
  value : Str
  entries : Sl Ent
  n : Int
  ended : Bool
instance celRep : Cel Rep := ⟨6, fun r => [.int .i64 r.err, .bool r.found, .str r.value, sl r.entries.nil r.entries.l, .int .i64 r.n, .bool r.ended], fun _ => rfl, fun n => by simp only [hfrees_cons, sl_free]; rfl, fun n => by simp only [fgs_cons, sl_canon]; rfl⟩
structure Don where
  session : Int
  n : Int
  op : Opn
  call : Int
  point : Int
  back : Int
  reply : Rep
instance celDon : Cel Don := ⟨16, fun d => [.int .i64 d.session, .int .i64 d.n, .int .u8 d.op.kind.toNat, .str d.op.key, .str d.op.to, .int .i64 d.op.n, sl d.op.batch.nil d.op.batch.l, .int .i64 d.call, .int .i64 d.point, .int .i64 d.back,
    .int .i64 d.reply.err, .bool d.reply.found, .str d.reply.value, sl d.reply.entries.nil d.reply.entries.l, .int .i64 d.reply.n, .bool d.reply.ended], fun _ => rfl,
  fun n => by simp only [hfrees_cons, sl_free]; rfl, fun n => by simp only [fgs_cons, sl_canon]; rfl⟩

/-! ### Their fields -/
theorem encNd0 (n : Nd) : one none (Cel.enc n) 0 = some (.int .u8 n.kind.toNat) := rfl
theorem encNd1 (n : Nd) : one none (Cel.enc n) 1 = some (sl n.pivots.nil n.pivots.l) := rfl
theorem encNd2 (n : Nd) : one none (Cel.enc n) 2 = some (sl n.kids.nil n.kids.l) := rfl
theorem encNd3 (n : Nd) : one none (Cel.enc n) 3 = some (sl n.msgs.nil n.msgs.l) := rfl
theorem encNd4 (n : Nd) : one none (Cel.enc n) 4 = some (sl n.blocks.nil n.blocks.l) := rfl
theorem encTr0 (t : Tr) : one none (Cel.enc t) 0 = some (sl t.nodes.nil t.nodes.l) := rfl
theorem encRng0 (r : Rng) : one none (Cel.enc r) 0 = some (.str r.lo) := rfl
theorem encRng1 (r : Rng) : one none (Cel.enc r) 1 = some (.str r.hi) := rfl
theorem encEnt0 (r : Ent) : one none (Cel.enc r) 0 = some (.str r.key) := rfl
theorem encEnt1 (r : Ent) : one none (Cel.enc r) 1 = some (.str r.value) := rfl
theorem encMsg0 (m : Msg) : one none (Cel.enc m) 0 = some (.int .u8 m.kind.toNat) := rfl
theorem encMsg1 (m : Msg) : one none (Cel.enc m) 1 = some (.int .i64 m.seq) := rfl
theorem encMsg2 (m : Msg) : one none (Cel.enc m) 2 = some (.str m.key) := rfl
theorem encMsg3 (m : Msg) : one none (Cel.enc m) 3 = some (.str m.to) := rfl
theorem encMsg4 (m : Msg) : one none (Cel.enc m) 4 = some (.str m.value) := rfl
theorem encMsg5 (m : Msg) : one none (Cel.enc m) 5 = some (.int .u64 m.delta.toNat) := rfl
theorem encCfg0 (c : Cfg) : one none (Cel.enc c) 0 = some (.int .i64 c.key) := rfl
theorem encCfg1 (c : Cfg) : one none (Cel.enc c) 1 = some (.int .i64 c.value) := rfl
theorem encCfg2 (c : Cfg) : one none (Cel.enc c) 2 = some (.int .i64 c.fanout) := rfl
theorem encCfg3 (c : Cfg) : one none (Cel.enc c) 3 = some (.int .i64 c.buffer) := rfl
theorem encCfg4 (c : Cfg) : one none (Cel.enc c) 4 = some (.int .i64 c.leaf) := rfl
theorem encCfg5 (c : Cfg) : one none (Cel.enc c) 5 = some (.int .i64 c.block) := rfl
theorem encCfg6 (c : Cfg) : one none (Cel.enc c) 6 = some (.int .i64 c.nodes) := rfl
theorem encCfg7 (c : Cfg) : one none (Cel.enc c) 7 = some (.int .i64 c.budget) := rfl
theorem encCfg8 (c : Cfg) : one none (Cel.enc c) 8 = some (.int .i64 c.chunk) := rfl
theorem encDon2 (d : Don) : one none (Cel.enc d) 2 = some (.int .u8 d.op.kind.toNat) := rfl
theorem encDon6 (d : Don) : one none (Cel.enc d) 6 = some (sl d.op.batch.nil d.op.batch.l) := rfl
theorem encDon9 (d : Don) : one none (Cel.enc d) 9 = some (.int .i64 d.back) := rfl
theorem encDon13 (d : Don) : one none (Cel.enc d) 13 = some (sl d.reply.entries.nil d.reply.entries.l) := rfl
theorem datL : Ty (And.intro @encNd0 <| And.intro @encNd1 <| And.intro @encNd2 <| And.intro @encNd3 <| And.intro @encNd4 <| And.intro @encTr0 <| And.intro @encRng0 <| And.intro @encRng1 <| And.intro @encEnt0 <| And.intro @encEnt1 <|
  And.intro @encMsg0 <| And.intro @encMsg1 <| And.intro @encMsg2 <| And.intro @encMsg3 <| And.intro @encMsg4 <| And.intro @encMsg5 <| And.intro @encCfg0 <| And.intro @encCfg1 <| And.intro @encCfg2 <| And.intro @encCfg3 <| And.intro @encCfg4 <|
  And.intro @encCfg5 <| And.intro @encCfg6 <| And.intro @encCfg7 <| And.intro @encCfg8 <| And.intro @encDon2 <| And.intro @encDon6 <| And.intro @encDon9 <| @encDon13) :=
  And.intro @encNd0 <| And.intro @encNd1 <| And.intro @encNd2 <| And.intro @encNd3 <| And.intro @encNd4 <| And.intro @encTr0 <| And.intro @encRng0 <| And.intro @encRng1 <| And.intro @encEnt0 <| And.intro @encEnt1 <|
  And.intro @encMsg0 <| And.intro @encMsg1 <| And.intro @encMsg2 <| And.intro @encMsg3 <| And.intro @encMsg4 <| And.intro @encMsg5 <| And.intro @encCfg0 <| And.intro @encCfg1 <| And.intro @encCfg2 <| And.intro @encCfg3 <| And.intro @encCfg4 <|
  And.intro @encCfg5 <| And.intro @encCfg6 <| And.intro @encCfg7 <| And.intro @encCfg8 <| And.intro @encDon2 <| And.intro @encDon6 <| And.intro @encDon9 <| @encDon13
end Go.AS
